/-
  cells.closed by a contract: all faces of any sets in a map, or what is wrong.
-/
import Derived.Test.YtddnjimpdidpaaaGreatDoorCelP
import Derived.Test.YtddnjimpdidpaaaGreatDoorErrsD
namespace Go.Proofs.YtddnjimpdidpaaaGreatDoor
open Go Go.RowKit Go.Maps

theorem ListsIn.grownMap {B b : Nat} {w w' : World} {v : Value} {L : List (List Int)} (h : ListsIn B w v L) (hg : w.grownBy w' (some b)) (hB : B ≤ b) (ho : ∀ c t fr, w.heap[b]? ≠ some (.cells c t fr)) : ListsIn B w' v L := by
  obtain ⟨p, c, hv, hc, hn, hx⟩ := h
  refine ⟨p, c, hv, hc, hn, fun i hi => ?_⟩
  obtain ⟨bo, off, u, e1, e2, e3⟩ := hx i hi
  refine ⟨bo, off, u, e1, hg.cell e2 (fun e => ?_), e3.grown hg (fun q e => by cases e; exact ⟨hB, fun c => ho c _ _⟩)⟩
  cases e
  obtain ⟨c', e', fr', h', -⟩ := Sort.cells_of_cell? e2
  exact ho _ _ _ h'

def CclPost (a : Nat → Addr) (B : Nat) (L : List (List Int)) (w : World) (e : Ending) (w' : World) : Prop :=
  Below w.heap.size w w' ∧
  ((errC L = 0 ∧ ∃ b S, e = .returned (.tuple #[.map (some b), .nilIface]) ∧ w.heap.size ≤ b ∧ FMap B w' b S ∧ S.length ≤ 600 ∧ ∀ g, g ∈ S ↔ IsF L g) ∨
   (errC L ≠ 0 ∧ ∃ k, k < 8 ∧ errC L = k + 1 ∧ e = .returned (.tuple #[.map none, errE (a k)])))
theorem vtx_sort {l : List Int} (h : okSet l) : Vtx (sortI l) := fun x hx => h.2.2 x (mem_sortI.1 hx)
theorem inv_F {S L : List (List Int)} {n : Nat} (h : ∀ g, g ∈ S ↔ IsF L g) : Inv S n := fun g hg _ x hx hne => (h x).2 (isF_sub ((h g).1 hg) hx hne)

set_option maxRecDepth 100000 in
set_option maxHeartbeats 16000000 in
theorem ccl_any (a : Nat → Addr) (B : Nat) (L : List (List Int)) (v : Value) (w : World) (hS : Sents w a) (hB : B ≤ w.heap.size) (hv : ListsIn B w v L) (hn : L.length ≤ 100000) (hl : ∀ l ∈ L, l.length ≤ 100000) :
    Calls Tryz.prog 90 #[v] w (CclPost a B L w) := by
  obtain ⟨i39, hi39, hz0, hz1, hz2⟩ := info_parts Tryz.info23
  have hmm := @run_makeMap Tryz.prog
  obtain ⟨pv, cv, hve, -⟩ := id hv
  obtain ⟨n, hLn⟩ : ∃ n, L.length = n := ⟨_, rfl⟩
  rw [hLn] at hve hn
  subst hve
  have HLN := Lib.hid hLn
  have HV := Lib.hid hv
  have HB := Lib.hid hB
  have HL := Lib.hid hl
  have HS := Lib.hid hS
  clear hLn hv hB hl hS
  go_enter Tryz.func90, Tryz.ntmps90
  go_wp2_with fail
  go_loopw [4, 14] (fun s i wr => ∃ j : Nat, j ≤ n ∧ i = .int .i64 j ∧ (∀ q, q < j → okSet (L.getD q [])) ∧ Below w.heap.size w wr ∧ RowsO w.heap.size B wr s (setsTo L j)) (fun _ i _ => n - (intOf i).toNat)
  case atStart => exact ⟨0, Nat.zero_le _, rfl, fun q h => absurd h (by omega), Below.refl _ _, RowsO.nil _ _ _⟩
  case round =>
    obtain ⟨j, hj, rfl, hok, hb, hR⟩ := hrel
    have HOK := Lib.hid hok
    have HBR := Lib.hid hb
    have HR := Lib.hid hR
    clear hok hb hR
    by_cases hjn : j < n
    · have hjL : j < L.length := by rw [HLN.out]; exact hjn
      obtain ⟨b, off, c, hve⟩ := HV.out.form (by omega)
      rw [HLN.out] at hve
      obtain ⟨rfl, rfl⟩ : pv = some ⟨b, off, none⟩ ∧ cv = c := by cases hve; exact ⟨rfl, rfl⟩
      obtain ⟨px, cx, hcx, hix⟩ := cells_at (HV.out.below HBR.out (Nat.le_refl _)) j hjL
      have hlj := HL.out _ (getL_mem hjL)
      have HMEM := Lib.hid (getL_mem hjL)
      have HZ := Lib.hid (setsTo_snoc (L := L) (j := j) hjL)
      by_cases hset : okSet (L.getD j [])
      · have HF := Lib.hid (face_ok (L.getD j []) _ wr hix.at hlj hset)
        unfold FaceOk at HF
        have HSET := Lib.hid hset
        obtain ⟨nx, hnx⟩ : ∃ nx, (L.getD j []).length = nx := ⟨_, rfl⟩
        rw [hnx] at HF hcx hlj
        have HNX := Lib.hid hnx
        clear hve hix hset hnx
        go_wp2_with fail
        refine HF.out.mono ?_
        rintro e w1 ⟨g, cap, rfl, hb1, ho1⟩
        have HB1 := Lib.hid (HBR.out.trans (hb1.mono HBR.out.size))
        have HIF : Hid (IntsIn B w1 (.slice (some ⟨g, 0, none⟩) nx cap) (sortI (L.getD j []))) := ints_owned ho1 (by rw [sortI_len, HNX.out])
        obtain ⟨hs1, hos, hls, his⟩ := HR.out.below hb1 (Nat.le_refl _)
        rw [setsTo_len (by rw [HLN.out]; exact hj)] at hos
        have HO1 := Lib.hid hos
        have HL1 := Lib.hid hls
        have HI1 := Lib.hid his
        have hs1b := HB1.out.size
        clear hb1 ho1 hos hls his HF
        go_wp2_with (at_builtin; go_must (refine wpList_append_own _ rfl _ _ 22 rfl w.heap.size 23 i39 (.slice none 0 0) 1 24 Tryz.underlying22 hi39 hz0 hz1 hz2 rfl (by decide) _ j _ rfl (HO1.out.alloc _) ⟨w1.heap.size, 0, none⟩ 1 1 [.slice (some ⟨g, 0, none⟩) nx cap] rfl rfl (cells_new _ _ _) (fun u hu => by simp at hu; subst hu; rfl) (by unfold maxLen; omega) (by omega) (by simp; omega) ?_); intro v2 w2 hown2 hgr2 _; have HO2 := Lib.hid hown2; have HG2 := Lib.hid hgr2; clear hown2 hgr2)
        go_roundw
        case rel =>
          have hbA : Below w1.heap.size w1 (w1.alloc (.cells #[.slice (some ⟨g, 0, none⟩) nx cap] 23)) := (Below.refl _ _).alloc (Nat.le_refl _) _
          have hlen : (setsTo L j).length = j := setsTo_len (by rw [HLN.out]; exact hj)
          refine ⟨j + 1, by omega, by go_num, fun q hq => ?_, (HB1.out.alloc hs1b _).grown HG2.out (by simp; omega) (fun i hi => (HO1.out.lt i hi).1), ?_⟩
          · rcases (show q < j ∨ q = j by omega) with h | rfl
            · exact HOK.out q h
            · exact HSET.out
          · rw [HZ.out]
            exact rowsO_push (w := w1.alloc (.cells #[.slice (some ⟨g, 0, none⟩) nx cap] 23)) (hs := hs1) HB.out (by rw [hlen]; exact HO1.out.alloc _) (HL1.out) (fun i hi => (HI1.out i hi).below hbA (Nat.le_refl _)) (HIF.out.below hbA (Nat.le_refl _)) (by rw [hlen]; exact HO2.out) HG2.out
        case measure => simp [intOf]; omega
      · have HF := Lib.hid (face_bad (L.getD j []) _ wr hix.at hlj hset)
        unfold FaceBad at HF
        have H4 := Lib.hid (errC_4 HMEM.out hset)
        obtain ⟨nx, hnx⟩ : ∃ nx, (L.getD j []).length = nx := ⟨_, rfl⟩
        rw [hnx] at HF hcx hlj
        clear hve hix hset hnx
        go_wp2_with fail
        refine HF.out.mono ?_
        rintro e w1 ⟨rfl, hb1⟩
        have HB1 := Lib.hid (HBR.out.trans (hb1.mono HBR.out.size))
        have hg := (HS.out.below HB1.out (Nat.le_refl _)).g 3 (by decide)
        simp only [gnum] at hg
        clear hb1 HF
        go_wp2_with fail
        go_quiet (fail)
        go_wp2_with fail
        go_ret2
        exact ⟨HB1.out.trans ((Below.drewN w1 nq).mono HB1.out.size), Or.inr ⟨by rw [H4.out]; decide, 3, by decide, H4.out, rfl⟩⟩
    · obtain rfl : j = n := by omega
      have hokL : ∀ l ∈ L, okSet l := fun l hl => by
        obtain ⟨q, hq, rfl⟩ := List.getElem_of_mem hl
        have := HOK.out q (by rw [← HLN.out]; exact hq)
        rwa [List.getD_eq_getElem?_getD, List.getElem?_eq_getElem hq] at this
      have HOL := Lib.hid hokL
      have hLS := HR.out.lists
      obtain ⟨ps, cs, hse, -⟩ := id hLS
      rw [setsTo_len (by rw [HLN.out]; exact Nat.le_refl _)] at hse
      subst hse
      have HLS := Lib.hid hLS
      have hsz0 := HBR.out.size
      clear hokL hLS HOK HR
      obtain ⟨ws, rfl⟩ : ∃ ws : World, ws = wr := ⟨_, rfl⟩
      go_wp2_with fail
      obtain ⟨wm, hwm⟩ : ∃ wm, wm = ws.alloc (.map #[] 0) := ⟨_, rfl⟩
      rw [← hwm]
      have hbm : Below ws.heap.size ws wm := by rw [hwm]; exact (Below.refl _ _).alloc (Nat.le_refl _) _
      have HBM := Lib.hid (HBR.out.trans (hbm.mono HBR.out.size))
      have HM0 : Hid (FMap B wm ws.heap.size []) := by unfold Hid; rw [hwm]; exact FMap.made B ws
      have HLM := Lib.hid (HLS.out.below hbm (Nat.le_refl _))
      have hBb : B ≤ ws.heap.size := Nat.le_trans HB.out hsz0
      clear hwm hbm HLS
      go_loopw [34] (fun i wr => ∃ i' : Nat, i' ≤ j ∧ i = .int .i64 i' ∧ (∀ q, q < i' → (L.getD q []).length ≤ 7) ∧ wm.grownBy wr (some ws.heap.size) ∧ ∃ S, FMap B wr ws.heap.size S ∧ S.length ≤ 600 ∧ ∀ g, g ∈ S ↔ IsF (L.take i') g) (fun i _ => j - (intOf i).toNat)
      case atStart => exact ⟨0, Nat.zero_le _, rfl, fun q h => absurd h (by omega), World.grownBy.refl _ _, [], HM0.out, by simp, fun g => by simp [IsF]⟩
      case round =>
        obtain ⟨i, hi, rfl, h7, hgr, S, hM, hl6, hSm⟩ := hrel
        have H7 := Lib.hid h7
        have HM := Lib.hid hM
        have HL6 := Lib.hid hl6
        have HSM := Lib.hid hSm
        have HG := Lib.hid hgr
        have hLW := HLM.out.grownMap hgr hBb (fun c t fr => HM0.out.obj c t fr)
        have HLW := Lib.hid hLW
        have HBW := Lib.hid (HBM.out.grown hgr HBM.out.size (fun k e => by cases e; exact hsz0))
        clear h7 hM hl6 hSm hgr hLW
        by_cases hij : i < j
        · have hiL : i < L.length := by rw [HLN.out]; exact hij
          obtain ⟨b, off, c, hse⟩ := HLW.out.form (by rw [setsTo_len (by rw [HLN.out]; exact Nat.le_refl _)]; omega)
          rw [setsTo_len (by rw [HLN.out]; exact Nat.le_refl _)] at hse
          obtain ⟨rfl, rfl⟩ : ps = some ⟨b, off, none⟩ ∧ cs = c := by cases hse; exact ⟨rfl, rfl⟩
          obtain ⟨px, cx, hcx, hix⟩ := cells_at HLW.out i (by rw [setsTo_len (by rw [HLN.out]; exact Nat.le_refl _)]; exact hij)
          have e0 : (setsTo L j).getD i [] = sortI (L.getD i []) := by rw [← HLN.out]; exact setsTo_at hiL
          rw [e0] at hix hcx
          have hmem := getL_mem hiL
          have hset := HOL.out _ hmem
          have H8 := Lib.hid (fun h : 7 < (L.getD i []).length => errC_2 HOL.out (Or.inl ⟨_, hmem, h⟩))
          have HOV := Lib.hid (fun (T : List (List Int)) (h1 : T.Nodup) (h2 : 600 < T.length) (h3 : ∀ g ∈ T, g ∈ S ∨ (g ≠ [] ∧ g.Sublist (sortI (L.getD i [])))) => errC_2 HOL.out (Or.inr (Nat.lt_of_lt_of_le h2 (len_le_of_members h1 (allF_sorted L).nodup fun g hg => mem_allF.2 ((h3 g hg).elim (fun h => isF_mono (fun l hl => List.mem_of_mem_take hl) ((HSM.out g).1 h)) (fun h => ⟨h.1, _, hmem, h.2⟩))))))
          have HST := Lib.hid (fun g => (show IsF (L.take (i + 1)) g ↔ IsF (L.take i) g ∨ (g ≠ [] ∧ g.Sublist (sortI (L.getD i []))) by rw [take_snoc_getD [] L i hiL, isF_snoc]))
          have hsl := sortI_len (L.getD i [])
          have HVX := Lib.hid (vtx_sort hset)
          have hpos : 1 ≤ (L.getD i []).length := List.length_pos_iff.2 hset.1
          have HP := Lib.hid (fun (h : (L.getD i []).length ≤ 12) => parts_any (L.getD i []).length (sortI (L.getD i [])) _ wr ws.heap.size B S hsl hpos h HVX.out hix HM.out hBb HL6.out (inv_F HSM.out))
          obtain ⟨ln, hln⟩ : ∃ ln, (L.getD i []).length = ln := ⟨_, rfl⟩
          rw [hln] at hsl H8 HP hpos
          rw [hsl] at HP hcx
          have HLI := Lib.hid hln
          unfold PartsPost at HP
          clear hmem hset hix hse e0 hln hsl
          by_cases h8 : 7 < ln
          · have H2 := Lib.hid (H8.out h8)
            have q1 : decide (7 < (ln : Int)) = true := decide_eq_true (by omega)
            have q2 : decide (7 < ln) = true := decide_eq_true h8
            have hg := (HS.out.below HBW.out (Nat.le_refl _)).g 1 (by decide)
            simp only [gnum] at hg
            clear h8
            go_wp2_with fail
            go_quiet (fail)
            go_wp2_with fail
            go_ret2
            exact ⟨HBW.out.trans ((Below.drewN wr nq).mono HBW.out.size), Or.inr ⟨by rw [H2.out]; decide, 1, by decide, H2.out, rfl⟩⟩
          · have h8' : ln ≤ 7 := by omega
            have q1 : decide (7 < (ln : Int)) = false := decide_eq_false (by omega)
            have q2 : decide (7 < ln) = false := decide_eq_false h8
            have HP2 := Lib.hid (HP.out (by omega))
            clear h8 HP H8
            go_wp2_with fail
            refine HP2.out.mono ?_
            rintro e w6 ⟨hg6, h6⟩
            have HG6 := Lib.hid (HG.out.trans hg6)
            have HB6 := Lib.hid (HBW.out.grown hg6 HBW.out.size (fun k e => by cases e; exact hsz0))
            clear hg6 HP2
            rcases h6 with ⟨rfl, S6, hM6, hl6, hS6⟩ | ⟨rfl, T, hT1, hT2, hT3⟩
            · have HM6 := Lib.hid hM6
              have HL66 := Lib.hid hl6
              have HS6 : Hid (∀ g, g ∈ S6 ↔ IsF (L.take (i + 1)) g) := fun g => by rw [hS6, HSM.out, HST.out]
              have H7N : Hid (∀ q, q < i + 1 → (L.getD q []).length ≤ 7) := fun q hq => by
                rcases (show q < i ∨ q = i by omega) with h | rfl
                · exact H7.out q h
                · rw [HLI.out]; exact h8'
              clear hM6 hl6 hS6
              go_wp2_with fail
              go_roundw
              case rel => exact ⟨i + 1, by omega, by go_num, H7N.out, HG6.out, S6, HM6.out, HL66.out, HS6.out⟩
              case measure => simp [intOf]; omega
            · have H2 := Lib.hid (HOV.out T hT1 hT2 hT3)
              have hg := (HS.out.below HB6.out (Nat.le_refl _)).g 1 (by decide)
              simp only [gnum] at hg
              clear hT1 hT2 hT3
              go_wp2_with fail
              go_quiet (fail)
              go_wp2_with fail
              go_ret2
              exact ⟨HB6.out.trans ((Below.drewN w6 nq).mono HB6.out.size), Or.inr ⟨by rw [H2.out]; decide, 1, by decide, H2.out, rfl⟩⟩
        · obtain rfl : i = j := by omega
          have hSL : ∀ g, g ∈ S ↔ IsF L g := fun g => by
            have := HSM.out g
            rwa [List.take_of_length_le (by rw [HLN.out]; exact Nat.le_refl _)] at this
          have HSL := Lib.hid hSL
          have h7 : ∀ l ∈ L, l.length ≤ 7 := fun l hl => by
            obtain ⟨q, hq, rfl⟩ := List.getElem_of_mem hl
            have := H7.out q (by rw [← HLN.out]; exact hq)
            rwa [List.getD_eq_getElem?_getD, List.getElem?_eq_getElem hq] at this
          have hnd : S.Nodup := by obtain ⟨D, -, -, h, -⟩ := HM.out; exact h
          have hcount : (allF L).length ≤ 600 := by
            rw [len_of_members (allF_sorted L).nodup hnd fun f => mem_allF.trans (hSL f).symm]; exact HL6.out
          have HE := Lib.hid (errC_0 HOL.out h7 hcount)
          clear hSL h7 hcount hnd
          go_wp2_with fail
          go_ret2
          exact ⟨HBW.out, Or.inl ⟨HE.out, ws.heap.size, S, rfl, hsz0, HM.out, HL6.out, HSL.out⟩⟩
end Go.Proofs.YtddnjimpdidpaaaGreatDoor
