/-
  The references' way through: walked along a walk of the house.
-/
import Derived.Test.YtnijedeopnjklaaGreatDoorSpI
import Derived.Test.YtnijedeopnjklaaGreatDoorCoded
namespace Go.Proofs.YtnijedeopnjklaaGreatDoor
open Go Go.RowKit Sper

theorem trip_ints {w : World} {g c : Nat} {t : Nat × Nat × Nat} (hc : 3 ≤ c) (h0 : w.cell? ⟨g, 0, none⟩ = some (.int .i64 (t.1 : Int))) (h1 : w.cell? ⟨g, 1, none⟩ = some (.int .i64 (t.2.1 : Int))) (h2 : w.cell? ⟨g, 2, none⟩ = some (.int .i64 (t.2.2 : Int))) : IntsAt w (.slice (some ⟨g, 0, none⟩) 3 c) (tripL t) :=
  ⟨_, c, rfl, hc, fun h => (by cases h), fun i hi => ⟨g, 0, rfl, by
    have hi3 : i < 3 := hi
    rcases (show i = 0 ∨ i = 1 ∨ i = 2 by omega) with rfl | rfl | rfl
    · exact h0
    · exact h1
    · exact h2⟩⟩

theorem pair_ints {w : World} {g c : Nat} {e : Nat × Nat} (h0 : w.cell? ⟨g, 0, none⟩ = some (.int .i64 (e.1 : Int))) (h1 : w.cell? ⟨g, 1, none⟩ = some (.int .i64 (e.2 : Int))) : 2 ≤ c → IntsAt w (.slice (some ⟨g, 0, none⟩) 2 c) (pairI e) := fun hc =>
  ⟨_, c, rfl, hc, fun h => (by cases h), fun i hi => ⟨g, 0, rfl, by
    have hi2 : i < 2 := hi
    rcases (show i = 0 ∨ i = 1 by omega) with rfl | rfl
    · exact h0
    · exact h1⟩⟩
theorem rows_pair {w : World} {B : Nat} {v : Value} {L : List (Nat × Nat)} (h : RowsAt 22 3 w B v (L.map pairI)) (i : Nat) (hi : i < L.length) :
    ∃ g cap gi ci, v = .slice (some ⟨g, 0, none⟩) L.length cap ∧ w.cell? ⟨g, i, none⟩ = some (.slice (some ⟨gi, 0, none⟩) 2 ci) ∧ 2 ≤ ci ∧ B ≤ gi ∧
      w.cell? ⟨gi, 0, none⟩ = some (.int .i64 ((L.getD i (0, 0)).1 : Int)) ∧ w.cell? ⟨gi, 1, none⟩ = some (.int .i64 ((L.getD i (0, 0)).2 : Int)) := by
  have e : (L.map pairI).getD i [] = pairI (L.getD i (0, 0)) := by
    simp [List.getD_eq_getElem?_getD, List.getElem?_eq_getElem hi]
  have hp : 0 < ((L.map pairI).getD i []).length := by rw [e]; simp [pairI]
  obtain ⟨g, cap, gi, ci, hv, h0, h1⟩ := h.at i (by simpa using hi) hp
  rw [e] at h0 h1
  rw [List.length_map] at hv
  have hci : 2 ≤ ci ∧ B ≤ gi := by
    obtain ⟨hs, h2, h3, h4⟩ := h
    have h5 := h4 i (by simpa using hi)
    have hg := h2.cells (g := g) (by rw [hv]; rfl) i (hs.getD i .nilIface) (by rw [List.getD_eq_getElem?_getD, List.getElem?_eq_getElem (by rw [h3]; simpa using hi)]; rfl)
    have hadd : (⟨g, 0, none⟩ : Addr).add i = ⟨g, i, none⟩ := by unfold Addr.add; split <;> simp_all
    rw [hadd, h0] at hg
    rw [← Option.some.inj hg, e] at h5
    rcases h5.2 with ⟨h, -⟩ | ⟨g', c', cur, h, hB, -, h3, -⟩
    · cases h
    · cases h; exact ⟨h3, hB⟩
  exact ⟨g, cap, gi, ci, hv, h0, hci.1, hci.2, h1 0 (by simp [pairI]), h1 1 (by simp [pairI])⟩
/-- what 'other' holds behind i doors -/
def OthAt (w : World) (B : Nat) (e : Nat × Nat) (DL : List (Nat × Nat)) (i : Nat) (so : Value) : Prop :=
  (so = .slice none 0 0 ∧ ∀ e' ∈ DL.take i, e' = e) ∨
  ∃ g c e', so = .slice (some ⟨g, 0, none⟩) 2 c ∧ B ≤ g ∧ 2 ≤ c ∧ e' ∈ DL ∧ e' ≠ e ∧ w.cell? ⟨g, 0, none⟩ = some (.int .i64 (e'.1 : Int)) ∧ w.cell? ⟨g, 1, none⟩ = some (.int .i64 (e'.2 : Int))
theorem pairI_inj (p q : Nat × Nat) : pairI p = pairI q ↔ p = q := by
  obtain ⟨a, b⟩ := p
  obtain ⟨c, d⟩ := q
  simp only [pairI, List.cons.injEq, Prod.mk.injEq, and_true]
  omega
theorem oth_same {w : World} {B : Nat} {e ei : Nat × Nat} {DL : List (Nat × Nat)} {i : Nat} {so : Value} (h : OthAt w B e DL i so) (n : Nat) (ht : DL.take (i + 1) = DL.take i ++ [ei]) (he : ei = e) : OthAt (w.drewN n) B e DL (i + 1) so := by
  rcases h with ⟨h1, h2⟩ | ⟨g, c, e', h1, h2, h3, h4, h5, h6, h7⟩
  · refine Or.inl ⟨h1, fun x hx => ?_⟩
    rw [ht] at hx
    rcases List.mem_append.1 hx with hx | hx
    · exact h2 x hx
    · simp at hx; rw [hx, he]
  · exact Or.inr ⟨g, c, e', h1, h2, h3, h4, h5, h6, h7⟩
def RThrPost (w : World) (T : Nat → Nat) (K : Nat) (dead : Bool) (e : Ending) (w' : World) : Prop :=
  ∃ v, e = .returned (.tuple #[v, .bool dead]) ∧ Below w.heap.size w w' ∧ (dead = true → w'.ownsRow w.heap.size 3 1 v (K + 1) (intVs ((List.range (K + 1)).map fun i => (T i : Int))))
/-- the door as a row of two; the list so far; they lie apart -/
structure RSt (w wr : World) (T : Nat → Nat) (k : Nat) (e : Nat × Nat) (gd : Nat) (v : Value) : Prop where
  d0 : wr.cell? ⟨gd, 0, none⟩ = some (.int .i64 (e.1 : Int))
  d1 : wr.cell? ⟨gd, 1, none⟩ = some (.int .i64 (e.2 : Int))
  hv : wr.ownsRow w.heap.size 3 1 v k (intVs ((List.range k).map fun i => (T i : Int)))
  hap : v.ownBlock ≠ some gd
  hbl : Below w.heap.size w wr

set_option maxRecDepth 100000 in
set_option maxHeartbeats 16000000 in
theorem rthrough_any (L P : List (Nat × Nat × Nat)) (B : List (Nat × Nat)) (xs : List Int) (hk : chk L P B = true) (T : Nat → Nat) (E : Nat → Nat × Nat) (K : Nat) (hW : Walk (house L P B (labF xs) hk) T E K) (dead : Bool)
    (hend : (dead = true ∧ odD L (labF xs) (T K) (E K) = none) ∨ (dead = false ∧ odD L (labF xs) (T K) (E K) = some (E (K + 1)) ∧ otD L (E (K + 1)) (T K) = none))
    (D ga ca lb lo lc XN gd cd : Nat) (w : World) (hlen : L.length ≤ 1000) (hP : P.length = XN)
    (hL : RowsAt 22 3 w D (.slice (some ⟨ga, 0, none⟩) L.length ca) (L.map tripL))
    (hcd : 2 ≤ cd) (hd0 : w.cell? ⟨gd, 0, none⟩ = some (.int .i64 ((E 0).1 : Int))) (hd1 : w.cell? ⟨gd, 1, none⟩ = some (.int .i64 ((E 0).2 : Int)))
    (hc : ∀ i, i < XN → w.cell? ⟨lb, lo + i, none⟩ = some (.int .i64 (xs.getD i 0))) (hr : ∀ i, i < XN → xs.getD i 0 = 0 ∨ xs.getD i 0 = 1 ∨ xs.getD i 0 = 2) :
    Calls Tryz.prog 26 #[.slice (some ⟨ga, 0, none⟩) L.length ca, .slice (some ⟨lb, lo, none⟩) XN lc, .slice (some ⟨gd, 0, none⟩) 2 cd, .int .i64 (-1)] w (RThrPost w T K dead) := by
  obtain ⟨i3, hi3, hz30, hz31, hz32⟩ := info_parts Tryz.info3
  have HC := Lib.hid hc
  have HR := Lib.hid hr
  have HRW := Lib.hid hL
  have HEND := Lib.hid hend
  have HWK := Lib.hid hW
  have HP := Lib.hid hP
  have hst0 : RSt w w T 0 (E 0) gd (.slice none 0 0) := ⟨hd0, hd1, by simpa [intVs] using World.ownsRow_nil w w.heap.size 3 1, (by simp [Value.ownBlock]), Below.refl _ _⟩
  have HST0 := Lib.hid hst0
  clear hc hr hL hend hW hP hst0 hd0 hd1
  go_enter Tryz.func26, Tryz.ntmps26
  go_wp2_with fail
  go_loopw [2, 3, 10] (fun sd sf v wr => ∃ k gd cd : Nat, k ≤ K + 1 ∧ (k = K + 1 → dead = false) ∧ 2 ≤ cd ∧ sd = .slice (some ⟨gd, 0, none⟩) 2 cd ∧ sf = .int .i64 (lastI T k) ∧ RSt w wr T k (E k) gd v) (fun _ _ v _ => K + 2 - lenV v)
  case atStart => exact ⟨0, gd, cd, by omega, fun h => absurd h (by omega), hcd, rfl, rfl, HST0.out⟩
  case round =>
    obtain ⟨k, gd, cd, hk1, hkd, hcd2, rfl, rfl, hst⟩ := hrel
    clear HST0
    have hkb : k ≤ 1000 := by have := HWK.out.short (N := L.length) (fun t e h => h.1); omega
    have hout : k = K + 1 → odD L (labF xs) (T K) (E K) = some (E (K + 1)) ∧ otD L (E (K + 1)) (T K) = none := fun h => by
      rcases HEND.out with ⟨h1, -⟩ | ⟨-, h1⟩
      · rw [hkd h] at h1; cases h1
      · exact h1
    have HFI := Lib.hid (fun (j : Nat) (hj : j < L.length) => step_find hk HWK.out hk1 hout hj)
    have HKD := Lib.hid hkd
    have HK1 := Lib.hid hk1
    clear hkd hk1 hout
    obtain ⟨la, hla⟩ : ∃ la, lastI T k = la := ⟨_, rfl⟩
    rw [hla] at HFI
    rw [hla]
    obtain ⟨R, hR⟩ : ∃ R, nextR L T K k = R := ⟨_, rfl⟩
    rw [hR] at HFI
    have HLA := Lib.hid hla
    have HNR := Lib.hid hR
    clear hla hR
    obtain ⟨wo, rfl⟩ : ∃ wo : World, wo = wr := ⟨_, rfl⟩
    have HST := Lib.hid hst
    have d0 := hst.d0
    have d1 := hst.d1
    have hrows := HRW.out.below hst.hbl (by exact Nat.le_refl _)
    have HRO := Lib.hid hrows
    clear hst hrows
    go_wp2_with fail
    go_loop [11, 12] (fun sn si => ∃ i : Nat, i ≤ L.length ∧ si = .int .i64 i ∧ sn = .int .i64 (if R < i then (R : Int) else -1)) (fun _ si => L.length - (intOf si).toNat)
    case atStart => exact ⟨0, Nat.zero_le _, rfl, by rw [if_neg (by omega)]⟩
    case round =>
      obtain ⟨i, hi, rfl, rfl⟩ := hrel
      by_cases hiL : i < L.length
      · obtain ⟨g', cap', gi, ci, hv, h0, hci, h1, h2, h3⟩ := rows_tri HRO.out i hiL
        cases hv
        have HPO := Lib.hid (partOf_two ((E k).1 : Int) ((E k).2 : Int) (tripL (tri L i)) gd cd _ wo d0 d1 (trip_ints hci h1 h2 h3) (by simp [tripL]))
        have hfi := HFI.out i hiL
        unfold holds2 at hfi
        generalize ((tripL (tri L i)).contains ((E k).1 : Int) && (tripL (tri L i)).contains ((E k).2 : Int)) = hb at HPO hfi
        have hsn : (if R < i + 1 then (R : Int) else -1) = if i = R then (R : Int) else (if R < i then (R : Int) else -1) := by
          rcases (show R < i ∨ R = i ∨ i < R by omega) with h | h | h
          · rw [if_pos (by omega), if_neg (by omega), if_pos h]
          · rw [if_pos (by omega), if_pos h.symm]
          · rw [if_neg (by omega), if_neg (by omega), if_neg (by omega)]
        have HSN := Lib.hid hsn
        clear hsn h1 h2 h3 hci
        generalize (if R < i then (R : Int) else -1) = sn at *
        cases hb with
        | false =>
          have hne : ¬ i = R := by simpa using hfi.symm
          have HNE := Lib.hid hne
          clear hfi hne
          go_wp2_with fail
          refine HPO.out.mono ?_
          rintro e w' ⟨rfl, rfl⟩
          go_wp2_with fail
          go_round
          case rel => exact ⟨i + 1, by omega, by go_num, by rw [HSN.out, if_neg HNE.out]⟩
          case measure => simp [intOf]; omega
        | true =>
          by_cases hq : (i : Int) = la
          · have hq2 : ((i : Int) != la) = false := by rw [hq]; simp
            rw [hq2] at hfi
            have hne : ¬ i = R := by simpa using hfi.symm
            have HNE := Lib.hid hne
            clear hfi hne hq
            go_wp2_with fail
            refine HPO.out.mono ?_
            rintro e w' ⟨rfl, rfl⟩
            go_wp2_with fail
            go_round
            case rel => exact ⟨i + 1, by omega, by go_num, by rw [HSN.out, if_neg HNE.out]⟩
            case measure => simp [intOf]; omega
          · have hq2 : ((i : Int) != la) = true := bne_iff_ne.2 hq
            rw [hq2] at hfi
            have hne : i = R := by simpa using hfi.symm
            have HNE := Lib.hid hne
            clear hfi hne hq
            go_wp2_with fail
            refine HPO.out.mono ?_
            rintro e w' ⟨rfl, rfl⟩
            go_wp2_with fail
            go_round
            case rel => exact ⟨i + 1, by omega, by go_num, by rw [HSN.out, if_pos HNE.out, HNE.out]⟩
            case measure => simp [intOf]; omega
      · obtain rfl : i = L.length := by omega
        by_cases hkK : k ≤ K
        · have hRT : R = T k := by rw [← HNR.out]; unfold nextR; rw [if_pos hkK]
          have hhas := HWK.out.has k hkK
          have hTK := hhas.1
          rw [hRT, if_pos hTK]
          clear hRT
          have q0 : (0 : Int) ≤ (T k : Int) := by omega
          have q2 : decide ((T k : Int) < 0) = false := decide_eq_false (by omega)
          have HHAS := Lib.hid hhas
          have hv3 := HST.out.hv
          have hsz3 : w.heap.size ≤ wo.heap.size := HST.out.hbl.size
          clear hhas
          go_wp2_with (at_builtin; go_must (refine wpList_append_own _ rfl _ _ 22 rfl w.heap.size 3 i3 (.int .i64 0) 1 8 Tryz.underlying22 hi3 hz30 hz31 hz32 rfl (by decide) _ _ _ rfl (hv3.alloc _) ⟨wo.heap.size, 0, none⟩ 1 1 [.int .i64 (T k : Int)] rfl rfl (cells_new _ _ _) (fun u hu => by simp at hu; subst hu; rfl) (by unfold maxLen; omega) (by omega) (by simp; omega) ?_); intro v' w4 hown' hgrow hiff
                       have hb4 : Below w.heap.size w w4 := (HST.out.hbl.alloc hsz3 _).grown hgrow (by simp; omega) (fun j hj => (hv3.lt j hj).1)
                       have hkeep : ∀ j, j < wo.heap.size → u10.ownBlock ≠ some j → w4.heap[j]? = wo.heap[j]? := fun j hj hne => by
                         rw [hgrow.block j (by simp; omega) (fun e => hne e.symm)]
                         exact Below.heap_alloc _ _ _ hj
                       have hlg := mem_lt d0
                       simp only at hlg
                       have hbg := hkeep gd hlg HST.out.hap
                       have f0 : w4.cell? ⟨gd, 0, none⟩ = some (.int .i64 ((E k).1 : Int)) := (World.cell?_of_block (a := ⟨gd, 0, none⟩) hbg).trans d0
                       have f1 : w4.cell? ⟨gd, 1, none⟩ = some (.int .i64 ((E k).2 : Int)) := (World.cell?_of_block (a := ⟨gd, 1, none⟩) hbg).trans d1
                       have hrw4 := HRW.out.below hb4 (Nat.le_refl _)
                       obtain ⟨g', cap', gi, ci, hv, h0, hci, h1, h2, h3⟩ := rows_tri hrw4 (T k) hTK
                       cases hv
                       obtain ⟨o1, o2, o3⟩ := chk_tri hk _ (tri_mem hTK)
                       rw [HP.out] at o3
                       have HDO := Lib.hid (doorsOf_any xs lb lo lc XN (tri L (T k)) gi ci w4 ⟨by omega, by omega, o3⟩ (fun i hi => (hb4.cell (p := ⟨lb, lo + i, none⟩) (mem_lt (HC.out i hi))).trans (HC.out i hi)) HR.out h1 h2 h3)
                       have HB4 := Lib.hid hb4
                       have HOW := Lib.hid hown'
                       have HF := Lib.hid (And.intro f0 f1)
                       clear hiff hown' hgrow hkeep hbg f0 f1 hrw4 h1 h2 h3 o1 o2 o3 hb4 hv3)
          refine HDO.out.mono ?_
          rintro e w5 ⟨vl, rfl, hdr⟩
          have hin : E k ∈ doors (labF xs) (tri L (T k)) := List.mem_filter.2 ⟨HHAS.out.2.1, HHAS.out.2.2⟩
          have hoth := fun (e' : Nat × Nat) (h' : e' ∈ doors (labF xs) (tri L (T k))) (hne : e' ≠ E k) => other_door (P := P) (B := B) hk HHAS.out h' hne
          have hnon := fun (h : ∀ e' ∈ doors (labF xs) (tri L (T k)), e' = E k) => no_other h
          have HOTH := Lib.hid hoth
          have HNON := Lib.hid hnon
          have hdl : (doors (labF xs) (tri L (T k))).length ≤ 3 := dTo_len (labF xs) (tri L (T k)) 3
          have hdp := List.length_pos_of_mem hin
          generalize doors (labF xs) (tri L (T k)) = DL at *
          obtain ⟨hrl, hb5⟩ := hdr
          obtain ⟨gl, cl, -, -, rfl, -⟩ := rows_pair hrl 0 hdp
          have HRL := Lib.hid hrl
          have HB5 := Lib.hid hb5
          obtain ⟨F0, F1⟩ := HF.out
          have f0 := (hb5.cell (p := ⟨gd, 0, none⟩) (mem_lt F0)).trans F0
          have f1 := (hb5.cell (p := ⟨gd, 1, none⟩) (mem_lt F1)).trans F1
          have HFD := Lib.hid (pair_ints f0 f1 hcd2)
          clear hrl hb5 F0 F1 f0 f1 hoth hnon hin
          go_wp2_with fail
          go_loopw [15, 16] (fun so si wr => ∃ i : Nat, i ≤ DL.length ∧ si = .int .i64 i ∧ Below w5.heap.size w5 wr ∧ OthAt wr w4.heap.size (E k) DL i so) (fun _ si _ => DL.length - (intOf si).toNat)
          case atStart => exact ⟨0, Nat.zero_le _, rfl, Below.refl _ _, Or.inl ⟨rfl, fun e' h => by simp at h⟩⟩
          case round =>
            obtain ⟨i, hi, rfl, hb6, ho⟩ := hrel
            have HOA := Lib.hid ho
            have HB6 := Lib.hid hb6
            clear ho hb6
            by_cases hiD : i < DL.length
            · obtain ⟨g', cap', gi, ci, hv, h0, hci, hge, h1, h2⟩ := rows_pair (HRL.out.below HB6.out (Nat.le_refl _)) i hiD
              cases hv
              have hmem : DL.getD i (0, 0) ∈ DL := by rw [List.getD_eq_getElem?_getD, List.getElem?_eq_getElem hiD]; exact List.getElem_mem hiD
              have htk : DL.take (i + 1) = DL.take i ++ [DL.getD i (0, 0)] := by rw [List.take_add_one, List.getElem?_eq_getElem hiD, List.getD_eq_getElem?_getD, List.getElem?_eq_getElem hiD]; rfl
              have HSI := Lib.hid (sameInts_any _ _ _ _ wr (pair_ints h1 h2 hci) (HFD.out.below HB6.out (Nat.le_refl _)) (by simp [pairI]) (by simp [pairI]))
              have hpe : decide (pairI (DL.getD i (0, 0)) = pairI (E k)) = decide (DL.getD i (0, 0) = E k) := by
                rw [Bool.eq_iff_iff, decide_eq_true_eq, decide_eq_true_eq]
                exact pairI_inj _ _
              rw [hpe] at HSI
              clear hpe
              generalize DL.getD i (0, 0) = ei at *
              have HTK := Lib.hid htk
              have HMEM := Lib.hid hmem
              have HCELL := Lib.hid (fun n => (show (wr.drewN n).cell? ⟨gi, 0, none⟩ = _ ∧ (wr.drewN n).cell? ⟨gi, 1, none⟩ = _ from ⟨h1, h2⟩))
              clear htk hmem h1 h2
              by_cases hee : ei = E k
              · rw [decide_eq_true hee] at HSI
                have HEE := Lib.hid hee
                clear hee
                go_wp2_with fail
                refine HSI.out.mono ?_
                rintro e w7 ⟨rfl, nn, rfl⟩
                have hnx : OthAt (wr.drewN nn) w4.heap.size (E k) DL (i + 1) u15 := oth_same HOA.out nn HTK.out HEE.out
                have HNX := Lib.hid hnx
                clear hnx
                go_wp2_with fail
                go_roundw
                case rel => exact ⟨i + 1, by omega, by go_num, HB6.out.trans ⟨rfl, rfl, rfl, Nat.le_refl _, fun _ _ => rfl⟩, HNX.out⟩
                case measure => simp [intOf]; omega
              · rw [decide_eq_false hee] at HSI
                have HEE := Lib.hid hee
                clear hee
                go_wp2_with fail
                refine HSI.out.mono ?_
                rintro e w7 ⟨rfl, nn, rfl⟩
                have h0n : (wr.drewN nn).cell? ⟨gl, i, none⟩ = some (.slice (some ⟨gi, 0, none⟩) 2 ci) := h0
                have HNX := Lib.hid (show OthAt (wr.drewN nn) w4.heap.size (E k) DL (i + 1) (.slice (some ⟨gi, 0, none⟩) 2 ci) from Or.inr ⟨gi, ci, ei, rfl, hge, hci, HMEM.out, HEE.out, (HCELL.out nn).1, (HCELL.out nn).2⟩)
                clear h0
                go_wp2_with fail
                go_roundw
                case rel => exact ⟨i + 1, by omega, by go_num, HB6.out.trans ⟨rfl, rfl, rfl, Nat.le_refl _, fun _ _ => rfl⟩, HNX.out⟩
                case measure => simp [intOf]; omega
            · obtain rfl : i = DL.length := by omega
              have HBW := Lib.hid (HB4.out.trans (HB5.out.mono HB4.out.size))
              have HBF := Lib.hid (HBW.out.trans (HB6.out.mono HBW.out.size))
              have HB56 := Lib.hid (HB5.out.trans (HB6.out.mono HB5.out.size))
              have HOW7 := Lib.hid (owns_keep (w' := wr) HOW.out fun j hj => HB56.out.block j (HOW.out.lt j hj).2)
              rcases HOA.out with ⟨h1, h2⟩ | ⟨gn, cn, e', h1, hgn, hcn, hm, hne, g0, g1⟩
              · subst h1
                rw [List.take_length] at h2
                have hmiss := HNON.out h2
                have hkk : k = K := by
                  rcases Nat.lt_or_ge k K with h | h
                  · have := HWK.out.door k h
                    change odD L (labF xs) (T k) (E k) = some _ at this
                    rw [hmiss] at this; cases this
                  · omega
                have hd : dead = true := by
                  rcases HEND.out with ⟨h, -⟩ | ⟨-, h, -⟩
                  · exact h
                  · rw [← hkk, hmiss] at h; cases h
                have HKE := Lib.hid hkk
                have HDD := Lib.hid hd
                have hfin : wr.ownsRow w.heap.size 3 1 v' (K + 1) (intVs ((List.range (K + 1)).map fun i => (T i : Int))) := by
                  have := HOW7.out
                  rw [← HKE.out]
                  rw [← range_snoc]
                  simpa [intVs] using this
                have HFIN := Lib.hid hfin
                clear h2 hmiss hkk hd hfin
                go_wp2_with fail
                go_ret2
                exact ⟨v', by rw [HDD.out]; rfl, HBF.out, fun _ => HFIN.out⟩
              · subst h1
                have hhit := HOTH.out e' hm hne
                have hnext : (k + 1 = K + 1 → dead = false) ∧ E (k + 1) = e' := by
                  rcases Nat.lt_or_ge k K with h | h
                  · have h1 := HWK.out.door k h
                    change odD L (labF xs) (T k) (E k) = some _ at h1
                    rw [hhit] at h1
                    exact ⟨fun h' => by omega, (Option.some.inj h1).symm⟩
                  · obtain rfl : k = K := by omega
                    rcases HEND.out with ⟨-, h1⟩ | ⟨h0, h1, -⟩
                    · rw [hhit] at h1; cases h1
                    · rw [hhit] at h1; exact ⟨fun _ => h0, (Option.some.inj h1).symm⟩
                have hst : RSt w wr T (k + 1) (E (k + 1)) gn v' := by
                  rw [hnext.2]
                  refine ⟨g0, g1, ?_, ?_, HBF.out⟩
                  · have := HOW7.out
                    rw [← range_snoc]
                    simpa [intVs] using this
                  · intro h
                    have := (HOW.out.lt gn h).2
                    omega
                have HNX := Lib.hid (And.intro hnext.1 hst)
                have HLV := Lib.hid (lenV_of hst.hv)
                have HLU := Lib.hid (lenV_of HST.out.hv)
                clear hhit hnext hst g0 g1
                go_wp2_with fail
                go_roundw
                case rel => exact ⟨k + 1, gn, cn, Nat.succ_le_succ hkK, HNX.out.1, hcn, rfl, rfl, HNX.out.2⟩
                case measure =>
                  have h1 := HLV.out
                  have h2 := HLU.out
                  have h3 := Nat.lt_succ_of_le (Nat.le_succ_of_le hkK)
                  rw [h1, h2]
                  exact Nat.sub_lt_sub_left h3 (Nat.lt_succ_self k)
        · obtain rfl : k = K + 1 := by have := HK1.out; omega
          have hRT : R = L.length := by rw [← HNR.out]; unfold nextR; rw [if_neg (by omega)]
          rw [hRT, if_neg (by omega)]
          clear hRT
          have hd := HKD.out rfl
          have HD := Lib.hid hd
          have HBL := Lib.hid HST.out.hbl
          clear hd
          go_wp2_with fail
          go_ret2
          exact ⟨u10, by rw [HD.out]; rfl, HBL.out, fun h => by rw [HD.out] at h; cases h⟩
end Go.Proofs.YtnijedeopnjklaaGreatDoor
