/-
  The document's StarOf, LinkOf, and the law's made, by contracts.
  The document's IndicesOf by a contract.
-/
import Derived.Test.YtddnjimpdidpaaaGreatDoorParB
import Derived.Test.YtddnjimpdidpaaaGreatDoorIxD
import Derived.Lib.QuietBelow
import Derived.Deep.QuietTactic
import Derived.BigQuiet
set_option linter.unusedSimpArgs false
set_option linter.unusedVariables false
namespace Go.Proofs.YtddnjimpdidpaaaGreatDoor
open Go Go.RowKit Go.Maps

def starTo (A : List (List Int)) (f : List Int) (j : Nat) : List (List Int) := (A.take j).filter fun x => decide (togF x f ∈ A)
theorem starTo_step {A : List (List Int)} {f : List Int} {j : Nat} (h : j < A.length) : starTo A f (j + 1) = starTo A f j ++ (if togF (A.getD j []) f ∈ A then [A.getD j []] else []) := by
  unfold starTo
  rw [take_snoc_getD [] A j h, List.filter_append]
  generalize A.getD j [] = x
  by_cases hc : togF x f ∈ A
  · rw [if_pos hc]; congr 1; simp [hc]
  · rw [if_neg hc]; congr 1; simp [hc]
theorem starTo_all (A : List (List Int)) (f : List Int) : starTo A f A.length = starF A f := by unfold starTo starF; rw [List.take_length]
def linkTo (A : List (List Int)) (f : List Int) (j : Nat) : List (List Int) := (A.take j).filterMap fun x => if minF x f ≠ [] ∧ (minF x f).length = x.length ∧ togF (minF x f) f ∈ A then some (minF x f) else none
theorem linkTo_step {A : List (List Int)} {f : List Int} {j : Nat} (h : j < A.length) : linkTo A f (j + 1) = linkTo A f j ++ (if minF (A.getD j []) f ≠ [] ∧ (minF (A.getD j []) f).length = (A.getD j []).length ∧ togF (minF (A.getD j []) f) f ∈ A then [minF (A.getD j []) f] else []) := by
  unfold linkTo
  rw [take_snoc_getD [] A j h, List.filterMap_append]
  by_cases hc : minF (A.getD j []) f ≠ [] ∧ (minF (A.getD j []) f).length = (A.getD j []).length ∧ togF (minF (A.getD j []) f) f ∈ A
  · rw [if_pos hc]
    congr 1
    simp only [List.filterMap_cons, List.filterMap_nil]
    rw [if_pos hc]
  · rw [if_neg hc]
    congr 1
    simp only [List.filterMap_cons, List.filterMap_nil]
    rw [if_neg hc]
theorem linkTo_all (A : List (List Int)) (f : List Int) : linkTo A f A.length = linkF A f := by unfold linkTo linkF; rw [List.take_length]
theorem tog_len (f g : List Int) : (togF f g).length ≤ f.length + g.length := by
  have := setL_len (f ++ g)
  rw [List.length_append] at this
  exact this

set_option maxRecDepth 100000 in
set_option maxHeartbeats 8000000 in
theorem linkOf_any (B : Nat) (A : List (List Int)) (f : List Int) (v u : Value) (w : World) (hB : B ≤ w.heap.size) (hv : ListsIn B w v A) (hu : IntsAt w u f) (hn : A.length ≤ 1000) (hl : ∀ l ∈ A, l.length ≤ 500) (hf : f.length ≤ 500) :
    Calls Tryz.prog 53 #[v, u] w (ListPost B (linkF A f) w) := by
  obtain ⟨i39, hi39, hz0, hz1, hz2⟩ := info_parts Tryz.info23
  obtain ⟨pv, cv, hve, -⟩ := id hv
  obtain ⟨n, hLn⟩ : ∃ n, A.length = n := ⟨_, rfl⟩
  rw [hLn] at hve hn
  subst hve
  have HLN := Lib.hid hLn
  have HV := Lib.hid hv
  have HU := Lib.hid hu
  have HB := Lib.hid hB
  have HL := Lib.hid hl
  clear hLn hv hB hl hu
  go_enter Tryz.func53, Tryz.ntmps53
  go_wp2_with fail
  go_loopw [5, 6, 7] (fun s i _ wr => ∃ j : Nat, j ≤ n ∧ i = .int .i64 j ∧ Below w.heap.size w wr ∧ RowsO w.heap.size B wr s (linkTo A f j)) (fun _ i _ _ => n - (intOf i).toNat)
  case atStart => exact ⟨0, Nat.zero_le _, rfl, Below.refl _ _, RowsO.nil _ _ _⟩
  case round =>
    obtain ⟨j, hj, rfl, hb, hR⟩ := hrel
    have HBR := Lib.hid hb
    have HR := Lib.hid hR
    by_cases hjn : j < n
    · obtain ⟨b, off, c, hve⟩ := HV.out.form (by rw [HLN.out]; omega)
      rw [HLN.out] at hve
      obtain ⟨rfl, rfl⟩ : pv = some ⟨b, off, none⟩ ∧ cv = c := by cases hve; exact ⟨rfl, rfl⟩
      have hjL : j < A.length := by rw [HLN.out]; exact hjn
      obtain ⟨pj, cj, hcj, hij⟩ := cells_at (HV.out.below hb (Nat.le_refl _)) j hjL
      have hlj := HL.out _ (getL_mem hjL)
      have HST := Lib.hid (linkTo_step (f := f) hjL)
      obtain ⟨x, hx⟩ : ∃ x, A.getD j [] = x := ⟨_, rfl⟩
      rw [hx] at hcj hij hlj HST
      have HMI := Lib.hid (minus_any B x f _ u wr hij.at (HU.out.below hb (Nat.le_refl _)) (by omega) (by omega))
      unfold NumsP at HMI
      obtain ⟨nx, hnx⟩ : ∃ nx, x.length = nx := ⟨_, rfl⟩
      have hym : (minF x f).length ≤ nx := by rw [← hnx]; exact List.length_filter_le _ _
      rw [hnx] at hcj hlj HMI HST
      obtain ⟨y, hy⟩ : ∃ y, minF x f = y := ⟨_, rfl⟩
      rw [hy] at HMI HST hym
      obtain ⟨ny, hny⟩ : ∃ ny, y.length = ny := ⟨_, rfl⟩
      rw [hny] at HMI HST hym
      have HNY := Lib.hid hny
      have HTG := Lib.hid (fun (wx : World) (vy : Value) (hbx : Below wr.heap.size wr wx) (hi : IntsAt wx vy y) => together_any B y f vy u wx hi ((HU.out.below HBR.out (Nat.le_refl _)).below hbx (Nat.le_refl _)) (by omega) (by omega))
      unfold NumsP at HTG
      have HTL := Lib.hid (tog_len y f)
      obtain ⟨z, hz⟩ : ∃ z, togF y f = z := ⟨_, rfl⟩
      rw [hz] at HTG HTL HST
      have HIXF := Lib.hid (fun (wx : World) (vz : Value) (hbx : Below wr.heap.size wr wx) (hi : IntsAt wx vz z) => indexOf_any B A z _ vz wx ((HV.out.below HBR.out (Nat.le_refl _)).below hbx (Nat.le_refl _)) hi (by rw [HLN.out]; omega) (fun l h => by have := HL.out l h; omega) (by have := HTL.out; have := HNY.out; omega))
      unfold IdxPost at HIXF
      have hltc := mem_lt hcj
      have HCJ := Lib.hid hcj
      have hsk : (y ≠ [] ∧ ny = nx ∧ z ∈ A) ∨ ¬ (y ≠ [] ∧ ny = nx ∧ z ∈ A) := Classical.em _
      have hy0 : y = [] ↔ ny = 0 := by rw [← hny]; exact List.length_eq_zero_iff.symm
      have HY0 := Lib.hid hy0
      clear hve hij hjL hx hnx hy hny hz hb hR hsk hy0
      by_cases hskip : ny = 0 ∨ ny < nx
      · have HNO : Hid (linkTo A f (j + 1) = linkTo A f j) := by
          unfold Hid
          rw [HST.out, if_neg, List.append_nil]
          rintro ⟨h1, h2, -⟩
          rcases hskip with h | h
          · exact h1 (HY0.out.2 h)
          · omega
        by_cases hy0 : ny = 0
        all_goals
          first
            | (have q1 : ((ny : Int) == 0) = true := beq_iff_eq.2 (by omega)
               have q2 : (ny == 0) = true := beq_iff_eq.2 hy0)
            | (have q1 : ((ny : Int) == 0) = false := beq_eq_false_iff_ne.2 (by omega)
               have q2 : (ny == 0) = false := beq_eq_false_iff_ne.2 hy0
               have q3 : decide ((ny : Int) < (nx : Int)) = true := decide_eq_true (by omega)
               have q4 : decide (ny < nx) = true := decide_eq_true (by omega))
          clear hskip hy0
          go_wp2_with fail
          refine HMI.out.mono ?_
          rintro e w1 ⟨py, cy, rfl, hb1, hi1⟩
          have hb01 := HBR.out.trans (hb1.mono HBR.out.size)
          have HB1 := Lib.hid hb01
          have hcj1 := (hb1.cell (p := ⟨b, off + j, none⟩) hltc).trans HCJ.out
          have HR1 := Lib.hid (HR.out.below hb1 (Nat.le_refl _))
          clear hb1 hb01 hi1 hcj
          go_wp2_with fail
          go_roundw
          case rel => exact ⟨j + 1, by omega, by go_num, HB1.out, by rw [HNO.out]; exact HR1.out⟩
          case measure => simp [intOf]; omega
      · have q1 : ((ny : Int) == 0) = false := beq_eq_false_iff_ne.2 (by omega)
        have q2 : (ny == 0) = false := beq_eq_false_iff_ne.2 (by omega)
        have q3 : decide ((ny : Int) < (nx : Int)) = false := decide_eq_false (by omega)
        have q4 : decide (ny < nx) = false := decide_eq_false (by omega)
        have hyx : ny = nx := by omega
        have hyn : y ≠ [] := fun h => by have := HY0.out.1 h; omega
        have HYX := Lib.hid hyx
        have HYN := Lib.hid hyn
        clear hskip hyx hyn
        go_wp2_with fail
        refine HMI.out.mono ?_
        rintro e w1 ⟨py, cy, rfl, hb1, hi1⟩
        have HB1 := Lib.hid hb1
        have HI1 := Lib.hid hi1
        have hcj1 := (hb1.cell (p := ⟨b, off + j, none⟩) hltc).trans HCJ.out
        have HTG1 := Lib.hid (HTG.out w1 _ hb1 hi1.at)
        clear hb1 hi1 hcj
        go_wp2_with fail
        refine HTG1.out.mono ?_
        rintro e w2 ⟨pz, cz, rfl, hb2, hi2⟩
        have hb02 := HB1.out.trans (hb2.mono HB1.out.size)
        have HB02 := Lib.hid hb02
        have HIX1 := Lib.hid (HIXF.out w2 _ hb02 hi2.at)
        have HI2 := Lib.hid (HI1.out.below hb2 (Nat.le_refl _))
        clear hb2 hi2 hb02 hcj1
        go_wp2_with fail
        refine HIX1.out.mono ?_
        rintro e w3 ⟨r, rfl, ⟨d, hd⟩, hiff, hlo⟩
        have hb23 : Below w2.heap.size w2 w3 := by rw [hd]; exact Below.drewN w2 d
        have hb03 := HB02.out.trans (hb23.mono HB02.out.size)
        have hb3 := HBR.out.trans (hb03.mono HBR.out.size)
        obtain ⟨hs, h1, h2, h3⟩ := HR.out.below hb03 (Nat.le_refl _)
        obtain ⟨k, hk⟩ : ∃ k, (linkTo A f j).length = k := ⟨_, rfl⟩
        have hkn : k ≤ 1000 := by
          rw [← hk]
          have e1 : (linkTo A f j).length ≤ (A.take j).length := List.length_filterMap_le _ _
          rw [List.length_take] at e1
          omega
        rw [hk] at h1
        have HK := Lib.hid hk
        have H1 := Lib.hid h1
        have H2 := Lib.hid h2
        have H3 := Lib.hid h3
        have HB3 := Lib.hid hb3
        have hws := hb3.size
        have HI3 := Lib.hid (HI2.out.below hb23 (Nat.le_refl _))
        have HIFF := Lib.hid hiff
        clear hd hb23 hb03 hb3 h1 h2 h3 hk hiff HIX1
        by_cases hr : 0 ≤ r
        · have HIN := Lib.hid (HIFF.out.1 hr)
          go_wp2_with (at_builtin; refine wpList_append_lies _ rfl (.tmp 39) (.tmp 41) 22 rfl w.heap.size 23 i39 (.slice none 0 0) 1 24 Tryz.underlying22 hi39 hz0 hz1 hz2 rfl (by decide) _ k hs rfl (H1.out.alloc _) ⟨w3.heap.size, 0, none⟩ 1 1 [.slice py ny cy] rfl rfl (World.news_of_block (cs := #[.slice py ny cy]) (t := 23) (fr := (0, 0)) (heap_alloc_new w3 _)) (by simp [Value.oneCell']) (by decide) (by unfold maxLen; omega) (by omega) (by simp; omega) (w3.heap.size + 1) (by simp) ?_; intro g2 c2 w9 hown2 hgr2 hat2 hlt2; have HO2 := Lib.hid hown2; have HG2 := Lib.hid hgr2; clear hown2 hgr2 hat2 hlt2)
          go_roundw
          case rel =>
            have hbA : Below w3.heap.size w3 (w3.alloc (.cells #[.slice py ny cy] 23)) := (Below.refl _ _).alloc (Nat.le_refl _) _
            refine ⟨j + 1, by omega, by go_num, (HB3.out.alloc hws _).grown HG2.out (by simp; omega) (fun i hi => (H1.out.lt i hi).1), ?_⟩
            rw [HST.out, if_pos ⟨HYN.out, HYX.out, HIN.out⟩]
            exact rowsO_push (w := w3.alloc (.cells #[.slice py ny cy] 23)) (hs := hs) HB.out (by rw [HK.out]; exact H1.out.alloc _) H2.out (fun i hi => (H3.out i hi).below hbA (Nat.le_refl _)) (HI3.out.below hbA (Nat.le_refl _)) (by rw [HK.out]; exact HO2.out) HG2.out
          case measure => simp [intOf]; omega
        · have HIN : Hid (¬ z ∈ A) := fun h => hr (HIFF.out.2 h)
          have hr2 : r < 0 := by omega
          go_wp2_with fail
          go_roundw
          case rel =>
            refine ⟨j + 1, by omega, by go_num, HB3.out, ?_⟩
            rw [HST.out, if_neg (fun h => HIN.out h.2.2), List.append_nil]
            exact ⟨hs, by rw [HK.out]; exact H1.out, H2.out, H3.out⟩
          case measure => simp [intOf]; omega
    · obtain rfl : n = j := by omega
      have HFULL : Hid (linkTo A f n = linkF A f) := by unfold Hid; rw [← HLN.out]; exact linkTo_all A f
      clear hb hR
      go_wp2_with fail
      go_ret
      refine ⟨_, rfl, HBR.out, ?_⟩
      rw [← HFULL.out]
      exact HR.out

def lowL (hi : Int → Int) (v : Int) (x : List Int) : Bool := x.all fun y => decide (hi y < hi v)
def idxR (A : List (List Int)) (hi : Int → Int) (v : Int) : Int := 1 - eulF ((linkF A [v]).filter (lowL hi v))
set_option maxRecDepth 100000 in
set_option maxHeartbeats 16000000 in
theorem indicesOf_any (B : Nat) (A : List (List Int)) (h : List Int) (va vh : Value) (w : World) (hB : B ≤ w.heap.size) (hva : ListsIn B w va A) (hn : A.length ≤ 1000) (hl : ∀ l ∈ A, l.length ≤ 500) (hvh : IntsIn B w vh h) (hlen : h.length = (vertR A).length) (hnd : (vertR A).Nodup) :
    Calls Tryz.prog 21 #[va, vh] w (NumsP w.heap.size ((vertR A).map (idxR A (hiF (vertR A) h))) w) := by
  obtain ⟨i3, hi3, hy0, hy1, hy2⟩ := info_parts Tryz.info3
  obtain ⟨i39, hi39, hz0, hz1, hz2⟩ := info_parts Tryz.info23
  have hA := Nat.le_trans (vertR_len A) hn
  have HVO := Lib.hid (verticesOf_any B A va w hva (by omega) (fun l h => by have := hl l h; omega))
  unfold NumsP at HVO
  have HLK := Lib.hid (fun wx (hx : Below w.heap.size w wx) x u (hu : IntsAt wx u [x]) => linkOf_any B A [x] va u wx (Nat.le_trans hB hx.size) (hva.below hx (Nat.le_refl _)) hu hn hl (by simp))
  have HHI := Lib.hid (fun wx (hx : Below w.heap.size w wx) x => highOf_any B A h x va vh wx (hva.below hx (Nat.le_refl _)) (by omega) (fun l h => by have := hl l h; omega) (hvh.below hx (Nat.le_refl _)) hlen)
  have HVH := Lib.hid (fun wx (hx : Below w.heap.size w wx) => hvh.below hx (Nat.le_refl _))
  obtain ⟨V, hV⟩ : ∃ V, vertR A = V := ⟨_, rfl⟩
  rw [hV] at HVO HHI hA hlen hnd ⊢
  obtain ⟨n, hnn⟩ : ∃ n, V.length = n := ⟨_, rfl⟩
  rw [hnn] at HVO hA hlen
  have HN := Lib.hid hnn
  have HL := Lib.hid hlen
  obtain ⟨ph, ch, hve, -⟩ := id hvh
  rw [hlen] at hve
  subst hve
  obtain ⟨hi, hhi⟩ : ∃ f, hiF V h = f := ⟨_, rfl⟩
  have HHV : Hid (∀ i, i < n → h.getD i 0 = hi (V.getD i 0)) := fun i hi2 => by
    rw [← hhi]
    exact (hi_first (by rw [hnn]; exact hi2) rfl fun j hj e => by
      have := nod_inj' hnd (by rw [hnn]; omega) (by rw [hnn]; exact hi2) e
      omega).symm
  rw [hhi] at HHI ⊢
  unfold ListPost at HLK
  have HKL : Hid (∀ v, (linkF A [v]).length ≤ 1000 ∧ ∀ l ∈ linkF A [v], l.length ≤ 500) := fun v => by
    refine ⟨Nat.le_trans (List.length_filterMap_le _ _) hn, fun l hlm => ?_⟩
    unfold linkF at hlm
    obtain ⟨y, hy, e⟩ := List.mem_filterMap.1 hlm
    split at e
    · obtain rfl := Option.some.inj e
      exact Nat.le_trans (List.length_filter_le _ _) (hl y hy)
    · cases e
  have HBLO := Lib.hid hB
  clear hB hva hn hl hvh hlen hV hnn hhi hnd
  go_enter Tryz.func21, Tryz.ntmps21
  go_wp2_with fail
  refine HVO.out.mono ?_
  rintro e w1 ⟨pv, cv, rfl, hb, hiv⟩
  have HB1 := Lib.hid hb
  have HV := Lib.hid hiv
  clear hb hiv HVO
  go_wp2_with fail
  have HCAP : Hid (n ≤ cv) := by
    obtain ⟨p, c, e, hc, -⟩ := HV.out
    rw [HN.out] at e hc
    cases e
    exact hc
  obtain ⟨F, hF⟩ : ∃ F, idxR A hi = F := ⟨_, rfl⟩
  rw [hF]
  have HFE := Lib.hid hF
  have HF : Hid (∀ v, F v = 1 - eulF ((linkF A [v]).filter (lowL hi v))) := fun v => by rw [← hF]; rfl
  clear hF
  go_loopw [6, 7] (fun s i wr => ∃ j : Nat, j ≤ n ∧ i = .int .i64 (j : Int) ∧ Below w1.heap.size w1 wr ∧ wr.ownsRow w1.heap.size 3 1 s j (intVs ((V.take j).map F))) (fun _ i _ => n - (intOf i).toNat)
  case atStart => exact ⟨0, Nat.zero_le _, rfl, Below.refl _ _, World.ownsRow_nil _ _ _ _⟩
  case round =>
    obtain ⟨j, hj, rfl, hb, hO⟩ := hrel
    obtain ⟨wo, rfl⟩ : ∃ wo : World, wo = wr := ⟨_, rfl⟩
    have HBJ := Lib.hid hb
    have HO := Lib.hid hO
    have HBW := Lib.hid (HB1.out.trans (hb.mono HB1.out.size))
    clear hb hO
    by_cases hjn : j < n
    · obtain ⟨b, off, c', e1, -⟩ := ints_cell HV.out j (by rw [HN.out]; exact hjn)
      rw [HN.out] at e1
      obtain ⟨rfl, rfl⟩ : pv = some ⟨b, off, none⟩ ∧ cv = c' := by cases e1; exact ⟨rfl, rfl⟩
      clear e1
      have hpart := (HV.out.below HBJ.out (Nat.le_refl _)).part j 1 (cv - j) (by rw [HN.out]; omega) (by have := HCAP.out; omega)
      rw [show (V.drop j).take 1 = [V.getD j 0] by rw [List.drop_eq_getElem_cons (by rw [HN.out]; exact hjn), getD_elem (by rw [HN.out]; exact hjn)]; rfl] at hpart
      have hcap := HCAP.out
      obtain ⟨z, hz⟩ : ∃ z, V.getD j 0 = z := ⟨_, rfl⟩
      rw [hz] at hpart
      have HZ := Lib.hid hz
      have HLKJ := Lib.hid (HLK.out _ HBW.out z _ hpart.at)
      clear hpart hz
      go_wp2_with fail
      refine HLKJ.out.mono ?_
      rintro e w2 ⟨vl, rfl, hb2, hr2⟩
      obtain ⟨hk1, hk2⟩ := HKL.out z
      obtain ⟨LK, hLK⟩ : ∃ l, linkF A [z] = l := ⟨_, rfl⟩
      rw [hLK] at hr2 hk1 hk2
      have HLKE := Lib.hid hLK
      obtain ⟨pl, cl, hve, -⟩ := hr2.lists
      obtain ⟨m, hm⟩ : ∃ m, LK.length = m := ⟨_, rfl⟩
      rw [hm] at hve hk1
      subst hve
      have HM := Lib.hid hm
      have HK2 := Lib.hid hk2
      have HR2 := Lib.hid hr2.lists
      have HB2 := Lib.hid (HBW.out.trans (hb2.mono HBW.out.size))
      have HB12 := Lib.hid (HBJ.out.trans (hb2.mono HBJ.out.size))
      have HO2 := Lib.hid (owns_keep HO.out fun k hk => hb2.block k (HO.out.lt k hk).2)
      clear hLK hm hk2 hr2 hb2 HLKJ HO
      go_wp2_with fail
      go_loopw [9, 10] (fun low k wr2 => ∃ t : Nat, t ≤ m ∧ k = .int .i64 (t : Int) ∧ Below w2.heap.size w2 wr2 ∧ RowsO w2.heap.size B wr2 low ((LK.take t).filter (lowL hi z))) (fun _ k _ => m - (intOf k).toNat)
      case atStart => exact ⟨0, Nat.zero_le _, rfl, Below.refl _ _, RowsO.nil _ _ _⟩
      case round =>
        obtain ⟨t, ht, rfl, hbt, hrt⟩ := hrel
        obtain ⟨wm, rfl⟩ : ∃ wm : World, wm = wr := ⟨_, rfl⟩
        have HBT := Lib.hid hbt
        have HRT := Lib.hid hrt
        have HBWT := Lib.hid (HB2.out.trans (hbt.mono HB2.out.size))
        clear hbt hrt
        by_cases htm : t < m
        · obtain ⟨bl, ol, c, hve⟩ := HR2.out.form (by rw [HM.out]; omega)
          rw [HM.out] at hve
          obtain ⟨rfl, rfl⟩ : pl = some ⟨bl, ol, none⟩ ∧ cl = c := by cases hve; exact ⟨rfl, rfl⟩
          obtain ⟨pj, cj, hcj, hij⟩ := cells_at (HR2.out.below HBT.out (Nat.le_refl _)) t (by rw [HM.out]; exact htm)
          have hlx := HK2.out _ (getL_mem (show t < LK.length by rw [HM.out]; exact htm))
          have hstep : (LK.take (t + 1)).filter (lowL hi z) = (LK.take t).filter (lowL hi z) ++ (if lowL hi z (LK.getD t []) then [LK.getD t []] else []) := by
            rw [take_snoc_getD [] LK t (by rw [HM.out]; exact htm), List.filter_append]
            congr 1
            rw [List.filter_cons, List.filter_nil]
          obtain ⟨x, hx⟩ : ∃ x, LK.getD t [] = x := ⟨_, rfl⟩
          rw [hx] at hcj hij hlx hstep
          obtain ⟨q, hq⟩ : ∃ q, x.length = q := ⟨_, rfl⟩
          rw [hq] at hcj hlx hij
          have HSTEP := Lib.hid hstep
          have HQ := Lib.hid hq
          have HIJ := Lib.hid hij
          have HCJ := Lib.hid hcj
          have hlt := mem_lt hcj
          clear hve hij hx hq hstep
          go_wp2_with fail
          go_loopw [11, 12] (fun un nn wy => ∃ r : Nat, r ≤ q ∧ nn = .int .i64 (r : Int) ∧ un = .bool (lowL hi z (x.take r)) ∧ Below wm.heap.size wm wy) (fun _ nn _ => q - (intOf nn).toNat)
          case atStart => exact ⟨0, Nat.zero_le _, rfl, rfl, Below.refl _ _⟩
          case round =>
            obtain ⟨r, hr, rfl, rfl, hby⟩ := hrel
            by_cases hrq : r < q
            · have HBY := Lib.hid (HBWT.out.trans (hby.mono HBWT.out.size))
              have HBYM := Lib.hid hby
              have htk := take_snoc_getD 0 x r (by rw [HQ.out]; exact hrq)
              have hlow : lowL hi z (x.take (r + 1)) = (lowL hi z (x.take r) && decide (hi (x.getD r 0) < hi z)) := by
                rw [htk]; unfold lowL; rw [List.all_append]; simp
              obtain ⟨bj, oj, c', e1, e2⟩ := ints_cell (HIJ.out.below hby (Nat.le_refl _)) r (by rw [HQ.out]; exact hrq)
              rw [HQ.out] at e1
              obtain ⟨rfl, rfl⟩ : pj = some ⟨bj, oj, none⟩ ∧ cj = c' := by cases e1; exact ⟨rfl, rfl⟩
              obtain ⟨bh, oh, c'', e3, e4⟩ := ints_cell (HVH.out _ HBY.out) j (by rw [HL.out]; exact hjn)
              rw [HL.out] at e3
              obtain ⟨rfl, rfl⟩ : ph = some ⟨bh, oh, none⟩ ∧ ch = c'' := by cases e3; exact ⟨rfl, rfl⟩
              rw [HHV.out j hjn, HZ.out] at e4
              have e5 := (hby.cell (p := ⟨bl, ol + t, none⟩) hlt).trans HCJ.out
              obtain ⟨y, hy⟩ : ∃ y, x.getD r 0 = y := ⟨_, rfl⟩
              rw [hy] at e2 hlow
              obtain ⟨u, hu⟩ : ∃ u, lowL hi z (x.take r) = u := ⟨_, rfl⟩
              rw [hu] at hlow
              rw [hu]
              have HLOW := Lib.hid hlow
              clear e1 e3 htk hby hy hu hlow
              cases u with
              | false =>
                go_wp2_with fail
                go_quiet (fail)
                go_wp2_with fail
                go_roundw
                case rel => exact ⟨r + 1, hrq, by go_num, by rw [HLOW.out]; rfl, HBYM.out.trans ((Below.drewN wr _).mono HBYM.out.size)⟩
                case measure => simp [intOf]; omega
              | true =>
                have k0 := fun d os => cell_regrown e2 d os
                have k1 := fun d os => cell_regrown e4 d os
                have k2 := fun d os => cell_regrown e5 d os
                have HC := Lib.hid (fun d os => Calls.regrown_of (HHI.out (Sort.grow (redrawn wr d) os) (HBY.out.trans ((below_regrown wr d os).mono HBY.out.size)) y))
                go_wp2_with fail
                refine wp_region_quiet_below (by kernel_rfl) (by kernel_rfl) ?_
                repeat (first | go_big_quiet_step (with_reducible exact HC.out _ _) | quiet_step (with_reducible exact HC.out _ _))
                refine wpQuiet_nil ?_
                intro _ hw'
                obtain ⟨⟨dq, osq⟩, hw''⟩ := hw'
                subst hw''
                have HBF := Lib.hid (HBYM.out.trans ((below_regrown wr dq osq).mono HBYM.out.size))
                clear k0 k1 k2 HC e2 e4 e5
                generalize Sort.grow (redrawn wr dq) osq = w4 at HBF ⊢
                go_wp2_with fail
                go_roundw
                case rel => exact ⟨r + 1, hrq, by go_num, by rw [HLOW.out]; rfl, HBF.out⟩
                case measure => simp [intOf]; omega
            · obtain rfl : q = r := by omega
              have hfull : lowL hi z (x.take q) = lowL hi z x := by rw [← HQ.out, List.take_length]
              rw [hfull]
              have e5 := (hby.cell (p := ⟨bl, ol + t, none⟩) hlt).trans HCJ.out
              obtain ⟨hs, h1, h2, h3⟩ := HRT.out.below hby (Nat.le_refl _)
              obtain ⟨k, hk⟩ : ∃ k, ((LK.take t).filter (lowL hi z)).length = k := ⟨_, rfl⟩
              have hkn : k ≤ 1000 := by
                rw [← hk]
                have e1 := List.length_filter_le (lowL hi z) (LK.take t)
                rw [List.length_take] at e1
                omega
              rw [hk] at h1
              have HK := Lib.hid hk
              have H1 := Lib.hid h1
              have H2 := Lib.hid h2
              have H3 := Lib.hid h3
              have HB3 := Lib.hid (HBT.out.trans (hby.mono HBT.out.size))
              have HIJ3 := Lib.hid (HIJ.out.below hby (Nat.le_refl _))
              have hws : w2.heap.size ≤ wr.heap.size := HB3.out.size
              obtain ⟨u, hu⟩ : ∃ u, lowL hi z x = u := ⟨_, rfl⟩
              have hs1 := HSTEP.out
              rw [hu] at hs1 ⊢
              have HS1 := Lib.hid hs1
              have HBLE : Hid (B ≤ w2.heap.size) := Nat.le_trans HBLO.out HB2.out.size
              clear hby hfull h1 h2 h3 hk hu hs1
              cases u with
              | false =>
                go_wp2_with fail
                go_roundw
                case rel =>
                  refine ⟨t + 1, htm, by go_num, HB3.out, ?_⟩
                  rw [HS1.out, if_neg (by decide), List.append_nil]
                  exact ⟨hs, by rw [HK.out]; exact H1.out, H2.out, H3.out⟩
                case measure => simp [intOf]; omega
              | true =>
                go_wp2_with (at_builtin; refine wpList_append_lies _ rfl (.tmp 62) (.tmp 67) 22 rfl w2.heap.size 23 i39 (.slice none 0 0) 1 24 Tryz.underlying22 hi39 hz0 hz1 hz2 rfl (by decide) _ k hs rfl (H1.out.alloc _) ⟨wr.heap.size, 0, none⟩ 1 1 [.slice pj q cj] rfl rfl (World.news_of_block (cs := #[.slice pj q cj]) (t := 23) (fr := (0, 0)) (heap_alloc_new wr _)) (by simp [Value.oneCell']) (by decide) (by unfold maxLen; omega) (by omega) (by simp; omega) (wr.heap.size + 1) (by simp) ?_; intro g2 c2 w9 hown2 hgr2 hat2 hlt2; have HO9 := Lib.hid hown2; have HG9 := Lib.hid hgr2; clear hown2 hgr2 hat2 hlt2)
                go_roundw
                case rel =>
                  have hbA : Below wr.heap.size wr (wr.alloc (.cells #[.slice pj q cj] 23)) := (Below.refl _ _).alloc (Nat.le_refl _) _
                  refine ⟨t + 1, htm, by go_num, (HB3.out.alloc hws _).grown HG9.out (by simp; omega) (fun i hi => (H1.out.lt i hi).1), ?_⟩
                  rw [HS1.out, if_pos rfl]
                  exact rowsO_push (w := wr.alloc (.cells #[.slice pj q cj] 23)) (hs := hs) HBLE.out (by rw [HK.out]; exact H1.out.alloc _) H2.out (fun i hi => (H3.out i hi).below hbA (Nat.le_refl _)) (HIJ3.out.below hbA (Nat.le_refl _)) (by rw [HK.out]; exact HO9.out) HG9.out
                case measure => simp [intOf]; omega
        · obtain rfl : m = t := by omega
          have hfull : (LK.take m).filter (lowL hi z) = LK.filter (lowL hi z) := by rw [← HM.out, List.take_length]
          have hrt := HRT.out
          rw [hfull] at hrt
          obtain ⟨ps, cs, hse, -⟩ := hrt.lists
          have HEU := Lib.hid (eulerOf_any B (LK.filter (lowL hi z)) _ wm hrt.lists (by have := List.length_filter_le (lowL hi z) LK; have := HM.out; omega) (fun l hlm => by have := HK2.out l (List.mem_filter.1 hlm).1; omega))
          obtain ⟨E, hE⟩ : ∃ E, eulF (LK.filter (lowL hi z)) = E := ⟨_, rfl⟩
          have hEb := eulF_bd (LK.filter (lowL hi z))
          have hEl := List.length_filter_le (lowL hi z) LK
          rw [hE] at HEU hEb
          rw [HM.out] at hEl
          have hFz := HF.out z
          rw [HLKE.out, hE] at hFz
          have HFZ := Lib.hid hFz
          obtain ⟨ks, hks⟩ : ∃ k, (LK.filter (lowL hi z)).length = k := ⟨_, rfl⟩
          rw [hks] at hse hEb hEl
          subst hse
          have m1 : IntKind.i64.wrap (1 - E) = 1 - E := IntWalk.i64_in _ (by omega)
          have HO3 := Lib.hid (owns_keep HO2.out fun k hk => HBT.out.block k (HO2.out.lt k hk).2)
          have HBM := Lib.hid (HB12.out.trans (HBT.out.mono HB12.out.size))
          have hws : w1.heap.size ≤ wm.heap.size := HBM.out.size
          have hsn : intVs ((V.take (j + 1)).map F) = intVs ((V.take j).map F) ++ [.int .i64 (1 - E)] := by
            rw [take_snoc_getD 0 V j (by rw [HN.out]; exact hjn), HZ.out, List.map_append, List.map_singleton, HFZ.out, intVs_snoc]
          have HSN := Lib.hid hsn
          unfold Same at HEU
          clear hfull hrt hE hEb hEl hFz hks hsn
          go_wp2_with fail
          refine HEU.out.mono ?_
          rintro e wq ⟨rfl, hq⟩
          rw [hq]
          clear hq wq
          go_wp2_with (at_builtin; refine wpList_append_lies _ rfl (.tmp 69) (.tmp 73) 23 rfl w1.heap.size 3 i3 (.int .i64 0) 1 8 Tryz.underlying23 hi3 hy0 hy1 hy2 rfl (by decide) _ j (intVs ((V.take j).map F)) rfl (HO3.out.alloc _) ⟨wm.heap.size, 0, none⟩ 1 1 [.int .i64 (1 - E)] rfl rfl (World.news_of_block (cs := #[.int .i64 (1 - E)]) (t := 3) (fr := (0, 0)) (heap_alloc_new wm _)) (by simp [Value.oneCell']) (by decide) (by unfold maxLen; omega) (by omega) (by simp; omega) (wm.heap.size + 1) (by simp) ?_; intro g2 c2 w9 hown2 hgr2 hat2 hlt2; have HO9 := Lib.hid hown2; have HG9 := Lib.hid hgr2; clear hown2 hgr2 hat2 hlt2)
          go_roundw
          case rel =>
            refine ⟨j + 1, hjn, by go_num, (HBM.out.alloc hws _).grown HG9.out (by simp; omega) (fun i hi => (HO3.out.lt i hi).1), ?_⟩
            rw [HSN.out]
            exact HO9.out
          case measure => simp [intOf]; omega
    · obtain rfl : n = j := by omega
      go_wp2_with fail
      go_ret
      have hf : (V.take n).map F = V.map F := by rw [← HN.out, List.take_length]
      have hi0 := HO.out
      rw [hf] at hi0
      have hl0 : (V.map F).length = n := by rw [List.length_map]; exact HN.out
      obtain ⟨po, co, hso⟩ : ∃ p c, u6 = .slice p n c := by
        rcases Joins.ownsRow_forms hi0 with ⟨e, h0⟩ | ⟨g, cap, e⟩
        · exact ⟨none, 0, by rw [e, h0]⟩
        · exact ⟨_, cap, e⟩
      rw [hso] at hi0
      unfold NumsP
      rw [HFE.out, hl0]
      exact ⟨po, co, by rw [hso]; rfl, HBW.out, (ints_owned hi0 hl0.symm)⟩
end Go.Proofs.YtddnjimpdidpaaaGreatDoor
