/-
  The document's StarOf, LinkOf, and the law's made, by contracts.
-/
import Derived.Test.YtddnjimpdidpaaaGreatDoorParB
set_option linter.unusedSimpArgs false
set_option linter.unusedVariables false
namespace Go.Proofs.YtddnjimpdidpaaaGreatDoor
open Go Go.RowKit Go.Maps

def starTo (A : List (List Int)) (f : List Int) (j : Nat) : List (List Int) := (A.take j).filter fun x => decide (togF x f ∈ A)
theorem starTo_step {A : List (List Int)} {f : List Int} {j : Nat} (h : j < A.length) : starTo A f (j + 1) = starTo A f j ++ (if togF (A.getD j []) f ∈ A then [A.getD j []] else []) := by
  unfold starTo
  rw [take_snoc_getD [] A j h, List.filter_append]
  generalize A.getD j [] = x
  by_cases hc : togF x f ∈ A
  · rw [if_pos hc]; congr 1; simp [hc]
  · rw [if_neg hc]; congr 1; simp [hc]
theorem starTo_all (A : List (List Int)) (f : List Int) : starTo A f A.length = starF A f := by unfold starTo starF; rw [List.take_length]
def linkTo (A : List (List Int)) (f : List Int) (j : Nat) : List (List Int) := (A.take j).filterMap fun x => if minF x f ≠ [] ∧ (minF x f).length = x.length ∧ togF (minF x f) f ∈ A then some (minF x f) else none
theorem linkTo_step {A : List (List Int)} {f : List Int} {j : Nat} (h : j < A.length) : linkTo A f (j + 1) = linkTo A f j ++ (if minF (A.getD j []) f ≠ [] ∧ (minF (A.getD j []) f).length = (A.getD j []).length ∧ togF (minF (A.getD j []) f) f ∈ A then [minF (A.getD j []) f] else []) := by
  unfold linkTo
  rw [take_snoc_getD [] A j h, List.filterMap_append]
  by_cases hc : minF (A.getD j []) f ≠ [] ∧ (minF (A.getD j []) f).length = (A.getD j []).length ∧ togF (minF (A.getD j []) f) f ∈ A
  · rw [if_pos hc]
    congr 1
    simp only [List.filterMap_cons, List.filterMap_nil]
    rw [if_pos hc]
  · rw [if_neg hc]
    congr 1
    simp only [List.filterMap_cons, List.filterMap_nil]
    rw [if_neg hc]
theorem linkTo_all (A : List (List Int)) (f : List Int) : linkTo A f A.length = linkF A f := by unfold linkTo linkF; rw [List.take_length]
theorem tog_len (f g : List Int) : (togF f g).length ≤ f.length + g.length := by
  have := setL_len (f ++ g)
  rw [List.length_append] at this
  exact this

set_option maxRecDepth 100000 in
set_option maxHeartbeats 8000000 in
theorem linkOf_any (B : Nat) (A : List (List Int)) (f : List Int) (v u : Value) (w : World) (hB : B ≤ w.heap.size) (hv : ListsIn B w v A) (hu : IntsAt w u f) (hn : A.length ≤ 1000) (hl : ∀ l ∈ A, l.length ≤ 500) (hf : f.length ≤ 500) :
    Calls Tryz.prog 53 #[v, u] w (ListPost B (linkF A f) w) := by
  obtain ⟨i39, hi39, hz0, hz1, hz2⟩ := info_parts Tryz.info23
  obtain ⟨pv, cv, hve, -⟩ := id hv
  obtain ⟨n, hLn⟩ : ∃ n, A.length = n := ⟨_, rfl⟩
  rw [hLn] at hve hn
  subst hve
  have HLN := Lib.hid hLn
  have HV := Lib.hid hv
  have HU := Lib.hid hu
  have HB := Lib.hid hB
  have HL := Lib.hid hl
  clear hLn hv hB hl hu
  go_enter Tryz.func53, Tryz.ntmps53
  go_wp2_with fail
  go_loopw [5, 6, 7] (fun s i _ wr => ∃ j : Nat, j ≤ n ∧ i = .int .i64 j ∧ Below w.heap.size w wr ∧ RowsO w.heap.size B wr s (linkTo A f j)) (fun _ i _ _ => n - (intOf i).toNat)
  case atStart => exact ⟨0, Nat.zero_le _, rfl, Below.refl _ _, RowsO.nil _ _ _⟩
  case round =>
    obtain ⟨j, hj, rfl, hb, hR⟩ := hrel
    have HBR := Lib.hid hb
    have HR := Lib.hid hR
    by_cases hjn : j < n
    · obtain ⟨b, off, c, hve⟩ := HV.out.form (by rw [HLN.out]; omega)
      rw [HLN.out] at hve
      obtain ⟨rfl, rfl⟩ : pv = some ⟨b, off, none⟩ ∧ cv = c := by cases hve; exact ⟨rfl, rfl⟩
      have hjL : j < A.length := by rw [HLN.out]; exact hjn
      obtain ⟨pj, cj, hcj, hij⟩ := cells_at (HV.out.below hb (Nat.le_refl _)) j hjL
      have hlj := HL.out _ (getL_mem hjL)
      have HST := Lib.hid (linkTo_step (f := f) hjL)
      obtain ⟨x, hx⟩ : ∃ x, A.getD j [] = x := ⟨_, rfl⟩
      rw [hx] at hcj hij hlj HST
      have HMI := Lib.hid (minus_any B x f _ u wr hij.at (HU.out.below hb (Nat.le_refl _)) (by omega) (by omega))
      unfold NumsP at HMI
      obtain ⟨nx, hnx⟩ : ∃ nx, x.length = nx := ⟨_, rfl⟩
      have hym : (minF x f).length ≤ nx := by rw [← hnx]; exact List.length_filter_le _ _
      rw [hnx] at hcj hlj HMI HST
      obtain ⟨y, hy⟩ : ∃ y, minF x f = y := ⟨_, rfl⟩
      rw [hy] at HMI HST hym
      obtain ⟨ny, hny⟩ : ∃ ny, y.length = ny := ⟨_, rfl⟩
      rw [hny] at HMI HST hym
      have HNY := Lib.hid hny
      have HTG := Lib.hid (fun (wx : World) (vy : Value) (hbx : Below wr.heap.size wr wx) (hi : IntsAt wx vy y) => together_any B y f vy u wx hi ((HU.out.below HBR.out (Nat.le_refl _)).below hbx (Nat.le_refl _)) (by omega) (by omega))
      unfold NumsP at HTG
      have HTL := Lib.hid (tog_len y f)
      obtain ⟨z, hz⟩ : ∃ z, togF y f = z := ⟨_, rfl⟩
      rw [hz] at HTG HTL HST
      have HIXF := Lib.hid (fun (wx : World) (vz : Value) (hbx : Below wr.heap.size wr wx) (hi : IntsAt wx vz z) => indexOf_any B A z _ vz wx ((HV.out.below HBR.out (Nat.le_refl _)).below hbx (Nat.le_refl _)) hi (by rw [HLN.out]; omega) (fun l h => by have := HL.out l h; omega) (by have := HTL.out; have := HNY.out; omega))
      unfold IdxPost at HIXF
      have hltc := mem_lt hcj
      have HCJ := Lib.hid hcj
      have hsk : (y ≠ [] ∧ ny = nx ∧ z ∈ A) ∨ ¬ (y ≠ [] ∧ ny = nx ∧ z ∈ A) := Classical.em _
      have hy0 : y = [] ↔ ny = 0 := by rw [← hny]; exact List.length_eq_zero_iff.symm
      have HY0 := Lib.hid hy0
      clear hve hij hjL hx hnx hy hny hz hb hR hsk hy0
      by_cases hskip : ny = 0 ∨ ny < nx
      · have HNO : Hid (linkTo A f (j + 1) = linkTo A f j) := by
          unfold Hid
          rw [HST.out, if_neg, List.append_nil]
          rintro ⟨h1, h2, -⟩
          rcases hskip with h | h
          · exact h1 (HY0.out.2 h)
          · omega
        by_cases hy0 : ny = 0
        all_goals
          first
            | (have q1 : ((ny : Int) == 0) = true := beq_iff_eq.2 (by omega)
               have q2 : (ny == 0) = true := beq_iff_eq.2 hy0)
            | (have q1 : ((ny : Int) == 0) = false := beq_eq_false_iff_ne.2 (by omega)
               have q2 : (ny == 0) = false := beq_eq_false_iff_ne.2 hy0
               have q3 : decide ((ny : Int) < (nx : Int)) = true := decide_eq_true (by omega)
               have q4 : decide (ny < nx) = true := decide_eq_true (by omega))
          clear hskip hy0
          go_wp2_with fail
          refine HMI.out.mono ?_
          rintro e w1 ⟨py, cy, rfl, hb1, hi1⟩
          have hb01 := HBR.out.trans (hb1.mono HBR.out.size)
          have HB1 := Lib.hid hb01
          have hcj1 := (hb1.cell (p := ⟨b, off + j, none⟩) hltc).trans HCJ.out
          have HR1 := Lib.hid (HR.out.below hb1 (Nat.le_refl _))
          clear hb1 hb01 hi1 hcj
          go_wp2_with fail
          go_roundw
          case rel => exact ⟨j + 1, by omega, by go_num, HB1.out, by rw [HNO.out]; exact HR1.out⟩
          case measure => simp [intOf]; omega
      · have q1 : ((ny : Int) == 0) = false := beq_eq_false_iff_ne.2 (by omega)
        have q2 : (ny == 0) = false := beq_eq_false_iff_ne.2 (by omega)
        have q3 : decide ((ny : Int) < (nx : Int)) = false := decide_eq_false (by omega)
        have q4 : decide (ny < nx) = false := decide_eq_false (by omega)
        have hyx : ny = nx := by omega
        have hyn : y ≠ [] := fun h => by have := HY0.out.1 h; omega
        have HYX := Lib.hid hyx
        have HYN := Lib.hid hyn
        clear hskip hyx hyn
        go_wp2_with fail
        refine HMI.out.mono ?_
        rintro e w1 ⟨py, cy, rfl, hb1, hi1⟩
        have HB1 := Lib.hid hb1
        have HI1 := Lib.hid hi1
        have hcj1 := (hb1.cell (p := ⟨b, off + j, none⟩) hltc).trans HCJ.out
        have HTG1 := Lib.hid (HTG.out w1 _ hb1 hi1.at)
        clear hb1 hi1 hcj
        go_wp2_with fail
        refine HTG1.out.mono ?_
        rintro e w2 ⟨pz, cz, rfl, hb2, hi2⟩
        have hb02 := HB1.out.trans (hb2.mono HB1.out.size)
        have HB02 := Lib.hid hb02
        have HIX1 := Lib.hid (HIXF.out w2 _ hb02 hi2.at)
        have HI2 := Lib.hid (HI1.out.below hb2 (Nat.le_refl _))
        clear hb2 hi2 hb02 hcj1
        go_wp2_with fail
        refine HIX1.out.mono ?_
        rintro e w3 ⟨r, rfl, ⟨d, hd⟩, hiff, hlo⟩
        have hb23 : Below w2.heap.size w2 w3 := by rw [hd]; exact Below.drewN w2 d
        have hb03 := HB02.out.trans (hb23.mono HB02.out.size)
        have hb3 := HBR.out.trans (hb03.mono HBR.out.size)
        obtain ⟨hs, h1, h2, h3⟩ := HR.out.below hb03 (Nat.le_refl _)
        obtain ⟨k, hk⟩ : ∃ k, (linkTo A f j).length = k := ⟨_, rfl⟩
        have hkn : k ≤ 1000 := by
          rw [← hk]
          have e1 : (linkTo A f j).length ≤ (A.take j).length := List.length_filterMap_le _ _
          rw [List.length_take] at e1
          omega
        rw [hk] at h1
        have HK := Lib.hid hk
        have H1 := Lib.hid h1
        have H2 := Lib.hid h2
        have H3 := Lib.hid h3
        have HB3 := Lib.hid hb3
        have hws := hb3.size
        have HI3 := Lib.hid (HI2.out.below hb23 (Nat.le_refl _))
        have HIFF := Lib.hid hiff
        clear hd hb23 hb03 hb3 h1 h2 h3 hk hiff HIX1
        by_cases hr : 0 ≤ r
        · have HIN := Lib.hid (HIFF.out.1 hr)
          go_wp2_with (at_builtin; refine wpList_append_lies _ rfl (.tmp 39) (.tmp 41) 22 rfl w.heap.size 23 i39 (.slice none 0 0) 1 24 Tryz.underlying22 hi39 hz0 hz1 hz2 rfl (by decide) _ k hs rfl (H1.out.alloc _) ⟨w3.heap.size, 0, none⟩ 1 1 [.slice py ny cy] rfl rfl (World.news_of_block (cs := #[.slice py ny cy]) (t := 23) (fr := (0, 0)) (heap_alloc_new w3 _)) (by simp [Value.oneCell']) (by decide) (by unfold maxLen; omega) (by omega) (by simp; omega) (w3.heap.size + 1) (by simp) ?_; intro g2 c2 w9 hown2 hgr2 hat2 hlt2; have HO2 := Lib.hid hown2; have HG2 := Lib.hid hgr2; clear hown2 hgr2 hat2 hlt2)
          go_roundw
          case rel =>
            have hbA : Below w3.heap.size w3 (w3.alloc (.cells #[.slice py ny cy] 23)) := (Below.refl _ _).alloc (Nat.le_refl _) _
            refine ⟨j + 1, by omega, by go_num, (HB3.out.alloc hws _).grown HG2.out (by simp; omega) (fun i hi => (H1.out.lt i hi).1), ?_⟩
            rw [HST.out, if_pos ⟨HYN.out, HYX.out, HIN.out⟩]
            exact rowsO_push (w := w3.alloc (.cells #[.slice py ny cy] 23)) (hs := hs) HB.out (by rw [HK.out]; exact H1.out.alloc _) H2.out (fun i hi => (H3.out i hi).below hbA (Nat.le_refl _)) (HI3.out.below hbA (Nat.le_refl _)) (by rw [HK.out]; exact HO2.out) HG2.out
          case measure => simp [intOf]; omega
        · have HIN : Hid (¬ z ∈ A) := fun h => hr (HIFF.out.2 h)
          have hr2 : r < 0 := by omega
          go_wp2_with fail
          go_roundw
          case rel =>
            refine ⟨j + 1, by omega, by go_num, HB3.out, ?_⟩
            rw [HST.out, if_neg (fun h => HIN.out h.2.2), List.append_nil]
            exact ⟨hs, by rw [HK.out]; exact H1.out, H2.out, H3.out⟩
          case measure => simp [intOf]; omega
    · obtain rfl : n = j := by omega
      have HFULL : Hid (linkTo A f n = linkF A f) := by unfold Hid; rw [← HLN.out]; exact linkTo_all A f
      clear hb hR
      go_wp2_with fail
      go_ret
      refine ⟨_, rfl, HBR.out, ?_⟩
      rw [← HFULL.out]
      exact HR.out
end Go.Proofs.YtddnjimpdidpaaaGreatDoor
