/-
  cells.face by contracts: a set as a face, rising; or none.
-/
import Derived.Test.YtddnjimpdidpaaaGreatDoorPut
namespace Go.Proofs.YtddnjimpdidpaaaGreatDoor
open Go Go.RowKit

def FaceOk (l : List Int) (w : World) (e : Ending) (w' : World) : Prop :=
  ∃ g cap, e = .returned (.tuple #[.slice (some ⟨g, 0, none⟩) l.length cap, .bool true]) ∧ Below w.heap.size w w' ∧ w'.ownsRow w.heap.size 3 1 (.slice (some ⟨g, 0, none⟩) l.length cap) l.length (intVs (sortI l))
def FaceBad (w : World) (e : Ending) (w' : World) : Prop := e = .returned (.tuple #[.slice none 0 0, .bool false]) ∧ Below w.heap.size w w'

theorem grown_below {w0 w w' : World} {g : Nat} (hb : Below w0.heap.size w0 w) (hg : w.grownBy w' (some g)) (hg0 : w0.heap.size ≤ g) : Below w0.heap.size w0 w' :=
  hb.grown hg hb.size (fun k hk => by cases hk; exact hg0)

set_option maxHeartbeats 2000000 in
theorem face_empty (u : Value) (w : World) (hu : IntsAt w u []) : Calls Tryz.prog 127 #[u] w (FaceBad w) := by
  obtain ⟨p, c, rfl, -, -, -⟩ := hu
  cases p with
  | none =>
    go_enter Tryz.func127, Tryz.ntmps127
    go_wp2_with fail
    refine (Tryz.slices_Clone_int_nil _ _ _).mono ?_
    rintro e w' ⟨rfl, rfl⟩
    go_wp2_with fail
    refine (Tryz.slices_Sort_int_none _ _ _).mono ?_
    rintro e w' ⟨rfl, rfl⟩
    go_wp2_with fail
    go_ret2
    exact ⟨rfl, Below.refl _ _⟩
  | some a =>
    go_enter Tryz.func127, Tryz.ntmps127
    go_wp2_with fail
    refine (Tryz.slices_Clone_int_zero _ _ _).mono ?_
    rintro e w1 ⟨v', rfl, ho, -, hb⟩
    obtain ⟨q, d, rfl⟩ : ∃ q d, v' = .slice q 0 d := by
      rcases Joins.ownsRow_forms ho with ⟨rfl, -⟩ | ⟨g, cap, rfl⟩
      · exact ⟨_, _, rfl⟩
      · exact ⟨_, _, rfl⟩
    have HB := Lib.hid hb
    clear hb ho
    go_wp2_with fail
    refine (Tryz.slices_Sort_int_none _ _ _).mono ?_
    rintro e w' ⟨rfl, rfl⟩
    go_wp2_with fail
    go_ret2
    exact ⟨rfl, HB.out⟩

theorem sort_at {f : List Int} (h : okSet f) : 0 ≤ (sortI f).getD 0 0 ∧ (sortI f).getD (f.length - 1) 0 ≤ 99 := by
  have hp : 0 < f.length := List.length_pos_iff.2 h.1
  have hl := sortI_len f
  constructor
  · exact (h.2.2 _ (mem_sortI.1 (show (sortI f).getD 0 0 ∈ sortI f by rw [List.getD_eq_getElem?_getD, List.getElem?_eq_getElem (show 0 < (sortI f).length by omega)]; exact List.getElem_mem _))).1
  · exact (h.2.2 _ (mem_sortI.1 (show (sortI f).getD (f.length - 1) 0 ∈ sortI f by rw [List.getD_eq_getElem?_getD, List.getElem?_eq_getElem (show f.length - 1 < (sortI f).length by omega)]; exact List.getElem_mem _))).2
theorem okSet_sort {f : List Int} (h0 : f ≠ []) (hn : (sortI f).Nodup) (ha : 0 ≤ (sortI f).getD 0 0) (hb : (sortI f).getD (f.length - 1) 0 ≤ 99) : okSet f := by
  have hp : 0 < f.length := List.length_pos_iff.2 h0
  have hl := sortI_len f
  have hs := sortI_sorted f
  refine ⟨h0, (sortI_perm f).nodup_iff.1 hn, fun x hx => ?_⟩
  obtain ⟨i, hi, e⟩ := List.getElem_of_mem (mem_sortI.2 hx)
  rw [List.getD_eq_getElem?_getD, List.getElem?_eq_getElem (show 0 < (sortI f).length by omega)] at ha
  rw [List.getD_eq_getElem?_getD, List.getElem?_eq_getElem (show f.length - 1 < (sortI f).length by omega)] at hb
  simp only [Option.getD_some] at ha hb
  constructor
  · rcases Nat.eq_zero_or_pos i with rfl | h
    · rw [← e]; exact ha
    · have := List.pairwise_iff_getElem.1 hs 0 i (by omega) hi h
      rw [e] at this; omega
  · rcases (show i = f.length - 1 ∨ i < f.length - 1 by omega) with h | h
    · subst h; rw [← e]; exact hb
    · have := List.pairwise_iff_getElem.1 hs i (f.length - 1) (by omega) (by omega) h
      rw [e] at this; omega

set_option maxRecDepth 100000 in
set_option maxHeartbeats 8000000 in
theorem face_core (l : List Int) (u : Value) (w : World) (hu : IntsAt w u l) (hp : 0 < l.length) (hn : l.length ≤ 100000) :
    Calls Tryz.prog 127 #[u] w fun e w' => (okSet l → FaceOk l w e w') ∧ (¬ okSet l → FaceBad w e w') := by
  have HC := Lib.hid (clone_any l u w hu hp hn)
  unfold ClonePost at HC
  have HS := Lib.hid (fun O g cap wx ho => sort_any l O g cap wx ho hn)
  unfold SortPost at HS
  have hal := sort_at (f := l)
  have HAL := Lib.hid hal
  have HOK := Lib.hid (fun h1 h2 h3 => okSet_sort (f := l) (List.length_pos_iff.1 hp) h1 h2 h3)
  have HRS := Lib.hid (fun h => (rise_sortI (l := l) h))
  have HSP := Lib.hid (sortI_sorted l)
  have HSL := Lib.hid (sortI_len l)
  have HCL := Lib.hid (fun O g cap (wx : World) (ho : wx.ownsRow O 3 1 (.slice (some ⟨g, 0, none⟩) (sortI l).length cap) (sortI l).length (intVs (sortI l))) => clone_any (sortI l) (.slice (some ⟨g, 0, none⟩) (sortI l).length cap) wx (ints_owned (B := O) ho rfl).at (by rw [sortI_len]; exact hp) (by rw [sortI_len]; exact hn))
  have HCM := Lib.hid (fun O g cap (wx : World) (ho : wx.ownsRow O 3 1 (.slice (some ⟨g, 0, none⟩) (sortI l).length cap) (sortI l).length (intVs (sortI l))) => compact_any (sortI l) O g cap wx ho (by rw [sortI_len]; exact hn))
  unfold ClonePost at HCL
  unfold CompactPost at HCM
  have HND : Hid ((sortI l).Nodup ↔ l.Nodup) := (sortI_perm l).nodup_iff
  obtain ⟨s, hs⟩ : ∃ s, sortI l = s := ⟨_, rfl⟩
  have HFO : Hid (∀ wx ex, FaceOk l w ex wx ↔ ∃ g cap, ex = .returned (.tuple #[.slice (some ⟨g, 0, none⟩) l.length cap, .bool true]) ∧ Below w.heap.size w wx ∧ wx.ownsRow w.heap.size 3 1 (.slice (some ⟨g, 0, none⟩) l.length cap) l.length (intVs s)) := fun wx ex => by
    unfold FaceOk; rw [hs]
  rw [hs] at HS HAL HOK HRS HSP HSL HCL HCM HND
  obtain ⟨n, hln⟩ : ∃ n, l.length = n := ⟨_, rfl⟩
  rw [hln] at HC HS HAL HOK HSL hp hn HFO
  have HSN := Lib.hid HSL.out
  clear hal hs hu hln
  go_enter Tryz.func127, Tryz.ntmps127
  go_wp2_with fail
  refine HC.out.mono ?_
  rintro e w1 ⟨g, cap, rfl, hb1, ho1⟩
  have hg := (ho1.lt g rfl).1
  have HB1 := Lib.hid hb1
  have HS1 := Lib.hid (HS.out w.heap.size g cap w1 ho1)
  clear hb1 ho1 HS
  go_wp2_with fail
  refine HS1.out.mono ?_
  rintro e w2 ⟨rfl, hg2, ho2⟩
  have HB2 := Lib.hid (grown_below HB1.out hg2 hg)
  have HO2 := Lib.hid ho2
  have hcells : ∀ i, i < n → w2.cell? ⟨g, i, none⟩ = some (.int .i64 (s.getD i 0)) := fun i hi => by
    have := ho2.cells (g := g) rfl i (.int .i64 (s.getD i 0)) (by simp [intVs, List.getElem?_eq_getElem (show i < s.length by rw [HSL.out]; exact hi), List.getD_eq_getElem?_getD])
    rwa [add_zero] at this
  have hc1 := hcells 0 hp
  have hc2 := hcells (n - 1) (by omega)
  have hsub : (n : Int) - 1 = ((n - 1 : Nat) : Int) := by omega
  have q0 : ((n : Int) == 0) = false := beq_eq_false_iff_ne.2 (by omega)
  have q0' : (n == 0) = false := beq_eq_false_iff_ne.2 (by omega)
  have HOS : Hid (w2.ownsRow w.heap.size 3 1 (.slice (some ⟨g, 0, none⟩) s.length cap) s.length (intVs s)) := by unfold Hid; rw [HSL.out]; exact ho2
  have HCL1 := Lib.hid (HCL.out w.heap.size g cap w2 HOS.out)
  rw [HSL.out] at HCL1
  clear hg2 ho2 hcells HCL
  by_cases ha : s.getD 0 0 < 0
  · have HNO : Hid (¬ okSet l) := fun h => by have := (HAL.out h).1; omega
    have q1 : decide (s.getD 0 0 < 0) = true := decide_eq_true ha
    generalize s.getD 0 0 = z at hc1 q1
    clear ha hc2 hsub
    go_wp2_with fail
    go_ret2
    exact ⟨fun h => absurd h HNO.out, fun _ => ⟨rfl, HB2.out⟩⟩
  by_cases hz : 99 < s.getD (n - 1) 0
  · have HNO : Hid (¬ okSet l) := fun h => by have := (HAL.out h).2; omega
    have q1 : decide (s.getD 0 0 < 0) = false := decide_eq_false ha
    have q2 : decide (99 < s.getD (n - 1) 0) = true := decide_eq_true hz
    generalize s.getD 0 0 = z at hc1 q1
    generalize s.getD (n - 1) 0 = z2 at hc2 q2
    clear ha hz
    go_wp2_with fail
    go_ret2
    exact ⟨fun h => absurd h HNO.out, fun _ => ⟨rfl, HB2.out⟩⟩
  have HOK2 := Lib.hid (fun h => HOK.out h (by omega) (by omega))
  have q1 : decide (s.getD 0 0 < 0) = false := decide_eq_false ha
  have q2 : decide (99 < s.getD (n - 1) 0) = false := decide_eq_false hz
  generalize s.getD 0 0 = z at hc1 q1
  generalize s.getD (n - 1) 0 = z2 at hc2 q2
  clear ha hz HAL HOK
  go_wp2_with fail
  refine HCL1.out.mono ?_
  rintro e w3 ⟨g3, cap3, rfl, hb3, ho3⟩
  have hg3 := (ho3.lt g3 rfl).1
  have HB3 := Lib.hid (HB2.out.trans (hb3.mono HB2.out.size))
  have HO3 := Lib.hid (owns_keep (w' := w3) HO2.out fun j hj => hb3.block j (HO2.out.lt j hj).2)
  have HBA := Lib.hid hb3
  rw [← HSL.out] at ho3
  have HCM1 := Lib.hid (HCM.out w2.heap.size g3 cap3 w3 ho3)
  rw [HSL.out] at HCM1
  clear hb3 ho3 HCL1 HCM
  go_wp2_with fail
  refine HCM1.out.mono ?_
  rintro e w4 ⟨k, rfl, hg4, hkn, hiff⟩
  have HIFF := Lib.hid (hiff HSP.out)
  have hsz2 := HB2.out.size
  have HB4 := Lib.hid (grown_below HB3.out hg4 (by omega))
  have HO4 := Lib.hid (owns_keep (w' := w4) HO3.out fun j hj => hg4.block j (HO3.out.lt j hj).2 (fun e => by
    cases e
    have h1 := (HO2.out.lt g3 hj).2
    omega))
  clear hg4 hiff
  by_cases hk : k = n
  · subst hk
    have HYES := Lib.hid (HOK2.out (HIFF.out.1 rfl))
    have q3 : decide ((k : Int) < (k : Int)) = false := decide_eq_false (by omega)
    have q4 : decide (k < k) = false := decide_eq_false (by omega)
    go_wp2_with fail
    go_ret2
    exact ⟨fun _ => (HFO.out _ _).2 ⟨g, cap, rfl, HB4.out, HO4.out⟩, fun h => absurd HYES.out h⟩
  · have HNO : Hid (¬ okSet l) := fun h => hk (HIFF.out.2 (HND.out.2 h.2.1))
    have q3 : decide ((k : Int) < (n : Int)) = true := decide_eq_true (by omega)
    have q4 : decide (k < n) = true := decide_eq_true (by omega)
    clear hk
    go_wp2_with fail
    go_ret2
    exact ⟨fun h => absurd h HNO.out, fun _ => ⟨rfl, HB4.out⟩⟩

theorem face_ok (l : List Int) (u : Value) (w : World) (hu : IntsAt w u l) (hn : l.length ≤ 100000) (h : okSet l) : Calls Tryz.prog 127 #[u] w (FaceOk l w) :=
  (face_core l u w hu (List.length_pos_iff.2 h.1) hn).mono fun _ _ hp => hp.1 h
theorem face_bad (l : List Int) (u : Value) (w : World) (hu : IntsAt w u l) (hn : l.length ≤ 100000) (h : ¬ okSet l) : Calls Tryz.prog 127 #[u] w (FaceBad w) := by
  rcases Nat.eq_zero_or_pos l.length with h0 | hp
  · obtain rfl : l = [] := List.length_eq_zero_iff.1 h0
    exact face_empty u w hu
  · exact (face_core l u w hu hp hn).mono fun _ _ hp => hp.2 h
end Go.Proofs.YtddnjimpdidpaaaGreatDoor
