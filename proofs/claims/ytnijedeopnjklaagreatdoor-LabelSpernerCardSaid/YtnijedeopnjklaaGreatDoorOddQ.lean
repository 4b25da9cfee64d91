/-
  Walk: walked at right labels: the walk from the first door, from n down, that comes to a dead end.
-/
import Derived.Test.YtnijedeopnjklaaGreatDoorOddP
namespace Go.Proofs.YtnijedeopnjklaaGreatDoor
open Go Go.RowKit Sper

/-- the i-th door of the side -/
def rimE (n i : Nat) : Nat × Nat := (rimQ n (i - 1), rimQ n i)
def WalkPost (n : Nat) (hk : chk (smallL n) (ptsL n) (rim n) = true) (xs : List Int) (w : World) (e : Ending) (w' : World) : Prop :=
  ∃ v T E K i, e = .returned (.tuple #[v, .nilIface]) ∧ Below w.heap.size w w' ∧ w'.ownsRow w.heap.size 3 1 v (K + 1) (intVs ((List.range (K + 1)).map fun i => (T i : Int))) ∧
    1 ≤ i ∧ i ≤ n ∧ Walk (house (smallL n) (ptsL n) (rim n) (labF xs) hk) T E K ∧ E 0 = rimE n i ∧ odD (smallL n) (labF xs) (T K) (E K) = none ∧
    ∀ i', i < i' → i' ≤ n → ¬ Good (smallL n) (ptsL n) (rim n) (labF xs) hk (rimE n i')
theorem owns_mono {w : World} {B B' : Nat} {e : TypeId} {s n : Nat} {v : Value} {xs : List Value} (h : w.ownsRow B e s v n xs) (hB : B' ≤ B) : w.ownsRow B' e s v n xs :=
  ⟨h.1, h.2.imp id fun ⟨g, cap, cur, a, b, c⟩ => ⟨g, cap, cur, a, by omega, c⟩⟩

theorem door_comm (lab : Nat → Int) (a b : Nat) : isDoor lab (a, b) = isDoor lab (b, a) := by
  unfold isDoor
  rw [Bool.eq_iff_iff]
  simp only [Bool.and_eq_true, decide_eq_true_eq]
  constructor <;> rintro ⟨h1, h2⟩ <;> exact ⟨by omega, fun h => h2 h.symm⟩

set_option maxRecDepth 100000 in
set_option maxHeartbeats 8000000 in
theorem walk_ok (n : Nat) (hn1 : 1 ≤ n) (hn : n ≤ 12) (xs : List Int) (b off cap : Nat) (w : World) (hlen : xs.length = (ptsL n).length) (hl : Labels (ptsL n) (labF xs))
    (hc : ∀ i, i < xs.length → w.cell? ⟨b, off + i, none⟩ = some (.int .i64 (xs.getD i 0)))
    (hex : ∃ i, 1 ≤ i ∧ i ≤ n ∧ Good (smallL n) (ptsL n) (rim n) (labF xs) (chk_all n hn1 hn) (rimE n i)) :
    Calls Tryz.prog 13 #[.int .i64 (n : Int), .slice (some ⟨b, off, none⟩) xs.length cap] w (WalkPost n (chk_all n hn1 hn) xs w) := by
  have hk := chk_all n hn1 hn
  have H1 := Lib.hid (check_ok n hn1 hn xs b off cap w hlen hl hc)
  have HS := Lib.hid (small_any n hn1 hn)
  have hpos := small_pos n
  have hrl := raw_len n hn
  unfold SmallPost at HS
  have HR := Lib.hid hl.rng
  have HLEN := Lib.hid hlen.symm
  rw [← hlen] at HR
  have HC := Lib.hid hc
  have HEX := Lib.hid hex
  clear hc hl hlen hex
  generalize hXN : xs.length = XN at *
  clear hXN
  go_enter Tryz.func13, Tryz.ntmps13
  go_wp2_with fail
  refine H1.out.mono ?_
  rintro e w1 ⟨rfl, hb1⟩
  have HB1 := Lib.hid hb1
  clear hb1
  go_wp2_with fail
  refine (HS.out w1).mono ?_
  rintro e w2 ⟨va, rfl, hb2, ho⟩
  obtain ⟨g, cL, rfl⟩ := Joins.ownsRow_form ho hpos
  have HB2 := Lib.hid (HB1.out.trans (hb2.mono HB1.out.size))
  have HO := Lib.hid ho
  clear hb2 ho HS H1
  go_wp2_with fail
  obtain ⟨w3, hw3⟩ : ∃ w3, w3 = w2.alloc (.cells #[.slice (some ⟨b, off, none⟩) XN cap, .slice (some ⟨g, 0, none⟩) (smallL n).length cL] 60) := ⟨_, rfl⟩
  rw [← hw3]
  have hblk : w3.heap[w2.heap.size]? = some (.cells #[.slice (some ⟨b, off, none⟩) XN cap, .slice (some ⟨g, 0, none⟩) (smallL n).length cL] 60 (0, 0)) := by rw [hw3]; exact heap_alloc_new w2 _
  have hb23 : Below w2.heap.size w2 w3 := by rw [hw3]; exact (Below.refl _ _).alloc (Nat.le_refl _) _
  have HB3 := Lib.hid (HB2.out.trans (hb23.mono HB2.out.size))
  have HO3 := Lib.hid (owns_keep (w' := w3) HO.out fun j hj => hb23.block j (HO.out.lt j hj).2)
  have HBLK := Lib.hid hblk
  clear hw3 hblk hb23
  go_loopw [8] (fun s8 wr => ∃ i : Nat, i ≤ n ∧ s8 = .int .i64 i ∧ Below w3.heap.size w3 wr ∧ ∀ i', i < i' → i' ≤ n → ¬ Good (smallL n) (ptsL n) (rim n) (labF xs) hk (rimE n i')) (fun i _ => (intOf i).toNat)
  case atStart => exact ⟨n, Nat.le_refl _, rfl, Below.refl _ _, fun i' h1 h2 => absurd h1 (by omega)⟩
  case round =>
    obtain ⟨i, hi, rfl, hb, hno⟩ := hrel
    have HNO := Lib.hid hno
    clear hno
    have hi1 : 1 ≤ i := by
      apply Classical.byContradiction
      intro h
      obtain ⟨i0, h1, h2, h3⟩ := HEX.out
      exact HNO.out i0 (by omega) h2 h3
    have hB := HBLK.out
    rw [← hb.block _ (Array.getElem?_eq_some_iff.1 HBLK.out).1] at hB
    have hlt := (Array.getElem?_eq_some_iff.1 hB).1
    have hww0 : wr.cell? ⟨w2.heap.size, 0, none⟩ = some (.slice (some ⟨b, off, none⟩) XN cap) := by simp [World.cell?, hB]
    have hww1 : wr.cell? ⟨w2.heap.size, 1, none⟩ = some (.slice (some ⟨g, 0, none⟩) (smallL n).length cL) := by simp [World.cell?, hB]
    clear hB
    have HBW := Lib.hid (HB3.out.trans (hb.mono HB3.out.size))
    have HOR := Lib.hid (owns_keep (w' := wr) HO3.out fun j hj => hb.block j (HO3.out.lt j hj).2)
    have HBR := Lib.hid hb
    clear hb
    have hmem : rimE n i ∈ rim n := rim_get n i hi1 hi
    obtain ⟨t0, ht0, hs0⟩ := rim_in n hn1 hn _ hmem
    obtain ⟨l1, l2, -⟩ := side_lt hk _ (tri_mem ht0) _ hs0
    rw [HLEN.out] at l1 l2
    have HMEM := Lib.hid hmem
    clear hmem hs0 ht0
    go_wp2_with fail
    refine (number_any n i (n - i) hn hi (by omega) _ _ rfl (by omega) _).mono ?_
    rintro e w' ⟨rfl, rfl⟩
    go_wp2_with fail
    refine (number_any n (i - 1) (n - (i - 1)) hn (by omega) (by omega) _ _ (by omega) (by omega) _).mono ?_
    rintro e w' ⟨rfl, rfl⟩
    go_wp2_with fail
    refine (door_any xs b off cap XN _ (rimQ n i) (rimQ n (i - 1)) _ _ rfl rfl _ l2 l1 (fun j hj => (HBW.out.cell (p := ⟨b, off + j, none⟩) (mem_lt (HC.out j hj))).trans (HC.out j hj)) HR.out).mono ?_
    rintro e w8 ⟨rfl, hb8⟩
    have hcomm : isDoor (labF xs) (rimQ n i, rimQ n (i - 1)) = isDoor (labF xs) (rimE n i) := door_comm _ _ _
    rw [hcomm]
    clear hcomm
    have hww0' := (hb8.cell (p := ⟨w2.heap.size, 0, none⟩) hlt).trans hww0
    have hww1' := (hb8.cell (p := ⟨w2.heap.size, 1, none⟩) hlt).trans hww1
    have HB8 := Lib.hid hb8
    clear hb8 hww0 hww1
    cases hdoor : isDoor (labF xs) (rimE n i) with
    | false =>
      have hng : ∀ i', i - 1 < i' → i' ≤ n → ¬ Good (smallL n) (ptsL n) (rim n) (labF xs) hk (rimE n i') := fun i' h1 h2 => by
        rcases (show i' = i ∨ i < i' by omega) with rfl | h
        · intro hg; have := good_door hg; rw [hdoor] at this; cases this
        · exact HNO.out i' h h2
      have HNG := Lib.hid hng
      clear hng hdoor
      go_wp2_with fail
      go_roundw
      case rel => exact ⟨i - 1, by omega, by go_num, HBR.out.trans (HB8.out.mono HBR.out.size), HNG.out⟩
      case measure => simp [intOf]; omega
    | true =>
      obtain ⟨T, E, K, hW, hE0, hend⟩ := rim_ends hk (rim_in n hn1 hn) HMEM.out hdoor
      have hO8 := owns_keep (w' := w8) HOR.out fun j hj => HB8.out.block j (HOR.out.lt j hj).2
      have hc8 : ∀ j, j < XN → w8.cell? ⟨b, off + j, none⟩ = some (.int .i64 (xs.getD j 0)) := fun j hj => by
        have h1 := (HBW.out.cell (p := ⟨b, off + j, none⟩) (mem_lt (HC.out j hj))).trans (HC.out j hj)
        exact (HB8.out.cell (p := ⟨b, off + j, none⟩) (mem_lt h1)).trans h1
      have hab : Ends (E 0) (rimQ n i) (rimQ n (i - 1)) := by rw [hE0]; exact Or.inr ⟨rfl, rfl⟩
      have HT := Lib.hid (fun dead he => through_any (smallL n) (ptsL n) (rim n) xs hk T E K hW dead he _ g cL b off cap XN (rimQ n i) (rimQ n (i - 1)) hab w8 hrl HLEN.out hO8 hc8 HR.out)
      have HW := Lib.hid hW
      have HE0 := Lib.hid hE0
      have HB9 := Lib.hid (HBW.out.trans (HB8.out.mono HBW.out.size))
      clear hW hE0 hO8 hc8 hab hdoor
      rcases hend with hdead | hout
      · have HDE := Lib.hid hdead
        have HT2 := Lib.hid (HT.out true (Or.inl ⟨rfl, hdead⟩))
        clear HT hdead
        go_wp2_with fail
        refine HT2.out.mono ?_
        rintro e w9 ⟨v, x, y, m, rfl, hb9, hv⟩
        obtain ⟨rfl, hown⟩ := hv rfl
        have HOWN := Lib.hid (owns_mono hown HB9.out.size)
        have HBF := Lib.hid (HB9.out.trans (hb9.mono HB9.out.size))
        clear hown hb9
        go_wp2_with fail
        go_ret2
        exact ⟨v, T, E, K, i, rfl, HBF.out, HOWN.out, hi1, hi, HW.out, HE0.out, HDE.out, HNO.out⟩
      · have hng : ∀ i', i - 1 < i' → i' ≤ n → ¬ Good (smallL n) (ptsL n) (rim n) (labF xs) hk (rimE n i') := fun i' h1 h2 => by
          rcases (show i' = i ∨ i < i' by omega) with rfl | h
          · rintro ⟨T', E', K', hW', h0, hd⟩
            exact dead_not_out hk HW.out hW' (HE0.out.trans h0.symm) hout hd
          · exact HNO.out i' h h2
        have HNG := Lib.hid hng
        have HT2 := Lib.hid (HT.out false (Or.inr ⟨rfl, hout⟩))
        clear HT hout hng
        go_wp2_with fail
        refine HT2.out.mono ?_
        rintro e w9 ⟨v, x, y, m, rfl, hb9, -⟩
        have HBF := Lib.hid ((HBR.out.trans (HB8.out.mono HBR.out.size)).trans (hb9.mono (HBR.out.trans (HB8.out.mono HBR.out.size)).size))
        clear hb9
        go_wp2_with fail
        go_roundw
        case rel => exact ⟨i - 1, by omega, by go_num, HBF.out, HNG.out⟩
        case measure => simp [intOf]; omega
end Go.Proofs.YtnijedeopnjklaaGreatDoor
