/-
  slices.Grow from nothing, slices.Concat of lists of numbers, by contracts.
-/
import Derived.Test.YtedehmknijlgpaaDoorGrp
import Derived.Lib.AppendZeros
set_option linter.unusedSimpArgs false
set_option linter.unusedVariables false
namespace Go.Proofs.YtedehmknijlgpaaDoor
open Go Go.RowKit Go.Maps

/-- an owned row of no elements yet, in new memory -/
def GrowP (t : TypeId) (w : World) (e : Ending) (w' : World) : Prop := ∃ p c, e = .returned (.slice p 0 c) ∧ Below w.heap.size w w' ∧ w'.ownsRow w.heap.size t 1 (.slice p 0 c) 0 []
theorem zero_row {w : World} {n cap : Nat} {t : TypeId} {z : Value} (hz : z.cells.size = 1) (hn : n ≤ cap) (hc : cap ≤ maxLen) :
    (w.drew.alloc (.cells (Builtin.zeroCells z.cells n ++ Builtin.zeroCells z.cells (cap - n)) t)).ownsRow w.heap.size t 1 (.slice (some ⟨w.heap.size, 0, none⟩) 0 cap) 0 [] := by
  refine ⟨rfl, Or.inr ⟨w.heap.size, cap, _, rfl, Nat.le_refl _, heap_alloc_new w.drew _, Nat.zero_le _, hc, ?_, by simp⟩⟩
  rw [Array.size_append]
  have h : ∀ m, (Builtin.zeroCells z.cells m).size = m := fun m => by
    unfold Builtin.zeroCells
    simp [hz]
  rw [h, h]
  omega
set_option maxRecDepth 100000 in
set_option maxHeartbeats 4000000 in
theorem growI_any (n : Nat) (w : World) (hn : n ≤ 1000000) : Calls Tryd.prog 46 #[.slice none 0 0, .int .i64 (n : Int)] w (GrowP 3 w) := by
  obtain ⟨i3, hi3, hy0, hy1, hy2⟩ := info_parts Tryd.info3
  unfold GrowP
  by_cases h0 : n = 0
  · subst h0
    go_enter Tryd.func46, Tryd.ntmps46
    go_wp2_with fail
    go_ret
    exact ⟨none, 0, rfl, Below.refl _ _, World.ownsRow_nil _ _ _ _⟩
  · have hr := Lib.run_append_nil_zeros w 27 3 27 3 i3 (.int .i64 0) .i64 .i64 Tryd.underlying27 Tryd.underlying3 hi3 hy0 n (by omega) (by omega) (by omega) (by rw [hy2]; omega)
    have HRUN := Lib.hid hr
    have hge := grownCap_ge w n 0 3
    have hle := grownCap_le_maxLen w n 0 3 (by unfold maxLen; omega)
    have HZ := Lib.hid (zero_row (w := w) (t := 3) (z := .int .i64 0) rfl hge hle)
    generalize grownCap w n 0 3 = cap at hge hle HRUN HZ
    unfold maxLen at hle
    have hb : Below w.heap.size w (w.drew.alloc (.cells (Builtin.zeroCells (Value.int .i64 0).cells n ++ Builtin.zeroCells (Value.int .i64 0).cells (cap - n)) 3)) := (Below.refl _ _).drew.alloc (Nat.le_refl _) _
    obtain ⟨W, hW⟩ : ∃ W, W = w.drew.alloc (.cells (Builtin.zeroCells (Value.int .i64 0).cells n ++ Builtin.zeroCells (Value.int .i64 0).cells (cap - n)) 3) := ⟨_, rfl⟩
    have HRW := HRUN.out
    have HZW := HZ.out
    rw [← hW] at HRW hb HZW
    have HRUN2 := Lib.hid HRW
    have HZ2 := Lib.hid HZW
    have HB := Lib.hid hb
    clear hr hb HRW HZW HRUN HZ hW
    go_enter Tryd.func46, Tryd.ntmps46
    go_wp2_with (at_builtin; refine Lib.wpList_append_run w rfl (.tmp 20) (.tmp 21) 27 3 rfl _ _ rfl rfl _ _ HRUN2.out ?_)
    go_ret
    exact ⟨_, cap, rfl, HB.out, HZ2.out⟩
theorem flat_step {α : Type} {L : List (List α)} {j : Nat} (h : j < L.length) : (L.take (j + 1)).flatten = (L.take j).flatten ++ L.getD j [] := by
  rw [take_snoc_getD [] L j h, List.flatten_append]
  simp
theorem flat_len {α : Type} (L : List (List α)) (j : Nat) : (L.take j).flatten.length ≤ L.flatten.length := by
  have h : L = L.take j ++ L.drop j := (List.take_append_drop j L).symm
  have h2 : L.flatten.length = (L.take j).flatten.length + (L.drop j).flatten.length := by
    rw [← List.length_append, ← List.flatten_append, ← h]
  omega
theorem flat_succ {α : Type} {L : List (List α)} {j : Nat} (h : j < L.length) : (L.take j).flatten.length + (L.getD j []).length ≤ L.flatten.length := by
  have h1 := flat_len L (j + 1)
  rw [flat_step h, List.length_append] at h1
  exact h1

/-- the numbers of lists, one behind the other, in new memory -/
def CatP (L : List (List Int)) (w : World) (e : Ending) (w' : World) : Prop := ∃ p c, e = .returned (.slice p L.flatten.length c) ∧ Below w.heap.size w w' ∧ w'.ownsRow w.heap.size 3 1 (.slice p L.flatten.length c) L.flatten.length (intVs L.flatten)
set_option maxRecDepth 100000 in
set_option maxHeartbeats 8000000 in
theorem catI_any (B : Nat) (L : List (List Int)) (v : Value) (w : World) (hv : ListsIn B w v L) (hn : L.length ≤ 1000000) (hs : L.flatten.length ≤ 1000000) :
    Calls Tryd.prog 25 #[v] w (CatP L w) := by
  obtain ⟨i3, hi3, hy0, hy1, hy2⟩ := info_parts Tryd.info3
  obtain ⟨pv, cv, hve, -⟩ := id hv
  obtain ⟨n, hLn⟩ : ∃ n, L.length = n := ⟨_, rfl⟩
  rw [hLn] at hve hn
  subst hve
  have HLN := Lib.hid hLn
  have HV := Lib.hid hv
  obtain ⟨m, hm⟩ : ∃ m, L.flatten.length = m := ⟨_, rfl⟩
  have HM := Lib.hid hm
  rw [hm] at hs
  unfold CatP
  rw [hm]
  clear hLn hv hm
  go_enter Tryd.func25, Tryd.ntmps25
  go_wp2_with fail
  go_loop [3, 5, 11] (fun s _ i => ∃ j k : Nat, j ≤ n ∧ i = .int .i64 j ∧ s = .int .i64 k ∧ Hid ((L.take j).flatten.length = k)) (fun _ _ i => n - (intOf i).toNat)
  case atStart => exact ⟨0, 0, Nat.zero_le _, rfl, rfl, rfl⟩
  case round =>
    obtain ⟨j, k, hj, rfl, rfl, HK⟩ := hrel
    have hkm : k ≤ m := by rw [← HK.out, ← HM.out]; exact flat_len L j
    by_cases hjn : j < n
    · have hjL : j < L.length := by rw [HLN.out]; exact hjn
      obtain ⟨b, off, c, hve⟩ := HV.out.form (by omega)
      rw [HLN.out] at hve
      obtain ⟨rfl, rfl⟩ : pv = some ⟨b, off, none⟩ ∧ cv = c := by cases hve; exact ⟨rfl, rfl⟩
      obtain ⟨pj, cj, hcj, hij⟩ := cells_at HV.out j hjL
      have hsc := flat_succ hjL
      have HST := Lib.hid (flat_step hjL)
      obtain ⟨nj, hnj⟩ : ∃ nj, (L.getD j []).length = nj := ⟨_, rfl⟩
      rw [hnj] at hcj hsc
      rw [HK.out, HM.out] at hsc
      have HNJ := Lib.hid hnj
      have q1 : decide (((k : Int) + (nj : Int)) < 0) = false := decide_eq_false (by omega)
      clear hve hij hnj hjL
      go_wp2_with fail
      go_round
      case rel => exact ⟨j + 1, k + nj, by omega, by go_num, by go_num, by unfold Hid; rw [HST.out, List.length_append, HK.out, HNJ.out]⟩
      case measure => simp [intOf]; omega
    · obtain rfl : n = j := by omega
      obtain rfl : k = m := by rw [← HK.out, ← HM.out, ← HLN.out, List.take_length]
      have HG := Lib.hid (growI_any k w (by omega))
      unfold GrowP at HG
      go_wp2_with fail
      refine HG.out.mono ?_
      rintro e w1 ⟨p1, c1, rfl, hb1, ho1⟩
      have HB1 := Lib.hid hb1
      have HO1 := Lib.hid ho1
      have hs1 := hb1.size
      have HV1 := Lib.hid (HV.out.below hb1 (Nat.le_refl _))
      clear hb1 ho1 HK hkm
      go_wp2_with fail
      go_loopw [6, 8, 27] (fun s _ i wr => ∃ (j q : Nat) (p : Option Addr) (c : Nat), j ≤ n ∧ i = .int .i64 j ∧ s = .slice p q c ∧ Hid ((L.take j).flatten.length = q) ∧ Below w.heap.size w wr ∧ wr.ownsRow w.heap.size 3 1 (.slice p q c) q (intVs (L.take j).flatten)) (fun _ _ i _ => n - (intOf i).toNat)
      case atStart => exact ⟨0, 0, p1, c1, Nat.zero_le _, rfl, rfl, rfl, HB1.out, HO1.out⟩
      case round =>
        obtain ⟨j, q, p, c, hj, rfl, rfl, HQ, hb, ho⟩ := hrel
        have HB := Lib.hid hb
        have HO := Lib.hid ho
        have hsr := hb.size
        have hqk : q ≤ k := by rw [← HQ.out, ← HM.out]; exact flat_len L j
        by_cases hjn : j < n
        · have hjL : j < L.length := by rw [HLN.out]; exact hjn
          have HVR := Lib.hid (HV.out.below hb (Nat.le_refl _))
          obtain ⟨b, off, c', hve⟩ := HV.out.form (by omega)
          rw [HLN.out] at hve
          obtain ⟨rfl, rfl⟩ : pv = some ⟨b, off, none⟩ ∧ cv = c' := by cases hve; exact ⟨rfl, rfl⟩
          obtain ⟨pj, cj, hcj, hij⟩ := cells_at HVR.out j hjL
          have hsc := flat_succ hjL
          have HST := Lib.hid (flat_step hjL)
          obtain ⟨nj, hnj⟩ : ∃ nj, (L.getD j []).length = nj := ⟨_, rfl⟩
          rw [hnj] at hcj hsc hij
          rw [HQ.out, HM.out] at hsc
          have HNJ := Lib.hid hnj
          have HIJ := Lib.hid hij.at
          clear hve hij hnj hjL hb ho
          go_wp2_with (at_builtin; refine wpList_app_any wr rfl (.tmp 31) (.tmp 32) 27 rfl w.heap.size 3 i3 (.int .i64 0) 8 Tryd.underlying27 hi3 hy0 hy1 hy2 rfl (.slice p q c) q (intVs (L.take j).flatten) rfl HO.out pj nj cj (intVs (L.getD j [])) rfl HIJ.out.lenE HIJ.out.noneE HIJ.out.news (intVs_one _) (by unfold maxLen; omega) (by omega) hsr _ rfl ?_; intro p2 c2 w2 ho2 hg2 hat2; have HO2 := Lib.hid ho2; have HB2 := Lib.hid (HB.out.grown hg2 hsr (fun k e => (HO.out.lt k e).1)); clear ho2 hg2 hat2)
          go_roundw
          case rel =>
            refine ⟨j + 1, q + nj, p2, c2, by omega, by go_num, rfl, by unfold Hid; rw [HST.out, List.length_append, HQ.out, HNJ.out], HB2.out, ?_⟩
            have e : intVs (L.take j).flatten ++ intVs (L.getD j []) = intVs (L.take (j + 1)).flatten := by rw [HST.out]; simp [intVs]
            rw [← e]
            exact HO2.out
          case measure => simp [intOf]; omega
        · obtain rfl : n = j := by omega
          have HF : Hid ((L.take n) = L) := by unfold Hid; rw [← HLN.out, List.take_length]
          obtain rfl : q = k := by rw [← HQ.out, ← HM.out, HF.out]
          rw [HF.out] at HO
          clear hb ho HQ
          go_wp2_with fail
          go_ret
          exact ⟨p, c, rfl, HB.out, HO.out⟩

end Go.Proofs.YtedehmknijlgpaaDoor
