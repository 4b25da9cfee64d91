/-
  A slice of strings reads as a list; wide, at, Full: what an image holds at a place.
-/
import Derived.Test.YtoheffkiohfmoaaGreatDoorRd
import Derived.Test.YtoheffkiohfmoaaGreatDoorIms
set_option linter.unusedSimpArgs false
set_option linter.unusedVariables false
namespace Go.Proofs.YtoheffkiohfmoaaGreatDoor
open Go Go.RowKit Go.Maps FL

/-- slice v of strings reads as ms -/
def StrsAt (w : World) (v : Value) (ms : List ByteArray) : Prop :=
  ∃ (p : Option Addr) (c : Nat), v = .slice p ms.length c ∧ ms.length ≤ c ∧ (p = none → c = 0) ∧
    ∀ i, i < ms.length → ∃ b off, p = some ⟨b, off, none⟩ ∧ w.cell? ⟨b, off + i, none⟩ = some (.string (rowB ms i))
theorem StrsAt.nil (w : World) : StrsAt w (.slice none 0 0) [] := ⟨none, 0, rfl, Nat.le_refl _, fun _ => rfl, fun i h => absurd h (by simp)⟩
theorem StrsAt.below {C : Nat} {w w' : World} {v : Value} {l : List ByteArray} (h : StrsAt w v l) (hb : Below C w w') (hC : w.heap.size ≤ C) : StrsAt w' v l := by
  obtain ⟨p, c, hv, hc, hn, hx⟩ := h
  refine ⟨p, c, hv, hc, hn, fun i hi => ?_⟩
  obtain ⟨b, off, e1, e2⟩ := hx i hi
  exact ⟨b, off, e1, by rw [hb.cell (Nat.lt_of_lt_of_le (mem_lt e2) hC)]; exact e2⟩
theorem StrsAt.at {w : World} {p : Option Addr} {n c : Nat} {l : List ByteArray} (h : StrsAt w (.slice p n c) l) {i : Nat} (hi : i < l.length) : ∃ b off, p = some ⟨b, off, none⟩ ∧ w.cell? ⟨b, off + i, none⟩ = some (.string (rowB l i)) := by
  obtain ⟨p', c', hv, -, -, hx⟩ := h
  obtain ⟨b, off, e1, e2⟩ := hx i hi
  cases hv
  exact ⟨b, off, e1, e2⟩

def Plain (r : Value) (w : World) (e : Ending) (w' : World) : Prop := e = .returned r ∧ w' = w
theorem wide_any (v : Value) (ms : List ByteArray) (w : World) (h : StrsAt w v ms) :
    Calls Tryz.prog 64 #[v] w (Plain (.int .i64 (wideI ms : Int)) w) := by
  obtain ⟨p, c, rfl, -⟩ := id h
  obtain ⟨n, hn⟩ : ∃ n, ms.length = n := ⟨_, rfl⟩
  have hw : wideI ms = if n = 0 then 0 else (rowB ms 0).size := by unfold wideI; rw [hn]
  unfold Plain
  by_cases h0 : n = 0
  · subst h0
    rw [if_pos rfl] at hw
    rw [hw, hn]
    go_enter Tryz.func64, Tryz.ntmps64
    go_wp2_with fail
    go_ret
    exact ⟨rfl, rfl⟩
  · rw [if_neg h0] at hw
    obtain ⟨b, off, rfl, hc⟩ := h.at (i := 0) (by omega)
    obtain ⟨s, hs⟩ : ∃ s, rowB ms 0 = s := ⟨_, rfl⟩
    rw [hs] at hw hc
    rw [hw, hn]
    have q1 : ((n : Int) == 0) = false := beq_eq_false_iff_ne.2 (by omega)
    have q2 : (n == 0) = false := beq_eq_false_iff_ne.2 h0
    have q3 : 0 < n := by omega
    rw [Nat.add_zero] at hc
    go_enter Tryz.func64, Tryz.ntmps64
    go_wp2_with fail
    go_ret
    exact ⟨rfl, rfl⟩
theorem full_no_y {ms : List ByteArray} {x y : Int} (h : ¬ (0 ≤ y ∧ y < ms.length)) : fullI ms x y = false := by
  unfold fullI
  by_cases h0 : 0 ≤ y
  · rw [decide_eq_true h0, decide_eq_false (fun h1 => h ⟨h0, h1⟩)]; rfl
  · rw [decide_eq_false h0]; rfl
theorem full_no_x {ms : List ByteArray} {x y : Int} (h : ¬ (0 ≤ x ∧ x < (rowB ms y.toNat).size)) : fullI ms x y = false := by
  unfold fullI
  by_cases h0 : 0 ≤ x
  · rw [decide_eq_false (fun h1 => h ⟨h0, h1⟩)]; simp
  · rw [decide_eq_false h0]; simp
theorem full_at {ms : List ByteArray} {x y : Nat} (hy : y < ms.length) (hx : x < (rowB ms y).size) : fullI ms (x : Int) (y : Int) = decide (((rowB ms y)[x]'hx).toNat = 35) := by
  unfold fullI byteI
  rw [decide_eq_true (show (0 : Int) ≤ (y : Int) by omega), decide_eq_true (show (y : Int) < (ms.length : Int) by omega), decide_eq_true (show (0 : Int) ≤ (x : Int) by omega)]
  rw [Int.toNat_natCast, Int.toNat_natCast, decide_eq_true (show (x : Int) < ((rowB ms y).size : Int) by omega)]
  simp only [Bool.true_and]
  have hx2 : x < (rowB ms y).data.toList.length := hx
  rw [List.getD_eq_getElem?_getD, List.getElem?_eq_getElem hx2]
  rfl
set_option maxRecDepth 100000 in
set_option maxHeartbeats 4000000 in
theorem at_any (v : Value) (ms : List ByteArray) (x y : Int) (w : World) (h : StrsAt w v ms) :
    Calls Tryz.prog 88 #[v, .int .i64 x, .int .i64 y] w (Plain (.bool (fullI ms x y)) w) := by
  obtain ⟨p, c, rfl, -⟩ := id h
  obtain ⟨n, hn⟩ : ∃ n, ms.length = n := ⟨_, rfl⟩
  obtain ⟨r, hr⟩ : ∃ r, fullI ms x y = r := ⟨_, rfl⟩
  unfold Plain
  by_cases hy0 : 0 ≤ y
  · obtain ⟨j, rfl⟩ := Int.eq_ofNat_of_zero_le hy0
    by_cases hj : j < n
    · by_cases hx0 : 0 ≤ x
      · obtain ⟨i, rfl⟩ := Int.eq_ofNat_of_zero_le hx0
        obtain ⟨b, off, rfl, hc⟩ := h.at (i := j) (by omega)
        have hfa := full_at (ms := ms) (x := i) (y := j) (by omega)
        have hfn := full_no_x (ms := ms) (x := (i : Int)) (y := (j : Int))
        rw [Int.toNat_natCast] at hfn
        obtain ⟨s, hs⟩ : ∃ s, rowB ms j = s := ⟨_, rfl⟩
        rw [hs] at hc hfn
        by_cases hi : i < s.size
        · have hfa2 := hfa (by rw [hs]; exact hi)
          simp only [hs] at hfa2
          obtain ⟨z, hz⟩ : ∃ z, (s[i]'hi).toNat = z := ⟨_, rfl⟩
          rw [hz] at hfa2
          rw [hr] at hfa2
          clear hfa hfn hs
          by_cases h35 : z = 35
          · have n1 : ((z : Int) == 35) = true := beq_iff_eq.2 (by omega)
            have n2 : (z == 35) = true := beq_iff_eq.2 h35
            rw [decide_eq_true h35] at hfa2
            subst hfa2
            rw [hr, hn]
            clear h35
            go_enter Tryz.func88, Tryz.ntmps88
            go_wp2_with fail
            go_ret
            exact ⟨rfl, rfl⟩
          · have n1 : ((z : Int) == 35) = false := beq_eq_false_iff_ne.2 (by omega)
            have n2 : (z == 35) = false := beq_eq_false_iff_ne.2 h35
            rw [decide_eq_false h35] at hfa2
            subst hfa2
            rw [hr, hn]
            clear h35
            go_enter Tryz.func88, Tryz.ntmps88
            go_wp2_with fail
            go_ret
            exact ⟨rfl, rfl⟩
        · have hf := hfn (by omega)
          rw [hf, hn]
          clear hfa hfn hs hr
          go_enter Tryz.func88, Tryz.ntmps88
          go_wp2_with fail
          go_ret
          exact ⟨rfl, rfl⟩
      · rw [full_no_x (fun h => hx0 h.1), hn]
        clear hr
        go_enter Tryz.func88, Tryz.ntmps88
        go_wp2_with fail
        go_ret
        exact ⟨rfl, rfl⟩
    · rw [full_no_y (fun h => hj (by omega)), hn]
      clear hr
      go_enter Tryz.func88, Tryz.ntmps88
      go_wp2_with fail
      go_ret
      exact ⟨rfl, rfl⟩
  · rw [full_no_y (fun h => hy0 h.1), hn]
    clear hr
    go_enter Tryz.func88, Tryz.ntmps88
    go_wp2_with fail
    go_ret
    exact ⟨rfl, rfl⟩
set_option maxRecDepth 100000 in
set_option maxHeartbeats 4000000 in
theorem fullR_any (v : Value) (ms : List ByteArray) (x y : Int) (w : World) (h : StrsAt w v ms) :
    Calls Tryz.prog 66 #[v, .int .i64 x, .int .i64 y] w (Plain (.bool (fullI ms x y)) w) := by
  obtain ⟨p, c, rfl, -⟩ := id h
  obtain ⟨n, hn⟩ : ∃ n, ms.length = n := ⟨_, rfl⟩
  obtain ⟨r, hr⟩ : ∃ r, fullI ms x y = r := ⟨_, rfl⟩
  unfold Plain
  by_cases hy0 : 0 ≤ y
  · obtain ⟨j, rfl⟩ := Int.eq_ofNat_of_zero_le hy0
    by_cases hj : j < n
    · by_cases hx0 : 0 ≤ x
      · obtain ⟨i, rfl⟩ := Int.eq_ofNat_of_zero_le hx0
        obtain ⟨b, off, rfl, hc⟩ := h.at (i := j) (by omega)
        have hfa := full_at (ms := ms) (x := i) (y := j) (by omega)
        have hfn := full_no_x (ms := ms) (x := (i : Int)) (y := (j : Int))
        rw [Int.toNat_natCast] at hfn
        obtain ⟨s, hs⟩ : ∃ s, rowB ms j = s := ⟨_, rfl⟩
        rw [hs] at hc hfn
        by_cases hi : i < s.size
        · have hfa2 := hfa (by rw [hs]; exact hi)
          simp only [hs] at hfa2
          obtain ⟨z, hz⟩ : ∃ z, (s[i]'hi).toNat = z := ⟨_, rfl⟩
          rw [hz] at hfa2
          rw [hr] at hfa2
          clear hfa hfn hs
          by_cases h35 : z = 35
          · have n1 : ((z : Int) == 35) = true := beq_iff_eq.2 (by omega)
            have n2 : (z == 35) = true := beq_iff_eq.2 h35
            rw [decide_eq_true h35] at hfa2
            subst hfa2
            rw [hr, hn]
            clear h35
            go_enter Tryz.func66, Tryz.ntmps66
            go_wp2_with fail
            go_ret
            exact ⟨rfl, rfl⟩
          · have n1 : ((z : Int) == 35) = false := beq_eq_false_iff_ne.2 (by omega)
            have n2 : (z == 35) = false := beq_eq_false_iff_ne.2 h35
            rw [decide_eq_false h35] at hfa2
            subst hfa2
            rw [hr, hn]
            clear h35
            go_enter Tryz.func66, Tryz.ntmps66
            go_wp2_with fail
            go_ret
            exact ⟨rfl, rfl⟩
        · have hf := hfn (by omega)
          rw [hf, hn]
          clear hfa hfn hs hr
          go_enter Tryz.func66, Tryz.ntmps66
          go_wp2_with fail
          go_ret
          exact ⟨rfl, rfl⟩
      · rw [full_no_x (fun h => hx0 h.1), hn]
        clear hr
        go_enter Tryz.func66, Tryz.ntmps66
        go_wp2_with fail
        go_ret
        exact ⟨rfl, rfl⟩
    · rw [full_no_y (fun h => hj (by omega)), hn]
      clear hr
      go_enter Tryz.func66, Tryz.ntmps66
      go_wp2_with fail
      go_ret
      exact ⟨rfl, rfl⟩
  · rw [full_no_y (fun h => hy0 h.1), hn]
    clear hr
    go_enter Tryz.func66, Tryz.ntmps66
    go_wp2_with fail
    go_ret
    exact ⟨rfl, rfl⟩
end Go.Proofs.YtoheffkiohfmoaaGreatDoor
