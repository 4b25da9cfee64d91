/-
  A queue of pairs: a slice that is eaten from its head and appended to.
-/
import Derived.Test.YtedehmknijlgpaaDoorCosB
import Derived.ArgAppend
set_option linter.unusedSimpArgs false
set_option linter.unusedVariables false
namespace Go.Proofs.YtedehmknijlgpaaDoor
open Go Go.RowKit Go.Maps

/-- a queue: where it has room it lies in a block of its own -/
def QueH (O : Nat) (w : World) (v : Value) (Q : List (Nat × Nat)) : Prop :=
  ∃ (ao : Option Addr) (cap : Nat), v = .slice ao Q.length cap ∧ Q.length ≤ cap ∧ cap ≤ maxLen ∧ (ao = none → cap = 0) ∧
    (0 < cap → ∃ g off cur, ao = some ⟨g, off, none⟩ ∧ O ≤ g ∧ w.heap[g]? = some (.cells cur 91 (0, 0)) ∧ off + cap * 2 ≤ cur.size ∧
      ∀ i, i < Q.length → cur[off + i * 2]? = some (.int .i64 (((Q.getD i (0, 0)).1 : Nat) : Int)) ∧ cur[off + i * 2 + 1]? = some (.int .i64 (((Q.getD i (0, 0)).2 : Nat) : Int)))
theorem QueH.keep {O : Nat} {w w' : World} {v : Value} {Q : List (Nat × Nat)} (h : QueH O w v Q) (hk : ∀ g cur, O ≤ g → w.heap[g]? = some (.cells cur 91 (0, 0)) → w'.heap[g]? = some (.cells cur 91 (0, 0))) : QueH O w' v Q := by
  obtain ⟨ao, cap, h1, h2, h3, h4, h5⟩ := h
  refine ⟨ao, cap, h1, h2, h3, h4, fun hp => ?_⟩
  obtain ⟨g, off, cur, g1, g2, g3, g4, g5⟩ := h5 hp
  exact ⟨g, off, cur, g1, g2, hk g cur g2 g3, g4, g5⟩
/-- the head in memory -/
theorem QueH.head {O : Nat} {w : World} {v : Value} {p : Nat × Nat} {Q : List (Nat × Nat)} (h : QueH O w v (p :: Q)) :
    ∃ g off cap, v = .slice (some ⟨g, off, none⟩) (Q.length + 1) cap ∧ Q.length + 1 ≤ cap ∧ cap ≤ maxLen ∧ w.cell? ⟨g, off, none⟩ = some (.int .i64 (p.1 : Int)) ∧ w.cell? ⟨g, off + 1, none⟩ = some (.int .i64 (p.2 : Int)) := by
  obtain ⟨ao, cap, h1, h2, h3, h4, h5⟩ := h
  simp only [List.length_cons] at h1 h2
  obtain ⟨g, off, cur, rfl, g2, g3, g4, g5⟩ := h5 (by omega)
  obtain ⟨e1, e2⟩ := g5 0 (by simp)
  refine ⟨g, off, cap, h1, h2, h3, ?_, ?_⟩
  · simp only [World.cell?, g3]
    simpa using e1
  · simp only [World.cell?, g3]
    simpa using e2
/-- the rest of a queue, where it has room -/
theorem QueH.tail {O : Nat} {w : World} {g off cap : Nat} {p : Nat × Nat} {Q : List (Nat × Nat)} (h : QueH O w (.slice (some ⟨g, off, none⟩) (Q.length + 1) cap) (p :: Q)) : QueH O w (.slice (some ⟨g, off + 2, none⟩) Q.length (cap - 1)) Q := by
  obtain ⟨ao, cap', h1, h2, h3, h4, h5⟩ := h
  simp only [List.length_cons] at h1 h2
  obtain ⟨rfl, rfl⟩ : ao = some ⟨g, off, none⟩ ∧ cap' = cap := by cases h1; exact ⟨rfl, rfl⟩
  obtain ⟨g', off', cur, e1, g2, g3, g4, g5⟩ := h5 (by omega)
  obtain ⟨rfl, rfl⟩ : g = g' ∧ off = off' := by cases e1; exact ⟨rfl, rfl⟩
  refine ⟨_, cap' - 1, rfl, by omega, by omega, (fun e => by cases e), fun hp => ⟨g, off + 2, cur, rfl, g2, g3, by omega, fun i hi => ?_⟩⟩
  have := g5 (i + 1) (by simp; omega)
  rw [show off + (i + 1) * 2 = off + 2 + i * 2 by omega, show (i + 1) = i + 1 from rfl] at this
  simpa using this
theorem QueH.empty {O : Nat} {w : World} (ao : Option Addr) : QueH O w (.slice ao 0 0) [] := ⟨ao, 0, rfl, Nat.le_refl _, Nat.zero_le _, fun _ => rfl, fun h => absurd h (by omega)⟩
/-- a queue of one pair, as it is made -/
theorem QueH.one {O : Nat} {w : World} (a b : Nat) (hO : O ≤ w.heap.size) : QueH O (w.alloc (.cells #[.int .i64 (a : Int), .int .i64 (b : Int)] 91)) (.slice (some ⟨w.heap.size, 0, none⟩) 1 1) [(a, b)] :=
  ⟨_, 1, rfl, Nat.le_refl _, by unfold maxLen; decide, (fun e => by cases e), fun _ => ⟨w.heap.size, 0, _, rfl, hO, heap_alloc_new w _, by simp, fun i hi => by
    obtain rfl : i = 0 := by simp at hi; omega
    simp⟩⟩

theorem setCell_at {w : World} {g o : Nat} {cur : Array Value} {t : TypeId} {fr : Nat × Nat} {v : Value} (h : w.heap[g]? = some (.cells cur t fr)) : (w.setCell ⟨g, o, none⟩ v).heap[g]? = some (.cells (cur.setIfInBounds o v) t fr) := by
  simp [World.setCell, Array.getElem?_modify, h]
theorem setCell_off {w : World} {g o k : Nat} {v : Value} (h : k ≠ g) : (w.setCell ⟨g, o, none⟩ v).heap[k]? = w.heap[k]? := by
  simp only [World.setCell, Array.getElem?_modify]
  rw [if_neg (fun e => h e.symm)]
/-- one pair more -/
theorem wpList_append_queue {P : Program} (w : World) {ops : Array Oper} {rest : List Oper} {o : Oper} {a : Act} {Qx : Exit → Act → World → Prop}
    (hgd : o.guard = none) (s x : Operand) (hop : o.op = Op.call { callee := Callee.builtin Builtin.append, args := #[s, x], argTypes := #[92, 92] })
    (i : TypeInfo) (z : Value) (h1 : P.underlying 92 = some (.slice 91)) (h2 : P.info? 91 = some i) (h3 : i.zero = some z) (h4 : i.size = 2) (h5 : i.bytes = 16) (h6 : z.cells.size = 2)
    (O : Nat) (v : Value) (Q : List (Nat × Nat)) (hq : QueH O w v Q) (hs : a.eval s = v)
    (ad : Addr) (c : Nat) (p q : Nat) (hx : a.eval x = .slice (some ad) 1 c) (hn0 : w.cell? (ad.add 0) = some (.int .i64 (p : Int))) (hn1 : w.cell? (ad.add 1) = some (.int .i64 (q : Int)))
    (hlen : Q.length ≤ 1000000) (hO : O ≤ w.heap.size)
    (hK : ∀ v' w', QueH O w' v' (Q ++ [(p, q)]) → w.heap.size ≤ w'.heap.size → w'.os = w.os → w'.tape = w.tape → w'.output = w.output → (∀ k, k < w.heap.size → (∀ cur, w.heap[k]? ≠ some (.cells cur 91 (0, 0)) ∨ k < O) → w'.heap[k]? = w.heap[k]?) → wpList P ops Qx rest (a.put o.dst v') w') :
    wpList P ops Qx (o :: rest) a w := by
  obtain ⟨ao, cap, rfl, g2, g3, g4, g5⟩ := hq
  have hnews : ∀ j u, [Value.int .i64 (p : Int), .int .i64 (q : Int)][j]? = some u → w.cell? (ad.add j) = some u := fun j u hj => by
    match j, hj with
    | 0, hj => simp at hj; rw [← hj]; exact hn0
    | 1, hj => simp at hj; rw [← hj]; exact hn1
    | j + 2, hj => simp at hj
  have hone : ∀ u ∈ [Value.int .i64 (p : Int), .int .i64 (q : Int)], u.oneCell' = true := fun u hu => by
    simp at hu
    rcases hu with rfl | rfl <;> rfl
  have hml : Q.length + 1 ≤ maxLen := by unfold maxLen; omega
  -- what a new row holds
  have fresh : ∀ (olds : List Value), olds.length = Q.length * 2 → (∀ i, i < Q.length → olds[i * 2]? = some (.int .i64 (((Q.getD i (0, 0)).1 : Nat) : Int)) ∧ olds[i * 2 + 1]? = some (.int .i64 (((Q.getD i (0, 0)).2 : Nat) : Int))) →
      ∀ v' w', w'.ownsRow w.heap.size 91 2 v' (Q.length + 1) (olds ++ [Value.int .i64 (p : Int), .int .i64 (q : Int)]) → w.grownBy w' none → wpList P ops Qx rest (a.put o.dst v') w' := by
    intro olds ho he v' w' hown hgr
    refine hK v' w' ?_ hgr.size hgr.os hgr.tape hgr.output (fun k hk _ => hgr.block k hk (by simp))
    rcases hown.2 with ⟨rfl, h0⟩ | ⟨g, cap', cur, rfl, hb, hk, hle, hmx, hsz, htk⟩
    · omega
    · refine ⟨_, cap', by simp, by simp; omega, hmx, (fun e => by cases e), fun _ => ⟨g, 0, cur, rfl, Nat.le_trans hO hb, hk, by omega, fun i hi => ?_⟩⟩
      simp only [List.length_append, List.length_cons, List.length_nil] at hi
      have hcur : ∀ j, j < (Q.length + 1) * 2 → cur[j]? = (olds ++ [Value.int .i64 (p : Int), .int .i64 (q : Int)])[j]? := fun j hj => by
        rw [← htk, List.getElem?_take, if_pos hj]
        simp
      rw [Nat.zero_add, hcur _ (by omega), hcur _ (by omega)]
      rcases Nat.lt_or_ge i Q.length with hlt | hge
      · have e0 : (Q ++ [(p, q)]).getD i (0, 0) = Q.getD i (0, 0) := by rw [List.getD_eq_getElem?_getD, List.getD_eq_getElem?_getD, List.getElem?_append_left hlt]
        rw [e0, List.getElem?_append_left (by omega), List.getElem?_append_left (by omega)]
        exact he i hlt
      · obtain rfl : i = Q.length := by omega
        have e0 : (Q ++ [(p, q)]).getD Q.length (0, 0) = (p, q) := by simp [List.getD_eq_getElem?_getD]
        rw [e0, List.getElem?_append_right (by omega), List.getElem?_append_right (by omega), ho]
        simp
  by_cases hcp : 0 < cap
  · obtain ⟨g, off, cur, rfl, e2, e3, e4, e5⟩ := g5 hcp
    have holds : ∀ j u, ((cur.toList.drop off).take (Q.length * 2))[j]? = some u → w.cell? ⟨g, off + j, none⟩ = some u := fun j u hj => by
      rw [List.getElem?_take] at hj
      split at hj
      · rw [List.getElem?_drop] at hj
        simp only [World.cell?, e3]
        simpa using hj
      · cases hj
    have hlo : ((cur.toList.drop off).take (Q.length * 2)).length = Q.length * 2 := by simp; omega
    refine wpList_append_arg w hgd s x 92 hop 91 i z 2 16 h1 h2 h3 h4 h5 h6 (by decide) g off Q.length cap _ hs hlo holds ad 1 c [.int .i64 (p : Int), .int .i64 (q : Int)] hx rfl hnews hone ?_ hml (by omega) ?_ ?_
    · intro hr j hj
      simp only [List.length_cons, List.length_nil] at hj
      have hin : off + Q.length * 2 + j < cur.size := by omega
      refine ⟨?_, by simp [World.frozen?, e3]⟩
      simp only [World.cell?, e3]
      simp [hin]
    · intro hr
      have hg : g < w.heap.size := (Array.getElem?_eq_some_iff.1 e3).1
      have hset : w.setCells g (off + Q.length * 2) [.int .i64 (p : Int), .int .i64 (q : Int)] = (w.setCell ⟨g, off + Q.length * 2, none⟩ (.int .i64 (p : Int))).setCell ⟨g, off + Q.length * 2 + 1, none⟩ (.int .i64 (q : Int)) := rfl
      rw [hset]
      have hb1 : ((w.setCell ⟨g, off + Q.length * 2, none⟩ (.int .i64 (p : Int))).setCell ⟨g, off + Q.length * 2 + 1, none⟩ (.int .i64 (q : Int))).heap[g]? = some (.cells ((cur.setIfInBounds (off + Q.length * 2) (.int .i64 (p : Int))).setIfInBounds (off + Q.length * 2 + 1) (.int .i64 (q : Int))) 91 (0, 0)) := by
        exact setCell_at (setCell_at e3)
      have hq' : QueH O ((w.setCell ⟨g, off + Q.length * 2, none⟩ (.int .i64 (p : Int))).setCell ⟨g, off + Q.length * 2 + 1, none⟩ (.int .i64 (q : Int))) (.slice (some ⟨g, off, none⟩) (Q.length + 1) cap) (Q ++ [(p, q)]) := by
        refine ⟨_, cap, by simp, by simp; omega, g3, (fun e => by cases e), fun _ => ⟨g, off, _, rfl, e2, hb1, by simp; omega, fun i hi => ?_⟩⟩
        simp only [List.length_append, List.length_cons, List.length_nil] at hi
        rcases Nat.lt_or_ge i Q.length with hlt | hge
        · have e0 : (Q ++ [(p, q)]).getD i (0, 0) = Q.getD i (0, 0) := by rw [List.getD_eq_getElem?_getD, List.getD_eq_getElem?_getD, List.getElem?_append_left hlt]
          rw [e0, Array.getElem?_setIfInBounds_ne (by omega), Array.getElem?_setIfInBounds_ne (by omega), Array.getElem?_setIfInBounds_ne (by omega), Array.getElem?_setIfInBounds_ne (by omega)]
          exact e5 i hlt
        · obtain rfl : i = Q.length := by omega
          have e0 : (Q ++ [(p, q)]).getD Q.length (0, 0) = (p, q) := by simp [List.getD_eq_getElem?_getD]
          rw [e0, Array.getElem?_setIfInBounds_ne (by omega), Array.getElem?_setIfInBounds_self_of_lt (by omega), Array.getElem?_setIfInBounds_self_of_lt (by simp; omega)]
          exact ⟨rfl, rfl⟩
      refine hK _ _ hq' (by simp) rfl rfl rfl fun k hk ho => ?_
      have hkg : k ≠ g := fun e => by
        subst e
        rcases ho cur with h7 | h7
        · exact h7 e3
        · omega
      rw [setCell_off hkg, setCell_off hkg]
    · intro _ v' w' hown hgr
      refine fresh _ hlo (fun i hi => ?_) v' w' hown hgr
      obtain ⟨f1, f2⟩ := e5 i hi
      rw [List.getElem?_take, List.getElem?_take, if_pos (by omega), if_pos (by omega), List.getElem?_drop, List.getElem?_drop]
      exact ⟨by simpa using f1, by rw [← Nat.add_assoc]; simpa using f2⟩
  · obtain rfl : cap = 0 := by omega
    obtain rfl : Q = [] := List.length_eq_zero_iff.1 (by omega)
    refine wpList_append_grows w hgd s x 92 hop 91 i z 2 16 h1 h2 h3 h4 h5 h6 (by decide) ao 0 0 [] hs (fun _ => ⟨rfl, rfl⟩) rfl (fun b _ j u hj => by simp at hj) ad 1 c [.int .i64 (p : Int), .int .i64 (q : Int)] hx rfl hnews hone (by omega) (by unfold maxLen; decide) (by decide) ?_
    intro v' w' hown hgr
    exact fresh [] rfl (fun i hi => absurd hi (by simp)) v' w' hown hgr
end Go.Proofs.YtedehmknijlgpaaDoor
