/-
  Cosets in memory: a new row, a new number, the mark: what is in memory then.
-/
import Derived.Test.YtedehmknijlgpaaDoorRepD
set_option linter.unusedVariables false
namespace Go.Proofs.YtedehmknijlgpaaDoor
open Go Go.RowKit Go.Maps

theorem intO_negs {O W g : Nat} {w : World} (hO : O ≤ g) (hW : W ≤ 1000) (h : w.heap[g]? = some (.cells (negs W W).toArray 3 (0, 0))) : IntO O w (.slice (some ⟨g, 0, none⟩) W W) (List.replicate W (-1)) := by
  unfold IntO
  rw [List.length_replicate]
  refine ⟨by simp [intVs], Or.inr ⟨g, W, _, rfl, hO, h, Nat.le_refl _, by unfold maxLen; omega, by simp [negs], ?_⟩⟩
  unfold negs intVs
  simp
theorem HasH.sliceOf {O : Nat} {w : World} {v : Value} {T : List (List Int)} {hs : List Value} (h : HasH O w v T hs) : ∃ p c, v = .slice p T.length c := by
  rcases h.1.2 with ⟨rfl, h0⟩ | ⟨g, cap, cur, rfl, hb, -⟩
  · exact ⟨none, 0, by rw [h0]⟩
  · exact ⟨_, _, rfl⟩
theorem grown_cell (w : World) (b i : Nat) (v : Value) : w.grownBy (w.setCell ⟨b, i, none⟩ v) (some b) :=
  ⟨rfl, rfl, rfl, Nat.le_of_eq (by simp), fun k _ hn => Below.heap_setCell w _ v k (fun e => hn (by rw [e]))⟩
theorem three_set {w : World} {b : Nat} {x y z u : Value} {t : TypeId} (h : w.heap[b]? = some (.cells #[x, y, z] t (0, 0))) :
    (w.setCell ⟨b, 0, none⟩ u).heap[b]? = some (.cells #[u, y, z] t (0, 0)) ∧ (w.setCell ⟨b, 1, none⟩ u).heap[b]? = some (.cells #[x, u, z] t (0, 0)) ∧ (w.setCell ⟨b, 2, none⟩ u).heap[b]? = some (.cells #[x, y, u] t (0, 0)) := by
  have hb := (Array.getElem?_eq_some_iff.1 h).1
  have he := (Array.getElem?_eq_some_iff.1 h).2
  refine ⟨?_, ?_, ?_⟩ <;> simp [World.setCell, Array.getElem_modify, hb, he]
theorem HasH.at_cell {O b i : Nat} {w : World} {v u : Value} {T : List (List Int)} {hs : List Value} (h : HasH O w v T hs) (hb : b < O) : HasH O (w.setCell ⟨b, i, none⟩ u) v T hs :=
  h.far (grown_cell w b i u) fun k hk => by
    obtain rfl := Option.some.inj hk
    exact ⟨fun e => by have := (h.1.lt _ e).1; omega, fun j hj e => by have := ((h.2.2.1 j hj).lt _ e).1; omega⟩
theorem IntO.at_cell {O b i : Nat} {w : World} {v u : Value} {xs : List Int} (h : IntO O w v xs) (hb : b < O) : IntO O (w.setCell ⟨b, i, none⟩ u) v xs :=
  h.far (grown_cell w b i u) fun k hk => by
    obtain rfl := Option.some.inj hk
    exact fun e => by have := (h.lt _ e).1; omega
theorem Fr.at_cell (O cb i : Nat) (w : World) (u : Value) : Fr O cb w (w.setCell ⟨cb, i, none⟩ u) :=
  ⟨rfl, rfl, rfl, Nat.le_of_eq (by simp), fun k _ hn => Below.heap_setCell w _ u k hn⟩
/-- the mark -/
theorem CosH.setF {O cb : Nat} {w : World} {m : TC.St} {vR vS : Value} {hs : List Value} (h : CosH O cb w m vR vS hs) (f : Bool) :
    CosH O cb (w.setCell ⟨cb, 2, none⟩ (.bool f)) ⟨m.R, m.S, f⟩ vR vS hs ∧ Fr O cb w (w.setCell ⟨cb, 2, none⟩ (.bool f)) :=
  ⟨⟨(three_set h.blk).2.2, h.rows.at_cell h.low, h.same.at_cell h.low, h.low, h.apart⟩, Fr.at_cell ..⟩
/-- a new row -/
theorem CosH.pushR {O cb : Nat} {w w' : World} {m : TC.St} {vR vS v' u : Value} {hs : List Value} {xs : List Int} (h : CosH O cb w m vR vS hs) (hu : IntO O w u xs) (hd : ∀ i, i < m.R.length → ∀ k, (hs.getD i .nilIface).ownBlock = some k → u.ownBlock ≠ some k)
    (hd2 : ∀ k, u.ownBlock = some k → vS.ownBlock ≠ some k) (h' : w'.ownsRow O 27 1 v' (m.R.length + 1) (hs ++ [u])) (hg : w.grownBy w' vR.ownBlock) (hO : O ≤ w.heap.size) :
    w'.cell? ⟨cb, 0, none⟩ = some vR ∧ w'.frozen? ⟨cb, 0, none⟩ = false ∧ CosH O cb (w'.setCell ⟨cb, 0, none⟩ v') ⟨m.R ++ [xs], m.S, m.full⟩ v' vS (hs ++ [u]) ∧ Fr O cb w (w'.setCell ⟨cb, 0, none⟩ v') := by
  have hlow := h.low
  have hl := h.rows.2.1
  have hcb := (Array.getElem?_eq_some_iff.1 h.blk).1
  have hne : some cb ≠ vR.ownBlock := fun e => by have := (h.rows.1.lt _ e.symm).1; omega
  have hb : w'.heap[cb]? = some (.cells #[vR, vS, .bool m.full] 58 (0, 0)) := (hg.block cb hcb hne).trans h.blk
  have hr := h.rows.push h' hg hu hd
  have hs' : IntO O w' vS (natI m.S) := h.same.far hg fun k hk e => owns_apart h.rows.1 h.same (by decide) k hk e
  refine ⟨(three_at hb).1, (three_at hb).2.2.2.1, ⟨(three_set hb).1, hr.at_cell hlow, hs'.at_cell hlow, hlow, fun i hi k hk => ?_⟩, (Fr.of_grown hg hO fun k hk => Or.inl (h.rows.1.lt _ hk).1).trans (Fr.at_cell ..)⟩
  rw [List.length_append, List.length_singleton] at hi
  rcases (show i < m.R.length ∨ i = m.R.length by omega) with hlt | rfl
  · rw [show (hs ++ [u]).getD i .nilIface = hs.getD i .nilIface by simp [List.getD_eq_getElem?_getD, List.getElem?_append_left (show i < hs.length by omega)]] at hk
    exact h.apart i hlt k hk
  · rw [show (hs ++ [u]).getD m.R.length .nilIface = u by rw [← hl]; simp [List.getD_eq_getElem?_getD]] at hk
    exact hd2 k hk
/-- a new number -/
theorem CosH.pushS {O cb g n c x : Nat} {w w' : World} {m : TC.St} {vR vS : Value} {hs : List Value} (h : CosH O cb w m vR vS hs)
    (h' : w'.ownsRow O 3 1 (.slice (some ⟨g, 0, none⟩) n c) n (intVs (natI m.S) ++ [.int .i64 (x : Int)])) (hn : n = m.S.length + 1) (hg : w.grownBy w' vS.ownBlock) (hat : vS.ownBlock = some g ∨ w.heap.size ≤ g) (hO : O ≤ w.heap.size) :
    w'.cell? ⟨cb, 1, none⟩ = some vS ∧ w'.frozen? ⟨cb, 1, none⟩ = false ∧ CosH O cb (w'.setCell ⟨cb, 1, none⟩ (.slice (some ⟨g, 0, none⟩) n c)) ⟨m.R, m.S ++ [x], m.full⟩ vR (.slice (some ⟨g, 0, none⟩) n c) hs ∧ Fr O cb w (w'.setCell ⟨cb, 1, none⟩ (.slice (some ⟨g, 0, none⟩) n c)) := by
  have hlow := h.low
  have hcb := (Array.getElem?_eq_some_iff.1 h.blk).1
  have hne : some cb ≠ vS.ownBlock := fun e => by have := (h.same.lt _ e.symm).1; omega
  have hb : w'.heap[cb]? = some (.cells #[vR, vS, .bool m.full] 58 (0, 0)) := (hg.block cb hcb hne).trans h.blk
  have hr : HasH O w' vR m.R hs := h.rows.far hg fun k hk => ⟨fun e => owns_apart h.rows.1 h.same (by decide) k e hk, fun i hi e => h.apart i hi k e hk⟩
  have hs' : IntO O w' (.slice (some ⟨g, 0, none⟩) n c) (natI (m.S ++ [x])) := by
    unfold IntO
    rw [natI_len, List.length_append, List.length_singleton, ← hn, ← natI_app]
    simpa [intVs] using h'
  refine ⟨(three_at hb).2.1, (three_at hb).2.2.2.2.1, ⟨(three_set hb).2.1, hr.at_cell hlow, hs'.at_cell hlow, hlow, fun i hi k hk e => ?_⟩, (Fr.of_grown hg hO fun k hk => Or.inl (h.same.lt _ hk).1).trans (Fr.at_cell ..)⟩
  obtain rfl := Option.some.inj e
  rcases hat with h1 | h1
  · exact h.apart i hi g hk h1
  · have h2 := ((h.rows.2.2.1 i hi).lt _ hk).2
    exact absurd (show g < w.heap.size from h2) (by omega)
end Go.Proofs.YtedehmknijlgpaaDoor
