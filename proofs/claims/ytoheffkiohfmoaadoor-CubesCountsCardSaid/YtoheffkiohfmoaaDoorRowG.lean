/-
  Rows of int rows in place: a store into a row, a new row.
-/
import Derived.Test.YtoheffkiohfmoaaDoorRowH
set_option linter.unusedVariables false
namespace Go.Proofs.YtoheffkiohfmoaaDoor
open Go Go.RowKit Go.Maps

theorem intVs_set (xs : List Int) (k : Nat) (x : Int) : (intVs xs).set k (.int .i64 x) = intVs (xs.set k x) := by unfold intVs; rw [List.map_set]
theorem IntO.store {O : Nat} {w : World} {g n c : Nat} {xs : List Int} (h : IntO O w (.slice (some ⟨g, 0, none⟩) n c) xs) (k : Nat) (x : Int) : IntO O (w.setCell ⟨g, k, none⟩ (.int .i64 x)) (.slice (some ⟨g, 0, none⟩) n c) (xs.set k x) ∧ w.grownBy (w.setCell ⟨g, k, none⟩ (.int .i64 x)) (some g) := by
  have hn : n = xs.length := by
    rcases h.2 with ⟨e, _⟩ | ⟨g', cap', cur, e, _⟩
    · cases e
    · cases e; rfl
  subst hn
  obtain ⟨h1, h2⟩ := World.ownsRow.stored h k (.int .i64 x)
  exact ⟨by unfold IntO; rw [List.length_set, ← intVs_set]; exact h1, h2⟩
theorem IntO.cellsAt {O : Nat} {w : World} {g n c : Nat} {xs : List Int} (h : IntO O w (.slice (some ⟨g, 0, none⟩) n c) xs) (k : Nat) (hk : k < xs.length) : w.cell? ⟨g, k, none⟩ = some (.int .i64 (xs.getD k 0)) := by
  have := h.cells (g := g) rfl k (.int .i64 (xs.getD k 0)) (by unfold intVs; simp [List.getD_eq_getElem?_getD, hk])
  rwa [add_zero] at this
theorem IntO.form {O : Nat} {w : World} {v : Value} {xs : List Int} (h : IntO O w v xs) (hp : 0 < xs.length) : ∃ g c, v = .slice (some ⟨g, 0, none⟩) xs.length c ∧ O ≤ g ∧ ∃ cur : Array Value, w.heap[g]? = some (.cells cur 3 (0, 0)) := by
  rcases h.2 with ⟨rfl, h0⟩ | ⟨g, cap, cur, rfl, hb, hk, -⟩
  · omega
  · exact ⟨g, cap, rfl, hb, cur, hk⟩
/-- an int stored into row i -/
theorem HasH.put {O g n c k : Nat} {w : World} {v : Value} {T : List (List Int)} {hs : List Value} {i : Nat} (h : HasH O w v T hs) (hi : i < T.length) (he : hs.getD i .nilIface = .slice (some ⟨g, 0, none⟩) n c) (x : Int) :
    HasH O (w.setCell ⟨g, k, none⟩ (.int .i64 x)) v (T.set i ((T.getD i []).set k x)) hs ∧ w.grownBy (w.setCell ⟨g, k, none⟩ (.int .i64 x)) (some g) := by
  have h1 := h.2.2.1 i hi
  rw [he] at h1
  obtain ⟨h2, hg⟩ := h1.store k x
  refine ⟨⟨?_, by rw [List.length_set]; exact h.2.1, fun j hj => ?_, fun j q hj hq => ?_⟩, hg⟩
  · rw [List.length_set]
    refine owns_keep h.1 fun b hb => hg.block b (h.1.lt b hb).2 fun e => ?_
    obtain rfl := Option.some.inj e
    exact owns_apart h1 h.1 (by decide) b rfl hb
  · rw [List.length_set] at hj
    by_cases hij : i = j
    · subst hij
      rw [getD_setS hi, he]; exact h2
    · rw [getD_setO hij]
      exact (h.2.2.1 j hj).far hg fun b hb e => by
        obtain rfl := Option.some.inj hb
        exact h.2.2.2 i j hi hj hij g (by rw [he]; rfl) e
  · rw [List.length_set] at hj hq
    exact h.2.2.2 j q hj hq
/-- a new row, behind append's law -/
theorem HasH.push {O : Nat} {w w' : World} {v v' u : Value} {T : List (List Int)} {xs : List Int} {hs : List Value} (h : HasH O w v T hs) (h' : w'.ownsRow O 79 1 v' (T.length + 1) (hs ++ [u])) (hg : w.grownBy w' v.ownBlock)
    (hu : IntO O w u xs) (hd : ∀ i, i < T.length → ∀ k, (hs.getD i .nilIface).ownBlock = some k → u.ownBlock ≠ some k) : HasH O w' v' (T ++ [xs]) (hs ++ [u]) := by
  have hl := h.2.1
  have e0 : ∀ i, i < T.length → (hs ++ [u]).getD i .nilIface = hs.getD i .nilIface := fun i hi => by simp [List.getD_eq_getElem?_getD, List.getElem?_append_left (show i < hs.length by omega)]
  have e1 : (hs ++ [u]).getD T.length .nilIface = u := by rw [← hl]; simp [List.getD_eq_getElem?_getD]
  have t0 : ∀ i, i < T.length → (T ++ [xs]).getD i [] = T.getD i [] := fun i hi => by simp [List.getD_eq_getElem?_getD, List.getElem?_append_left hi]
  have t1 : (T ++ [xs]).getD T.length [] = xs := by simp [List.getD_eq_getElem?_getD]
  refine ⟨by simpa using h', by simp [hl], fun i hi => ?_, fun i j hi hj hij k hk => ?_⟩
  · rcases (show i < T.length ∨ i = T.length by simp at hi; omega) with hlt | rfl
    · rw [e0 i hlt, t0 i hlt]
      exact (h.2.2.1 i hlt).far hg fun k hk e => owns_apart (h.2.2.1 i hlt) h.1 (by decide) k e hk
    · rw [e1, t1]
      exact hu.far hg fun k hk e => owns_apart hu h.1 (by decide) k e hk
  · simp only [List.length_append, List.length_cons, List.length_nil] at hi hj
    rcases (show i < T.length ∨ i = T.length by omega) with hlt | rfl
    · rw [e0 i hlt] at hk
      rcases (show j < T.length ∨ j = T.length by omega) with hlt2 | rfl
      · rw [e0 j hlt2]
        exact h.2.2.2 i j hlt hlt2 hij k hk
      · rw [e1]; exact hd i hlt k hk
    · rw [e1] at hk
      rcases (show j < T.length ∨ j = T.length by omega) with hlt2 | rfl
      · rw [e0 j hlt2]; exact fun e => hd j hlt2 k e hk
      · omega
end Go.Proofs.YtoheffkiohfmoaaDoor
