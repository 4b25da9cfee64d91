/-
  Group.Cosets: what it answers, as a function; plain facts for the walk.
-/
import Derived.Test.YtedehmknijlgpaaDoorTrc
import Derived.Test.YtedehmknijlgpaaDoorTol
import Derived.Test.YtedehmknijlgpaaDoorLet
set_option linter.unusedSimpArgs false
set_option linter.unusedVariables false
namespace Go.Proofs.YtedehmknijlgpaaDoor
open Go Go.RowKit Go.Maps

namespace TC
theorem traces_snoc (W a : Nat) (ws : List (List Nat)) (m : St) {j : Nat} (hj : j < ws.length) : tracesM W a (ws.take (j + 1)) m = traceM W (tracesM W a (ws.take j) m) a (ws.getD j []) := by
  rw [take_snoc_getD [] ws j hj]
  unfold tracesM
  rw [List.foldl_append]; rfl
theorem nexts_snoc (W a : Nat) (m : St) (x : Nat) : nextsM W a (List.range (x + 1)) m = (nextM W (nextsM W a (List.range x) m) a x).1 := by
  unfold nextsM
  rw [List.range_succ, List.foldl_append]; rfl
theorem one_traces {W : Nat} (hW2 : W % 2 = 0) {a : Nat} : ∀ (ws : List (List Nat)) {m : St}, MOk W m → a < m.R.length → (∀ w ∈ ws, ∀ k ∈ w, k < W) → (0 < W ∨ m.R.length = 1) → 0 < W ∨ (tracesM W a ws m).R.length = 1
  | [], m, _, _, _, h1 => h1
  | w :: ws, m, h, ha, hw, h1 => by
    have g := (trace_ok hW2 h ha (hw w List.mem_cons_self)).1
    exact one_traces hW2 ws g.ok (Nat.lt_of_lt_of_le ha g.grow) (fun v hv => hw v (List.mem_cons_of_mem _ hv)) (one_trace hW2 h ha (hw w List.mem_cons_self) h1)
theorem one_row {W : Nat} (hW2 : W % 2 = 0) {rels : List (List Nat)} (hr : ∀ w ∈ rels, ∀ k ∈ w, k < W) {m : St} (h : MOk W m) {k : Nat} (hk : k < m.R.length) (h1 : 0 < W ∨ m.R.length = 1) : 0 < W ∨ (rowM W rels k m).R.length = 1 := by
  rcases one_traces hW2 rels h hk hr h1 with h2 | h2
  · exact .inl h2
  · by_cases hp : 0 < W
    · exact .inl hp
    · obtain rfl : W = 0 := by omega
      exact .inr h2
/-- the count at the end -/
theorem ordO_stop {m : St} {W n : Nat} (hn : (ordO m W n).length = n) : ∀ j, n ≤ j → ordO m W j = ordO m W n := fun j hj => by
  induction j with
  | zero => obtain rfl : n = 0 := by omega
            rfl
  | succ j ih =>
    rcases Nat.eq_or_lt_of_le hj with rfl | hlt
    · rfl
    · have e := ih (by omega)
      rw [ordO, e, if_neg (by omega)]
end TC

theorem colN_lt {G : Nat} {x : Int} (hG : G ≤ 1000) (h : badL G x = false) : x ≠ 0 ∧ -1000000 ≤ x ∧ x ≤ 1000000 ∧ colN x < 2 * G := by
  unfold badL at h
  have h1 := of_decide_eq_false h
  unfold colN
  refine ⟨by omega, by omega, by omega, ?_⟩
  split <;> omega
theorem any_lists {p : Int → Bool} {L : List (List Int)} (h : L.flatten.any p = false) : ∀ l ∈ L, ∀ x ∈ l, p x = false := fun l hl x hx => by
  have := List.any_eq_false.1 h x (List.mem_flatten.2 ⟨l, hl, hx⟩)
  simpa using this
/-- lists of columns -/
def colsL (L : List (List Int)) : List (List Nat) := L.map fun l => l.map colN
theorem colsL_len (L : List (List Int)) : (colsL L).length = L.length := List.length_map ..
theorem colsL_at {L : List (List Int)} {i : Nat} (hi : i < L.length) : (colsL L).getD i [] = (L.getD i []).map colN := by
  unfold colsL
  rw [List.getD_eq_getElem?_getD, List.getD_eq_getElem?_getD, List.getElem?_map, List.getElem?_eq_getElem hi]; rfl
theorem colsL_lt {G : Nat} {L : List (List Int)} (hG : G ≤ 1000) (h : L.flatten.any (badL G) = false) : ∀ w ∈ colsL L, ∀ k ∈ w, k < 2 * G := fun w hw k hk => by
  unfold colsL at hw
  obtain ⟨l, hl, rfl⟩ := List.mem_map.1 hw
  obtain ⟨x, hx, rfl⟩ := List.mem_map.1 hk
  exact (colN_lt hG (any_lists h l hl x hx)).2.2.2
/-- what the cosets are at the end -/
def cosM (G : Nat) (rels words : List (List Int)) : TC.St := TC.cosetsM (2 * G) (colsL rels) (colsL words)
/-- .. and what is told of them -/
def cosT (G : Nat) (rels words : List (List Int)) : Nat × List (List Int) :=
  if (cosM G rels words).full = true then (1, [])
  else if 400 < (TC.ordO (cosM G rels words) (2 * G) 5001).length then (1, [])
  else (0, TC.tabT (cosM G rels words) (2 * G) (TC.ordO (cosM G rels words) (2 * G) 5001).length)
def cosA (G : Int) (rels words : List (List Int)) : Nat × List (List Int) :=
  if groupErr G rels ≠ 0 then (groupErr G rels, [])
  else if 400 < words.length ∨ 400 < words.flatten.length then (1, [])
  else if words.flatten.any (badL G.toNat) = true then (2, [])
  else cosT G.toNat rels words
def CosP (a1 a2 : Addr) (r : Nat × List (List Int)) (w : World) (e : Ending) (w' : World) : Prop := Below w.heap.size w w' ∧ ∃ v, e = .returned (.tuple #[v, errV a1 a2 r.1]) ∧ ∀ B, ListsIn B w' v r.2
theorem groupErr_zero {G : Int} {L : List (List Int)} (h : groupErr G L = 0) : 0 ≤ G ∧ G ≤ 12 ∧ L.flatten.length ≤ 400 ∧ L.length ≤ 400 ∧ L.flatten.any (badL G.toNat) = false := by
  unfold groupErr at h
  split at h
  · cases h
  · rename_i h1
    split at h
    · cases h
    · rename_i h2
      refine ⟨by omega, by omega, by omega, by omega, ?_⟩
      simpa using h2
theorem errV_iface (a1 a2 : Addr) {c : Nat} (h : c ≠ 0) : ∃ a, errV a1 a2 c = .iface 129 (.pointer (some a)) := by
  unfold errV
  rw [if_neg h]
  split
  · exact ⟨a1, rfl⟩
  · exact ⟨a2, rfl⟩
theorem told_res {a1 a2 : Addr} {m : TC.St} {W : Nat} {w : World} {e : Ending} {w' : World} (h : ToldP (errG a1) m W w e w') (hle : ∀ i, (TC.ordO m W i).length ≤ 5000) :
    CosP a1 a2 (if 400 < (TC.ordO m W 5001).length then (1, []) else (0, TC.tabT m W (TC.ordO m W 5001).length)) w e w' := by
  obtain ⟨n, hn, hb, h1, h2⟩ := h
  have hn5 := hle n
  rw [hn] at hn5
  have e5 := TC.ordO_stop hn 5001 (by omega)
  rw [e5, hn]
  refine ⟨hb, ?_⟩
  by_cases h4 : 400 < n
  · rw [if_pos h4]
    exact ⟨_, h1 h4, fun B => ListsIn.nil B w'⟩
  · rw [if_neg h4]
    obtain ⟨v, e2, h3⟩ := h2 (by omega)
    exact ⟨v, e2, h3⟩
end Go.Proofs.YtedehmknijlgpaaDoor
