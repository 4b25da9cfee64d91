/-
  Owned rows of rows: a slice of slices that the call itself made (of two element types). Plain: no program in sight.
-/
import Derived.WalkKit
import Derived.OwnWalk
import Derived.Below
import Derived.Lib.SmallJoins
namespace Go.Proofs.YtddnjimpdidpaaaGreatDoor
open Go Go.RowKit

def intVs (l : List Int) : List Value := l.map (Value.int .i64)

/-- v: an owned row (element type eo) of headers; each header an owned row (element type ei) of ints; blocks from B on -/
def RowsAt (eo ei : TypeId) (w : World) (B : Nat) (v : Value) (L : List (List Int)) : Prop :=
  ∃ hs : List Value, w.ownsRow B eo 1 v L.length hs ∧ hs.length = L.length ∧ ∀ i, i < L.length → w.ownsRow B ei 1 (hs.getD i .nilIface) (L.getD i []).length (intVs (L.getD i []))

theorem RowsAt.nil (eo ei : TypeId) (w : World) (B : Nat) : RowsAt eo ei w B (.slice none 0 0) [] := ⟨[], World.ownsRow_nil _ _ _ _, rfl, fun i h => absurd h (by simp)⟩

theorem owns_keep {w w' : World} {B size n : Nat} {e : TypeId} {v : Value} {xs : List Value} (h : w.ownsRow B e size v n xs) (hk : ∀ k, v.ownBlock = some k → w'.heap[k]? = w.heap[k]?) : w'.ownsRow B e size v n xs := by
  refine ⟨h.1, ?_⟩
  rcases h.2 with hn | ⟨g, cap, cur, rfl, hb, hgg, rest⟩
  · exact .inl hn
  · exact .inr ⟨g, cap, cur, rfl, hb, (hk g rfl).trans hgg, rest⟩

theorem owns_apart {w : World} {B B' size size' n n' : Nat} {e e' : TypeId} {v v' : Value} {xs xs' : List Value} (h : w.ownsRow B e size v n xs) (h' : w.ownsRow B' e' size' v' n' xs') (hne : e ≠ e') : ∀ k, v.ownBlock = some k → v'.ownBlock ≠ some k := by
  intro k hk hk'
  rcases h.2 with ⟨rfl, _⟩ | ⟨g, cap, cur, rfl, hb, hgg, rest⟩
  · cases hk
  · rcases h'.2 with ⟨rfl, _⟩ | ⟨g', cap', cur', rfl, hb', hgg', rest'⟩
    · cases hk'
    · simp only [Value.ownBlock, Option.some.injEq] at hk hk'
      subst hk; subst hk'
      rw [hgg] at hgg'
      cases hgg'
      exact hne rfl

theorem owns_grown {w w' : World} {B B' size size' n n' : Nat} {e e' : TypeId} {v v' : Value} {xs xs' : List Value} (h : w.ownsRow B e size v n xs) (h' : w.ownsRow B' e' size' v' n' xs') (hne : e ≠ e') (hg : w.grownBy w' v'.ownBlock) : w'.ownsRow B e size v n xs :=
  owns_keep h fun k hk => hg.block k (h.lt k hk).2 fun e1 => owns_apart h h' hne k hk e1.symm

theorem RowsAt.below {eo ei : TypeId} {w w' : World} {B C : Nat} {v : Value} {L : List (List Int)} (h : RowsAt eo ei w B v L) (hb : Below C w w') (hC : w.heap.size ≤ C) : RowsAt eo ei w' B v L := by
  obtain ⟨hs, h1, h2, h3⟩ := h
  exact ⟨hs, owns_keep h1 fun k hk => hb.block k (Nat.lt_of_lt_of_le (h1.lt k hk).2 hC), h2, fun i hi => owns_keep (h3 i hi) fun k hk => hb.block k (Nat.lt_of_lt_of_le ((h3 i hi).lt k hk).2 hC)⟩

theorem RowsAt.grown_none {eo ei : TypeId} {w w' : World} {B : Nat} {v : Value} {L : List (List Int)} (h : RowsAt eo ei w B v L) (hg : w.grownBy w' none) : RowsAt eo ei w' B v L := by
  obtain ⟨hs, h1, h2, h3⟩ := h
  exact ⟨hs, owns_keep h1 fun k hk => hg.block k (h1.lt k hk).2 (by simp), h2, fun i hi => owns_keep (h3 i hi) fun k hk => hg.block k ((h3 i hi).lt k hk).2 (by simp)⟩

theorem RowsAt.le {eo ei : TypeId} {w : World} {B C : Nat} {v : Value} {L : List (List Int)} (h : RowsAt eo ei w B v L) (hC : C ≤ B) : RowsAt eo ei w C v L := by
  obtain ⟨hs, h1, h2, h3⟩ := h
  exact ⟨hs, Joins.ownsRow_le h1 hC, h2, fun i hi => Joins.ownsRow_le (h3 i hi) hC⟩

/-- one row more, behind append's law -/
theorem rows_push {eo ei : TypeId} {w w' : World} {B : Nat} {v v' x : Value} {L : List (List Int)} {hs : List Value} {xs : List Int} (hne : ei ≠ eo)
    (h1 : w.ownsRow B eo 1 v L.length hs) (h2 : hs.length = L.length) (h3 : ∀ i, i < L.length → w.ownsRow B ei 1 (hs.getD i .nilIface) (L.getD i []).length (intVs (L.getD i [])))
    (hx : w.ownsRow B ei 1 x xs.length (intVs xs)) (h' : w'.ownsRow B eo 1 v' (L.length + 1) (hs ++ [x])) (hg : w.grownBy w' v.ownBlock) : RowsAt eo ei w' B v' (L ++ [xs]) := by
  refine ⟨hs ++ [x], by simpa using h', by simp [h2], fun i hi => ?_⟩
  rcases Nat.lt_or_ge i L.length with hlt | hge
  · have e1 : (hs ++ [x]).getD i .nilIface = hs.getD i .nilIface := by simp [List.getD_eq_getElem?_getD, List.getElem?_append_left (show i < hs.length by omega)]
    have e2 : (L ++ [xs]).getD i [] = L.getD i [] := by simp [List.getD_eq_getElem?_getD, List.getElem?_append_left hlt]
    rw [e1, e2]
    exact owns_grown (h3 i hlt) h1 hne hg
  · have hi' : i = L.length := by simp at hi; omega
    subst hi'
    have e1 : (hs ++ [x]).getD L.length .nilIface = x := by rw [← h2]; simp [List.getD_eq_getElem?_getD]
    have e2 : (L ++ [xs]).getD L.length [] = xs := by simp [List.getD_eq_getElem?_getD]
    rw [e1, e2]
    exact owns_grown hx h1 hne hg

/-- a row's header lies in the outer row's cells, its ints in its own -/
theorem RowsAt.at {eo ei : TypeId} {w : World} {B : Nat} {v : Value} {L : List (List Int)} (h : RowsAt eo ei w B v L) (i : Nat) (hi : i < L.length) (hp : 0 < (L.getD i []).length) :
    ∃ g cap gi ci, v = .slice (some ⟨g, 0, none⟩) L.length cap ∧ w.cell? ⟨g, i, none⟩ = some (.slice (some ⟨gi, 0, none⟩) (L.getD i []).length ci) ∧
      ∀ j, j < (L.getD i []).length → w.cell? ⟨gi, j, none⟩ = some (.int .i64 ((L.getD i []).getD j 0)) := by
  obtain ⟨hs, h1, h2, h3⟩ := h
  obtain ⟨g, cap, rfl⟩ := Joins.ownsRow_form h1 (by omega)
  obtain ⟨gi, ci, e⟩ := Joins.ownsRow_form (h3 i hi) hp
  have hadd : ∀ b j, (⟨b, 0, none⟩ : Addr).add j = ⟨b, j, none⟩ := fun b j => by unfold Addr.add; split <;> simp_all
  refine ⟨g, cap, gi, ci, rfl, ?_, fun j hj => ?_⟩
  · have := h1.cells (g := g) rfl i (.slice (some ⟨gi, 0, none⟩) (L.getD i []).length ci) (by rw [← e, List.getD_eq_getElem?_getD, List.getElem?_eq_getElem (by omega)]; rfl)
    rwa [hadd] at this
  · have h4 := (h3 i hi).cells (g := gi) (by rw [e]; rfl) j (.int .i64 ((L.getD i []).getD j 0)) (by
      rw [List.getD_eq_getElem?_getD (l := L.getD i []), List.getElem?_eq_getElem hj]
      simp [intVs])
    rwa [hadd] at h4
end Go.Proofs.YtddnjimpdidpaaaGreatDoor
