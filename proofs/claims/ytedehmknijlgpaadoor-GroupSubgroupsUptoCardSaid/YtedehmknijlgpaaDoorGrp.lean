/-
  Small readings that the groups' texts share.
-/
import Derived.Test.YtedehmknijlgpaaDoorRd
import Derived.Test.YtedehmknijlgpaaDoorApp
set_option linter.unusedSimpArgs false
set_option linter.unusedVariables false
namespace Go.Proofs.YtedehmknijlgpaaDoor
open Go Go.RowKit Go.Maps

/-- what a call does that gives v and lays, perhaps, new blocks -/
def Gives (v : Value) (w : World) (e : Ending) (w' : World) : Prop := e = .returned v ∧ Below w.heap.size w w'
theorem Below.drewN (w : World) (n : Nat) : Below w.heap.size w (w.drewN n) := ⟨rfl, rfl, rfl, Nat.le_refl _, fun _ _ => rfl⟩
/-- a call that gives v and leaves the world as it is (but for draws) -/
def Same (v : Value) (w : World) (e : Ending) (w' : World) : Prop := e = .returned v ∧ w' = w
def Drew (v : Value) (w : World) (e : Ending) (w' : World) : Prop := e = .returned v ∧ ∃ n, w' = w.drewN n
theorem ret_bool {a b : Bool} (h : a = b) : Ending.returned (.bool a) = .returned (.bool b) := by rw [h]
theorem ret_num {k : IntKind} {a b : Int} (h : a = b) : Ending.returned (.int k a) = .returned (.int k b) := by rw [h]
theorem take_snoc_getD {α : Type} (d : α) (xs : List α) (k : Nat) (h : k < xs.length) : xs.take (k + 1) = xs.take k ++ [xs.getD k d] := by
  rw [List.take_succ_eq_append_getElem h, List.getD_eq_getElem?_getD, List.getElem?_eq_getElem h]; rfl
theorem getL_mem {L : List (List Int)} {i : Nat} (h : i < L.length) : L.getD i [] ∈ L := by
  rw [List.getD_eq_getElem?_getD, List.getElem?_eq_getElem h]; exact List.getElem_mem _
theorem cells_at {B : Nat} {w : World} {b off n c : Nat} {L : List (List Int)} (h : ListsIn B w (.slice (some ⟨b, off, none⟩) n c) L) (i : Nat) (hi : i < L.length) :
    ∃ p cc, w.cell? ⟨b, off + i, none⟩ = some (.slice p (L.getD i []).length cc) ∧ IntsIn B w (.slice p (L.getD i []).length cc) (L.getD i []) := by
  obtain ⟨b', off', c', u, e, -, h1, h2⟩ := h.at_ne i hi
  cases e
  obtain ⟨p, cc, rfl⟩ := h2.len
  exact ⟨p, cc, h1, h2⟩
theorem ListsIn.form {B : Nat} {w : World} {v : Value} {L : List (List Int)} (h : ListsIn B w v L) (hp : 0 < L.length) : ∃ b off c, v = .slice (some ⟨b, off, none⟩) L.length c := by
  obtain ⟨b, off, c, u, e, -⟩ := h.at_ne 0 hp
  exact ⟨b, off, c, e⟩
theorem IntsAt.news {w : World} {p : Option Addr} {n c : Nat} {xs : List Int} (h : IntsAt w (.slice p n c) xs) : ∀ ad, p = some ad → ∀ j u, (intVs xs)[j]? = some u → w.cell? (ad.add j) = some u := by
  rintro ad rfl
  exact h.src
theorem IntsAt.noneE {w : World} {p : Option Addr} {n c : Nat} {xs : List Int} (h : IntsAt w (.slice p n c) xs) : p = none → c = 0 ∧ n = 0 := fun e => by
  obtain ⟨p', c', hv, h1, h2, -⟩ := h
  cases hv
  have := h2 e
  omega
theorem IntsAt.lenE {w : World} {p : Option Addr} {n c : Nat} {xs : List Int} (h : IntsAt w (.slice p n c) xs) : (intVs xs).length = n := by
  obtain ⟨p', c', hv, -⟩ := h
  cases hv
  simp [intVs]
theorem below_none {w w' : World} (hg : w.grownBy w' none) : Below w.heap.size w w' := (Below.refl _ _).grown hg (Nat.le_refl _) (fun k e => by cases e)
def ListPost (B : Nat) (L : List (List Int)) (w : World) (e : Ending) (w' : World) : Prop := ∃ v, e = .returned v ∧ Below w.heap.size w w' ∧ RowsO w.heap.size B w' v L
def NumsP (B : Nat) (l : List Int) (w : World) (e : Ending) (w' : World) : Prop := ∃ p c, e = .returned (.slice p l.length c) ∧ Below w.heap.size w w' ∧ IntsIn B w' (.slice p l.length c) l
end Go.Proofs.YtedehmknijlgpaaDoor
