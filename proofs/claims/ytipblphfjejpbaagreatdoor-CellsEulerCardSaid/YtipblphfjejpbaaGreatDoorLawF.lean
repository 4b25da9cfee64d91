/-
  The law CellsFaces says true.
-/
import Derived.Test.YtipblphfjejpbaaGreatDoorHasC
import Derived.Test.YtipblphfjejpbaaGreatDoorCelY
set_option linter.unusedSimpArgs false
set_option linter.unusedVariables false
namespace Go.Proofs.YtipblphfjejpbaaGreatDoor
open Go Go.RowKit Go.Maps

/-- all faces, none where the facets are wrong -/
noncomputable def allE (L : List (List Int)) : List (List Int) := if errX L = 0 then allF L else []
theorem allE_ok {L : List (List Int)} (h : errX L = 0) : allE L = allF L := if_pos h
theorem allE_bad {L : List (List Int)} (h : errX L ≠ 0) : allE L = [] := if_neg h
theorem allE_len (L : List (List Int)) : (allE L).length ≤ 600 := by
  unfold allE
  split
  · next h => exact (errC_ok (errX_ok h).1).2.2
  · exact Nat.zero_le _
theorem allE_bd (L : List (List Int)) : ∀ l ∈ allE L, l.length ≤ 7 := by
  unfold allE
  split
  · next h => exact allF_bd (errX_ok h).1
  · intro l hl; cases hl
theorem allE_top (L : List (List Int)) : topN (allE L) ≤ 7 := by
  unfold allE
  split
  · next h => exact topN_7 (errX_ok h).1
  · exact Nat.zero_le _
/-- a value and an error that Valid's gives -/
def FacU (a : Nat → Addr) (L : List (List Int)) (P : World → Value → Prop) (w : World) (e : Ending) (w' : World) : Prop :=
  ∃ u er, e = .returned (.tuple #[u, er]) ∧ Below w.heap.size w w' ∧ P w' u ∧ ErrAt a w' er (errX L : Int) (-1)
theorem FacPost.u {a : Nat → Addr} {L : List (List Int)} {P Q : World → Value → Prop} {z : Value} {w : World} {f : FuncId} {args : Array Value} {p : Program} (h : Calls p f args w (FacPost a L P z w)) (h1 : errX L = 0 → ∀ w' u, P w' u → Q w' u) (h2 : errX L ≠ 0 → ∀ w', Q w' z) :
    Calls p f args w (FacU a L Q w) := h.mono fun e w' hp => by
  obtain ⟨hb, ⟨h0, v, rfl, hP⟩ | ⟨k, hk, hek, rfl⟩⟩ := hp
  · exact ⟨v, _, rfl, hb, h1 h0 w' v hP, Or.inl ⟨rfl, by rw [h0]; rfl, rfl⟩⟩
  · exact ⟨z, _, rfl, hb, h2 (by omega) w', Or.inr (Or.inl ⟨k, hk, rfl, by rw [hek]; rfl, rfl⟩)⟩

def FacesP (B : Nat) (L : List (List Int)) (dim : Int) (w : World) (u : Value) : Prop := ListsIn B w u (dimF (allE L) dim)
def VectorP (B : Nat) (L : List (List Int)) (w : World) (u : Value) : Prop := IntsIn B w u (vecF (allE L))
def EulerP (L : List (List Int)) (_ : World) (u : Value) : Prop := u = .int .i64 (eulF (allE L))
def HasP (L : List (List Int)) (f : List Int) (_ : World) (u : Value) : Prop := u = .bool (decide (f ∈ allE L))
section
variable (a : Nat → Addr) (B : Nat) (L : List (List Int)) (v : Value) (w : World) (hS : Sents w a) (hB : B ≤ w.heap.size) (hv : ListsIn B w v L) (hn : L.length ≤ 100000) (hl : ∀ l ∈ L, l.length ≤ 100000)
include hS hB hv hn hl
theorem faces_u (dim : Int) : Calls Tryz.prog 31 #[.agg #[v], .int .i64 dim] w (FacU a L (FacesP B L dim) w) :=
  FacPost.u (faces_any a B L dim v w hS hB hv hn hl) (fun h0 w' u h => by unfold FacesP; rw [allE_ok h0]; exact h) (fun h w' => by unfold FacesP; rw [allE_bad h]; exact ListsIn.nil _ _)
theorem vector_u : Calls Tryz.prog 32 #[.agg #[v]] w (FacU a L (VectorP B L) w) :=
  FacPost.u (vector_any a B L v w hS hB hv hn hl) (fun h0 w' u h => by unfold VectorP; rw [allE_ok h0]; exact h) (fun h w' => by unfold VectorP; rw [allE_bad h]; exact IntsIn.nil _ _)
theorem euler_u : Calls Tryz.prog 22 #[.agg #[v]] w (FacU a L (EulerP L) w) :=
  FacPost.u (euler_any a B L v w hS hB hv hn hl) (fun h0 w' u h => by unfold EulerP; rw [allE_ok h0]; exact h) (fun h w' => by unfold EulerP; rw [allE_bad h]; rfl)
theorem has_u (f : List Int) (u : Value) (hu : IntsAt w u f) (hf : f.length ≤ 100000) : Calls Tryz.prog 35 #[.agg #[v], u] w (FacU a L (HasP L f) w) :=
  FacPost.u (Has_any a B L f v u w hS hB hv hu hn hl hf) (fun h0 w' x h => by
    unfold HasP; rw [allE_ok h0, h]
    congr 1
    rw [Bool.eq_iff_iff, hasB_iff h0, decide_eq_true_eq]) (fun h w' => by unfold HasP; rw [allE_bad h]; simp)
end
end Go.Proofs.YtipblphfjejpbaaGreatDoor
