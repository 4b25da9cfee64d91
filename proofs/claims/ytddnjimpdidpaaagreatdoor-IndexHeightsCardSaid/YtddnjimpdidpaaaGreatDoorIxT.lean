/-
  The plain end of IndexHeights: indices of the document are the program's; they sum up to Euler's number. Indices at any heights.
-/
import Derived.Test.YtddnjimpdidpaaaGreatDoorIxR
import Derived.Test.YtddnjimpdidpaaaGreatDoorIxE
import Derived.Test.YtddnjimpdidpaaaGreatDoorIxF
set_option linter.unusedSimpArgs false
set_option linter.unusedVariables false
namespace Go.Proofs.YtddnjimpdidpaaaGreatDoor
open Go Go.RowKit Go.Maps

def idxL (L : List (List Int)) (h : List Int) : List Int := (vertA L).map (idxF (allF L) (hiF (vertA L) h))
theorem ok_inj {V h : List Int} (hr : Rise V) (hok : okH V h) : ∀ x ∈ V, ∀ y ∈ V, hiF V h x = hiF V h y → x = y := fun x hx y hy e => by
  have hnd : V.Nodup := List.Pairwise.imp (fun h => by omega) hr
  have hh : ∀ i, i < V.length → hiF V h (V.getD i 0) = h.getD i 0 := fun i hi2 => hi_first hi2 rfl fun j hj e2 => by
    have := nod_inj' hnd (by omega) hi2 e2
    omega
  obtain ⟨i, hi2, rfl⟩ := List.getElem_of_mem hx
  obtain ⟨k, hk2, rfl⟩ := List.getElem_of_mem hy
  rw [← getD_elem hi2, ← getD_elem hk2, hh i hi2, hh k hk2] at e
  have hu := unlike_nodup.1 fun j hj => (hok.2 j hj).2
  have := nod_inj' hu (by rw [← hok.1]; exact hi2) (by rw [← hok.1]; exact hk2) e
  subst this; rfl
theorem idx_ref {L : List (List Int)} {h : List Int} (h0 : errX L = 0) : (vertR (allF L)).map (idxR (allF L) (hiF (vertR (allF L)) h)) = idxL L h := by
  rw [vert_same h0]
  exact List.map_congr_left fun v _ => ref_idx (allF_sorted L).nodup (allF_rises (errX_ok h0).1) closed_under
theorem idx_sum {L : List (List Int)} {h : List Int} (he : errR L h = 0) : (idxL L h).sum = eulF (allF L) := by
  obtain ⟨h0, hok⟩ := errR_0 he
  have hs : (vertR (allF L)).Nodup := by rw [vert_same h0]; exact List.Pairwise.imp (fun h => by omega) (rise_setL _)
  rw [← sum_idx hs allF_ne (fun f hf x hx => mem_vertR.2 (closed_under f hf [x] (List.singleton_sublist.2 hx) (by simp))) (hi := hiF (vertA L) h) ?_, vert_same h0]
  · rfl
  · rw [vert_same h0]; exact ok_inj (rise_setL _) hok
theorem idx_len {L : List (List Int)} {h : List Int} (he : errR L h = 0) : (idxL L h).length = h.length := by
  unfold idxL
  rw [List.length_map]; exact (errR_0 he).2.1
theorem idx_bd {L : List (List Int)} {h : List Int} (he : errR L h = 0) : ∀ x ∈ idxL L h, -601 ≤ x ∧ x ≤ 601 := fun x hx => by
  unfold idxL at hx
  obtain ⟨v, -, rfl⟩ := List.mem_map.1 hx
  have h1 := idxF_bd (hiF (vertA L) h) v (allF L)
  have h2 := (errC_ok (errX_ok (errR_0 he).1).1).2.2
  omega
theorem errR_le (L : List (List Int)) (h : List Int) : errR L h ≤ 4 := by
  have := errX_cases L
  unfold errR
  split
  · split <;> omega
  · omega
/-- the sum of the first few -/
def preS (l : List Int) (k : Nat) : Int := (l.take k).sum
theorem preS_succ {l : List Int} {k : Nat} (h : k < l.length) : preS l (k + 1) = preS l k + l.getD k 0 := by
  unfold preS
  rw [List.take_succ_eq_append_getElem h, List.sum_append, getD_elem h]
  simp
theorem preS_all (l : List Int) : preS l l.length = l.sum := by unfold preS; rw [List.take_length]
theorem preS_bd {l : List Int} {c : Int} (hc : 0 ≤ c) (h : ∀ x ∈ l, -c ≤ x ∧ x ≤ c) : ∀ k, k ≤ l.length → -(c * k) ≤ preS l k ∧ preS l k ≤ c * k
  | 0, _ => by unfold preS; simp
  | k + 1, hk => by
    have ih := preS_bd hc h k (by omega)
    rw [preS_succ (by omega)]
    have := h (l.getD k 0) (by rw [getD_elem (by omega)]; exact List.getElem_mem _)
    rw [show ((k + 1 : Nat) : Int) = (k : Int) + 1 from by omega, Int.mul_add, Int.mul_one]
    omega
theorem indices_any (a : Nat → Addr) (B : Nat) (L : List (List Int)) (h : List Int) (v vh : Value) (w : World) (hS : Sents w a) (hB : B ≤ w.heap.size) (hv : ListsIn B w v L) (hn : L.length ≤ 100000) (hl : ∀ l ∈ L, l.length ≤ 100000) (hvh : IntsIn B w vh h) (hlen : h.length ≤ 100000) :
    Calls Tryz.prog 19 #[.agg #[v], vh] w (IdcP a L h w) := by
  by_cases he : errR L h = 0
  · exact indices_ok a B L h v vh w hS hB hv hn hl hvh hlen he
  · exact indices_bad a B L h v vh w hS hB hv hn hl hvh hlen he
theorem errV_at {a : Nat → Addr} {L : List (List Int)} {h : List Int} (w : World) : ErrAt a w (errV a (errR L h)) (errR L h : Int) (-1) := by
  have h4 := errR_le L h
  generalize errR L h = e at h4
  cases e with
  | zero => exact Or.inl ⟨rfl, rfl, rfl⟩
  | succ k => exact Or.inr (Or.inl ⟨k, by omega, rfl, by omega, rfl⟩)
end Go.Proofs.YtddnjimpdidpaaaGreatDoor
