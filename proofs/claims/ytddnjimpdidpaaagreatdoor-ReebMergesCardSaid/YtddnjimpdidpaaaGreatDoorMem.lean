/-
  Readings of slices of ints and of slices of these, in a world; what keeps them. Plain: no program in sight.
-/
import Derived.WalkKit
namespace Go.Proofs.YtddnjimpdidpaaaGreatDoor
open Go Go.RowKit

/-- slice 'v' reads as the list 'xs' -/
def IntsAt (w : World) (v : Value) (xs : List Int) : Prop :=
  ∃ (p : Option Addr) (c : Nat), v = .slice p xs.length c ∧ xs.length ≤ c ∧ (p = none → c = 0) ∧
    ∀ i, i < xs.length → ∃ b off, p = some ⟨b, off, none⟩ ∧ w.cell? ⟨b, off + i, none⟩ = some (.int .i64 (xs.getD i 0))

theorem IntsAt.nil (w : World) : IntsAt w (.slice none 0 0) [] := ⟨none, 0, rfl, Nat.le_refl _, fun _ => rfl, fun i h => absurd h (by simp)⟩

theorem mem_lt {w : World} {p : Addr} {v : Value} (h : w.cell? p = some v) : p.block < w.heap.size := by
  rcases Nat.lt_or_ge p.block w.heap.size with h' | h'
  · exact h'
  · simp [World.cell?, Array.getElem?_eq_none h'] at h

theorem IntsAt.below {w w' : World} {v : Value} {xs : List Int} {B : Nat} (h : IntsAt w v xs) (hb : Below B w w') (hB : w.heap.size ≤ B) : IntsAt w' v xs := by
  obtain ⟨p, c, hv, hc, hn, hx⟩ := h
  refine ⟨p, c, hv, hc, hn, fun i hi => ?_⟩
  obtain ⟨b, off, e1, e2⟩ := hx i hi
  exact ⟨b, off, e1, by rw [hb.cell (Nat.lt_of_lt_of_le (mem_lt e2) hB)]; exact e2⟩

/-- either empty or an address with all its cells -/
theorem IntsAt.cases {w : World} {v : Value} {xs : List Int} (h : IntsAt w v xs) :
    (xs = [] ∧ ∃ p c, v = .slice p 0 c) ∨ (0 < xs.length ∧ ∃ b off c, v = .slice (some ⟨b, off, none⟩) xs.length c ∧ xs.length ≤ c ∧ ∀ i, i < xs.length → w.cell? ⟨b, off + i, none⟩ = some (.int .i64 (xs.getD i 0))) := by
  obtain ⟨p, c, hv, hc, hn, hx⟩ := h
  rcases Nat.eq_zero_or_pos xs.length with h0 | h0
  · left
    have : xs = [] := List.length_eq_zero_iff.1 h0
    subst this
    exact ⟨rfl, p, c, hv⟩
  · right
    obtain ⟨b, off, e1, e2⟩ := hx 0 h0
    subst e1
    refine ⟨h0, b, off, c, hv, hc, fun i hi => ?_⟩
    obtain ⟨b', off', e1', e2'⟩ := hx i hi
    cases e1'
    exact e2'

/-- a new block of ints -/
theorem IntsAt.new (w : World) (L : List Int) (t : TypeId) : IntsAt (w.alloc (.cells (L.map (Value.int .i64)).toArray t)) (.slice (some ⟨w.heap.size, 0, none⟩) L.length L.length) L :=
  ⟨_, _, rfl, Nat.le_refl _, (fun h => by cases h), fun i hi => ⟨_, _, rfl, by
    rw [World.cell?_alloc_at _ _ _ _ rfl]
    simp [List.getElem?_toArray, List.getElem?_map, List.getElem?_eq_getElem hi, List.getD_eq_getElem?_getD]⟩⟩

/-- the cells of a new block -/
theorem cells_new (w : World) (cs : Array Value) (t : TypeId) : ∀ j u, cs.toList[j]? = some u → (w.alloc (.cells cs t)).cell? ((⟨w.heap.size, 0, none⟩ : Addr).add j) = some u := by
  intro j u hu
  have h : (w.alloc (.cells cs t)).cell? ⟨w.heap.size, j, none⟩ = some u := by
    rw [World.cell?_alloc_at _ _ _ _ rfl]
    simpa using hu
  have e : (⟨w.heap.size, 0, none⟩ : Addr).add j = ⟨w.heap.size, j, none⟩ := by
    cases j with
    | zero => rfl
    | succ j => simp [Addr.add]
  rw [e]; exact h
end Go.Proofs.YtddnjimpdidpaaaGreatDoor
