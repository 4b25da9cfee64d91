/-
  A slice of pairs of ints ([][2]int) reads as a list of pairs; an argument of that type so.
-/
import Derived.Test.YtddnjimpdidpaaaGreatDoorOpenA
import Derived.Deep.Slices
namespace Go.Proofs.YtddnjimpdidpaaaGreatDoor
open Go Go.ChangeShapes Go.WideShapes Go.ChangeAt Go.RowKit Go.Deep

/-- slice v of pairs reads as g -/
def PairsAt (w : World) (v : Value) (g : List (Int × Int)) : Prop :=
  ∃ (p : Option Addr) (c : Nat), v = .slice p g.length c ∧ g.length ≤ c ∧ (p = none → c = 0) ∧
    ∀ i, i < g.length → ∃ b off, p = some ⟨b, off, none⟩ ∧ w.cell? ⟨b, off + i * 2, none⟩ = some (.int .i64 (g.getD i (0, 0)).1) ∧ w.cell? ⟨b, off + i * 2 + 1, none⟩ = some (.int .i64 (g.getD i (0, 0)).2)
theorem PairsAt.nil (w : World) : PairsAt w (.slice none 0 0) [] := ⟨none, 0, rfl, Nat.le_refl _, fun _ => rfl, fun i h => absurd h (by simp)⟩
theorem PairsAt.below {C : Nat} {w w' : World} {v : Value} {g : List (Int × Int)} (h : PairsAt w v g) (hb : Below C w w') (hC : w.heap.size ≤ C) : PairsAt w' v g := by
  obtain ⟨p, c, hv, hc, hn, hx⟩ := h
  refine ⟨p, c, hv, hc, hn, fun i hi => ?_⟩
  obtain ⟨b, off, e1, e2, e3⟩ := hx i hi
  exact ⟨b, off, e1, by rw [hb.cell (Nat.lt_of_lt_of_le (mem_lt e2) hC)]; exact e2, by rw [hb.cell (Nat.lt_of_lt_of_le (mem_lt e3) hC)]; exact e3⟩

theorem Tryz.cellsPair : Tryz.prog.cellsOf 115 = 2 := by kernel_rfl
set_option maxRecDepth 100000 in
theorem pairs_of_trod {H : Type} {enc : TypeId × Value → H} {W : World} {v : Value} {d : DataW H} {ps : List MemPlace} {r : Reach} {b0 : Nat} (hval : Value.okWide Tryz.prog W r b0 73 v)
    (hd : DataW.Trod enc Tryz.prog W 0 (fun _ => true) true 73 v d ps) :
    ∃ g, PairsAt W v g ∧ ∀ p ∈ g, (-9223372036854775808 ≤ p.1 ∧ p.1 ≤ 9223372036854775807) ∧ (-9223372036854775808 ≤ p.2 ∧ p.2 ≤ 9223372036854775807) := by
  obtain ⟨a0, len, cap, rfl⟩ := okWide_slice Tryz.underlying73 hval
  obtain ⟨fuel, hf⟩ := hd
  rcases open_slice Tryz.underlying73 hf with ⟨hcs, -⟩ | ⟨a, len', cap', m, n, D, Pl, hcs, -, hle, -, hm, -, hx⟩
  · simp [Value.cells] at hcs
    obtain ⟨rfl, rfl, rfl⟩ := hcs
    exact ⟨[], PairsAt.nil W, fun p h => absurd h (by simp)⟩
  · simp [Value.cells] at hcs
    obtain ⟨rfl, rfl, rfl⟩ := hcs
    simp only [if_true] at hm
    have each : ∀ i, i < len → ∃ q : Int × Int, W.cell? (a.add (i * 2)) = some (.int .i64 q.1) ∧ W.cell? (a.add (i * 2 + 1)) = some (.int .i64 q.2) ∧ (-9223372036854775808 ≤ q.1 ∧ q.1 ≤ 9223372036854775807) ∧ (-9223372036854775808 ≤ q.2 ∧ q.2 ≤ 9223372036854775807) := fun i hi => by
      obtain ⟨cs', h1, h2⟩ := hx i (by omega)
      rw [Tryz.cellsPair] at h1
      obtain ⟨_, hlen, hcell⟩ := World.cells?_some h1
      obtain ⟨xs, k, hk, -, -, hxl, hel⟩ := DataW.trod_array Tryz.underlying115 h2
      match xs, hxl, cs', hlen with
      | [y0, y1], _, [v0, v1], _ =>
        have g0 := hel 0 (by omega)
        have g1 := hel 1 (by omega)
        simp [Tryz.cellsInt] at g0 g1
        obtain ⟨x0, e0, -, f0⟩ := DataW.trod_int Tryz.underlying3 g0
        obtain ⟨x1, e1, -, f1⟩ := DataW.trod_int Tryz.underlying3 g1
        have c0 := hcell 0 (by omega)
        have c1 := hcell 1 (by omega)
        rw [add_add] at c0 c1
        obtain rfl := (List.cons.inj e0).1
        obtain rfl := (List.cons.inj e1).1
        exact ⟨(x0, x1), by simpa using c0, by simpa using c1, bounds_i64 f0, bounds_i64 f1⟩
    obtain ⟨q, hq⟩ := choose_lt each
    have hlen : ((List.range len).map q).length = len := by simp
    have hget : ∀ i, i < len → ((List.range len).map q).getD i (0, 0) = q i := fun i hi => by
      rw [List.getD_eq_getElem?_getD, List.getElem?_map, List.getElem?_range hi]; rfl
    refine ⟨(List.range len).map q, ⟨some a, cap, by rw [hlen], by rw [hlen]; exact hle, (fun e => by cases e), fun i hi => ?_⟩, ?_⟩
    · rw [hlen] at hi
      obtain ⟨b, off, rfl, hadd⟩ := plain_addr (by have := (hq 0 (by omega)).1; simpa using this)
      have h1 := (hq i hi).1
      have h2 := (hq i hi).2.1
      rw [hadd] at h1 h2
      exact ⟨b, off, rfl, by rw [hget i hi]; exact h1, by rw [hget i hi, Nat.add_assoc]; exact h2⟩
    · intro p hp
      obtain ⟨i, hi, rfl⟩ := List.mem_map.1 hp
      exact (hq i (List.mem_range.1 hi)).2.2
end Go.Proofs.YtddnjimpdidpaaaGreatDoor
