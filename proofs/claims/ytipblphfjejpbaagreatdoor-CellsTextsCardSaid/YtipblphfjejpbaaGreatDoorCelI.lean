import Derived.Test.YtipblphfjejpbaaGreatDoorCelV
import Derived.Test.YtipblphfjejpbaaGreatDoorErrsD
set_option linter.unusedSimpArgs false
set_option linter.unusedVariables false
/-! The law's 'is': a complex and an error are as they should be. -/
namespace Go.Proofs.YtipblphfjejpbaaGreatDoor
open Go Go.RowKit Go.Maps

set_option maxHeartbeats 4000000 in
theorem is_ok (B B' : Nat) (L : List (List Int)) (u v : Value) (w : World) (hu : ListsIn B w u L) (hv : ListsIn B' w v L) (hn : L.length ≤ 100000) (hl : ∀ l ∈ L, l.length ≤ 100000) :
    Calls Tryz.prog 37 #[.agg #[u], .nilIface, v, .int .i64 0] w (fun e w' => e = .returned (.bool true) ∧ Below w.heap.size w w') := by
  obtain ⟨pu, cu, hue, -⟩ := id hu
  have hb : Below w.heap.size w (w.alloc (.cells #[u] 34)) := (Below.refl _ _).alloc (Nat.le_refl _) _
  have HB := Lib.hid hb
  have HQ := Lib.hid (sameLists_any true B B' L L u v _ (by simp) (hu.below hb (Nat.le_refl _)) (hv.below hb (Nat.le_refl _)) hn hn hl hl)
  generalize L.length = n at hue
  clear hb hu hv hn hl
  subst hue
  go_enter Tryz.func37, Tryz.ntmps37
  go_wp2_with fail
  refine HQ.out.mono ?_
  rintro e w1 ⟨rfl, n, rfl⟩
  go_wp2_with fail
  go_ret
  exact ⟨rfl, HB.out.trans ((Below.drewN _ n).mono HB.out.size)⟩

set_option maxHeartbeats 4000000 in
theorem is_bad (a : Nat → Addr) (k : Nat) (v : Value) (w : World) (hS : Sents w a) (hk : k < 8) :
    Calls Tryz.prog 37 #[.agg #[.slice none 0 0], errE (a k), v, .int .i64 ((k : Int) + 1)] w (fun e w' => e = .returned (.bool true) ∧ Below w.heap.size w w') := by
  have hb : Below w.heap.size w (w.alloc (.cells #[.slice none 0 0] 34)) := (Below.refl _ _).alloc (Nat.le_refl _) _
  have HB := Lib.hid hb
  have HQ := Lib.hid (coded_yes a (errE (a k)) ((k : Int) + 1) (-1) ((k : Int) + 1) (w.alloc (.cells #[.slice none 0 0] 34)) (hS.below hb (Nat.le_refl _)) (Or.inr (Or.inl ⟨k, hk, rfl, rfl, rfl⟩)) ⟨rfl, rfl⟩)
  have hpos : (0 : Int) < (k : Int) + 1 := by omega
  have hce := (one_at (heap_alloc_new w (.cells #[.slice none 0 0] 34))).1
  unfold errE at HQ ⊢
  clear hb hS
  go_enter Tryz.func37, Tryz.ntmps37
  go_wp2_with fail
  refine HQ.out.mono ?_
  rintro e w1 ⟨rfl, hb1⟩
  have hc1 := (hb1.cell (p := ⟨w.heap.size, 0, none⟩) (by simp)).trans hce
  have HB1 := Lib.hid (HB.out.trans (hb1.mono HB.out.size))
  clear hb1
  go_wp2_with fail
  go_ret
  exact ⟨rfl, HB1.out⟩
end Go.Proofs.YtipblphfjejpbaaGreatDoor
