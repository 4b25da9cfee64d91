/-
  'small' of package label, two: the closure 'put'.
-/
import Derived.Test.YtnijedeopnjklaaGreatDoorSmallA
import Derived.Test.YtnijedeopnjklaaGreatDoorLists
namespace Go.Proofs.YtnijedeopnjklaaGreatDoor
open Go Go.RowKit Go.Sort Go.Lib

/-- the closure's world: the captured variable holds the row of the triples l; below it nothing has turned since w1 -/
def St3 (w1 : World) (B : Nat) (W : World) (l : List (Nat × Nat × Nat)) : Prop :=
  ∃ v, W.heap[B]? = some (.cells #[v] 28 (0, 0)) ∧ W.ownsRow (B + 1) 36 3 v l.length (cells3 l) ∧ Below B w1 W
theorem St3.drewN {w1 : World} {B : Nat} {W : World} {l : List (Nat × Nat × Nat)} (h : St3 w1 B W l) (n : Nat) : St3 w1 B (W.drewN n) l := by
  obtain ⟨v, h1, h2, h3⟩ := h
  exact ⟨v, h1, h2, h3.trans ⟨rfl, rfl, rfl, Nat.le_refl _, fun _ _ => rfl⟩⟩

theorem St3.alloc {w1 : World} {B : Nat} {W : World} {l : List (Nat × Nat × Nat)} (h : St3 w1 B W l) (o : Obj) : St3 w1 B (W.alloc o) l := by
  obtain ⟨v, h1, h2, h3⟩ := h
  have hlt : B < W.heap.size := (Array.getElem?_eq_some_iff.1 h1).1
  exact ⟨v, by rw [Below.heap_alloc _ _ _ hlt]; exact h1, h2.alloc _, h3.alloc (Nat.le_of_lt hlt) _⟩
/-- rows of other kinds stay -/
def Keeps (W W' : World) : Prop := ∀ D e size v n xs, e ≠ 36 → e ≠ 28 → W.ownsRow D e size v n xs → W'.ownsRow D e size v n xs
theorem Keeps.trans {a b c : World} (h : Keeps a b) (k : Keeps b c) : Keeps a c := fun D e size v n xs h1 h2 h3 => k D e size v n xs h1 h2 (h D e size v n xs h1 h2 h3)
theorem Keeps.alloc (a : World) (o : Obj) : Keeps a (a.alloc o) := fun _ _ _ _ _ _ _ _ h => h.alloc o
theorem Keeps.grown {a b : World} {D n size : Nat} {v : Value} {xs : List Value} (hv : a.ownsRow D 36 size v n xs) (hg : a.grownBy b v.ownBlock) : Keeps a b := fun _ _ _ _ _ _ h1 _ h => owns_grown h hv h1 hg
theorem Keeps.grown_new {a b : World} {W : World} {g : Nat} (hk : Keeps W a) (hg : a.grownBy b (some g)) (hle : W.heap.size ≤ g) (hs : W.heap.size ≤ a.heap.size) : Keeps W b :=
  fun D e size v n xs h1 h2 h => owns_keep (hk D e size v n xs h1 h2 h) fun k hk' => hg.block k (by have := (h.lt k hk').2; omega) (fun e => by have := (h.lt k hk').2; cases e; omega)
theorem Keeps.set {a : World} {B : Nat} {v : Value} (hB : a.heap[B]? = some (.cells #[v] 28 (0, 0))) (u : Value) : Keeps a (a.setCell ⟨B, 0, none⟩ u) := fun D e size x n xs _ h2 h =>
  ownsRow_setCell_other h (fun hx => by
    rcases h.2 with ⟨rfl, _⟩ | ⟨g', cap', cur', rfl, hb', hgg', rest'⟩
    · cases hx
    · simp only [Value.ownBlock, Option.some.injEq] at hx
      subst hx
      rw [hB] at hgg'
      cases hgg'
      exact h2 rfl) u

theorem cells3_block {w : World} {B : Nat} {x y z : Value} {t : TypeId} (h : w.heap[B]? = some (.cells #[x, y, z] t (0, 0))) :
    w.cell? ⟨B, 0, none⟩ = some x ∧ w.cell? ⟨B, 1, none⟩ = some y ∧ w.cell? ⟨B, 2, none⟩ = some z := by simp [World.cell?, h]

set_option maxRecDepth 100000 in
set_option maxHeartbeats 4000000 in
theorem put3_any (w1 : World) (B : Nat) (W : World) (l : List (Nat × Nat × Nat)) (a b c x y z : Nat) (p q r : Int) (hp : p = (a : Int)) (hq : q = (b : Int)) (hr : r = (c : Int)) (hs : Sorts a b c x y z) (hll : l.length ≤ 100000) (hst : St3 w1 B W l) :
    Calls Tryz.prog 27 #[.int .i64 p, .int .i64 q, .int .i64 r, .pointer (some ⟨B, 0, none⟩)] W fun e w' => e = .returned (.tuple #[]) ∧ St3 w1 B w' (l ++ [(x, y, z)]) ∧ Keeps W w' := by
  subst hp; subst hq; subst hr
  obtain ⟨v, hB, hO, hbl⟩ := hst
  obtain ⟨i0, hi, hz0, hz1, hz2⟩ := info_parts Tryz.info36
  have hBlt : B < W.heap.size := (Array.getElem?_eq_some_iff.1 hB).1
  obtain ⟨cB, fB⟩ := cell_of_block hB
  have hlt := hO.lt
  have HB := Lib.hid hB
  have HO := Lib.hid hO
  have HBL := Lib.hid hbl
  have HS := Lib.hid hs
  clear hB hO hbl hs
  go_enter Tryz.func27, Tryz.ntmps27
  go_wp2_with fail
  refine (sort3_call _ _ _ _ _ _ HS.out W.heap.size _ ?blk).mono ?_
  case blk => have h := heap_alloc_new W (.cells #[.int .i64 (a : Int), .int .i64 (b : Int), .int .i64 (c : Int)] 36); exact h
  rintro e w2 ⟨rfl, hg2, hb2⟩
  obtain ⟨c0, c1, c2⟩ := cells3_block hb2
  have hO2 : w2.ownsRow (B + 1) 36 3 v l.length (cells3 l) := owns_keep (HO.out.alloc _) fun k hk => hg2.block k (by simp; have := (hlt k hk).2; omega) (fun e => by have := (hlt k hk).2; cases e; omega)
  have hB2 : w2.heap[B]? = some (.cells #[v] 28 (0, 0)) := by
    rw [hg2.block B (by simp; omega) (fun e => by cases e; omega), Below.heap_alloc _ _ _ hBlt]; exact HB.out
  have hbl2 : Below B w1 w2 := (HBL.out.alloc (Nat.le_of_lt hBlt) _).grown hg2 (by simp; omega) (fun j hj => by cases hj; omega)
  have hs2 : B < w2.heap.size := (Array.getElem?_eq_some_iff.1 hB2).1
  obtain ⟨cB2, fB2⟩ := cell_of_block hB2
  have hlt2 := hO2.lt
  have HB2 := Lib.hid hB2
  have HK : Hid (Keeps W w2) := Keeps.grown_new (Keeps.alloc W _) hg2 (Nat.le_refl _) (by simp)
  have HST := Lib.hid (fun (v' : Value) (w3 : World) (h : w3.ownsRow (B + 1) 36 3 v' (l.length + 1) (cells3 l ++ [.int .i64 (x : Int), .int .i64 (y : Int), .int .i64 (z : Int)])) => (own_step (x := (x, y, z)) h : w3.ownsRow (B + 1) 36 3 v' (l ++ [(x, y, z)]).length (cells3 (l ++ [(x, y, z)]))))
  clear hg2 hb2 hB2 cB fB hlt HO HB HBL HS hBlt
  generalize l.length = M at hO2 hll HST
  generalize cells3 l = CS at hO2 HST
  go_wp2_with (
    at_builtin
    go_must (refine wpList_append_own _ rfl _ _ 28 rfl (B + 1) 36 i0 (.agg #[.int .i64 0, .int .i64 0, .int .i64 0]) 3 24 Tryz.underlying28 hi hz0 hz1 hz2 rfl (by decide) _ _ _ rfl (hO2.alloc _) ⟨w2.heap.size, 0, none⟩ 1 1 [.int .i64 (x : Int), .int .i64 (y : Int), .int .i64 (z : Int)] rfl rfl (cells_new _ _ _) (fun u hu => by simp at hu; rcases hu with rfl | rfl | rfl <;> rfl) (by unfold maxLen; omega) (by omega) (by simp; omega) ?_)
    intro v' w3 hown' hgrow _
    obtain ⟨gg, cc, rfl⟩ := Joins.ownsRow_form hown' (Nat.succ_pos _)
    have hgr : (w2.alloc (.cells #[.int .i64 (x : Int), .int .i64 (y : Int), .int .i64 (z : Int)] 36)).grownBy w3 v.ownBlock := hgrow
    clear hgrow
    have hb3 : Below B w1 w3 := (hbl2.alloc (Nat.le_of_lt hs2) _).grown hgr (by simp; omega) (fun k hk => by have := (hlt2 k hk).1; omega)
    have hBne : some B ≠ v.ownBlock := fun e => by have := (hlt2 B e.symm).1; omega
    have hB3 : w3.heap[B]? = some (.cells #[v] 28 (0, 0)) := by
      rw [hgr.block B (by simp; omega) hBne, Below.heap_alloc _ _ _ hs2]; exact HB2.out
    obtain ⟨cB3, fB3⟩ := cell_of_block hB3
    have HB3 := Lib.hid hB3
    have HK3 : Hid (Keeps W w3) := (HK.out.trans (Keeps.alloc w2 _)).trans (Keeps.grown (hO2.alloc _) hgr)
    have HO3 := Lib.hid (HST.out _ _ hown')
    clear hB3 hown' hgr hO2 HST cB2 fB2 hlt2 hBne)
  go_end0
  exact ⟨rfl, ⟨_, heap_setCell_one HB3.out, ownsRow_setCell_below HO3.out (Nat.lt_succ_self _) _, hb3.setCell (Nat.le_refl _) _⟩, HK3.out.trans (Keeps.set HB3.out _)⟩
end Go.Proofs.YtnijedeopnjklaaGreatDoor
