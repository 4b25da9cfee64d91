/-
  cells.Make by a contract: the complex of any sets, or what is wrong.
-/
import Derived.Test.YtoheffkiohfmoaaGreatDoorCelS
namespace Go.Proofs.YtoheffkiohfmoaaGreatDoor
open Go Go.RowKit Go.Maps

/-- is g a face of S without one vertex, the faces being those of which 'done' says so? -/
def HitBy (S : List (List Int)) (done : List Int → Prop) (g : List Int) : Prop := ∃ f ∈ S, done f ∧ ∃ i, i < f.length ∧ f.eraseIdx i = g
def HitTo (S : List (List Int)) (done : List Int → Prop) (f : List Int) (k : Nat) (g : List Int) : Prop := HitBy S done g ∨ ∃ i, i < k ∧ f.eraseIdx i = g
theorem hitTo_zero {S : List (List Int)} {done : List Int → Prop} {f g : List Int} : HitTo S done f 0 g ↔ HitBy S done g :=
  ⟨fun h => h.elim id fun ⟨i, h, _⟩ => by omega, Or.inl⟩
theorem hitTo_step {S : List (List Int)} {done : List Int → Prop} {f g : List Int} {k : Nat} : (HitTo S done f k g ∨ g = f.eraseIdx k) ↔ HitTo S done f (k + 1) g := by
  unfold HitTo
  constructor
  · rintro ((h | ⟨i, h1, h2⟩) | h)
    · exact Or.inl h
    · exact Or.inr ⟨i, by omega, h2⟩
    · exact Or.inr ⟨k, by omega, h.symm⟩
  · rintro (h | ⟨i, h1, h2⟩)
    · exact Or.inl (Or.inl h)
    · rcases (show i < k ∨ i = k by omega) with h | rfl
      · exact Or.inl (Or.inr ⟨i, h, h2⟩)
      · exact Or.inr h2.symm
theorem hitTo_all {S : List (List Int)} {done : List Int → Prop} {f g : List Int} (hf : f ∈ S) : HitTo S done f f.length g ↔ HitBy S (fun x => done x ∨ x = f) g := by
  unfold HitTo HitBy
  constructor
  · rintro (⟨x, h1, h2, h3⟩ | ⟨i, h1, h2⟩)
    · exact ⟨x, h1, Or.inl h2, h3⟩
    · exact ⟨f, hf, Or.inr rfl, i, h1, h2⟩
  · rintro ⟨x, h1, h2 | rfl, i, h3, h4⟩
    · exact Or.inl ⟨x, h1, h2, i, h3, h4⟩
    · exact Or.inr ⟨i, h3, h4⟩
/-- what the entries that are still to come leave done -/
def doneOf (left : Lit → Bool) (f : List Int) : Prop := left (klit f) = false
theorem done_step {left : Lit → Bool} {f x : List Int} (hf : Vtx f) (hx : Vtx x) : doneOf (fun z => left z && !z.sameKey (klit f)) x ↔ (doneOf left x ∨ x = f) := by
  unfold doneOf
  rw [Bool.and_eq_false_iff, Bool.not_eq_false']
  have e : (klit x).sameKey (klit f) = true ↔ x = f := by
    unfold klit
    show (keyL x == keyL f) = true ↔ _
    rw [beq_iff_eq]
    exact ⟨fun h => keyL_inj hx hf h, fun h => by rw [h]⟩
  rw [e]

/-- the state of a loop over the map of faces, beside a map that counts -/
def MkSt (B b r m nS : Nat) (D : DataW Value) (S : List (List Int)) (w wr : World) (left : Lit → Bool) (cnt t : Nat) (Hit : List Int → Prop) : Prop :=
  wr.ranges Tryz.prog 9 valE b r nS D left cnt ∧ HeldAll B wr D S ∧ Below w.heap.size w wr ∧ CMap wr m t Hit
theorem ranges_below {C : Nat} {w w' : World} {b r n : Nat} {D : DataW Value} {left : Lit → Bool} {cnt : Nat} (h : w.ranges Tryz.prog 9 valE b r n D left cnt) (hb : Below C w w') (hC : w.heap.size ≤ C) : w'.ranges Tryz.prog 9 valE b r n D left cnt :=
  h.kept (row := none) ⟨hb.os, hb.tape, hb.output, hb.size, fun i hi _ => hb.block i (Nat.lt_of_lt_of_le hi hC)⟩ (by simp) (by simp)
theorem MkSt.below {B b r m nS : Nat} {D : DataW Value} {S : List (List Int)} {w wr w' : World} {left : Lit → Bool} {cnt t : Nat} {Hit : List Int → Prop} (h : MkSt B b r m nS D S w wr left cnt t Hit) (hb : Below wr.heap.size wr w') : MkSt B b r m nS D S w w' left cnt t Hit :=
  ⟨ranges_below h.1 hb (Nat.le_refl _), h.2.1.below hb (Nat.le_refl _), h.2.2.1.trans (hb.mono h.2.2.1.size), h.2.2.2.below hb (Nat.le_refl _)⟩
theorem MkSt.iff {B b r m nS : Nat} {D : DataW Value} {S : List (List Int)} {w wr : World} {left : Lit → Bool} {cnt t : Nat} {Hit Hit' : List Int → Prop} (h : MkSt B b r m nS D S w wr left cnt t Hit) (hi : ∀ g, Hit g ↔ Hit' g) : MkSt B b r m nS D S w wr left cnt t Hit' :=
  ⟨h.1, h.2.1, h.2.2.1, h.2.2.2.iff hi⟩
theorem cmap_obj {w : World} {m t : Nat} {Dm : DataW Value} (h : w.ownsMap Tryz.prog 9 (plainElem Tryz.prog 3) m t Dm) : ∀ c ty fr, w.heap[m]? ≠ some (.cells c ty fr) := by
  obtain ⟨es, clock, hb, -⟩ := h
  intro c ty fr e
  rw [hb] at e; cases e
theorem iter_obj {w : World} {b r n : Nat} {D : DataW Value} {left : Lit → Bool} {cnt : Nat} (h : w.ranges Tryz.prog 9 valE b r n D left cnt) : ∀ c ty fr, w.heap[r]? ≠ some (.cells c ty fr) := by
  obtain ⟨es, clock, since, seen, c0, _, _, _, _, hr, _⟩ := h
  intro c ty fr e
  rw [hr] at e; cases e

def MakeC (a : Nat → Addr) (B : Nat) (L : List (List Int)) (w : World) (e : Ending) (w' : World) : Prop :=
  Below w.heap.size w w' ∧
  ((errC L = 0 ∧ ∃ v, e = .returned (.tuple #[.agg #[v], .nilIface]) ∧ RowsO w.heap.size B w' v (madeF L)) ∨
   (errC L ≠ 0 ∧ ∃ k, k < 8 ∧ errC L = k + 1 ∧ e = .returned (.tuple #[.agg #[.slice none 0 0], errE (a k)])))

/-- a block of one cell: stored into, and read -/
theorem one_set {w : World} {b : Nat} {x v : Value} {t : TypeId} (h : w.heap[b]? = some (.cells #[x] t (0, 0))) : (w.setCell ⟨b, 0, none⟩ v).cell? ⟨b, 0, none⟩ = some v := by
  simp [World.cell?, set_block (k := 0) (v := v) h]
theorem one_at {w : World} {b : Nat} {x : Value} {t : TypeId} (h : w.heap[b]? = some (.cells #[x] t (0, 0))) : w.cell? ⟨b, 0, none⟩ = some x ∧ w.frozen? ⟨b, 0, none⟩ = false := by
  simp [World.cell?, World.frozen?, h]
theorem one_blk {w : World} {b : Nat} {x v : Value} {t : TypeId} (h : w.heap[b]? = some (.cells #[x] t (0, 0))) : (w.setCell ⟨b, 0, none⟩ v).heap[b]? = some (.cells #[v] t (0, 0)) := by
  rw [set_block (k := 0) (v := v) h]; rfl

set_option maxRecDepth 100000 in
set_option maxHeartbeats 8000000 in
theorem make_bad (a : Nat → Addr) (B : Nat) (L : List (List Int)) (v : Value) (w : World) (hS : Sents w a) (hB : B ≤ w.heap.size) (hv : ListsIn B w v L) (hn : L.length ≤ 100000) (hl : ∀ l ∈ L, l.length ≤ 100000) (he : errC L ≠ 0) :
    Calls Tryz.prog 45 #[v] w (MakeC a B L w) := by
  have hb0 : Below w.heap.size w (w.alloc (.cells #[.slice none 0 0] 32)) := (Below.refl _ _).alloc (Nat.le_refl _) _
  have HC := Lib.hid (ccl_any a B L v (w.alloc (.cells #[.slice none 0 0] 32)) (hS.below hb0 (Nat.le_refl _)) (by simp; omega) (hv.below hb0 (Nat.le_refl _)) hn hl)
  have HE := Lib.hid he
  unfold CclPost errE at HC
  clear hS hB hv hn hl he
  go_enter Tryz.func45, Tryz.ntmps45
  go_wp2_with fail
  refine HC.out.mono ?_
  rintro e w1 ⟨hb1, ⟨h0, -⟩ | ⟨-, k, hk, hek, rfl⟩⟩
  · exact absurd h0 HE.out
  · have hblk : w1.heap[w.heap.size]? = some (.cells #[.slice none 0 0] 32 (0, 0)) := by
      rw [hb1.block _ (by simp)]; exact heap_alloc_new w _
    have HB1 := Lib.hid (hb0.trans (hb1.mono (by simp)))
    have hc0 : w1.cell? ⟨w.heap.size, 0, none⟩ = some (.slice none 0 0) := by simp [World.cell?, hblk]
    have hf0 : w1.frozen? ⟨w.heap.size, 0, none⟩ = false := by simp [World.frozen?, hblk]
    have HEK := Lib.hid hek
    have HBK := Lib.hid hblk
    clear hb1 hek hblk
    have HCS := Lib.hid (one_set (v := .slice none 0 0) HBK.out)
    go_wp2_with fail
    refine bodyPost_ret (v := .tuple #[.agg #[.slice none 0 0], .iface 251 (.pointer (some (a k)))]) (by simp [results, Tryz.results45, go_sem, HCS.out]) rfl ?_
    exact ⟨HB1.out.setCell (Nat.le_refl _) _, Or.inr ⟨HE.out, k, hk, HEK.out, rfl⟩⟩
end Go.Proofs.YtoheffkiohfmoaaGreatDoor
