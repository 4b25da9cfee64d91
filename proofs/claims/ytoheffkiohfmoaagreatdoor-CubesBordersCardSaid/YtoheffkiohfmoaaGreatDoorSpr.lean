/-
  cubes.spread by a contract: a flood from one square; does it come to the rim? Conditions: the image's sides at most 1000.
-/
import Derived.Test.YtoheffkiohfmoaaGreatDoorSpt
import Derived.Maps.AppendAt
import Derived.WalkSmall
import Derived.Deep.QuietTactic
import Derived.BigQuiet
import Derived.Deep.LoopGhost
import Derived.IntWalk
import Derived.Deep.DeepCutAuto
import Derived.Deep.CutBlock
set_option linter.unusedSimpArgs false
set_option linter.unusedVariables false
namespace Go.Proofs.YtoheffkiohfmoaaGreatDoor
open Go Go.RowKit Go.Maps FL

theorem bool_ne {f i : Bool} (h : ¬ f = i) : (f == i) = false ∧ (f != i) = true := by cases f <;> cases i <;> simp at h ⊢
def sqI (q : Sq) : PI := ((q.1 : Int), (q.2 : Int))
def spVs (l : List PI) : List Value := l.flatMap fun p => [.int .i64 p.1, .int .i64 p.2]
theorem spVs_app (a b : List PI) : spVs (a ++ b) = spVs a ++ spVs b := List.flatMap_append ..
theorem spVs_one (p : PI) : spVs [p] = [.int .i64 p.1, .int .i64 p.2] := rfl
theorem spVs_len (l : List PI) : (spVs l).length = l.length * 2 := by
  induction l with
  | nil => rfl
  | cons a l ih =>
    show (spVs ([a] ++ l)).length = _
    rw [spVs_app, List.length_append, spVs_one, ih]
    simp; omega
/-- an owned row of spots -/
def SpO (O : Nat) (w : World) (v : Value) (l : List PI) : Prop := w.ownsRow O 117 2 v l.length (spVs l)
theorem SpO.nil (O : Nat) (w : World) : SpO O w (.slice none 0 0) [] := World.ownsRow_nil _ _ _ _
theorem SpO.below {O C : Nat} {w w' : World} {v : Value} {l : List PI} (h : SpO O w v l) (hb : Below C w w') (hC : w.heap.size ≤ C) : SpO O w' v l :=
  owns_keep h fun k hk => hb.block k (Nat.lt_of_lt_of_le (h.lt k hk).2 hC)
theorem SpO.grown {O b : Nat} {w w' : World} {v : Value} {l : List PI} (h : SpO O w v l) (hg : w.grownBy w' (some b)) (hb : ∀ c t fr, w.heap[b]? ≠ some (.cells c t fr)) : SpO O w' v l :=
  owns_keep h fun k hk => hg.block k (h.lt k hk).2 fun e => by
    cases e
    rcases h.2 with ⟨rfl, _⟩ | ⟨g, cap, cur, rfl, _, hh, _⟩
    · cases hk
    · cases hk; exact hb _ _ _ hh
theorem SpO.sliceOf {O : Nat} {w : World} {v : Value} {l : List PI} (h : SpO O w v l) : ∃ p c, v = .slice p l.length c := by
  rcases Joins.ownsRow_forms h with ⟨rfl, h0⟩ | ⟨g, cap, rfl⟩
  · exact ⟨none, 0, by rw [h0]⟩
  · exact ⟨_, cap, rfl⟩
theorem SpO.form {O : Nat} {w : World} {v : Value} {l : List PI} {p : PI} (h : SpO O w v (l ++ [p])) : ∃ g c, v = .slice (some ⟨g, 0, none⟩) (l.length + 1) c ∧ O ≤ g ∧ g < w.heap.size ∧ l.length + 1 ≤ c ∧ w.cell? ⟨g, l.length * 2, none⟩ = some (.int .i64 p.1) ∧ w.cell? ⟨g, l.length * 2 + 1, none⟩ = some (.int .i64 p.2) := by
  obtain ⟨g, c, rfl⟩ := Joins.ownsRow_form h (by simp)
  have hc := h.cells (g := g) rfl
  rw [spVs_app, spVs_one] at hc
  have e1 := hc (l.length * 2) (.int .i64 p.1) (by rw [List.getElem?_append_right (by rw [spVs_len]; exact Nat.le_refl _), spVs_len]; simp)
  have e2 := hc (l.length * 2 + 1) (.int .i64 p.2) (by rw [List.getElem?_append_right (by rw [spVs_len]; omega), spVs_len]; simp)
  rw [add_zero] at e1 e2
  have hcap : (l ++ [p]).length ≤ c := by
    rcases h.2 with ⟨e, _⟩ | ⟨g', c', cur, e, _, _, h4, _⟩
    · cases e
    · cases e; exact h4
  exact ⟨g, c, by simp, (h.lt g rfl).1, (h.lt g rfl).2, by simpa using hcap, e1, e2⟩
theorem SpO.pop {O : Nat} {w : World} {g c : Nat} {l : List PI} {p : PI} (h : SpO O w (.slice (some ⟨g, 0, none⟩) (l.length + 1) c) (l ++ [p])) : SpO O w (.slice (some ⟨g, 0, none⟩) l.length c) l := by
  unfold SpO at h
  rw [List.length_append, spVs_app] at h
  exact ownsRow_pop (spVs_len l) h
theorem infoSp : (Tryz.prog.info? 117).map (fun i => (i.zero, i.size, i.bytes)) = some (some (.agg #[.int .i64 0, .int .i64 0]), 2, 16) := by kernel_rfl
theorem two_one (x y : Int) : ∀ u ∈ [Value.int .i64 x, .int .i64 y], u.oneCell' = true := fun u hu => by
  simp at hu
  rcases hu with rfl | rfl <;> rfl
theorem below_ad (w : World) (o : Obj) (n : Nat) : Below w.heap.size w ((w.alloc o).drewN n) := by
  have h := (Below.refl w.heap.size w).alloc (Nat.le_refl _) o
  exact ⟨h.os, h.tape, h.output, h.size, h.block⟩

def rimB (ms : List ByteArray) (p : Sq) : Bool := decide (p.1 = 0) || decide (p.2 = 0) || decide (p.1 + 1 = wideI ms) || decide (p.2 + 1 = ms.length)
theorem rimB_iff {ms : List ByteArray} {p : Sq} : rimB ms p = true ↔ RimI ms p := by
  unfold rimB RimI
  simp [or_assoc]

/-- a flood in memory: squares S in the map b, the row v of those that are to be looked at, T; those of E too -/
structure SprS (ms : List ByteArray) (cor is : Bool) (p0 : Sq) (b O : Nat) (w0 : World) (E : Sq → Prop) (v : Value) (rim : Bool) (wr : World) (S T : List Sq) : Prop where
  fr : w0.grownBy wr (some b)
  map : SMap wr b S
  nod : S.Nodup
  box : ∀ q ∈ S, q.1 < wideI ms ∧ q.2 < ms.length
  stk : SpO O wr v (T.map sqI)
  fl : Flood cor (CnI ms is) (wideI ms) p0 (· ∈ S) (fun x => x ∈ T ∨ E x)
  rm : RimS cor (CnI ms is) p0 (RimI ms) (· ∈ S) (fun x => x ∈ T ∨ E x) rim
theorem SprS.below {ms : List ByteArray} {cor is : Bool} {p0 : Sq} {b O : Nat} {w0 : World} {E : Sq → Prop} {v : Value} {rim : Bool} {wr wx : World} {S T : List Sq} (h : SprS ms cor is p0 b O w0 E v rim wr S T) (hb : Below wr.heap.size wr wx) : SprS ms cor is p0 b O w0 E v rim wx S T :=
  ⟨h.fr.trans ⟨hb.os, hb.tape, hb.output, hb.size, fun i hi _ => hb.block i hi⟩, h.map.below hb (Nat.le_refl _), h.nod, h.box, h.stk.below hb (Nat.le_refl _), h.fl, h.rm⟩
/-- the neighbours ahead of (dx, dy), row by row, that are alike are marked -/
def NearI (cor : Bool) (C : Sq → Prop) (p : Sq) (dy dx : Int) (S : List Sq) : Prop := ∀ r : Sq, Adj cor p r → C r → ((r.2 : Int) - p.2 < dy ∨ ((r.2 : Int) - p.2 = dy ∧ (r.1 : Int) - p.1 < dx)) → r ∈ S
theorem NearI.start {cor : Bool} {C : Sq → Prop} {p : Sq} {S : List Sq} : NearI cor C p (-1) (-1) S := fun r ha _ h => by
  obtain ⟨h1, h2, h3, h4, -⟩ := ha
  omega
theorem NearI.row {cor : Bool} {C : Sq → Prop} {p : Sq} {S : List Sq} {dy : Int} (h : NearI cor C p dy 2 S) : NearI cor C p (dy + 1) (-1) S := fun r ha hc hr => h r ha hc (by
  obtain ⟨h1, h2, h3, h4, -⟩ := ha
  omega)
theorem NearI.all {cor : Bool} {C : Sq → Prop} {p : Sq} {S : List Sq} (h : NearI cor C p 2 (-1) S) : ∀ r, Adj cor p r → C r → r ∈ S := fun r ha hc => h r ha hc (by
  obtain ⟨h1, h2, h3, h4, -⟩ := ha
  omega)
theorem NearI.step {cor : Bool} {C : Sq → Prop} {p : Sq} {S S' : List Sq} {dy dx : Int} (h : NearI cor C p dy dx S) (hs : ∀ r ∈ S, r ∈ S') (hn : ∀ r : Sq, Adj cor p r → C r → (r.1 : Int) = p.1 + dx → (r.2 : Int) = p.2 + dy → r ∈ S') : NearI cor C p dy (dx + 1) S' := fun r ha hc hr => by
  by_cases e : (r.2 : Int) - p.2 = dy ∧ (r.1 : Int) - p.1 = dx
  · exact hn r ha hc (by omega) (by omega)
  · exact hs r (h r ha hc (by omega))
theorem adj_dxy {cor : Bool} {p q : Sq} {dx dy : Int} (hdx : -1 ≤ dx ∧ dx ≤ 1) (hdy : -1 ≤ dy ∧ dy ≤ 1) (h1 : (q.1 : Int) = p.1 + dx) (h2 : (q.2 : Int) = p.2 + dy) (hc : cor = true ∨ dx * dy = 0) : Adj cor p q := by
  refine ⟨by omega, by omega, by omega, by omega, hc.imp id fun h => ?_⟩
  rcases Int.mul_eq_zero.1 h with h | h
  · left; omega
  · right; omega
theorem adj_dxy' {p q : Sq} {dx dy : Int} (h1 : (q.1 : Int) = p.1 + dx) (h2 : (q.2 : Int) = p.2 + dy) (ha : Adj false p q) : dx * dy = 0 := by
  rcases ha.2.2.2.2 with h | h | h
  · cases h
  · rw [show dx = 0 by omega]; simp
  · rw [show dy = 0 by omega]; simp
/-- the flood's box of the square that is looked at; the row lies elsewhere -/
def BoxP (wr : World) (gp px py : Nat) (v : Value) : Prop := wr.heap[gp]? = some (.cells #[.int .i64 (px : Int), .int .i64 (py : Int)] 117 (0, 0)) ∧ v.ownBlock ≠ some gp
theorem BoxP.below {wr wx : World} {gp px py : Nat} {v : Value} (h : BoxP wr gp px py v) (hb : Below wr.heap.size wr wx) : BoxP wx gp px py v := ⟨(hb.block gp (Array.getElem?_eq_some_iff.1 h.1).1).trans h.1, h.2⟩
theorem box_cells {w : World} {g : Nat} {x y : Value} {t : TypeId} (h : w.heap[g]? = some (.cells #[x, y] t (0, 0))) : w.cell? ⟨g, 0, none⟩ = some x ∧ w.cell? ⟨g, 1, none⟩ = some y := by
  simp [World.cell?, h]
/-- inside one look at a square's neighbours -/
def SprN (ms : List ByteArray) (cor is : Bool) (p0 : Sq) (b O : Nat) (w0 : World) (rim : Bool) (gp px py K : Nat) (dy dx : Int) (v : Value) (wr : World) : Prop :=
  ∃ S T, SprS ms cor is p0 b O w0 (fun x => x = (px, py)) v rim wr S T ∧ T.length + (ms.length * wideI ms - S.length) = K ∧ BoxP wr gp px py v ∧ NearI cor (CnI ms is) (px, py) dy dx S

theorem SprS.push {ms : List ByteArray} {cor is : Bool} {p0 : Sq} {b O : Nat} {w0 : World} {E : Sq → Prop} {v v' : Value} {rim : Bool} {wr wx W2 w' : World} {S T : List Sq} {q : Sq} {o : Obj} (h : SprS ms cor is p0 b O w0 E v rim wr S T) (hbO : b < O) (hO : w0.heap.size = O)
    (hb : Below wr.heap.size wr wx) (hg : wx.grownBy W2 (some b)) (hm : SMap W2 b (S ++ [q])) (hq : q ∉ S) (hx : q.1 < wideI ms ∧ q.2 < ms.length) (hc : Conn cor (CnI ms is) p0 q) (hgr : (W2.alloc o).grownBy w' v.ownBlock) (hstk : SpO O w' v' ((T ++ [q]).map sqI)) :
    SprS ms cor is p0 b O w0 E v' rim w' (S ++ [q]) (T ++ [q]) := by
  have hown : ∀ k, v.ownBlock = some k → O ≤ k := fun k hk => (h.stk.lt k hk).1
  have h1 := (h.below hb).fr.trans hg
  have ha : W2.grownBy (W2.alloc o) (some b) := World.grownBy_alloc _ _ _
  have h2 := h1.trans ha
  refine ⟨⟨hgr.os.trans h2.os, hgr.tape.trans h2.tape, hgr.output.trans h2.output, Nat.le_trans h2.size hgr.size, fun i hi hne => ?_⟩, ?_, ?_, ?_, hstk, ?_, ?_⟩
  · rw [hgr.block i (Nat.lt_of_lt_of_le hi h2.size) (fun e => by have := hown i e.symm; omega)]
    exact h2.block i hi hne
  · have h3 : SMap (W2.alloc o) b (S ++ [q]) := hm.below ((Below.refl _ _).alloc (Nat.le_refl _) o) (Nat.le_refl _)
    exact h3.grown hgr (fun e => by have := hown b e; omega)
  · rw [List.nodup_append]
    exact ⟨h.nod, by simp, fun a ha c hc e => by simp at hc; exact hq (hc ▸ e ▸ ha)⟩
  · intro x hx'
    rcases List.mem_append.1 hx' with h3 | h3
    · exact h.box x h3
    · simp at h3; subst h3; exact hx
  · exact (h.fl.push hc).iff (fun x => by simp) (fun x => by simp [or_assoc, or_comm, or_left_comm])
  · have h4 := h.rm.push q
    exact ⟨h4.1, fun x hx1 hc1 ht1 hr1 => h4.2 x (by simpa using hx1) hc1 (fun h5 => ht1 (by
      rcases h5 with (h5 | h5) | h5
      · exact Or.inl (by simp [h5])
      · exact Or.inr h5
      · exact Or.inl (by simp [h5]))) hr1⟩

theorem hgr_block {w w' : World} {row : Option Nat} (h : w.grownBy w' row) {i : Nat} (hi : i < w.heap.size) (hne : some i ≠ row) : w'.heap[i]? = w.heap[i]? := h.block i hi hne
theorem SprN.row {ms : List ByteArray} {cor is : Bool} {p0 : Sq} {b O : Nat} {w0 : World} {rim : Bool} {gp px py K : Nat} {dy : Int} {v : Value} {wr : World} (h : SprN ms cor is p0 b O w0 rim gp px py K dy 2 v wr) : SprN ms cor is p0 b O w0 rim gp px py K (dy + 1) (-1) v wr := by
  obtain ⟨S, T, h1, h2, h3, h4⟩ := h
  exact ⟨S, T, h1, h2, h3, h4.row⟩
theorem SprN.done {ms : List ByteArray} {cor is : Bool} {p0 : Sq} {b O : Nat} {w0 : World} {rim : Bool} {gp px py K : Nat} {v : Value} {wr : World} (h : SprN ms cor is p0 b O w0 rim gp px py K 2 (-1) v wr) (hc : Conn cor (CnI ms is) p0 (px, py)) :
    ∃ S T, SprS ms cor is p0 b O w0 (fun _ => False) v (rim || rimB ms (px, py)) wr S T ∧ T.length + (ms.length * wideI ms - S.length) = K := by
  obtain ⟨S, T, h1, h2, h3, h4⟩ := h
  refine ⟨S, T, ⟨h1.fr, h1.map, h1.nod, h1.box, h1.stk, ?_, ?_⟩, h2⟩
  · exact (h1.fl.pop (fun r ha hr => h4.all r ha hr)).iff (fun _ => Iff.rfl) (fun x => by simp)
  · have h5 := RimS.pop (r' := rim || rimB ms (px, py)) h1.rm hc (by rw [Bool.or_eq_true, rimB_iff])
    exact ⟨h5.1, fun x hx1 hc1 ht1 hr1 => h5.2 x hx1 hc1 (fun h6 => ht1 (Or.inl h6)) hr1⟩

def SprP (ms : List ByteArray) (cor is : Bool) (p0 : Sq) (b : Nat) (w : World) (e : Ending) (w' : World) : Prop :=
  ∃ (rim : Bool) (S' : List Sq), e = .returned (.bool rim) ∧ w.grownBy w' (some b) ∧ SMap w' b S' ∧ S'.Nodup ∧ (∀ q ∈ S', q.1 < wideI ms ∧ q.2 < ms.length) ∧
    (∀ q, q ∈ S' ↔ Marked cor (CnI ms is) (wideI ms) (p0.2 * wideI ms + p0.1 + 1) q) ∧ (rim = true ↔ ∃ q, Conn cor (CnI ms is) p0 q ∧ RimI ms q)

set_option maxRecDepth 100000 in
set_option maxHeartbeats 16000000 in
theorem spread_any (ms : List ByteArray) (v : Value) (p0 : Sq) (b : Nat) (cor : Bool) (S0 : List Sq) (w : World) (h : StrsAt w v ms) (hW : wideI ms ≤ 1000) (hH : ms.length ≤ 1000) (hx : p0.1 < wideI ms) (hy : p0.2 < ms.length)
    (hm : SMap w b S0) (hn : S0.Nodup) (hbx : ∀ q ∈ S0, q.1 < wideI ms ∧ q.2 < ms.length) (hS : ∀ q, q ∈ S0 ↔ Marked cor (CnI ms (fullI ms (p0.1 : Int) (p0.2 : Int))) (wideI ms) (p0.2 * wideI ms + p0.1) q) (hp : p0 ∉ S0) :
    Calls Tryz.prog 89 #[v, .int .i64 (p0.1 : Int), .int .i64 (p0.2 : Int), .map (some b), .bool cor] w (SprP ms cor (fullI ms (p0.1 : Int) (p0.2 : Int)) p0 b w) := by
  obtain ⟨i2, hi2, hz0, hz1, hz2⟩ := info_parts infoSp
  obtain ⟨pm, cm, hve, -⟩ := id h
  obtain ⟨x0, y0⟩ := p0
  simp only at hx hy hS hp ⊢
  have HAT0 := Lib.hid (at_any v ms (x0 : Int) (y0 : Int) w h)
  unfold Plain at HAT0
  obtain ⟨is, his⟩ : ∃ is, fullI ms (x0 : Int) (y0 : Int) = is := ⟨_, rfl⟩
  rw [his] at hS HAT0 ⊢
  have hC0 : CnI ms is (x0, y0) := ⟨hx, hy, his⟩
  have hsm : Small S0 := fun q hq => by have := hbx q hq; omega
  have hlen0 : S0.length < ms.length * wideI ms := by
    have := box_len (W := wideI ms) (H := ms.length) (S := S0 ++ [(x0, y0)]) (by rw [List.nodup_append]; exact ⟨hn, by simp, fun a ha c hc e => by simp at hc; exact hp (hc ▸ e ▸ ha)⟩) (fun q hq => by
      rcases List.mem_append.1 hq with h1 | h1
      · exact hbx q h1
      · simp at h1; subst h1; exact ⟨hx, hy⟩)
    rw [List.length_append] at this; simp at this; omega
  -- the first square is marked
  have hblt := hm.lt
  have hba : Below w.heap.size w (w.alloc (.cells #[.int .i64 (x0 : Int), .int .i64 (y0 : Int)] 117)).drew := ((Below.refl _ _).alloc (Nat.le_refl _) _).drew
  obtain ⟨W1, W2, e1, e2, e3, e4, hm2, hg2⟩ := (hm.below hba (Nat.le_refl _)).hit hsm (q := (x0, y0)) ⟨by show x0 ≤ 1000; omega, by show y0 ≤ 1000; omega⟩ hp
  unfold spN spV at e1 e2 e3
  simp only at e1 e2 e3
  have hga : w.grownBy W2 (some b) := World.grownBy.trans ⟨hba.os, hba.tape, hba.output, hba.size, fun i hi _ => hba.block i hi⟩ hg2
  have hstk2 : SpO w.heap.size W2 (.slice (some ⟨w.heap.size, 0, none⟩) 1 1) ([(x0, y0)].map sqI) := by
    have h1 : SpO w.heap.size (w.alloc (.cells #[.int .i64 (x0 : Int), .int .i64 (y0 : Int)] 117)).drew (.slice (some ⟨w.heap.size, 0, none⟩) 1 1) ([(x0, y0)].map sqI) :=
      World.ownsRow_lit w #[.int .i64 (x0 : Int), .int .i64 (y0 : Int)] 1 (Nat.le_refl _) (by unfold maxLen; decide) rfl
    exact h1.grown hg2 (hm.below hba (Nat.le_refl _)).obj
  have hfl0 : Flood cor (CnI ms is) (wideI ms) (x0, y0) (· ∈ S0 ++ [(x0, y0)]) (fun x => x ∈ [(x0, y0)] ∨ False) :=
    (Flood.begin (p := (x0, y0)) hC0 (fun hmk => hp ((hS _).2 hmk))).iff (fun q => by rw [List.mem_append, hS]; simp) (fun q => by simp)
  have hrm0 : RimS cor (CnI ms is) (x0, y0) (RimI ms) (· ∈ S0 ++ [(x0, y0)]) (fun x => x ∈ [(x0, y0)] ∨ False) false :=
    ⟨(fun e => by cases e), fun q hq hc ht hr => by
      rcases hfl0.done q hq hc with h1 | h1
      · exact absurd h1 ht
      · rcases List.mem_append.1 hq with h2 | h2
        · exact absurd ((hS _).1 h2) (fun hmk => hp ((hS _).2 (hmk.conn hc.symm)))
        · exact absurd (Or.inl h2) ht⟩
  have hnod2 : (S0 ++ [(x0, y0)]).Nodup := by rw [List.nodup_append]; exact ⟨hn, by simp, fun a ha c hc e => by simp at hc; exact hp (hc ▸ e ▸ ha)⟩
  have hbx2 : ∀ q ∈ S0 ++ [(x0, y0)], q.1 < wideI ms ∧ q.2 < ms.length := fun q hq => by
    rcases List.mem_append.1 hq with h1 | h1
    · exact hbx q h1
    · simp at h1; subst h1; exact ⟨hx, hy⟩
  obtain ⟨K0, hK0⟩ : ∃ K0, ms.length * wideI ms - S0.length = K0 := ⟨_, rfl⟩
  have HS0 : Hid (SprS ms cor is (x0, y0) b w.heap.size w (fun _ => False) (.slice (some ⟨w.heap.size, 0, none⟩) 1 1) false W2 (S0 ++ [(x0, y0)]) [(x0, y0)]) := ⟨hga, hm2, hnod2, hbx2, hstk2, hfl0, hrm0⟩
  have HK0 : Hid ([(x0, y0)].length + (ms.length * wideI ms - (S0 ++ [(x0, y0)]).length) = K0) := by unfold Hid; rw [List.length_append, ← hK0]; simp; omega
  have HK1 : Hid (K0 ≤ 1000000) := by
    unfold Hid
    have : ms.length * wideI ms ≤ 1000 * 1000 := Nat.mul_le_mul hH hW
    omega
  have HST := Lib.hid h
  have HW := Lib.hid hW
  have HH := Lib.hid hH
  have HMO := Lib.hid hm.obj
  have HXY := Lib.hid (show x0 < wideI ms ∧ y0 < ms.length from ⟨hx, hy⟩)
  have HEND : Hid (∀ (rim : Bool) (v' : Value) (wr : World) (S' : List Sq), SprS ms cor is (x0, y0) b w.heap.size w (fun _ => False) v' rim wr S' [] → SprP ms cor is (x0, y0) b w (.returned (.bool rim)) wr) := fun rim v' wr S' hs => by
    have hT : ∀ q : Sq, ¬ (q ∈ ([] : List Sq) ∨ False) := fun q h => by simp at h
    have hd := hs.fl.done_all hT hC0 (fun hmk => hp ((hS _).2 hmk)) (fun p h => h.1) hx
    exact ⟨rim, S', rfl, hs.fr, hs.map, hs.nod, hs.box, hd, hs.rm.all hT fun q hq => (hd q).2 ((marked_step (fun p h => h.1) hx q).2 (Or.inr hq))⟩
  obtain ⟨W, hWn⟩ : ∃ W, wideI ms = W := ⟨_, rfl⟩
  obtain ⟨H, hHn⟩ : ∃ H, ms.length = H := ⟨_, rfl⟩
  have HWN := Lib.hid hWn
  have HHN := Lib.hid hHn
  rw [hHn] at hve
  subst hve
  clear hga hm2 hnod2 hbx2 hstk2 hfl0 hrm0 hg2 hK0 hlen0 hsm hC0 his hS hp hn hbx hm h hx hy hW hH hba hWn hHn
  go_enter Tryz.func89, Tryz.ntmps89
  go_wp2_with fail
  refine HAT0.out.mono ?_
  rintro e w1 ⟨rfl, hw⟩
  rw [hw]
  clear HAT0 hw w1
  have hwr1 : IntKind.i64.wrap 1 = 1 := by decide
  go_upto_region 4 with fail
  go_cut [] (fun wx => wx = W2)
  case first =>
    go_region_with (fail)
    all_goals
      go_wp2
      go_meet
      rfl
  case rest =>
  subst hcut
  clear e1 e2 e3 e4
  go_wp2_with fail
  go_loopg [12, 13] K0 (fun k st sr wr => ∃ (S T : List Sq) (rim : Bool), sr = .bool rim ∧ SprS ms cor is (x0, y0) b w.heap.size w (fun _ => False) st rim wr S T ∧ T.length + (ms.length * wideI ms - S.length) = k ∧ k ≤ K0)
  case atStart => exact ⟨_, _, false, rfl, HS0.out, HK0.out, Nat.le_refl _⟩
  case round =>
    obtain ⟨S, T, rim, rfl, hs, hk, hkK⟩ := hrel
    rcases List.eq_nil_or_concat T with rfl | ⟨T', p, rfl⟩
    · obtain ⟨pv, cv, rfl⟩ := hs.stk.sliceOf
      have HF := Lib.hid (HEND.out rim _ wr S hs)
      clear hs hk hkK
      simp only [List.map_nil, List.length_nil]
      go_wp2_with fail
      go_ret
      exact HF.out
    · rw [List.concat_eq_append] at hs hk
      obtain ⟨px, py⟩ := p
      have hst := hs.stk
      rw [List.map_append] at hst
      obtain ⟨g, c, rfl, hOg, hgw, hnc, c0, c1⟩ := SpO.form (p := ((px : Int), (py : Int))) hst
      have hpop := SpO.pop (p := ((px : Int), (py : Int))) hst
      rw [List.length_map] at hpop c0 c1 hnc
      simp only at c0 c1
      have hcon : Conn cor (CnI ms is) (x0, y0) (px, py) := hs.fl.todo (px, py) (Or.inl (by simp))
      have hpb : px < wideI ms ∧ py < ms.length := ⟨hcon.right.1, hcon.right.2.1⟩
      have hIn : SprS ms cor is (x0, y0) b w.heap.size w (fun x => x = (px, py)) (.slice (some ⟨g, 0, none⟩) T'.length c) rim wr S T' :=
        ⟨hs.fr, hs.map, hs.nod, hs.box, by rw [SpO, List.length_map] at *; exact hpop, hs.fl.iff (fun _ => Iff.rfl) (fun x => by simp), ⟨hs.rm.1, fun x hx1 hc1 ht1 hr1 => hs.rm.2 x hx1 hc1 (fun h5 => ht1 (by simpa using h5)) hr1⟩⟩
      obtain ⟨n, hn⟩ : ∃ n, T'.length = n := ⟨_, rfl⟩
      have hsum : T'.length + (ms.length * wideI ms - S.length) = gk - 1 := by rw [List.length_append] at hk; simp at hk; omega
      have hn6 : n ≤ 1000000 := by have := HK1.out; omega
      have hgk : 0 < gk := by rw [List.length_append] at hk; simp at hk; omega
      have hbox0 : (wr.alloc (.cells #[.int .i64 (px : Int), .int .i64 (py : Int)] 117)).heap[wr.heap.size]? = some (.cells #[.int .i64 (px : Int), .int .i64 (py : Int)] 117 (0, 0)) := heap_alloc_new wr _
      have HIN := Lib.hid hIn
      have HSUM := Lib.hid hsum
      have HCON := Lib.hid hcon
      have HBOX := Lib.hid hbox0
      obtain ⟨gp, hgp⟩ : ∃ gp, wr.heap.size = gp := ⟨_, rfl⟩
      have HNEG := Lib.hid (show (Value.slice (some ⟨g, 0, none⟩) T'.length c).ownBlock ≠ some wr.heap.size from fun e => by have := Option.some.inj e; simp at this; omega)
      have HKK := Lib.hid hkK
      have HPB := Lib.hid hpb
      have HRB := Lib.hid (rimB_iff (ms := ms) (p := (px, py)))
      have hmapl : ((T'.map sqI ++ [((px : Int), (py : Int))]).length) = n + 1 := by simp [hn]
      rw [hn] at HIN HSUM HNEG hnc c0 c1
      rw [hgp] at HBOX HNEG
      have HGP := Lib.hid hgp
      rw [List.length_map, hn]
      have HN := Lib.hid hn
      have hwd8 := fun m => wide_any (.slice pm H cm) ms ((wr.alloc (.cells #[.int .i64 (px : Int), .int .i64 (py : Int)] 117)).drewN m) ((HST.out.grown hs.fr HMO.out).below (below_ad _ _ m) (Nat.le_refl _))
      unfold Plain at hwd8
      simp only [HWN.out] at hwd8
      have HB8 := Lib.hid (fun m => below_ad wr (.cells #[.int .i64 (px : Int), .int .i64 (py : Int)] 117) m)
      obtain ⟨w8, hw8⟩ : ∃ w8, wr.alloc (.cells #[.int .i64 (px : Int), .int .i64 (py : Int)] 117) = w8 := ⟨_, rfl⟩
      rw [hw8] at hwd8 HBOX HB8
      have HWD := Lib.hid hwd8
      have HW8 := Lib.hid hw8
      clear hs hst hpop hcon hpb hIn hsum hbox0 hkK hk hn hmapl hwd8 hw8 hgp
      go_wp2_with fail
      rw [HW8.out, HGP.out]
      obtain ⟨b0, b1⟩ := box_cells HBOX.out
      go_upto_region 9 with fail
      go_cut [13] (fun s wx => ∃ m, s = .bool (rim || rimB ms (px, py)) ∧ wx = w8.drewN m)
      case first =>
        have HR : Hid (rimB ms (px, py) = (decide (px = 0) || decide (py = 0) || decide (px + 1 = W) || decide (py + 1 = H))) := by unfold Hid rimB; rw [HWN.out, HHN.out]
        have v1 : IntKind.i64.wrap ((W : Int) - 1) = (W : Int) - 1 := IntWalk.i64_in _ (by have := HW.out; rw [HWN.out] at this; omega)
        have v2 : IntKind.i64.wrap ((H : Int) - 1) = (H : Int) - 1 := IntWalk.i64_in _ (by have := HH.out; rw [HHN.out] at this; omega)
        clear c0 c1
        cases rim with
        | true =>
          have HRR : Hid ((true || rimB ms (px, py)) = true) := by unfold Hid; simp
          go_quiet ((go_at_call 64; exact Calls.quiet_of_same (HWD.out _)))
          go_wp2_with fail
          go_meet
          exact ⟨_, by rw [HRR.out], rfl⟩
        | false =>
          by_cases h1 : px = 0
          · have q1 : ((px : Int) == 0) = true := beq_iff_eq.2 (by omega)
            have p1 : (px == 0) = true := beq_iff_eq.2 h1
            have HRR : Hid ((false || rimB ms (px, py)) = true) := by unfold Hid; rw [HR.out]; simp [h1]
            clear h1
            go_quiet ((go_at_call 64; exact Calls.quiet_of_same (HWD.out _)))
            go_wp2_with fail
            go_meet
            exact ⟨_, by rw [HRR.out], rfl⟩
          · by_cases h2 : py = 0
            · have q1 : ((px : Int) == 0) = false := beq_eq_false_iff_ne.2 (by omega)
              have p1 : (px == 0) = false := beq_eq_false_iff_ne.2 h1
              have q2 : ((py : Int) == 0) = true := beq_iff_eq.2 (by omega)
              have p2 : (py == 0) = true := beq_iff_eq.2 h2
              have HRR : Hid ((false || rimB ms (px, py)) = true) := by unfold Hid; rw [HR.out]; simp [h1, h2]
              clear h1 h2
              go_quiet ((go_at_call 64; exact Calls.quiet_of_same (HWD.out _)))
              go_wp2_with fail
              go_meet
              exact ⟨_, by rw [HRR.out], rfl⟩
            · by_cases h3 : px + 1 = W
              · have q1 : ((px : Int) == 0) = false := beq_eq_false_iff_ne.2 (by omega)
                have p1 : (px == 0) = false := beq_eq_false_iff_ne.2 h1
                have q2 : ((py : Int) == 0) = false := beq_eq_false_iff_ne.2 (by omega)
                have p2 : (py == 0) = false := beq_eq_false_iff_ne.2 h2
                have q3 : ((px : Int) == (W : Int) - 1) = true := beq_iff_eq.2 (by omega)
                have HRR : Hid ((false || rimB ms (px, py)) = true) := by unfold Hid; rw [HR.out]; simp [h1, h2, h3]
                clear h1 h2 h3
                go_quiet ((go_at_call 64; exact Calls.quiet_of_same (HWD.out _)))
                go_wp2_with fail
                go_meet
                exact ⟨_, by rw [HRR.out], rfl⟩
              · by_cases h4 : py + 1 = H
                · have q1 : ((px : Int) == 0) = false := beq_eq_false_iff_ne.2 (by omega)
                  have p1 : (px == 0) = false := beq_eq_false_iff_ne.2 h1
                  have q2 : ((py : Int) == 0) = false := beq_eq_false_iff_ne.2 (by omega)
                  have p2 : (py == 0) = false := beq_eq_false_iff_ne.2 h2
                  have q3 : ((px : Int) == (W : Int) - 1) = false := beq_eq_false_iff_ne.2 (by omega)
                  have q4 : ((py : Int) == (H : Int) - 1) = true := beq_iff_eq.2 (by omega)
                  have HRR : Hid ((false || rimB ms (px, py)) = true) := by unfold Hid; rw [HR.out]; simp [h1, h2, h3, h4]
                  clear h1 h2 h3 h4
                  go_quiet ((go_at_call 64; exact Calls.quiet_of_same (HWD.out _)))
                  go_wp2_with fail
                  go_meet
                  exact ⟨_, by rw [HRR.out], rfl⟩
                · have q1 : ((px : Int) == 0) = false := beq_eq_false_iff_ne.2 (by omega)
                  have p1 : (px == 0) = false := beq_eq_false_iff_ne.2 h1
                  have q2 : ((py : Int) == 0) = false := beq_eq_false_iff_ne.2 (by omega)
                  have p2 : (py == 0) = false := beq_eq_false_iff_ne.2 h2
                  have q3 : ((px : Int) == (W : Int) - 1) = false := beq_eq_false_iff_ne.2 (by omega)
                  have q4 : ((py : Int) == (H : Int) - 1) = false := beq_eq_false_iff_ne.2 (by omega)
                  have HRR : Hid ((false || rimB ms (px, py)) = false) := by unfold Hid; rw [HR.out]; simp [h1, h2, h3, h4]
                  clear h1 h2 h3 h4
                  go_quiet ((go_at_call 64; exact Calls.quiet_of_same (HWD.out _)))
                  go_wp2_with fail
                  go_meet
                  exact ⟨_, by rw [HRR.out], rfl⟩
      case rest =>
      obtain ⟨m8, hs13, hwx⟩ := hcut
      subst hs13 hwx
      have HI8 := Lib.hid (HIN.out.below (HB8.out m8))
      have HBP8 : Hid (BoxP (w8.drewN m8) gp px py (.slice (some ⟨g, 0, none⟩) n c)) := ⟨HBOX.out, HNEG.out⟩
      clear b0 b1 c0 c1
      go_wp2_with fail
      go_loopw [12, 15] (fun s12 s15 wr2 => ∃ dy : Int, -1 ≤ dy ∧ dy ≤ 2 ∧ s15 = .int .i64 dy ∧ SprN ms cor is (x0, y0) b w.heap.size w rim gp px py (gk - 1) dy (-1) s12 wr2) (fun _ s15 _ => (2 - intOf s15).toNat)
      case atStart => exact ⟨-1, by omega, by omega, rfl, S, T', HI8.out, by rw [HN.out]; exact HSUM.out, HBP8.out, NearI.start⟩
      case round =>
        obtain ⟨dy, hd0, hd1, rfl, hN⟩ := hrel
        have HN2 := Lib.hid hN
        clear hN
        by_cases hdy : dy < 2
        · have qd : decide (dy ≤ 1) = true := decide_eq_true (by omega)
          go_wp2_with fail
          go_loopw [12, 16] (fun s12 s16 wr3 => ∃ dx : Int, -1 ≤ dx ∧ dx ≤ 2 ∧ s16 = .int .i64 dx ∧ SprN ms cor is (x0, y0) b w.heap.size w rim gp px py (gk - 1) dy dx s12 wr3) (fun _ s16 _ => (2 - intOf s16).toNat)
          case atStart => exact ⟨-1, by omega, by omega, rfl, HN2.out⟩
          case round =>
            obtain ⟨dx, he0, he1, rfl, hN3⟩ := hrel
            by_cases hdx : dx < 2
            · obtain ⟨S3, T3, hs3, hk3, hbp, hnr⟩ := hN3
              obtain ⟨pv, cv, rfl⟩ := hs3.stk.sliceOf
              obtain ⟨b0, b1⟩ := box_cells hbp.1
              obtain ⟨qx, hqx⟩ : ∃ qx, (px : Int) + dx = qx := ⟨_, rfl⟩
              obtain ⟨qy, hqy⟩ : ∃ qy, (py : Int) + dy = qy := ⟨_, rfl⟩
              have hpx : px < 1000 ∧ py < 1000 := by have h1 := HPB.out; have h2 := HW.out; have h3 := HH.out; omega
              obtain ⟨hpx0, hpy0⟩ := hpx
              obtain ⟨n3, hn3⟩ : ∃ n3, T3.length = n3 := ⟨_, rfl⟩
              have hn36 : n3 ≤ 1000000 := by have := HK1.out; have := HKK.out; omega
              rw [List.length_map, hn3] at hs3 hbp ⊢
              have HST3 := Lib.hid (HST.out.grown hs3.fr HMO.out)
              have HB6a := fun m => below_ad wr (.cells #[.int .i64 qx, .int .i64 qy] 117) m
              obtain ⟨gq, hgq⟩ : ∃ gq, wr.heap.size = gq := ⟨_, rfl⟩
              have hc16 : (wr.alloc (.cells #[.int .i64 qx, .int .i64 qy] 117)).heap[gq]? = some (.cells #[.int .i64 qx, .int .i64 qy] 117 (0, 0)) := by rw [← hgq]; exact heap_alloc_new wr _
              obtain ⟨w6, hw6⟩ : ∃ w6, wr.alloc (.cells #[.int .i64 qx, .int .i64 qy] 117) = w6 := ⟨_, rfl⟩
              rw [hw6] at hc16
              simp only [hw6] at HB6a
              have HB6 := Lib.hid HB6a
              have HW6 := Lib.hid hw6
              have HGQ := Lib.hid hgq
              have HC16 := Lib.hid hc16
              have hwd6 := fun m => wide_any (.slice pm H cm) ms (w6.drewN m) (HST3.out.below (HB6.out m) (Nat.le_refl _))
              unfold Plain at hwd6
              simp only [HWN.out] at hwd6
              have HWD6 := Lib.hid hwd6
              have HS3 := Lib.hid hs3
              have HK3 := Lib.hid hk3
              have HBP := Lib.hid hbp
              have HNR := Lib.hid hnr
              have HN3 := Lib.hid hn3
              have HQX := Lib.hid hqx
              have HQY := Lib.hid hqy
              have HD := Lib.hid (show (-1 ≤ dx ∧ dx ≤ 1) ∧ (-1 ≤ dy ∧ dy ≤ 1) by omega)
              have hqb : -1 ≤ qx ∧ qx ≤ 1000 ∧ -1 ≤ qy ∧ qy ≤ 1000 := by omega
              obtain ⟨hqb0, hqb1, hqb2, hqb3⟩ := hqb
              have qd2 : decide (dx ≤ 1) = true := decide_eq_true (by omega)
              have HSTEP : Hid (∀ m, (∀ r : Sq, Adj cor (px, py) r → CnI ms is r → (r.1 : Int) = qx → (r.2 : Int) = qy → r ∈ S3) → SprN ms cor is (x0, y0) b w.heap.size w rim gp px py (gk - 1) dy (dx + 1) (.slice pv n3 cv) (w6.drewN m)) := fun m hr =>
                ⟨S3, T3, HS3.out.below (HB6.out m), HK3.out, HBP.out.below (HB6.out m), HNR.out.step (fun r h => h) (fun r h1 h2 h3 h4 => hr r h1 h2 (h3.trans HQX.out) (h4.trans HQY.out))⟩
              clear hs3 hk3 hbp hnr HB6a hc16 hw6 hgq hwd6 hn3
              go_upto_block 5 with fail
              go_cut [12] (fun s12 wx => SprN ms cor is (x0, y0) b w.heap.size w rim gp px py (gk - 1) dy (dx + 1) s12 wx)
              case rest =>
                have HCUT := Lib.hid hcut
                clear hcut
                go_wp2_with fail
                go_roundw
                case rel => exact ⟨dx + 1, by omega, by omega, by go_num, HCUT.out⟩
                case measure => simp [intOf]; omega
              case first =>
              go_wp2_with fail
              rw [HW6.out, HGQ.out]
              clear hqx hqy b0 b1
              obtain ⟨c0, c1⟩ := box_cells HC16.out
              go_cut [139] (fun s wx => ∃ (m : Nat) (t : Bool), s = .bool t ∧ wx = w6.drewN m ∧ (t = true → ∀ r : Sq, Adj cor (px, py) r → CnI ms is r → (r.1 : Int) = qx → (r.2 : Int) = qy → r ∈ S3) ∧
                (t = false → ∃ q : Sq, (q.1 : Int) = qx ∧ (q.2 : Int) = qy ∧ CnI ms is q ∧ q ∉ S3 ∧ Adj cor (px, py) q))
              case first =>
                have HWW : Hid (W ≤ 1000 ∧ H ≤ 1000) := by unfold Hid; rw [← HWN.out, ← HHN.out]; exact ⟨HW.out, HH.out⟩
                by_cases hA : qx < 0
                · have qA : decide (qx < 0) = true := decide_eq_true hA
                  go_quiet ((go_at_call 64; exact Calls.quiet_of_same (HWD6.out _)))
                  go_wp2_with fail
                  go_meet
                  exact ⟨_, true, rfl, rfl, fun _ r ha hc h1 h2 => absurd h1 (by omega), fun e => by cases e⟩
                have qA : decide (qx < 0) = false := decide_eq_false hA
                by_cases hB : qy < 0
                · have qB : decide (qy < 0) = true := decide_eq_true hB
                  go_quiet ((go_at_call 64; exact Calls.quiet_of_same (HWD6.out _)))
                  go_wp2_with fail
                  go_meet
                  exact ⟨_, true, rfl, rfl, fun _ r ha hc h1 h2 => absurd h2 (by omega), fun e => by cases e⟩
                have qB : decide (qy < 0) = false := decide_eq_false hB
                by_cases hC : (W : Int) ≤ qx
                · have qC : decide ((W : Int) ≤ qx) = true := decide_eq_true hC
                  have HCC := Lib.hid hC
                  go_quiet ((go_at_call 64; exact Calls.quiet_of_same (HWD6.out _)))
                  go_wp2_with fail
                  go_meet
                  exact ⟨_, true, rfl, rfl, fun _ r ha hc h1 h2 => absurd hc.1 (by have h3 := HCC.out; have h4 := HWN.out; omega), fun e => by cases e⟩
                have qC : decide ((W : Int) ≤ qx) = false := decide_eq_false hC
                by_cases hD : (H : Int) ≤ qy
                · have qD : decide ((H : Int) ≤ qy) = true := decide_eq_true hD
                  have HCC := Lib.hid hD
                  go_quiet ((go_at_call 64; exact Calls.quiet_of_same (HWD6.out _)))
                  go_wp2_with fail
                  go_meet
                  exact ⟨_, true, rfl, rfl, fun _ r ha hc h1 h2 => absurd hc.2.1 (by have h3 := HCC.out; have h4 := HHN.out; omega), fun e => by cases e⟩
                have qD : decide ((H : Int) ≤ qy) = false := decide_eq_false hD
                obtain ⟨q, hq1, hq2⟩ : ∃ q : Sq, (q.1 : Int) = qx ∧ (q.2 : Int) = qy := ⟨(qx.toNat, qy.toNat), by show ((qx.toNat : Nat) : Int) = qx; omega, by show ((qy.toNat : Nat) : Int) = qy; omega⟩
                have HQ1 := Lib.hid hq1
                have HQ2 := Lib.hid hq2
                have HQ : Hid (∀ r : Sq, (r.1 : Int) = qx → (r.2 : Int) = qy → r = q) := fun r h1 h2 => Prod.ext (by omega) (by omega)
                have HQB : Hid (q.1 < wideI ms ∧ q.2 < ms.length) := by unfold Hid; rw [HWN.out, HHN.out]; omega
                obtain ⟨f, hf⟩ : ∃ f, fullI ms qx qy = f := ⟨_, rfl⟩
                have hat6 := fun m => at_any (.slice pm H cm) ms qx qy (w6.drewN m) (HST3.out.below (HB6.out m) (Nat.le_refl _))
                unfold Plain at hat6
                simp only [hf] at hat6
                have HAT6 := Lib.hid hat6
                have HF := Lib.hid hf
                have hlk := fun m => (HS3.out.map.below (HB6.out m) (Nat.le_refl _)).look (fun x hx => by have h1 := HS3.out.box x hx; have h2 := HW.out; have h3 := HH.out; omega) (q := q) (by have h1 := HQB.out; have h2 := HW.out; have h3 := HH.out; omega)
                unfold spN spV at hlk
                simp only [hq1, hq2] at hlk
                obtain ⟨mm, hmm⟩ : ∃ mm, dx * dy = mm := ⟨_, rfl⟩
                have HMM := Lib.hid hmm
                have hmb : -1 ≤ mm ∧ mm ≤ 1 := by
                  have h1 := HD.out
                  rcases (show dx = -1 ∨ dx = 0 ∨ dx = 1 by omega) with h | h | h <;> rw [h] at hmm <;> omega
                obtain ⟨hmb0, hmb1⟩ := hmb
                have qW : IntKind.i64.wrap mm = mm := IntWalk.i64_in _ (by omega)
                have qM : IntKind.i64.wrap (dx * dy) = mm := by rw [hmm]; exact qW
                clear hat6 hf hA hB hC hD hq1 hq2
                by_cases hm0 : mm = 0
                · subst hm0
                  by_cases hS : q ∈ S3
                  · simp only [if_pos hS] at hlk
                    have HSS := Lib.hid hS
                    clear hS
                    go_quiet ((go_at_call 64; exact Calls.quiet_of_same (HWD6.out _)))
                    go_wp2_with fail
                    go_meet
                    exact ⟨_, true, rfl, rfl, fun _ r ha hc h1 h2 => (HQ.out r h1 h2) ▸ HSS.out, fun e => by cases e⟩
                  simp only [if_neg hS] at hlk
                  have HSS := Lib.hid hS
                  clear hS
                  by_cases hfi : f = is
                  · subst hfi
                    have qf : (f != f) = false := by simp
                    go_quiet (first | (go_at_call 64; exact Calls.quiet_of_same (HWD6.out _)) | (go_at_call 88; exact Calls.quiet_of_same (HAT6.out _)))
                    go_wp2_with fail
                    go_meet
                    exact ⟨_, false, rfl, rfl, (fun e => by cases e), fun _ => ⟨q, HQ1.out, HQ2.out, ⟨HQB.out.1, HQB.out.2, by rw [HQ1.out, HQ2.out]; exact HF.out⟩, HSS.out, adj_dxy HD.out.1 HD.out.2 (HQ1.out.trans HQX.out.symm) (HQ2.out.trans HQY.out.symm) (Or.inr HMM.out)⟩⟩
                  have qf := (bool_ne hfi).1
                  have qf2 := (bool_ne hfi).2
                  have HFI := Lib.hid hfi
                  clear hfi
                  go_quiet (first | (go_at_call 64; exact Calls.quiet_of_same (HWD6.out _)) | (go_at_call 88; exact Calls.quiet_of_same (HAT6.out _)))
                  go_wp2_with fail
                  go_meet
                  exact ⟨_, true, rfl, rfl, fun _ r ha hc h1 h2 => absurd (HF.out.symm.trans ((by rw [← h1, ← h2] : fullI ms qx qy = fullI ms (r.1 : Int) (r.2 : Int)).trans hc.2.2)) HFI.out, fun e => by cases e⟩
                have qm : (mm == 0) = false := beq_eq_false_iff_ne.2 hm0
                have qm2 : (mm != 0) = true := by simp [hm0]
                have HM0 := Lib.hid hm0
                clear hm0
                cases cor with
                | false =>
                  go_quiet ((go_at_call 64; exact Calls.quiet_of_same (HWD6.out _)))
                  go_wp2_with fail
                  go_meet
                  exact ⟨_, true, rfl, rfl, fun _ r ha hc h1 h2 => absurd (HMM.out.symm.trans (adj_dxy' (h1.trans HQX.out.symm) (h2.trans HQY.out.symm) ha)) HM0.out, fun e => by cases e⟩
                | true =>
                  by_cases hS : q ∈ S3
                  · simp only [if_pos hS] at hlk
                    have HSS := Lib.hid hS
                    clear hS
                    go_quiet ((go_at_call 64; exact Calls.quiet_of_same (HWD6.out _)))
                    go_wp2_with fail
                    go_meet
                    exact ⟨_, true, rfl, rfl, fun _ r ha hc h1 h2 => (HQ.out r h1 h2) ▸ HSS.out, fun e => by cases e⟩
                  simp only [if_neg hS] at hlk
                  have HSS := Lib.hid hS
                  clear hS
                  by_cases hfi : f = is
                  · subst hfi
                    have qf : (f != f) = false := by simp
                    go_quiet (first | (go_at_call 64; exact Calls.quiet_of_same (HWD6.out _)) | (go_at_call 88; exact Calls.quiet_of_same (HAT6.out _)))
                    go_wp2_with fail
                    go_meet
                    exact ⟨_, false, rfl, rfl, (fun e => by cases e), fun _ => ⟨q, HQ1.out, HQ2.out, ⟨HQB.out.1, HQB.out.2, by rw [HQ1.out, HQ2.out]; exact HF.out⟩, HSS.out, adj_dxy HD.out.1 HD.out.2 (HQ1.out.trans HQX.out.symm) (HQ2.out.trans HQY.out.symm) (Or.inl rfl)⟩⟩
                  have qf := (bool_ne hfi).1
                  have qf2 := (bool_ne hfi).2
                  have HFI := Lib.hid hfi
                  clear hfi
                  go_quiet (first | (go_at_call 64; exact Calls.quiet_of_same (HWD6.out _)) | (go_at_call 88; exact Calls.quiet_of_same (HAT6.out _)))
                  go_wp2_with fail
                  go_meet
                  exact ⟨_, true, rfl, rfl, fun _ r ha hc h1 h2 => absurd (HF.out.symm.trans ((by rw [← h1, ← h2] : fullI ms qx qy = fullI ms (r.1 : Int) (r.2 : Int)).trans hc.2.2)) HFI.out, fun e => by cases e⟩
              case rest =>
              obtain ⟨m6, t, hs139, hwx, ht1, ht2⟩ := hcut
              subst hs139 hwx
              cases t with
              | true =>
                have HT := Lib.hid (ht1 rfl)
                clear ht1 ht2
                go_wp2_with fail
                go_meet
                exact HSTEP.out m6 HT.out
              | false =>
                obtain ⟨q, hq1, hq2, hcq, hqS, hadj⟩ := ht2 rfl
                have hdr : Below wr.heap.size wr (w6.drewN (m6 + 1)) := HB6.out (m6 + 1)
                have hqb : q.1 < wideI ms ∧ q.2 < ms.length := ⟨hcq.1, hcq.2.1⟩
                have hmp := HS3.out.map.below hdr (Nat.le_refl _)
                obtain ⟨W3, W4, e1, e2, e3, e4, hm4, hg4⟩ := hmp.hit (fun x hx => by have h1 := HS3.out.box x hx; have h2 := HW.out; have h3 := HH.out; omega) (q := q) (by have h2 := HW.out; have h3 := HH.out; omega) hqS
                unfold spN spV at e1 e2 e3
                simp only [hq1, hq2] at e1 e2 e3
                have hpush : ∀ v' w', w'.ownsRow w.heap.size 117 2 v' (n3 + 1) (spVs (T3.map sqI) ++ [.int .i64 qx, .int .i64 qy]) → (W4.alloc (.cells #[.int .i64 qx, .int .i64 qy] 117)).grownBy w' (Value.slice pv n3 cv).ownBlock →
                    (v'.ownBlock = (Value.slice pv n3 cv).ownBlock ∨ v'.ownBlock = some (W4.alloc (.cells #[.int .i64 qx, .int .i64 qy] 117)).heap.size) → SprN ms cor is (x0, y0) b w.heap.size w rim gp px py (gk - 1) dy (dx + 1) v' w' := fun v' w' h1 h2 h3 => by
                  have hstk : SpO w.heap.size w' v' ((T3 ++ [q]).map sqI) := by
                    unfold SpO
                    rw [List.map_append, spVs_app, List.length_append, List.length_map, HN3.out]
                    show w'.ownsRow w.heap.size 117 2 v' (n3 + 1) (spVs (T3.map sqI) ++ [.int .i64 (q.1 : Int), .int .i64 (q.2 : Int)])
                    rw [hq1, hq2]; exact h1
                  have hP := HS3.out.push hblt rfl hdr hg4 hm4 hqS hqb (HCON.out.step hadj hcq) h2 hstk
                  have hlt := box_len (W := wideI ms) (H := ms.length) hP.nod hP.box
                  have hgpl := (Array.getElem?_eq_some_iff.1 (HBP.out.below hdr).1).1
                  have hgpb : gp ≠ b := fun e => hmp.obj _ _ _ (by rw [← e]; exact (HBP.out.below hdr).1)
                  have hbg : W4.heap[gp]? = _ := (hg4.block gp hgpl (fun e => hgpb (by simpa using e))).trans (HBP.out.below hdr).1
                  have hgpl4 : gp < W4.heap.size := Nat.lt_of_lt_of_le hgpl hg4.size
                  have hba := (Below.refl W4.heap.size W4).alloc (Nat.le_refl _) (.cells #[.int .i64 qx, .int .i64 qy] 117)
                  refine ⟨S3 ++ [q], T3 ++ [q], hP, ?_, ⟨?_, ?_⟩, HNR.out.step (fun r h => List.mem_append_left _ h) (fun r _ _ h5 h6 => ?_)⟩
                  · have := HK3.out
                    rw [List.length_append] at hlt ⊢
                    rw [List.length_append]
                    simp only [List.length_cons, List.length_nil] at hlt ⊢
                    omega
                  · rw [hgr_block h2 (Nat.lt_of_lt_of_le hgpl4 hba.size) (fun e => HBP.out.2 e.symm), hba.block gp hgpl4]; exact hbg
                  · rcases h3 with h3 | h3
                    · rw [h3]; exact HBP.out.2
                    · rw [h3]; intro e; have := Option.some.inj e; have := hba.size; omega
                  · have : r = q := Prod.ext (by have := HQX.out; omega) (by have := HQY.out; omega)
                    rw [this]; simp
                have hobj := hmp.obj
                have hcq4 : W4.heap[gq]? = some (.cells #[.int .i64 qx, .int .i64 qy] 117 (0, 0)) := by
                  have h1 : (w6.drewN (m6 + 1)).heap[gq]? = _ := HC16.out
                  exact (hg4.block gq (Array.getElem?_eq_some_iff.1 h1).1 (fun e => hobj _ _ _ (by have e2 : gq = b := by simpa using e
                                                                                                   rw [← e2]; exact h1))).trans h1
                have hst4 : SpO w.heap.size W4 (.slice pv n3 cv) (T3.map sqI) := (HS3.out.stk.below hdr (Nat.le_refl _)).grown hg4 hobj
                have hst5 : (W4.alloc (.cells #[.int .i64 qx, .int .i64 qy] 117)).ownsRow w.heap.size 117 2 (.slice pv n3 cv) n3 (spVs (T3.map sqI)) := by
                  have h := hst4.below ((Below.refl W4.heap.size W4).alloc (Nat.le_refl _) (.cells #[.int .i64 qx, .int .i64 qy] 117)) (Nat.le_refl _)
                  unfold SpO at h
                  rw [List.length_map, HN3.out] at h; exact h
                have hbase : w.heap.size ≤ (W4.alloc (.cells #[.int .i64 qx, .int .i64 qy] 117)).heap.size := by
                  have h1 := HS3.out.fr.size
                  have h2 := hdr.size
                  have h3 := hg4.size
                  have h4 := ((Below.refl W4.heap.size W4).alloc (Nat.le_refl _) (.cells #[.int .i64 qx, .int .i64 qy] 117)).size
                  omega
                have HPUSH := Lib.hid hpush
                have HST5 := Lib.hid hst5
                have HBASE := Lib.hid hbase
                have HCQ4 := Lib.hid hcq4
                have HNW := Lib.hid (World.news_of_block (cs := #[.int .i64 qx, .int .i64 qy]) (t := 117) (fr := (0, 0)) (heap_alloc_new W4 (.cells #[.int .i64 qx, .int .i64 qy] 117)))
                clear ht1 ht2 hq1 hq2 hcq hqS hadj hdr hqb hmp hm4 hg4 hpush hobj hcq4 hst4 hst5 hbase
                go_upto_region 18 with fail
                go_cut [] (fun wx => wx = W4)
                case first =>
                  go_region_with (fail)
                  all_goals
                    go_wp2
                    go_meet
                    rfl
                case rest =>
                subst hcut
                clear e1 e2 e3 e4 c0 c1
                obtain ⟨d0, d1⟩ := box_cells HCQ4.out
                go_wp2_with (at_builtin; go_loud (refine wpList_append_own_at _ rfl (.tmp 146) (.tmp 148) 111 rfl w.heap.size 117 i2 (.agg #[.int .i64 0, .int .i64 0]) 2 16 Tryz.underlying111 hi2 hz0 hz1 hz2 rfl (by decide) _ n3 (spVs (T3.map sqI)) rfl HST5.out ⟨_, 0, none⟩ 1 1 [.int .i64 qx, .int .i64 qy] rfl rfl HNW.out (two_one _ _) (by unfold maxLen; omega) (by omega) HBASE.out ?_); intro v' w' hown hgr hnil hat; have HP := Lib.hid (HPUSH.out v' w' hown hgr hat); clear hown hgr hnil hat)
                go_meet
                exact HP.out
            · obtain rfl : dx = 2 := by omega
              have HN4 := Lib.hid hN3
              clear hN3
              go_wp2_with fail
              go_roundw
              case rel => exact ⟨dy + 1, by omega, by omega, by go_num, HN4.out.row⟩
              case measure => simp [intOf]; omega
        · obtain rfl : dy = 2 := by omega
          go_wp2_with fail
          go_roundg (gk - 1)
          case measure => omega
          case rel =>
            obtain ⟨S2, T2, hs2, hk2⟩ := HN2.out.done HCON.out
            exact ⟨S2, T2, _, rfl, hs2, hk2, by have := HKK.out; omega⟩
end Go.Proofs.YtoheffkiohfmoaaGreatDoor
