/-
  slices.SortFunc of faces by slices.Compare, in an owned row's words: the same faces, sorted. Condition: no face twice.
  cells.Make by a contract: the complex of any sets, or what is wrong.
  Which faces are facets (plain): what Make keeps of all faces.
-/
import Derived.Test.YtddnjimpdidpaaaGreatDoorCelC
import Derived.Test.YtddnjimpdidpaaaGreatDoorCmp
set_option linter.unusedSimpArgs false
set_option linter.unusedVariables false
namespace Go.Proofs.YtddnjimpdidpaaaGreatDoor
open Go Go.RowKit Go.Sort Go.Lib Go.Maps

theorem cmpL_ah : ∀ a b : List Int, decide (cmpL a b < 0) = ah a b
  | [], [] => rfl
  | [], _ :: _ => rfl
  | _ :: _, [] => rfl
  | x :: a, y :: b => by
    unfold cmpL ah
    by_cases h1 : x < y
    · rw [if_pos h1, if_neg (by omega), decide_eq_true h1]; rfl
    · rw [if_neg h1]
      by_cases h2 : y < x
      · rw [if_pos h2, if_neg (by omega), decide_eq_false h1]; rfl
      · rw [if_neg h2, if_pos (by omega)]
        exact cmpL_ah a b
def cfL {k : Nat} (L : List (List Int)) (i j : Fin (k + 1)) : Int := cmpL (L.getD i.val []) (L.getD j.val [])
theorem lt_cfL {k : Nat} (L : List (List Int)) (i j : Fin (k + 1)) : ltOf (cfL L) i j = ah (L.getD i.val []) (L.getD j.val []) := cmpL_ah _ _
theorem swo_cfL {k : Nat} (L : List (List Int)) : SWO (ltOf (cfL (k := k) L)) where
  irrefl x := by rw [lt_cfL]; exact ah_irrefl _
  trans x y z h1 h2 := by rw [lt_cfL] at *; exact ah_trans h1 h2
  ntrans x y z h1 h2 := by
    rw [lt_cfL] at *
    cases h : ah (L.getD x.val []) (L.getD z.val []) with
    | false => rfl
    | true =>
      by_cases e1 : L.getD y.val [] = L.getD x.val []
      · rw [e1, h] at h2; cases h2
      · rcases ah_total e1 with h3 | h3
        · rw [ah_trans h3 h] at h2; cases h2
        · rw [h3] at h1; cases h1
theorem getD_inj {L : List (List Int)} (h : L.Nodup) {i j : Nat} (hi : i < L.length) (hj : j < L.length) (e : L.getD i [] = L.getD j []) : i = j := by
  rw [List.getD_eq_getElem?_getD, List.getD_eq_getElem?_getD, List.getElem?_eq_getElem hi, List.getElem?_eq_getElem hj] at e
  exact (List.getElem_inj h).1 e

def SortLPost (O B g cap n : Nat) (L : List (List Int)) (w : World) (e : Ending) (w' : World) : Prop :=
  e = .returned (.tuple #[]) ∧ w.grownBy w' (some g) ∧ ∃ L', RowsO O B w' (.slice (some ⟨g, 0, none⟩) n cap) L' ∧ SortedF L' ∧ ∀ f, f ∈ L' ↔ f ∈ L
theorem sortL_any (O B g cap : Nat) (L : List (List Int)) (w : World) (hB : B ≤ O) (hR : RowsO O B w (.slice (some ⟨g, 0, none⟩) L.length cap) L) (hp : 0 < L.length) (hnd : L.Nodup) (hn : L.length ≤ 100000) (hl : ∀ l ∈ L, l.length ≤ 100000) :
    Calls Tryz.prog 91 #[.slice (some ⟨g, 0, none⟩) L.length cap, .func (.func 92) #[] #[]] w (SortLPost O B g cap L.length L w) := by
  obtain ⟨k, hk⟩ : ∃ k, L.length = k + 1 := ⟨L.length - 1, by omega⟩
  obtain ⟨hs, ho, hhl, hin⟩ := hR
  have hg := ho.lt g rfl
  have hr := row_other ho hB
  have henc : ∀ i : Fin (k + 1), IntsIn B w (hs.getD i.val .nilIface) (L.getD i.val []) := fun i => hin i.val (by omega)
  have hds : (Array.ofFn (fun i : Fin (k + 1) => i)).size = L.length := by rw [Array.size_ofFn, hk]
  have hHd : Holds (fun i : Fin (k + 1) => hs.getD i.val .nilIface) w g 0 (Array.ofFn (fun i : Fin (k + 1) => i)) := by
    intro j hj
    rw [Array.size_ofFn] at hj
    refine ⟨?_, ho.frozenAt _⟩
    rw [Nat.zero_add, ho.cellAt j (by omega)]
    rw [List.getElem?_eq_getElem (show j < hs.length by omega)]
    have e : (Array.ofFn (fun i : Fin (k + 1) => i))[j]! = ⟨j, hj⟩ := by
      rw [getElem!_pos _ j (by rw [Array.size_ofFn]; exact hj), Array.getElem_ofFn]
    rw [e]
    show _ = some (hs.getD j .nilIface)
    rw [List.getD_eq_getElem?_getD, List.getElem?_eq_getElem (show j < hs.length by omega)]; rfl
  have hcmp : CmpLays1 Tryz.prog 92 #[] (fun i : Fin (k + 1) => hs.getD i.val .nilIface) (cfL L) g 0 (Array.ofFn (fun i : Fin (k + 1) => i)).size w := by
    intro m os dk _ x y
    have hgr : w.grownBy (sortWorld (fun i : Fin (k + 1) => hs.getD i.val .nilIface) w g 0 m dk os) (some g) := put_grown dk
    have hx := (henc x).grown hgr (fun q e => by cases e; exact hr g rfl)
    have hy := (henc y).grown hgr (fun q e => by cases e; exact hr g rfl)
    refine (compare_any _ _ (L.getD x.val []) (L.getD y.val []) _ hx.at hy.at (Nat.le_trans (hl _ (getL_mem (by omega))) (by decide)) (Nat.le_trans (hl _ (getL_mem (by omega))) (by decide))).mono fun e w' ⟨he, hw⟩ => ⟨he, 0, #[], ?_⟩
    rw [grow_empty, ← hw]; rfl
  have hT : ∀ x y : Fin (k + 1), (ltOf (cfL L)) x y = false → (ltOf (cfL L)) y x = false → x = y := fun x y h1 h2 => by
    rw [lt_cfL] at h1 h2
    by_cases e : L.getD x.val [] = L.getD y.val []
    · exact Fin.ext (getD_inj hnd (by omega) (by omega) e)
    · rcases ah_total e with h | h
      · rw [h] at h1; cases h1
      · rw [h] at h2; cases h2
  have hcall := Tryz.slices_SortFunc_total_f91 (fun i : Fin (k + 1) => hs.getD i.val .nilIface) (fun i => (henc i).one) (cfL L) (swo_cfL L) 92 #[] g 0 cap (Array.ofFn (fun i : Fin (k + 1) => i)) w (enters_of Tryz.func92 (by kernel_rfl) rfl) hcmp hHd hg.2 (by rw [hds]; omega) hT
  rw [hds] at hcall
  refine hcall.mono fun e w' ⟨he, q, os, hw⟩ => ?_
  have hperm := List.mergeSort_perm (Array.ofFn (fun i : Fin (k + 1) => i)).toList (fun x y => !(ltOf (cfL L)) y x)
  have hpw := List.pairwise_mergeSort (le := fun x y : Fin (k + 1) => !(ltOf (cfL L)) y x) (fun x y z h1 h2 => by
    simp only [Bool.not_eq_true'] at *
    exact (swo_cfL L).ntrans z y x h2 h1) (fun x y => by
    cases h1 : ltOf (cfL L) y x with
    | false => rfl
    | true =>
      cases h2 : ltOf (cfL L) x y with
      | false => rfl
      | true => have := (swo_cfL L).trans _ _ _ h1 h2; rw [(swo_cfL L).irrefl] at this; cases this) (Array.ofFn (fun i : Fin (k + 1) => i)).toList
  generalize hm : (Array.ofFn (fun i : Fin (k + 1) => i)).toList.mergeSort (fun x y => !(ltOf (cfL L)) y x) = ml at hw hperm hpw
  have hml : ml.length = L.length := by rw [hperm.length_eq, Array.length_toList, hds]
  have hmn : ml.Nodup := hperm.nodup_iff.2 (by
    rw [Array.toList_ofFn]
    exact List.nodup_iff_pairwise_ne.2 (List.pairwise_iff_getElem.2 fun i j hi hj hij e => by
      simp only [List.getElem_ofFn, Fin.mk.injEq] at e
      omega))
  have hall : ∀ i : Fin (k + 1), i ∈ ml := fun i => hperm.mem_iff.2 (by
    rw [Array.toList_ofFn, List.mem_ofFn]
    exact ⟨i, rfl⟩)
  subst hw
  have hgr : w.grownBy (sortWorld (fun i : Fin (k + 1) => hs.getD i.val .nilIface) w g 0 q ml.toArray os) (some g) := put_grown _
  refine ⟨he, hgr, ml.map (fun i => L.getD i.val []), ?_, ?_, fun f => ?_⟩
  · refine ⟨ml.map (fun i : Fin (k + 1) => hs.getD i.val .nilIface), ?_, by simp, fun i hi => ?_⟩
    · have h := put_owns (enc := fun i : Fin (k + 1) => hs.getD i.val .nilIface) (q := q) (os := os) ml L.length hml (Nat.le_refl _) ho
      rw [List.take_of_length_le (by rw [hml]; exact Nat.le_refl _)] at h
      rw [List.length_map, hml]
      exact h
    · rw [List.length_map] at hi
      have e1 : (ml.map (fun i : Fin (k + 1) => hs.getD i.val .nilIface)).getD i .nilIface = hs.getD (ml[i]).val .nilIface := by
        rw [List.getD_eq_getElem?_getD, List.getElem?_map, List.getElem?_eq_getElem hi]; rfl
      have e2 : (ml.map (fun i => L.getD i.val [])).getD i [] = L.getD (ml[i]).val [] := by
        rw [List.getD_eq_getElem?_getD, List.getElem?_map, List.getElem?_eq_getElem hi]; rfl
      rw [e1, e2]
      exact (henc ml[i]).grown hgr (fun q e => by cases e; exact hr g rfl)
  · refine List.pairwise_map.2 ((hpw.and hmn).imp fun {x y} ⟨h1, h2⟩ => ?_)
    rw [lt_cfL] at h1
    have hne : L.getD x.val [] ≠ L.getD y.val [] := fun e => h2 (Fin.ext (getD_inj hnd (by omega) (by omega) e))
    rcases ah_total hne with h | h
    · exact h
    · rw [h] at h1; cases h1
  · rw [List.mem_map]
    constructor
    · rintro ⟨i, -, rfl⟩
      exact getL_mem (by omega)
    · intro hf
      obtain ⟨i, hi, rfl⟩ := List.getElem_of_mem hf
      refine ⟨⟨i, by omega⟩, hall _, ?_⟩
      show L.getD i [] = L[i]
      rw [List.getD_eq_getElem?_getD, List.getElem?_eq_getElem hi]; rfl

/-- is g a face of S without one vertex, the faces being those of which 'done' says so? -/
def HitBy (S : List (List Int)) (done : List Int → Prop) (g : List Int) : Prop := ∃ f ∈ S, done f ∧ ∃ i, i < f.length ∧ f.eraseIdx i = g
def HitTo (S : List (List Int)) (done : List Int → Prop) (f : List Int) (k : Nat) (g : List Int) : Prop := HitBy S done g ∨ ∃ i, i < k ∧ f.eraseIdx i = g
theorem hitTo_zero {S : List (List Int)} {done : List Int → Prop} {f g : List Int} : HitTo S done f 0 g ↔ HitBy S done g :=
  ⟨fun h => h.elim id fun ⟨i, h, _⟩ => by omega, Or.inl⟩
theorem hitTo_step {S : List (List Int)} {done : List Int → Prop} {f g : List Int} {k : Nat} : (HitTo S done f k g ∨ g = f.eraseIdx k) ↔ HitTo S done f (k + 1) g := by
  unfold HitTo
  constructor
  · rintro ((h | ⟨i, h1, h2⟩) | h)
    · exact Or.inl h
    · exact Or.inr ⟨i, by omega, h2⟩
    · exact Or.inr ⟨k, by omega, h.symm⟩
  · rintro (h | ⟨i, h1, h2⟩)
    · exact Or.inl (Or.inl h)
    · rcases (show i < k ∨ i = k by omega) with h | rfl
      · exact Or.inl (Or.inr ⟨i, h, h2⟩)
      · exact Or.inr h2.symm
theorem hitTo_all {S : List (List Int)} {done : List Int → Prop} {f g : List Int} (hf : f ∈ S) : HitTo S done f f.length g ↔ HitBy S (fun x => done x ∨ x = f) g := by
  unfold HitTo HitBy
  constructor
  · rintro (⟨x, h1, h2, h3⟩ | ⟨i, h1, h2⟩)
    · exact ⟨x, h1, Or.inl h2, h3⟩
    · exact ⟨f, hf, Or.inr rfl, i, h1, h2⟩
  · rintro ⟨x, h1, h2 | rfl, i, h3, h4⟩
    · exact Or.inl ⟨x, h1, h2, i, h3, h4⟩
    · exact Or.inr ⟨i, h3, h4⟩
/-- what the entries that are still to come leave done -/
def doneOf (left : Lit → Bool) (f : List Int) : Prop := left (klit f) = false
theorem done_step {left : Lit → Bool} {f x : List Int} (hf : Vtx f) (hx : Vtx x) : doneOf (fun z => left z && !z.sameKey (klit f)) x ↔ (doneOf left x ∨ x = f) := by
  unfold doneOf
  rw [Bool.and_eq_false_iff, Bool.not_eq_false']
  have e : (klit x).sameKey (klit f) = true ↔ x = f := by
    unfold klit
    show (keyL x == keyL f) = true ↔ _
    rw [beq_iff_eq]
    exact ⟨fun h => keyL_inj hx hf h, fun h => by rw [h]⟩
  rw [e]

/-- the state of a loop over the map of faces, beside a map that counts -/
def MkSt (B b r m nS : Nat) (D : DataW Value) (S : List (List Int)) (w wr : World) (left : Lit → Bool) (cnt t : Nat) (Hit : List Int → Prop) : Prop :=
  wr.ranges Tryz.prog 9 valE b r nS D left cnt ∧ HeldAll B wr D S ∧ Below w.heap.size w wr ∧ CMap wr m t Hit
theorem ranges_below {C : Nat} {w w' : World} {b r n : Nat} {D : DataW Value} {left : Lit → Bool} {cnt : Nat} (h : w.ranges Tryz.prog 9 valE b r n D left cnt) (hb : Below C w w') (hC : w.heap.size ≤ C) : w'.ranges Tryz.prog 9 valE b r n D left cnt :=
  h.kept (row := none) ⟨hb.os, hb.tape, hb.output, hb.size, fun i hi _ => hb.block i (Nat.lt_of_lt_of_le hi hC)⟩ (by simp) (by simp)
theorem MkSt.below {B b r m nS : Nat} {D : DataW Value} {S : List (List Int)} {w wr w' : World} {left : Lit → Bool} {cnt t : Nat} {Hit : List Int → Prop} (h : MkSt B b r m nS D S w wr left cnt t Hit) (hb : Below wr.heap.size wr w') : MkSt B b r m nS D S w w' left cnt t Hit :=
  ⟨ranges_below h.1 hb (Nat.le_refl _), h.2.1.below hb (Nat.le_refl _), h.2.2.1.trans (hb.mono h.2.2.1.size), h.2.2.2.below hb (Nat.le_refl _)⟩
theorem MkSt.iff {B b r m nS : Nat} {D : DataW Value} {S : List (List Int)} {w wr : World} {left : Lit → Bool} {cnt t : Nat} {Hit Hit' : List Int → Prop} (h : MkSt B b r m nS D S w wr left cnt t Hit) (hi : ∀ g, Hit g ↔ Hit' g) : MkSt B b r m nS D S w wr left cnt t Hit' :=
  ⟨h.1, h.2.1, h.2.2.1, h.2.2.2.iff hi⟩
theorem cmap_obj {w : World} {m t : Nat} {Dm : DataW Value} (h : w.ownsMap Tryz.prog 9 (plainElem Tryz.prog 3) m t Dm) : ∀ c ty fr, w.heap[m]? ≠ some (.cells c ty fr) := by
  obtain ⟨es, clock, hb, -⟩ := h
  intro c ty fr e
  rw [hb] at e; cases e
theorem iter_obj {w : World} {b r n : Nat} {D : DataW Value} {left : Lit → Bool} {cnt : Nat} (h : w.ranges Tryz.prog 9 valE b r n D left cnt) : ∀ c ty fr, w.heap[r]? ≠ some (.cells c ty fr) := by
  obtain ⟨es, clock, since, seen, c0, _, _, _, _, hr, _⟩ := h
  intro c ty fr e
  rw [hr] at e; cases e

def MakeC (a : Nat → Addr) (B : Nat) (L : List (List Int)) (w : World) (e : Ending) (w' : World) : Prop :=
  Below w.heap.size w w' ∧
  ((errC L = 0 ∧ ∃ v, e = .returned (.tuple #[.agg #[v], .nilIface]) ∧ RowsO w.heap.size B w' v (madeF L)) ∨
   (errC L ≠ 0 ∧ ∃ k, k < 8 ∧ errC L = k + 1 ∧ e = .returned (.tuple #[.agg #[.slice none 0 0], errE (a k)])))

/-- a block of one cell: stored into, and read -/
theorem one_set {w : World} {b : Nat} {x v : Value} {t : TypeId} (h : w.heap[b]? = some (.cells #[x] t (0, 0))) : (w.setCell ⟨b, 0, none⟩ v).cell? ⟨b, 0, none⟩ = some v := by
  simp [World.cell?, set_block (k := 0) (v := v) h]
theorem one_at {w : World} {b : Nat} {x : Value} {t : TypeId} (h : w.heap[b]? = some (.cells #[x] t (0, 0))) : w.cell? ⟨b, 0, none⟩ = some x ∧ w.frozen? ⟨b, 0, none⟩ = false := by
  simp [World.cell?, World.frozen?, h]
theorem one_blk {w : World} {b : Nat} {x v : Value} {t : TypeId} (h : w.heap[b]? = some (.cells #[x] t (0, 0))) : (w.setCell ⟨b, 0, none⟩ v).heap[b]? = some (.cells #[v] t (0, 0)) := by
  rw [set_block (k := 0) (v := v) h]; rfl

set_option maxRecDepth 100000 in
set_option maxHeartbeats 8000000 in
theorem make_bad (a : Nat → Addr) (B : Nat) (L : List (List Int)) (v : Value) (w : World) (hS : Sents w a) (hB : B ≤ w.heap.size) (hv : ListsIn B w v L) (hn : L.length ≤ 100000) (hl : ∀ l ∈ L, l.length ≤ 100000) (he : errC L ≠ 0) :
    Calls Tryz.prog 79 #[v] w (MakeC a B L w) := by
  have hb0 : Below w.heap.size w (w.alloc (.cells #[.slice none 0 0] 34)) := (Below.refl _ _).alloc (Nat.le_refl _) _
  have HC := Lib.hid (ccl_any a B L v (w.alloc (.cells #[.slice none 0 0] 34)) (hS.below hb0 (Nat.le_refl _)) (by simp; omega) (hv.below hb0 (Nat.le_refl _)) hn hl)
  have HE := Lib.hid he
  unfold CclPost errE at HC
  clear hS hB hv hn hl he
  go_enter Tryz.func79, Tryz.ntmps79
  go_wp2_with fail
  refine HC.out.mono ?_
  rintro e w1 ⟨hb1, ⟨h0, -⟩ | ⟨-, k, hk, hek, rfl⟩⟩
  · exact absurd h0 HE.out
  · have hblk : w1.heap[w.heap.size]? = some (.cells #[.slice none 0 0] 34 (0, 0)) := by
      rw [hb1.block _ (by simp)]; exact heap_alloc_new w _
    have HB1 := Lib.hid (hb0.trans (hb1.mono (by simp)))
    have hc0 : w1.cell? ⟨w.heap.size, 0, none⟩ = some (.slice none 0 0) := by simp [World.cell?, hblk]
    have hf0 : w1.frozen? ⟨w.heap.size, 0, none⟩ = false := by simp [World.frozen?, hblk]
    have HEK := Lib.hid hek
    have HBK := Lib.hid hblk
    clear hb1 hek hblk
    have HCS := Lib.hid (one_set (v := .slice none 0 0) HBK.out)
    go_wp2_with fail
    refine bodyPost_ret (v := .tuple #[.agg #[.slice none 0 0], .iface 237 (.pointer (some (a k)))]) (by simp [results, Tryz.results79, go_sem, HCS.out]) rfl ?_
    exact ⟨HB1.out.setCell (Nat.le_refl _) _, Or.inr ⟨HE.out, k, hk, HEK.out, rfl⟩⟩

def HitAll (S : List (List Int)) (g : List Int) : Prop := HitBy S (fun _ => True) g
theorem top_hit {L S : List (List Int)} (hL : ∀ l ∈ L, okSet l) (hS : ∀ g, g ∈ S ↔ IsF L g) {f : List Int} (hf : f ∈ S) : isTop (allF L) f = true ↔ ¬HitAll S f := by
  have key : ∀ n, ∀ g : List Int, g.length ≤ n → IsF L g → f.Sublist g → f.length < g.length → HitAll S f := by
    intro n
    induction n with
    | zero => intro g h1 _ _ h4; omega
    | succ n ih =>
      intro g h1 h2 h3 h4
      obtain ⟨i, hi, hs⟩ := sub_erase h3 h4
      have hl : (g.eraseIdx i).length = g.length - 1 := by rw [List.length_eraseIdx, if_pos hi]
      by_cases he : f.length = (g.eraseIdx i).length
      · exact ⟨g, (hS g).2 h2, trivial, i, hi, (hs.eq_of_length he).symm⟩
      · have hlt := hs.length_le
        refine ih (g.eraseIdx i) (by omega) (isF_sub h2 (List.eraseIdx_sublist _ _) ?_) hs (by omega)
        intro e
        rw [e] at hlt he
        simp at hlt he
        exact he hlt
  have h1 : ((allF L).any fun g => decide (f.length < g.length) && f.all fun x => g.contains x) = true ↔ HitAll S f := by
    rw [List.any_eq_true]
    constructor
    · rintro ⟨g, hg, hd⟩
      simp only [Bool.and_eq_true, decide_eq_true_eq, List.all_eq_true] at hd
      obtain ⟨h2, h3⟩ := hd
      have hgf := mem_allF.1 hg
      exact key g.length g (Nat.le_refl _) hgf (sub_of_rise (isF_rise hL ((hS f).1 hf)) (isF_rise hL hgf) fun x hx => by simpa using h3 x hx) h2
    · rintro ⟨g, hg, -, i, hi, rfl⟩
      refine ⟨g, mem_allF.2 ((hS g).1 hg), ?_⟩
      simp only [Bool.and_eq_true, decide_eq_true_eq, List.all_eq_true]
      refine ⟨by rw [List.length_eraseIdx, if_pos hi]; omega, fun x hx => ?_⟩
      have := (List.eraseIdx_sublist g i).subset hx
      simpa using this
  unfold isTop
  rw [Bool.not_eq_true', ← Bool.not_eq_true, h1]
theorem made_of {L S F : List (List Int)} (hL : ∀ l ∈ L, okSet l) (hS : ∀ g, g ∈ S ↔ IsF L g) (hs : SortedF F) (hF : ∀ g, g ∈ F ↔ (g ∈ S ∧ ¬HitAll S g)) : F = madeF L := by
  refine SortedF.ext hs (facets_sorted (allF_sorted L)) fun g => ?_
  show g ∈ F ↔ g ∈ (allF L).filter (isTop (allF L))
  rw [List.mem_filter, mem_allF, hF, ← hS]
  exact and_congr_right fun h => (top_hit hL hS h).symm

/-- the second loop's state, but for the facets -/
def MfB (B b r m nS t : Nat) (D Dm : DataW Value) (S : List (List Int)) (w wr : World) (left : Lit → Bool) (cnt : Nat) : Prop :=
  wr.ranges Tryz.prog 9 valE b r nS D left cnt ∧ HeldAll B wr D S ∧ Below w.heap.size w wr ∧ wr.ownsMap Tryz.prog 9 (plainElem Tryz.prog 3) m t Dm ∧
  wr.heap[w.heap.size]? = some (.cells #[.slice none 0 0] 34 (0, 0))
theorem MfB.below {B b r m nS t : Nat} {D Dm : DataW Value} {S : List (List Int)} {w wr w' : World} {left : Lit → Bool} {cnt : Nat} (h : MfB B b r m nS t D Dm S w wr left cnt) (hb : Below wr.heap.size wr w') : MfB B b r m nS t D Dm S w w' left cnt :=
  ⟨ranges_below h.1 hb (Nat.le_refl _), h.2.1.below hb (Nat.le_refl _), h.2.2.1.trans (hb.mono h.2.2.1.size), h.2.2.2.1.kept (row := none) (below_grown hb none) (by simp), (hb.block _ (Array.getElem?_eq_some_iff.1 h.2.2.2.2).1).trans h.2.2.2.2⟩
theorem MfB.grown {B b r m nS t : Nat} {D Dm : DataW Value} {S : List (List Int)} {w wr w' : World} {left : Lit → Bool} {cnt : Nat} {row : Option Nat} (h : MfB B b r m nS t D Dm S w wr left cnt) (hg : wr.grownBy w' row)
    (hr : ∀ k, row = some k → k ≠ b ∧ k ≠ r ∧ k ≠ m ∧ w.heap.size < k ∧ B ≤ k ∧ ∀ c, wr.heap[k]? ≠ some (.cells c 3 (0, 0))) : MfB B b r m nS t D Dm S w w' left cnt :=
  ⟨h.1.kept hg (fun e => (hr b e.symm).1 rfl) (fun e => (hr r e.symm).2.1 rfl), h.2.1.grown hg fun k e => (hr k e).2.2.2.2, h.2.2.1.grown hg h.2.2.1.size fun k e => Nat.le_of_lt (hr k e).2.2.2.1,
   h.2.2.2.1.kept hg (fun e => (hr m e.symm).2.2.1 rfl), (hg.block _ (Array.getElem?_eq_some_iff.1 h.2.2.2.2).1 (fun e => Nat.lt_irrefl _ (hr _ e.symm).2.2.2.1)).trans h.2.2.2.2⟩
/-- the facets found so far -/
def MfF (S : List (List Int)) (left : Lit → Bool) (F : List (List Int)) : Prop := F.Nodup ∧ ∀ g, g ∈ F ↔ (g ∈ S ∧ doneOf left g ∧ ¬HitAll S g)
theorem MfF.skip {S F : List (List Int)} {left : Lit → Bool} {f : List Int} (h : MfF S left F) (hS : ∀ g ∈ S, Vtx g) (hf : f ∈ S) (hh : HitAll S f) : MfF S (fun z => left z && !z.sameKey (klit f)) F := by
  refine ⟨h.1, fun g => (h.2 g).trans ⟨fun ⟨a, b, c⟩ => ⟨a, (done_step (hS f hf) (hS g a)).2 (Or.inl b), c⟩, fun ⟨a, b, c⟩ => ⟨a, ?_, c⟩⟩⟩
  rcases (done_step (hS f hf) (hS g a)).1 b with h1 | rfl
  · exact h1
  · exact absurd hh c
theorem MfF.push {S F : List (List Int)} {left : Lit → Bool} {f : List Int} (h : MfF S left F) (hS : ∀ g ∈ S, Vtx g) (hf : f ∈ S) (hh : ¬HitAll S f) (hl : left (klit f) = true) : MfF S (fun z => left z && !z.sameKey (klit f)) (F ++ [f]) := by
  have hnot : f ∉ F := fun hm => by
    have := ((h.2 f).1 hm).2.1
    unfold doneOf at this
    rw [hl] at this; cases this
  refine ⟨List.nodup_append.2 ⟨h.1, by simp, fun x hx y hy e => by simp at hy; subst hy; subst e; exact hnot hx⟩, fun g => ?_⟩
  rw [List.mem_append, h.2, List.mem_singleton]
  constructor
  · rintro (⟨a, b, c⟩ | rfl)
    · exact ⟨a, (done_step (hS f hf) (hS g a)).2 (Or.inl b), c⟩
    · exact ⟨hf, (done_step (hS g hf) (hS g hf)).2 (Or.inr rfl), hh⟩
  · rintro ⟨a, b, c⟩
    rcases (done_step (hS f hf) (hS g a)).1 b with h1 | rfl
    · exact Or.inl ⟨a, h1, c⟩
    · exact Or.inr rfl
theorem nodup_le : ∀ {F S : List (List Int)}, F.Nodup → (∀ g ∈ F, g ∈ S) → F.length ≤ S.length
  | [], _, _, _ => Nat.zero_le _
  | x :: F, S, h, hs => by
    obtain ⟨h1, h2⟩ := List.nodup_cons.1 h
    have hx := hs x (List.mem_cons_self ..)
    have := nodup_le (S := S.erase x) h2 fun g hg => (List.mem_erase_of_ne (fun e => h1 (by rw [← e]; exact hg))).2 (hs g (List.mem_cons_of_mem _ hg))
    rw [List.length_erase_of_mem hx] at this
    have := List.length_pos_of_mem hx
    simp only [List.length_cons]
    omega
theorem MfF.len {S F : List (List Int)} {left : Lit → Bool} (h : MfF S left F) : F.length ≤ S.length := nodup_le h.1 fun g hg => ((h.2 g).1 hg).1
theorem RowsO.grown {O B c : Nat} {w w' : World} {v : Value} {L : List (List Int)} (h : RowsO O B w v L) (hg : w.grownBy w' (some c)) (hc : c < O) (hB : B ≤ c) (ho : ∀ x, w.heap[c]? ≠ some (.cells x 3 (0, 0))) : RowsO O B w' v L := by
  obtain ⟨hs, h1, h2, h3⟩ := h
  have hne : ∀ k, v.ownBlock = some k → c ≠ k := fun k hk => by
    rcases h1.2 with ⟨rfl, _⟩ | ⟨g, cap, cur, rfl, hb, -⟩
    · cases hk
    · have : g = k := Option.some.inj hk
      omega
  exact ⟨hs, owns_keep h1 fun k hk => hg.block k (h1.lt k hk).2 (fun e => hne k hk (by cases e; rfl)), h2, fun i hi => (h3 i hi).grown hg fun k e => by cases e; exact ⟨hB, ho⟩⟩
theorem grown_cell (w : World) (b : Nat) (v : Value) : w.grownBy (w.setCell ⟨b, 0, none⟩ v) (some b) :=
  ⟨rfl, rfl, rfl, Nat.le_of_eq (by simp [World.setCell]), fun k _ hk => Below.heap_setCell _ _ _ k (fun e => hk (by rw [e]))⟩
end Go.Proofs.YtddnjimpdidpaaaGreatDoor
