/-
  Merge trees and bars, plain: what the end of merging says.
  The document's reach, plain: what is kept while the list grows.
  Merge trees and bars, plain: the complex's edges by numbers; what the document's ways see at an edge; the next one above, and the bars, while they are looked for.
-/
import Derived.Test.YtddnjimpdidpaaaGreatDoorRbL
set_option linter.unusedSimpArgs false
set_option linter.unusedVariables false
namespace Go.Proofs.YtddnjimpdidpaaaGreatDoor
open Go

/-- the next one above that touches the piece -/
theorem pst_par {n : Nat} {h : Nat → Int} {Ad : Nat → Nat → Prop} (g : Gr n h Ad) {t : Int} {o hd : Nat → Nat} {par : Nat → Option Nat} {bars : List (Nat × Nat)} (P : Pst n h Ad t o hd par bars) (ht : ∀ x, x < n → h x < t) {i : Nat} (hi : i < n) : FirstH h (TQ h Ad i) (par i) :=
  (P.par i hi).congr fun k => ⟨fun a => a.1, fun a => ⟨a, by
    obtain ⟨-, x, -, b⟩ := a
    exact ht k (g.lt k x b).1⟩⟩
/-- edges up to a height, from one whose piece is no higher -/
theorem rch_at {h : Nat → Int} {A : Nat → Nat → Prop} {Ad : Nat → Nat → Prop} {m : Int} (hA : ∀ x y, A x y → Ad x y) {r y : Nat} (hh : ∀ z, Rch A r z → h z ≤ m) (k : Rch A r y) : Rch (AtH h Ad m) r y := by
  induction k with
  | refl => exact .refl _
  | @tail x z k a ih => exact .tail ih ⟨hA _ _ a, hh x k, hh z (.tail k a)⟩
theorem rch_first {A : Nat → Nat → Prop} {r y : Nat} (k : Rch A r y) (hne : y ≠ r) : ∃ u, A r u := by
  induction k with
  | refl => exact absurd rfl hne
  | @tail x z k a ih =>
    by_cases e : x = r
    · rw [e] at a; exact ⟨z, a⟩
    · exact ih e
theorem pst_low {n : Nat} {h : Nat → Int} {Ad : Nat → Nat → Prop} {t : Int} {o hd : Nat → Nat} {par : Nat → Option Nat} {bars : List (Nat × Nat)} (P : Pst n h Ad t o hd par bars) (ht : ∀ x, x < n → h x < t) (g : Gr n h Ad) {r k : Nat} (hr : r < n) (hq : LowQ n h Ad r k) : o r ≠ r := fun e => by
  obtain ⟨-, -, y, ky, hy⟩ := hq
  have k2 : Rch (fun x y => Ad x y ∧ h x < t ∧ h y < t) r y := ky.mono fun p q c => ⟨c.1, ht p (g.lt p q c.1).1, ht q (g.lt p q c.1).2⟩
  have := P.uf.low r y ⟨hr, ht r hr⟩ k2
  rw [e] at this
  omega
theorem pst_bar {n : Nat} {h : Nat → Int} {Ad : Nat → Nat → Prop} (g : Gr n h Ad) {t : Int} {o hd : Nat → Nat} {par : Nat → Option Nat} {bars : List (Nat × Nat)} (P : Pst n h Ad t o hd par bars) (ht : ∀ x, x < n → h x < t) (r k : Nat) : (r, k) ∈ bars ↔ BarQ n h Ad r k := by
  rw [P.bar r k]
  exact ⟨fun a => a.1, fun a => ⟨a, ht r a.1.1, pst_low P ht g a.1.1 a.2.1⟩⟩
theorem pst_root {n : Nat} {h : Nat → Int} {Ad : Nat → Nat → Prop} (g : Gr n h Ad) {t : Int} {o hd : Nat → Nat} {par : Nat → Option Nat} {bars : List (Nat × Nat)} (P : Pst n h Ad t o hd par bars) (ht : ∀ x, x < n → h x < t) {r : Nat} (hr : r < n) : o r = r ↔ Lm n h Ad r ∧ ∀ k, ¬ LowQ n h Ad r k := by
  have hR : r < n ∧ h r < t := ⟨hr, ht r hr⟩
  constructor
  · intro e
    refine ⟨⟨hr, fun u au => ?_⟩, fun k hq => pst_low P ht g hr hq e⟩
    have hu := (g.lt u r au).1
    have h1 := P.uf.low r u hR (.tail (.refl _) ⟨g.sym _ _ au, ht r hr, ht u hu⟩)
    rw [e] at h1
    have h2 : h u ≠ h r := fun e2 => by
      have := g.inj u r hu hr e2
      rw [this] at au
      exact g.irr _ au
    omega
  · rintro ⟨hl, hn⟩
    apply Classical.byContradiction
    intro hne
    have k1 := P.uf.ro r hR
    have hor := P.uf.rin hR
    have h1 := P.uf.low r r hR (.refl _)
    have h2 : h (o r) ≠ h r := fun e => hne (g.inj _ _ hor.1 hr e)
    obtain ⟨u, au, -⟩ := rch_first k1 hne
    have hu := (g.lt r u au).2
    have hru := hl.2 u (g.sym _ _ au)
    have hh : ∀ z, Rch (fun x y => Ad x y ∧ h x < t ∧ h y < t) r z → h z ≤ h (hd (o r)) := fun z kz => P.uf.high r z hR kz
    have hhu := hh u (.tail (.refl _) ⟨au, ht r hr, ht u hu⟩)
    have hkn := (P.uf.to (P.uf.hr r hR) hR).1
    exact hn (hd (o r)) ⟨hkn, by omega, o r, rch_at (fun x y a => a.1) hh k1, by omega⟩
/-- the end of a bar -/
def barEnd (h : Nat → Int) (q : Option Nat) : Int := match q with | none => 1048577 | some k => h k
theorem allBars_mem {n : Nat} {ht : List Int} {Ad : Nat → Nat → Prop} (g : Gr n (fun i => ht.getD i 0) Ad) {t : Int} {o hd : Nat → Nat} {par : Nat → Option Nat} {bars : List (Nat × Nat)} (P : Pst n (fun i => ht.getD i 0) Ad t o hd par bars) (hlt : ∀ x, x < n → ht.getD x 0 < t) (p : Int × Int) :
    p ∈ allBars ht o bars n ↔ ∃ r q, Lm n (fun i => ht.getD i 0) Ad r ∧ FirstH (fun i => ht.getD i 0) (LowQ n (fun i => ht.getD i 0) Ad r) q ∧ p = (ht.getD r 0, barEnd (fun i => ht.getD i 0) q) := by
  unfold allBars rootsI rootsN
  rw [List.mem_append, List.mem_map, List.mem_map]
  constructor
  · rintro (⟨⟨r, k⟩, hm, rfl⟩ | ⟨r, hm, rfl⟩)
    · have hq := (pst_bar g P hlt r k).1 hm
      exact ⟨r, some k, hq.1, Or.inr ⟨k, rfl, hq.2.1, hq.2.2⟩, rfl⟩
    · obtain ⟨h1, h2⟩ := List.mem_filter.1 hm
      have hr := List.mem_range.1 h1
      obtain ⟨h3, h4⟩ := (pst_root g P hlt hr).1 (by simpa using h2)
      exact ⟨r, none, h3, Or.inl ⟨rfl, h4⟩, rfl⟩
  · rintro ⟨r, q, hl, ⟨rfl, hn⟩ | ⟨k, rfl, hk, hm⟩, rfl⟩
    · refine Or.inr ⟨r, List.mem_filter.2 ⟨List.mem_range.2 hl.1, ?_⟩, rfl⟩
      simpa using (pst_root g P hlt hl.1).2 ⟨hl, hn⟩
    · exact Or.inl ⟨(r, k), (pst_bar g P hlt r k).2 ⟨hl, hk, hm⟩, rfl⟩
/-- rising lists of the same pairs are the same -/
theorem rise_same : ∀ {a b : List (Int × Int)}, a.Pairwise (fun p q => p.1 < q.1) → b.Pairwise (fun p q => p.1 < q.1) → (∀ p, p ∈ a ↔ p ∈ b) → a = b
  | [], [], _, _, _ => rfl
  | [], y :: b, _, _, h => absurd ((h y).2 List.mem_cons_self) (by simp)
  | x :: a, [], _, _, h => absurd ((h x).1 List.mem_cons_self) (by simp)
  | x :: a, y :: b, ha, hb, h => by
    have ha2 := List.pairwise_cons.1 ha
    have hb2 := List.pairwise_cons.1 hb
    have e : x = y := by
      rcases List.mem_cons.1 ((h x).1 List.mem_cons_self) with e | e
      · exact e
      · rcases List.mem_cons.1 ((h y).2 List.mem_cons_self) with e2 | e2
        · exact e2.symm
        · have h1 := hb2.1 x e
          have h2 := ha2.1 y e2
          omega
    subst e
    rw [rise_same ha2.2 hb2.2 fun p => ?_]
    have h1 := h p
    rw [List.mem_cons, List.mem_cons] at h1
    constructor
    · intro hp
      rcases h1.1 (Or.inr hp) with e | e
      · have := ha2.1 p hp
        rw [e] at this
        omega
      · exact e
    · intro hp
      rcases h1.2 (Or.inr hp) with e | e
      · have := hb2.1 p hp
        rw [e] at this
        omega
      · exact e

/-- the list so far; the first p have been looked at; of the next one, edges up to q -/
structure Rea (n : Nat) (h : Nat → Int) (Ep : List (Nat × Nat)) (m : Int) (i : Nat) (out : List Nat) (p q : Nat) : Prop where
  nod : out.Nodup
  at0 : out.head? = some i
  ok : ∀ x ∈ out, x < n ∧ h x ≤ m ∧ Rch (AtH h (AdE Ep) m) i x
  done : ∀ j, j < p → ∀ x, out[j]? = some x → ∀ y, AtH h (AdE Ep) m x y → y ∈ out
  part : ∀ x, out[p]? = some x → ∀ y, ((x, y) ∈ Ep.take q ∨ (y, x) ∈ Ep.take q) → h y ≤ m → y ∈ out
theorem rea_init {n : Nat} {h : Nat → Int} {Ep : List (Nat × Nat)} {m : Int} {i : Nat} (hi : i < n) (hm : h i ≤ m) : Rea n h Ep m i [i] 0 0 :=
  ⟨by simp, rfl, fun x hx => by obtain rfl := List.mem_singleton.1 hx; exact ⟨hi, hm, .refl _⟩, fun j hj => absurd hj (Nat.not_lt_zero j), fun x _ y hy => by simp at hy⟩
theorem rea_next {n : Nat} {h : Nat → Int} {Ep : List (Nat × Nat)} {m : Int} {i : Nat} {out : List Nat} {p : Nat} (R : Rea n h Ep m i out p Ep.length) : Rea n h Ep m i out (p + 1) 0 :=
  ⟨R.nod, R.at0, R.ok, fun j hj x hx y a => by
    rcases (show j < p ∨ j = p by omega) with h1 | rfl
    · exact R.done j h1 x hx y a
    · have h2 := R.part x hx y
      rw [List.take_length] at h2
      exact h2 a.1 a.2.2, fun x _ y hy => by simp at hy⟩
theorem rea_len {n : Nat} {h : Nat → Int} {Ep : List (Nat × Nat)} {m : Int} {i : Nat} {out : List Nat} {p q : Nat} (R : Rea n h Ep m i out p q) : out.length ≤ n := by
  have h1 := R.nod.length_le_of_subset (l₂ := List.range n) fun x hx => List.mem_range.2 (R.ok x hx).1
  rwa [List.length_range] at h1
theorem rea_skip {n : Nat} {h : Nat → Int} {Ep : List (Nat × Nat)} {m : Int} {i : Nat} {out : List Nat} {p q x : Nat} (R : Rea n h Ep m i out p q) (hq : q < Ep.length) (hx : out[p]? = some x) (hs : ∀ y, (Ep.getD q (0, 0) = (x, y) ∨ Ep.getD q (0, 0) = (y, x)) → h y ≤ m → y ∈ out) : Rea n h Ep m i out p (q + 1) :=
  ⟨R.nod, R.at0, R.ok, R.done, fun z hz y hy hm => by
    obtain rfl := Option.some.inj (hx.symm.trans hz)
    rw [take_snoc_getD (0, 0) Ep q hq] at hy
    simp only [List.mem_append, List.mem_singleton] at hy
    rcases hy with (a | a) | (a | a)
    · exact R.part x hx y (Or.inl a) hm
    · exact hs y (Or.inl a.symm) hm
    · exact R.part x hx y (Or.inr a) hm
    · exact hs y (Or.inr a.symm) hm⟩
theorem get_app {out : List Nat} {j x z : Nat} (h : out[j]? = some x) : (out ++ [z])[j]? = some x := by
  have := (List.getElem?_eq_some_iff.1 h).1
  rw [List.getElem?_append_left this]; exact h
theorem rea_add {n : Nat} {h : Nat → Int} {Ep : List (Nat × Nat)} {m : Int} {i : Nat} {out : List Nat} {p q x z : Nat} (R : Rea n h Ep m i out p q) (hp : p < out.length) (hx : out[p]? = some x) (hz : z ∉ out) (hzn : z < n) (hzm : h z ≤ m) (ha : AdE Ep x z) : Rea n h Ep m i (out ++ [z]) p q := by
  have hxo : x ∈ out := List.mem_of_getElem? hx
  obtain ⟨h1, h2, h3⟩ := R.ok x hxo
  refine ⟨List.nodup_append.2 ⟨R.nod, by simp, fun a ha b hb e => ?_⟩, ?_, fun y hy => ?_, fun j hj y hy k a => ?_, fun y hy k hk hm => ?_⟩
  · rw [List.mem_singleton] at hb
    rw [e, hb] at ha
    exact hz ha
  · cases out with
    | nil => simp at hp
    | cons a b => exact R.at0
  · rcases List.mem_append.1 hy with h | h
    · exact R.ok y h
    · obtain rfl := List.mem_singleton.1 h
      exact ⟨hzn, hzm, .tail h3 ⟨ha, h2, hzm⟩⟩
  · rw [List.getElem?_append_left (by omega)] at hy
    exact List.mem_append.2 (Or.inl (R.done j hj y hy k a))
  · rw [List.getElem?_append_left hp] at hy
    exact List.mem_append.2 (Or.inl (R.part y hy k hk hm))
/-- at the end: the whole piece -/
theorem rea_done {n : Nat} {h : Nat → Int} {Ep : List (Nat × Nat)} {m : Int} {i : Nat} {out : List Nat} {p q : Nat} (R : Rea n h Ep m i out p q) (hp : out.length ≤ p) (x : Nat) : x ∈ out ↔ Rch (AtH h (AdE Ep) m) i x := by
  constructor
  · exact fun hx => (R.ok x hx).2.2
  · intro k
    induction k with
    | refl =>
      have h1 := R.at0
      cases out with
      | nil => simp at h1
      | cons a b => obtain rfl := Option.some.inj h1; exact List.mem_cons_self
    | @tail y z k a ih =>
      obtain ⟨j, hj, e⟩ := List.getElem_of_mem ih
      exact R.done j (by omega) y (by rw [List.getElem?_eq_getElem hj, e]) z a

/-- edges of two vertices each -/
def EdgO (V : List Int) (E : List (List Int)) : Prop := V.Nodup ∧ ∀ e ∈ E, ∃ a b, a < V.length ∧ b < V.length ∧ a ≠ b ∧ e = [V.getD a 0, V.getD b 0]
theorem idx_getD {V : List Int} (h : V.Nodup) {a : Nat} (ha : a < V.length) : V.idxOf (V.getD a 0) = a := by
  rw [List.getD_eq_getElem?_getD, List.getElem?_eq_getElem ha]
  exact List.Nodup.idxOf_getElem h a ha
theorem getI_inj {V : List Int} (h : V.Nodup) {a b : Nat} (ha : a < V.length) (hb : b < V.length) (e : V.getD a 0 = V.getD b 0) : a = b := by
  have h1 := idx_getD h ha
  rw [e, idx_getD h hb] at h1
  exact h1.symm
theorem edg_at {V : List Int} {E : List (List Int)} (h : EdgO V E) {q : Nat} (hq : q < E.length) : ∃ a b, a < V.length ∧ b < V.length ∧ a ≠ b ∧ E.getD q [] = [V.getD a 0, V.getD b 0] ∧ (edgN V E).getD q (0, 0) = (a, b) := by
  obtain ⟨a, b, ha, hb, hne, e⟩ := h.2 E[q] (List.getElem_mem hq)
  refine ⟨a, b, ha, hb, hne, by rw [List.getD_eq_getElem?_getD, List.getElem?_eq_getElem hq]; exact e, ?_⟩
  unfold edgN
  rw [List.getD_eq_getElem?_getD, List.getElem?_map, List.getElem?_eq_getElem hq, e]
  show (V.idxOf (V.getD a 0), V.idxOf (V.getD b 0)) = (a, b)
  rw [idx_getD h.1 ha, idx_getD h.1 hb]
theorem edgN_len (V : List Int) (E : List (List Int)) : (edgN V E).length = E.length := List.length_map ..
theorem mem_edg {V : List Int} {E : List (List Int)} {p : Nat × Nat} : p ∈ edgN V E ↔ ∃ q, q < E.length ∧ (edgN V E).getD q (0, 0) = p := by
  constructor
  · intro h
    obtain ⟨q, hq, e⟩ := List.getElem_of_mem h
    refine ⟨q, by rwa [edgN_len] at hq, ?_⟩
    rw [List.getD_eq_getElem?_getD, List.getElem?_eq_getElem hq]; exact e
  · rintro ⟨q, hq, rfl⟩
    rw [← edgN_len V] at hq
    rw [List.getD_eq_getElem?_getD, List.getElem?_eq_getElem hq]
    exact List.getElem_mem hq
theorem edg_of {L : List (List Int)} (h0 : errX L = 0) : EdgO (vertA L) (dimF (allF L) 1) := by
  have hr : Rise (vertA L) := rise_setL _
  have hnd : (vertA L).Nodup := List.Pairwise.imp (fun h => by omega) hr
  refine ⟨hnd, fun e he => ?_⟩
  obtain ⟨h1, h2⟩ := List.mem_filter.1 he
  have h3 := of_decide_eq_true h2
  have h4 : e.length = 2 := by omega
  have hin : ∀ x ∈ e, x ∈ vertA L := fun x hx => by
    rw [← vert_same h0, mem_vertR]
    exact closed_under e h1 [x] (List.singleton_sublist.2 hx) (by simp)
  have hri := allF_rises (errX_ok h0).1 e h1
  match e, h4, hin, hri with
  | [x, y], _, hin, hri =>
    have hxy : x < y := by
      have := List.pairwise_cons.1 hri
      exact this.1 y (by simp)
    obtain ⟨a, ha, ea⟩ := List.getElem_of_mem (hin x (by simp))
    obtain ⟨b, hb, eb⟩ := List.getElem_of_mem (hin y (by simp))
    refine ⟨a, b, ha, hb, ?_, ?_⟩
    · intro e
      subst e
      omega
    · rw [List.getD_eq_getElem?_getD, List.getElem?_eq_getElem ha, List.getD_eq_getElem?_getD, List.getElem?_eq_getElem hb, ← ea, ← eb]
      rfl
theorem gr_of {V ht : List Int} {E : List (List Int)} {n : Nat} (hE : EdgO V E) (hn : V.length = n) (hh : ht.length = n) (hnd : ht.Nodup) : Gr n (fun i => ht.getD i 0) (AdE (edgN V E)) := by
  have key : ∀ x y, (x, y) ∈ edgN V E → x < n ∧ y < n ∧ x ≠ y := fun x y h => by
    obtain ⟨q, hq, e⟩ := mem_edg.1 h
    obtain ⟨a, b, ha, hb, hne, -, e2⟩ := edg_at hE hq
    rw [e] at e2
    cases e2
    exact ⟨by omega, by omega, hne⟩
  refine ⟨fun x y h => h.symm, fun x h => ?_, fun x y h => ?_, fun x y hx hy e => getI_inj hnd (by omega) (by omega) e⟩
  · rcases h with h | h <;> exact (key x x h).2.2 rfl
  · rcases h with h | h
    · have := key x y h; exact ⟨this.1, this.2.1⟩
    · have := key y x h; exact ⟨this.2.1, this.1⟩
theorem minus_l {V : List Int} (h : V.Nodup) {a b : Nat} (ha : a < V.length) (hb : b < V.length) (hne : a ≠ b) : minF [V.getD a 0, V.getD b 0] [V.getD a 0] = [V.getD b 0] := by
  have h1 : V.getD b 0 ≠ V.getD a 0 := fun e => hne (getI_inj h hb ha e).symm
  unfold minF
  simp [List.filter_cons, -List.getD_eq_getElem?_getD, h1]
theorem minus_r {V : List Int} (h : V.Nodup) {a b : Nat} (ha : a < V.length) (hb : b < V.length) (hne : a ≠ b) : minF [V.getD a 0, V.getD b 0] [V.getD b 0] = [V.getD a 0] := by
  have h1 : V.getD a 0 ≠ V.getD b 0 := fun e => hne (getI_inj h ha hb e)
  unfold minF
  simp [List.filter_cons, -List.getD_eq_getElem?_getD, h1]
theorem minus_no {V : List Int} (h : V.Nodup) {a b x : Nat} (ha : a < V.length) (hb : b < V.length) (hx : x < V.length) (h1 : x ≠ a) (h2 : x ≠ b) : (minF [V.getD a 0, V.getD b 0] [V.getD x 0]) = [V.getD a 0, V.getD b 0] := by
  have k1 : V.getD a 0 ≠ V.getD x 0 := fun e => h1 (getI_inj h ha hx e).symm
  have k2 : V.getD b 0 ≠ V.getD x 0 := fun e => h2 (getI_inj h hb hx e).symm
  unfold minF
  simp [List.filter_cons, -List.getD_eq_getElem?_getD, k1, k2]
theorem has_two {V : List Int} (h : V.Nodup) {a b x : Nat} (ha : a < V.length) (hb : b < V.length) (hx : x < V.length) : [V.getD a 0, V.getD b 0].contains (V.getD x 0) = decide (x = a ∨ x = b) := by
  rw [Bool.eq_iff_iff, List.contains_iff_mem, decide_eq_true_iff, List.mem_cons, List.mem_singleton]
  constructor
  · rintro (e | e)
    · exact Or.inl (getI_inj h hx ha e)
    · exact Or.inr (getI_inj h hx hb e)
  · rintro (rfl | rfl)
    · exact Or.inl rfl
    · exact Or.inr rfl
/-- vertices by their numbers -/
def verN (V : List Int) (N : List Nat) : List Int := N.map fun x => V.getD x 0
theorem verN_len (V : List Int) (N : List Nat) : (verN V N).length = N.length := List.length_map ..
theorem verN_get {V : List Int} {N : List Nat} {j : Nat} (hj : j < N.length) : (verN V N).getD j 0 = V.getD (N.getD j 0) 0 := by
  unfold verN
  rw [List.getD_eq_getElem?_getD, List.getElem?_map, List.getElem?_eq_getElem hj, List.getD_eq_getElem?_getD (l := N), List.getElem?_eq_getElem hj]
  rfl
theorem verN_snoc (V : List Int) (N : List Nat) (y : Nat) : verN V (N ++ [y]) = verN V N ++ [V.getD y 0] := by unfold verN; rw [List.map_append]; rfl
theorem has_ver {V : List Int} (h : V.Nodup) {N : List Nat} (hN : ∀ x ∈ N, x < V.length) {y : Nat} (hy : y < V.length) : (verN V N).contains (V.getD y 0) = decide (y ∈ N) := by
  rw [Bool.eq_iff_iff, List.contains_iff_mem, decide_eq_true_iff]
  unfold verN
  rw [List.mem_map]
  constructor
  · rintro ⟨x, hx, e⟩
    rwa [← getI_inj h (hN x hx) hy e]
  · exact fun hm => ⟨y, hm, rfl⟩
/-- an edge leads from k into the piece -/
def nbB (V : List Int) (N : List Nat) (e : List Int) (k : Nat) : Bool := decide ((minF e [V.getD k 0]).length = 1) && (verN V N).contains ((minF e [V.getD k 0]).getD 0 0)
theorem nb_iff {V : List Int} {E : List (List Int)} (hE : EdgO V E) {N : List Nat} (hN : ∀ x ∈ N, x < V.length) {k q : Nat} (hk : k < V.length) (hq : q < E.length) : nbB V N (E.getD q []) k = true ↔ ∃ x ∈ N, (edgN V E).getD q (0, 0) = (k, x) ∨ (edgN V E).getD q (0, 0) = (x, k) := by
  obtain ⟨a, b, ha, hb, hne, e1, e2⟩ := edg_at hE hq
  unfold nbB
  rw [e1, e2]
  by_cases h1 : k = a
  · subst h1
    rw [minus_l hE.1 ha hb hne]
    show (true && (verN V N).contains (V.getD b 0)) = true ↔ _
    rw [has_ver hE.1 hN hb]
    simp only [Bool.true_and, decide_eq_true_iff]
    constructor
    · exact fun hm => ⟨b, hm, Or.inl rfl⟩
    · rintro ⟨x, hx, e | e⟩
      · cases e; exact hx
      · cases e; exact absurd rfl hne
  · by_cases h2 : k = b
    · subst h2
      rw [minus_r hE.1 ha hb hne]
      show (true && (verN V N).contains (V.getD a 0)) = true ↔ _
      rw [has_ver hE.1 hN ha]
      simp only [Bool.true_and, decide_eq_true_iff]
      constructor
      · exact fun hm => ⟨a, hm, Or.inr rfl⟩
      · rintro ⟨x, hx, e | e⟩
        · cases e; exact absurd rfl hne
        · cases e; exact hx
    · rw [minus_no hE.1 ha hb hk h1 h2]
      constructor
      · intro h; simp at h
      · rintro ⟨x, hx, e | e⟩
        · cases e; exact absurd rfl h1
        · cases e; exact absurd rfl h2
/-- the piece of i up to a height -/
structure PieceN (n : Nat) (h : Nat → Int) (Ad : Nat → Nat → Prop) (m : Int) (i : Nat) (N : List Nat) : Prop where
  nod : N.Nodup
  lt : ∀ x ∈ N, x < n
  iff : ∀ x, x ∈ N ↔ Rch (AtH h Ad m) i x
theorem rea_piece {n : Nat} {h : Nat → Int} {Ep : List (Nat × Nat)} {m : Int} {i : Nat} {out : List Nat} {p q : Nat} (R : Rea n h Ep m i out p q) (hp : out.length ≤ p) : PieceN n h (AdE Ep) m i out := ⟨R.nod, fun x hx => (R.ok x hx).1, rea_done R hp⟩
theorem piece_len {n : Nat} {h : Nat → Int} {Ad : Nat → Nat → Prop} {m : Int} {i : Nat} {N : List Nat} (P : PieceN n h Ad m i N) : N.length ≤ n := by
  have h1 := P.nod.length_le_of_subset (l₂ := List.range n) fun x hx => List.mem_range.2 (P.lt x hx)
  rwa [List.length_range] at h1
theorem any_tq {V : List Int} {E : List (List Int)} (hE : EdgO V E) {n : Nat} (hV : V.length = n) {h : Nat → Int} {i k : Nat} {N : List Nat} (P : PieceN n h (AdE (edgN V E)) (h i) i N) (hk : k < n) (hi : h i < h k) : (∃ q, q < E.length ∧ nbB V N (E.getD q []) k = true) ↔ TQ h (AdE (edgN V E)) i k := by
  have hN : ∀ x ∈ N, x < V.length := fun x hx => by rw [hV]; exact P.lt x hx
  constructor
  · rintro ⟨q, hq, hb⟩
    obtain ⟨x, hx, e⟩ := (nb_iff hE hN (by omega) hq).1 hb
    refine ⟨hi, x, (P.iff x).1 hx, ?_⟩
    rcases e with e | e
    · exact Or.inl (mem_edg.2 ⟨q, hq, e⟩)
    · exact Or.inr (mem_edg.2 ⟨q, hq, e⟩)
  · rintro ⟨-, x, hx, ha | ha⟩
    · obtain ⟨q, hq, e⟩ := mem_edg.1 ha
      exact ⟨q, hq, (nb_iff hE hN (by omega) hq).2 ⟨x, (P.iff x).2 hx, Or.inl e⟩⟩
    · obtain ⟨q, hq, e⟩ := mem_edg.1 ha
      exact ⟨q, hq, (nb_iff hE hN (by omega) hq).2 ⟨x, (P.iff x).2 hx, Or.inr e⟩⟩
/-- the lowest of those that T tells, among the first k -/
def FstK (h : Nat → Int) (T : Nat → Prop) (k : Nat) (p : Option Nat) : Prop := FirstH h (fun j => T j ∧ j < k) p
theorem fstK_0 {h : Nat → Int} {T : Nat → Prop} : FstK h T 0 none := Or.inl ⟨rfl, fun k hk => absurd hk.2 (Nat.not_lt_zero k)⟩
theorem fstK_no {h : Nat → Int} {T : Nat → Prop} {k : Nat} {p : Option Nat} (F : FstK h T k p) (hk : ¬ T k) : FstK h T (k + 1) p :=
  F.congr fun j => ⟨fun a => ⟨a.1, by omega⟩, fun a => ⟨a.1, by
    rcases (show j < k ∨ j = k by omega) with h1 | rfl
    · exact h1
    · exact absurd a.1 hk⟩⟩
theorem fstK_old {h : Nat → Int} {T : Nat → Prop} {k b : Nat} (F : FstK h T k (some b)) (hb : h b ≤ h k) : FstK h T (k + 1) (some b) := by
  rcases F with ⟨e, -⟩ | ⟨c, e, h1, h2⟩
  · cases e
  · cases e
    refine Or.inr ⟨b, rfl, ⟨h1.1, by omega⟩, fun j hj => ?_⟩
    rcases (show j < k ∨ j = k by omega) with h3 | rfl
    · exact h2 j ⟨hj.1, h3⟩
    · exact hb
theorem fstK_new {h : Nat → Int} {T : Nat → Prop} {k : Nat} {p : Option Nat} (F : FstK h T k p) (hk : T k) (hp : ∀ b, p = some b → h k < h b) : FstK h T (k + 1) (some k) := by
  refine Or.inr ⟨k, rfl, ⟨hk, by omega⟩, fun j hj => ?_⟩
  rcases (show j < k ∨ j = k by omega) with h3 | rfl
  · rcases F with ⟨-, hn⟩ | ⟨b, e, h1, h2⟩
    · exact absurd ⟨hj.1, h3⟩ (hn j)
    · have a := h2 j ⟨hj.1, h3⟩
      have c := hp b e
      omega
  · exact Int.le_refl _
theorem fstK_all {h : Nat → Int} {T : Nat → Prop} {k : Nat} {p : Option Nat} (F : FstK h T k p) (hT : ∀ j, T j → j < k) : FirstH h T p :=
  F.congr fun j => ⟨fun a => a.1, fun a => ⟨a, hT j a⟩⟩
theorem fstK_lt {h : Nat → Int} {T : Nat → Prop} {k b : Nat} (F : FstK h T k (some b)) : b < k ∧ T b := by
  rcases F with ⟨e, -⟩ | ⟨c, e, h1, h2⟩
  · cases e
  · cases e; exact ⟨h1.2, h1.1⟩
theorem tq_lt {n : Nat} {h : Nat → Int} {Ad : Nat → Nat → Prop} (g : Gr n h Ad) {i k : Nat} (t : TQ h Ad i k) : k < n := by
  obtain ⟨-, x, -, a⟩ := t
  exact (g.lt k x a).1
theorem piece_one {n : Nat} {h : Nat → Int} {Ad : Nat → Nat → Prop} (g : Gr n h Ad) {i : Nat} (hi : i < n) {N : List Nat} (P : PieceN n h Ad (h i) i N) : N.length ≤ 1 ↔ Lm n h Ad i := by
  have hiN : i ∈ N := (P.iff i).2 (.refl _)
  constructor
  · intro hl
    refine ⟨hi, fun u au => ?_⟩
    apply Classical.byContradiction
    intro hn
    have hu : u ∈ N := (P.iff u).2 (.tail (.refl _) ⟨g.sym _ _ au, Int.le_refl _, by omega⟩)
    match N, hl, hiN, hu with
    | [x], _, hiN, hu =>
      rw [List.mem_singleton] at hiN hu
      rw [hu, ← hiN] at au
      exact g.irr _ au
  · intro hl
    have hall : ∀ x ∈ N, x = i := fun x hx => by
      have k := (P.iff x).1 hx
      apply Classical.byContradiction
      intro hne
      obtain ⟨u, au, h1, h2⟩ := rch_first k hne
      have := hl.2 u (g.sym _ _ au)
      omega
    have h1 := P.nod.length_le_of_subset (l₂ := [i]) fun x hx => List.mem_singleton.2 (hall x hx)
    exact h1
theorem low_iff {n : Nat} {h : Nat → Int} {Ad : Nat → Nat → Prop} {i k : Nat} {N : List Nat} (P : PieceN n h Ad (h k) i N) (hk : k < n) (hik : h i < h k) : (∃ y ∈ N, h y < h i) ↔ LowQ n h Ad i k := by
  constructor
  · rintro ⟨y, hy, hl⟩
    exact ⟨hk, hik, y, (P.iff y).1 hy, hl⟩
  · rintro ⟨-, -, y, hy, hl⟩
    exact ⟨y, (P.iff y).2 hy, hl⟩
/-- a bar put into its place -/
def posB (out : List (Int × Int)) (x : Int) : Nat := (out.takeWhile fun p => decide (p.1 < x)).length
def insB (out : List (Int × Int)) (p : Int × Int) : List (Int × Int) := out.take (posB out p.1) ++ [p] ++ out.drop (posB out p.1)
theorem posB_le (out : List (Int × Int)) (x : Int) : posB out x ≤ out.length := (List.takeWhile_prefix _).length_le
theorem posB_of {out : List (Int × Int)} {x : Int} {k : Nat} (hk : k ≤ out.length) (h1 : ∀ j, j < k → (out.getD j (0, 0)).1 < x) (h2 : k < out.length → x ≤ (out.getD k (0, 0)).1) : posB out x = k := by
  unfold posB
  induction out generalizing k with
  | nil => simp at hk; subst hk; rfl
  | cons a l ih =>
    cases k with
    | zero =>
      have := h2 (by simp)
      simp only [List.getD_cons_zero] at this
      rw [List.takeWhile_cons_of_neg (by simp; omega)]
      rfl
    | succ k =>
      have h0 := h1 0 (by omega)
      simp only [List.getD_cons_zero] at h0
      rw [List.takeWhile_cons_of_pos (by simpa using h0), List.length_cons]
      rw [ih (k := k) (by simpa using hk) (fun j hj => by have := h1 (j + 1) (by omega); simpa using this) (fun hj => by have := h2 (by simp; omega); simpa using this)]
theorem insB_rise {out : List (Int × Int)} {p : Int × Int} (h : out.Pairwise (fun a b => a.1 < b.1)) (hne : ∀ a ∈ out, a.1 ≠ p.1) : (insB out p).Pairwise (fun a b => a.1 < b.1) ∧ ∀ a, a ∈ insB out p ↔ a ∈ out ∨ a = p := by
  unfold insB posB
  induction out with
  | nil => simp
  | cons x l ih =>
    have hc := List.pairwise_cons.1 h
    have hx := hne x (by simp)
    by_cases hlt : x.1 < p.1
    · rw [List.takeWhile_cons_of_pos (by simpa using hlt), List.length_cons]
      obtain ⟨i1, i2⟩ := ih hc.2 fun a ha => hne a (List.mem_cons_of_mem _ ha)
      simp only [List.take_succ_cons, List.drop_succ_cons, List.cons_append]
      refine ⟨List.pairwise_cons.2 ⟨fun a ha => ?_, i1⟩, fun a => ?_⟩
      · rcases (i2 a).1 ha with h | rfl
        · exact hc.1 a h
        · exact hlt
      · rw [List.mem_cons, i2 a, List.mem_cons]
        constructor
        · rintro (h | h | h)
          · exact Or.inl (Or.inl h)
          · exact Or.inl (Or.inr h)
          · exact Or.inr h
        · rintro ((h | h) | h)
          · exact Or.inl h
          · exact Or.inr (Or.inl h)
          · exact Or.inr (Or.inr h)
    · rw [List.takeWhile_cons_of_neg (by simpa using hlt)]
      simp only [List.length_nil, List.take_zero, List.drop_zero, List.nil_append, List.singleton_append]
      refine ⟨List.pairwise_cons.2 ⟨fun a ha => ?_, h⟩, fun a => by rw [List.mem_cons]; exact ⟨Or.symm, Or.symm⟩⟩
      rcases List.mem_cons.1 ha with rfl | ha
      · omega
      · have := hc.1 a ha; omega
theorem insB_len (out : List (Int × Int)) (p : Int × Int) : (insB out p).length = out.length + 1 := by
  unfold insB
  have := posB_le out p.1
  simp only [List.length_append, List.length_take, List.length_drop, List.length_cons, List.length_nil]
  omega
/-- the bars of the first i vertices -/
structure LowS (n : Nat) (ht : List Int) (Ad : Nat → Nat → Prop) (i : Nat) (out : List (Int × Int)) : Prop where
  rise : out.Pairwise (fun a b => a.1 < b.1)
  iff : ∀ p, p ∈ out ↔ ∃ r q, r < i ∧ Lm n (fun i => ht.getD i 0) Ad r ∧ FirstH (fun i => ht.getD i 0) (LowQ n (fun i => ht.getD i 0) Ad r) q ∧ p = (ht.getD r 0, barEnd (fun i => ht.getD i 0) q)
theorem lowS_0 {n : Nat} {ht : List Int} {Ad : Nat → Nat → Prop} : LowS n ht Ad 0 [] := ⟨List.Pairwise.nil, fun p => ⟨fun h => absurd h (by simp), fun ⟨r, q, h, _⟩ => absurd h (Nat.not_lt_zero r)⟩⟩
theorem lowS_no {n : Nat} {ht : List Int} {Ad : Nat → Nat → Prop} {i : Nat} {out : List (Int × Int)} (S : LowS n ht Ad i out) (h : ¬ Lm n (fun i => ht.getD i 0) Ad i) : LowS n ht Ad (i + 1) out :=
  ⟨S.rise, fun p => by
    rw [S.iff p]
    constructor
    · rintro ⟨r, q, h1, h2⟩; exact ⟨r, q, by omega, h2⟩
    · rintro ⟨r, q, h1, h2, h3⟩
      refine ⟨r, q, ?_, h2, h3⟩
      rcases (show r < i ∨ r = i by omega) with h4 | rfl
      · exact h4
      · exact absurd h2 h⟩
theorem lowS_add {n : Nat} {ht : List Int} {Ad : Nat → Nat → Prop} (g : Gr n (fun i => ht.getD i 0) Ad) {i : Nat} {out : List (Int × Int)} (S : LowS n ht Ad i out) (h : Lm n (fun i => ht.getD i 0) Ad i) {q : Option Nat} (hq : FirstH (fun i => ht.getD i 0) (LowQ n (fun i => ht.getD i 0) Ad i) q) : LowS n ht Ad (i + 1) (insB out (ht.getD i 0, barEnd (fun i => ht.getD i 0) q)) := by
  obtain ⟨h1, h2⟩ := insB_rise (p := (ht.getD i 0, barEnd (fun i => ht.getD i 0) q)) S.rise fun a ha e => by
    obtain ⟨r, q', hr, hl, -, rfl⟩ := (S.iff a).1 ha
    have := g.inj r i hl.1 h.1 e
    omega
  refine ⟨h1, fun p => ?_⟩
  rw [h2 p, S.iff p]
  constructor
  · rintro (⟨r, q', hr, h3⟩ | rfl)
    · exact ⟨r, q', by omega, h3⟩
    · exact ⟨i, q, by omega, h, hq, rfl⟩
  · rintro ⟨r, q', hr, hl, hf, rfl⟩
    rcases (show r < i ∨ r = i by omega) with h4 | rfl
    · exact Or.inl ⟨r, q', h4, hl, hf, rfl⟩
    · have := FirstH.unique (n := n) g.inj (fun k hk => hk.1) hf hq
      rw [this]
      exact Or.inr rfl
theorem lowS_len {n : Nat} {ht : List Int} {Ad : Nat → Nat → Prop} (g : Gr n (fun i => ht.getD i 0) Ad) {i : Nat} {out : List (Int × Int)} (S : LowS n ht Ad i out) : out.length ≤ n := by
  have h1 : (out.map Prod.fst).Nodup := by
    unfold List.Nodup
    rw [List.pairwise_map]
    exact S.rise.imp fun h e => by omega
  have h2 := h1.length_le_of_subset (l₂ := (List.range n).map fun r => ht.getD r 0) fun x hx => by
    obtain ⟨p, hp, rfl⟩ := List.mem_map.1 hx
    obtain ⟨r, q', hr, hl, -, rfl⟩ := (S.iff p).1 hp
    exact List.mem_map.2 ⟨r, List.mem_range.2 hl.1, rfl⟩
  rwa [List.length_map, List.length_map, List.length_range] at h2
end Go.Proofs.YtddnjimpdidpaaaGreatDoor
