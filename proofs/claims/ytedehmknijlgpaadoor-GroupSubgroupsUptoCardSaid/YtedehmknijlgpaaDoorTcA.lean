/-
  TODD and COXETER, plain: what stands for what; the smallest congruence that a coincidence makes.
-/
import Derived.WalkKit
namespace Go.Proofs.YtedehmknijlgpaaDoor.TC

/-- rows: where letters lead; -1: nowhere -/
abbrev Rows := List (List Int)
def ent (R : Rows) (x k : Nat) : Int := (R.getD x []).getD k (-1)

/-- for what a number stands -/
def repF (S : List Nat) : Nat → Nat → Nat
  | 0, k => k
  | f + 1, k => if S.getD k k = k then k else repF S f (S.getD k k)
def Wfs (S : List Nat) : Prop := ∀ k, S.getD k k ≤ k
def rep (S : List Nat) (k : Nat) : Nat := repF S (k + 1) k
theorem repF_enough {S : List Nat} (h : Wfs S) : ∀ (f g k : Nat), k < f → k < g → repF S f k = repF S g k
  | 0, _, k, h1, _ => absurd h1 (by omega)
  | _ + 1, 0, k, _, h2 => absurd h2 (by omega)
  | f + 1, g + 1, k, h1, h2 => by
    unfold repF
    by_cases e : S.getD k k = k
    · rw [if_pos e, if_pos e]
    · rw [if_neg e, if_neg e]
      have := h k
      exact repF_enough h f g _ (by omega) (by omega)
theorem rep_self {S : List Nat} {k : Nat} (e : S.getD k k = k) : rep S k = k := by unfold rep repF; rw [if_pos e]
theorem rep_step {S : List Nat} (h : Wfs S) (k : Nat) : rep S k = rep S (S.getD k k) := by
  by_cases e : S.getD k k = k
  · rw [e]
  · have := h k
    have h1 : rep S k = repF S k (S.getD k k) := by unfold rep; rw [repF, if_neg e]
    rw [h1]
    exact repF_enough h _ _ _ (by omega) (by omega)
theorem rep_le {S : List Nat} (h : Wfs S) (k : Nat) : rep S k ≤ k := by
  induction k using Nat.strongRecOn with
  | _ k ih =>
    by_cases e : S.getD k k = k
    · rw [rep_self e]; exact Nat.le_refl _
    · have := h k
      rw [rep_step h]
      have := ih (S.getD k k) (by omega)
      omega
theorem rep_fix {S : List Nat} (h : Wfs S) (k : Nat) : S.getD (rep S k) (rep S k) = rep S k := by
  induction k using Nat.strongRecOn with
  | _ k ih =>
    by_cases e : S.getD k k = k
    · rw [rep_self e]; exact e
    · have := h k
      rw [rep_step h]
      exact ih (S.getD k k) (by omega)
theorem rep_rep {S : List Nat} (h : Wfs S) (k : Nat) : rep S (rep S k) = rep S k := rep_self (rep_fix h k)
theorem live_fix {S : List Nat} {k : Nat} (h : Wfs S) (e : rep S k = k) : S.getD k k = k := by
  have := rep_fix h k
  rwa [e] at this
theorem getD_set_eq {S : List Nat} {b a k d : Nat} (hb : b < S.length) : (S.set b a).getD k d = if k = b then a else S.getD k d := by
  rw [List.getD_eq_getElem?_getD, List.getElem?_set]
  by_cases e : b = k
  · subst e; simp [hb]
  · rw [if_neg e, if_neg (fun h => e h.symm), List.getD_eq_getElem?_getD]
theorem wfs_set {S : List Nat} {a b : Nat} (h : Wfs S) (hb : b < S.length) (hab : a < b) : Wfs (S.set b a) := fun k => by
  rw [getD_set_eq hb]
  split
  · omega
  · exact h k
/-- two live ones become one -/
theorem rep_set {S : List Nat} {a b : Nat} (h : Wfs S) (hb : b < S.length) (hab : a < b) (ha : rep S a = a) (hbb : rep S b = b) (x : Nat) : rep (S.set b a) x = if rep S x = b then a else rep S x := by
  have h' := wfs_set h hb hab
  have hra : rep (S.set b a) a = a := rep_self (by rw [getD_set_eq hb, if_neg (by omega)]; exact live_fix h ha)
  induction x using Nat.strongRecOn with
  | _ x ih =>
    by_cases e : x = b
    · subst e
      rw [hbb, if_pos rfl, rep_step h', getD_set_eq hb, if_pos rfl, hra]
    · by_cases e2 : S.getD x x = x
      · have e3 : rep S x = x := rep_self e2
        rw [e3, if_neg e]
        exact rep_self (by rw [getD_set_eq hb, if_neg e]; exact e2)
      · have := h x
        rw [rep_step h', getD_set_eq hb, if_neg e, ih (S.getD x x) (by omega), ← rep_step h x]

/-- the smallest congruence -/
inductive Con (R : Rows) (S : List Nat) (a b : Nat) : Nat → Nat → Prop
  | base {x y} : rep S x = rep S y → Con R S a b x y
  | pair : Con R S a b a b
  | symm {x y} : Con R S a b x y → Con R S a b y x
  | trans {x y z} : Con R S a b x y → Con R S a b y z → Con R S a b x z
  | step {x y k u v} : Con R S a b x y → ent R x k = ((u : Nat) : Int) → ent R y k = ((v : Nat) : Int) → Con R S a b u v
theorem Con.rfl' {R : Rows} {S : List Nat} {a b x : Nat} : Con R S a b x x := .base rfl

/-- the same now, or told to be so -/
inductive Eqv (S : List Nat) (Q : List (Nat × Nat)) : Nat → Nat → Prop
  | base {x y} : rep S x = rep S y → Eqv S Q x y
  | told {x y} : (x, y) ∈ Q → Eqv S Q x y
  | symm {x y} : Eqv S Q x y → Eqv S Q y x
  | trans {x y z} : Eqv S Q x y → Eqv S Q y z → Eqv S Q x z
theorem Eqv.nil {S : List Nat} {x y : Nat} (h : Eqv S [] x y) : rep S x = rep S y := by
  induction h with
  | base h => exact h
  | told h => cases h
  | symm _ ih => exact ih.symm
  | trans _ _ a b => exact a.trans b
theorem Eqv.mono {S S' : List Nat} {Q Q' : List (Nat × Nat)} (h1 : ∀ x y, rep S x = rep S y → Eqv S' Q' x y) (h2 : ∀ x y, (x, y) ∈ Q → Eqv S' Q' x y) {x y : Nat} (h : Eqv S Q x y) : Eqv S' Q' x y := by
  induction h with
  | base h => exact h1 _ _ h
  | told h => exact h2 _ _ h
  | symm _ ih => exact .symm ih
  | trans _ _ a b => exact .trans a b

/-- a join, on its way: Q is still to be done; the live row 'm' takes over the entries of row 'b1' from column c on (none: m = b1) -/
structure Inv (R : Rows) (S : List Nat) (a b : Nat) (m b1 c : Nat) (Q : List (Nat × Nat)) (R1 : Rows) (S1 : List Nat) : Prop where
  wf : Wfs S1
  s1 : ∀ x y, rep S1 x = rep S1 y → Con R S a b x y
  s2 : ∀ x y, (x, y) ∈ Q → Con R S a b x y
  s3 : ∀ x k u, ent R1 x k = ((u : Nat) : Int) → ∃ y v, Con R S a b x y ∧ Con R S a b u v ∧ ent R y k = ((v : Nat) : Int)
  c1 : ∀ x y, rep S x = rep S y → Eqv S1 Q x y
  c1' : Eqv S1 Q a b
  c2 : ∀ x k u, ent R x k = ((u : Nat) : Int) → ∃ u' : Nat, (ent R1 (rep S1 x) k = (u' : Int) ∨ (c ≤ k ∧ rep S1 x = m ∧ ent R1 b1 k = (u' : Int))) ∧ Eqv S1 Q u' u

/-- with nothing left: what is the same is just what must be -/
theorem Inv.done {R : Rows} {S : List Nat} {a b m c : Nat} {R1 : Rows} {S1 : List Nat} (h : Inv R S a b m m c [] R1 S1) (x y : Nat) : rep S1 x = rep S1 y ↔ Con R S a b x y := by
  refine ⟨h.s1 x y, fun hc => ?_⟩
  have hc2 : ∀ x k u, ent R x k = ((u : Nat) : Int) → ∃ u' : Nat, ent R1 (rep S1 x) k = (u' : Int) ∧ rep S1 u' = rep S1 u := fun x k u hu => by
    obtain ⟨u', h1, h2⟩ := h.c2 x k u hu
    refine ⟨u', ?_, h2.nil⟩
    rcases h1 with h1 | ⟨-, e, h1⟩
    · exact h1
    · rw [e]; exact h1
  induction hc with
  | base e => exact (h.c1 _ _ e).nil
  | pair => exact h.c1'.nil
  | symm _ ih => exact ih.symm
  | trans _ _ a b => exact a.trans b
  | step _ e1 e2 ih =>
    obtain ⟨u', g1, g2⟩ := hc2 _ _ _ e1
    obtain ⟨v', g3, g4⟩ := hc2 _ _ _ e2
    rw [ih, g3] at g1
    have : v' = u' := by omega
    rw [← g2, ← g4, this]
theorem Inv.edge {R : Rows} {S : List Nat} {a b m c : Nat} {R1 : Rows} {S1 : List Nat} (h : Inv R S a b m m c [] R1 S1) {x k u : Nat} (hu : ent R x k = (u : Int)) : ∃ u' : Nat, ent R1 (rep S1 x) k = (u' : Int) ∧ rep S1 u' = rep S1 u := by
  obtain ⟨u', h1, h2⟩ := h.c2 x k u hu
  refine ⟨u', ?_, h2.nil⟩
  rcases h1 with h1 | ⟨-, e, h1⟩
  · exact h1
  · rw [e]; exact h1

theorem inv_start {R : Rows} {S : List Nat} {a b : Nat} (h : Wfs S) (hR : ∀ x k u, ent R x k = ((u : Nat) : Int) → ∃ u' : Nat, ent R (rep S x) k = (u' : Int) ∧ rep S u' = rep S u) : Inv R S a b 0 0 0 [(a, b)] R S where
  wf := h
  s1 x y e := .base e
  s2 x y e := by
    obtain ⟨rfl, rfl⟩ := Prod.mk.inj (List.mem_singleton.1 e)
    exact .pair
  s3 x k u e := ⟨x, u, .rfl', .rfl', e⟩
  c1 x y e := .base e
  c1' := .told (List.mem_singleton.2 rfl)
  c2 x k u e := by
    obtain ⟨u', h1, h2⟩ := hR x k u e
    exact ⟨u', Or.inl h1, .base h2⟩
/-- a pair that is one already -/
theorem Inv.skip {R : Rows} {S : List Nat} {a b m c p q : Nat} {Q : List (Nat × Nat)} {R1 : Rows} {S1 : List Nat} (h : Inv R S a b m m c ((p, q) :: Q) R1 S1) (e : rep S1 p = rep S1 q) : Inv R S a b m m c Q R1 S1 := by
  have hm : ∀ {x y}, Eqv S1 ((p, q) :: Q) x y → Eqv S1 Q x y := Eqv.mono (fun x y e => .base e) fun x y hx => by
    rcases List.mem_cons.1 hx with h1 | h1
    · obtain ⟨rfl, rfl⟩ := Prod.mk.inj h1
      exact .base e
    · exact .told h1
  exact ⟨h.wf, h.s1, fun x y hx => h.s2 x y (List.mem_cons_of_mem _ hx), h.s3, fun x y e => hm (h.c1 x y e), hm h.c1', fun x k u hu => by
    obtain ⟨u', h1, h2⟩ := h.c2 x k u hu
    exact ⟨u', h1, hm h2⟩⟩
/-- the greater one stands for the lesser one from now on -/
theorem Inv.merge {R : Rows} {S : List Nat} {a b m c p q x1 y1 : Nat} {Q : List (Nat × Nat)} {R1 : Rows} {S1 : List Nat} (h : Inv R S a b m m c ((p, q) :: Q) R1 S1) (hx : rep S1 p = x1 ∧ rep S1 q = y1 ∨ rep S1 p = y1 ∧ rep S1 q = x1) (hlt : x1 < y1) (hl : y1 < S1.length) :
    Inv R S a b x1 y1 0 Q R1 (S1.set y1 x1) := by
  have lx : rep S1 x1 = x1 := by rcases hx with ⟨e, -⟩ | ⟨-, e⟩ <;> (rw [← e]; exact rep_rep h.wf _)
  have ly : rep S1 y1 = y1 := by rcases hx with ⟨-, e⟩ | ⟨e, -⟩ <;> (rw [← e]; exact rep_rep h.wf _)
  have hr := rep_set h.wf hl hlt lx ly
  have hpq := h.s2 p q List.mem_cons_self
  have hcxy : Con R S a b x1 y1 := by
    rcases hx with ⟨e1, e2⟩ | ⟨e1, e2⟩
    · exact (Con.trans (h.s1 x1 p (by rw [lx, e1])) hpq).trans (h.s1 q y1 (by rw [ly, e2]))
    · exact (Con.trans (h.s1 x1 q (by rw [lx, e2])) hpq.symm).trans (h.s1 p y1 (by rw [ly, e1]))
  have exy : rep (S1.set y1 x1) x1 = rep (S1.set y1 x1) y1 := by rw [hr, hr, ly, if_pos rfl, lx, if_neg (by omega)]
  have ebase : ∀ x y, rep S1 x = rep S1 y → rep (S1.set y1 x1) x = rep (S1.set y1 x1) y := fun x y e => by rw [hr, hr, e]
  have hm : ∀ {x y}, Eqv S1 ((p, q) :: Q) x y → Eqv (S1.set y1 x1) Q x y := Eqv.mono (fun x y e => .base (ebase x y e)) fun x y hxy => by
    rcases List.mem_cons.1 hxy with h1 | h1
    · obtain ⟨rfl, rfl⟩ := Prod.mk.inj h1
      refine .base ?_
      rcases hx with ⟨e1, e2⟩ | ⟨e1, e2⟩
      · exact (ebase x x1 (by rw [lx, e1])).trans (exy.trans (ebase y1 y (by rw [ly, e2])))
      · exact (ebase x y1 (by rw [ly, e1])).trans (exy.symm.trans (ebase x1 y (by rw [lx, e2])))
    · exact .told h1
  refine ⟨wfs_set h.wf hl hlt, fun x y e => ?_, fun x y hxy => h.s2 x y (List.mem_cons_of_mem _ hxy), h.s3, fun x y e => hm (h.c1 x y e), hm h.c1', fun x k u hu => ?_⟩
  · rw [hr, hr] at e
    have hto : ∀ z, rep S1 z = y1 → Con R S a b z x1 := fun z ez => (h.s1 z y1 (by rw [ly, ez])).trans hcxy.symm
    by_cases ex : rep S1 x = y1
    · by_cases ey : rep S1 y = y1
      · exact h.s1 x y (by rw [ex, ey])
      · rw [if_pos ex, if_neg ey] at e
        exact (hto x ex).trans (h.s1 x1 y (by rw [lx, e]))
    · by_cases ey : rep S1 y = y1
      · rw [if_neg ex, if_pos ey] at e
        exact (h.s1 x x1 (by rw [lx, e])).trans (hto y ey).symm
      · rw [if_neg ex, if_neg ey] at e
        exact h.s1 x y e
  · obtain ⟨u', h1, h2⟩ := h.c2 x k u hu
    have h1' : ent R1 (rep S1 x) k = (u' : Int) := by
      rcases h1 with h1 | ⟨-, e, h1⟩
      · exact h1
      · rw [e]; exact h1
    refine ⟨u', ?_, hm h2⟩
    rw [hr]
    by_cases ex : rep S1 x = y1
    · rw [if_pos ex]
      exact Or.inr ⟨Nat.zero_le _, rfl, by rw [← ex]; exact h1'⟩
    · rw [if_neg ex]
      exact Or.inl h1'
/-! The columns of the row that is moved. -/
theorem Eqv.more {S : List Nat} {Q Q' : List (Nat × Nat)} (h : ∀ x ∈ Q, x ∈ Q') {x y : Nat} (e : Eqv S Q x y) : Eqv S Q' x y := Eqv.mono (fun _ _ e => .base e) (fun _ _ hx => .told (h _ hx)) e
theorem Inv.col_none {R : Rows} {S : List Nat} {a b m b1 c : Nat} {Q : List (Nat × Nat)} {R1 : Rows} {S1 : List Nat} (h : Inv R S a b m b1 c Q R1 S1) (e : ent R1 b1 c < 0) : Inv R S a b m b1 (c + 1) Q R1 S1 :=
  ⟨h.wf, h.s1, h.s2, h.s3, h.c1, h.c1', fun x k u hu => by
    obtain ⟨u', h1 | ⟨h1, h2, h3⟩, h4⟩ := h.c2 x k u hu
    · exact ⟨u', Or.inl h1, h4⟩
    · rcases Nat.eq_or_lt_of_le h1 with rfl | hlt
      · rw [h3] at e; omega
      · exact ⟨u', Or.inr ⟨hlt, h2, h3⟩, h4⟩⟩
theorem Inv.col_have {R : Rows} {S : List Nat} {a b m b1 c to have' : Nat} {Q : List (Nat × Nat)} {R1 : Rows} {S1 : List Nat} (h : Inv R S a b m b1 c Q R1 S1) (hm : rep S1 m = m) (hmb : rep S1 m = rep S1 b1) (e : ent R1 b1 c = (to : Int)) (e2 : ent R1 m c = (have' : Int)) :
    Inv R S a b m b1 (c + 1) (Q ++ [(have', to)]) R1 S1 := by
  have hmo : ∀ {x y}, Eqv S1 Q x y → Eqv S1 (Q ++ [(have', to)]) x y := fun e => Eqv.more (fun x hx => List.mem_append_left _ hx) e
  refine ⟨h.wf, h.s1, fun x y hxy => ?_, h.s3, fun x y e => hmo (h.c1 x y e), hmo h.c1', fun x k u hu => ?_⟩
  · rcases List.mem_append.1 hxy with hx | hx
    · exact h.s2 x y hx
    · obtain ⟨rfl, rfl⟩ := Prod.mk.inj (List.mem_singleton.1 hx)
      obtain ⟨y1, v1, g1, g2, g3⟩ := h.s3 _ _ _ e2
      obtain ⟨y2, v2, g4, g5, g6⟩ := h.s3 _ _ _ e
      exact (g2.trans (.step ((g1.symm.trans (h.s1 _ _ hmb)).trans g4) g3 g6)).trans g5.symm
  · obtain ⟨u', h1 | ⟨h1, h2, h3⟩, h4⟩ := h.c2 x k u hu
    · exact ⟨u', Or.inl h1, hmo h4⟩
    · rcases Nat.eq_or_lt_of_le h1 with rfl | hlt
      · have eu : u' = to := by rw [h3] at e; omega
        subst eu
        exact ⟨have', Or.inl (by rw [h2]; exact e2), .trans (.told (List.mem_append_right _ (List.mem_singleton.2 rfl))) (hmo h4)⟩
      · exact ⟨u', Or.inr ⟨hlt, h2, h3⟩, hmo h4⟩
/-- a store into rows -/
def SetE (R1 R2 : Rows) (x0 k0 : Nat) (u : Nat) : Prop := ∀ x k, ent R2 x k = if x = x0 ∧ k = k0 then (u : Int) else ent R1 x k
theorem Inv.col_set {R : Rows} {S : List Nat} {a b m b1 c to : Nat} {Q : List (Nat × Nat)} {R1 R2 : Rows} {S1 : List Nat} (h : Inv R S a b m b1 c Q R1 S1) (hm : rep S1 m = m) (hmb : rep S1 m = rep S1 b1) (hne : m ≠ b1) (e : ent R1 b1 c = (to : Int)) (e2 : ent R1 m c < 0) (hR : SetE R1 R2 m c to) :
    Inv R S a b m b1 (c + 1) Q R2 S1 := by
  refine ⟨h.wf, h.s1, h.s2, fun x k u hu => ?_, h.c1, h.c1', fun x k u hu => ?_⟩
  · rw [hR] at hu
    split at hu
    · next hx =>
      obtain ⟨rfl, rfl⟩ := hx
      have eu : u = to := by omega
      subst eu
      obtain ⟨y, v, g1, g2, g3⟩ := h.s3 _ _ _ e
      exact ⟨y, v, (h.s1 _ _ hmb).trans g1, g2, g3⟩
    · exact h.s3 x k u hu
  · obtain ⟨u', h1 | ⟨h1, h2, h3⟩, h4⟩ := h.c2 x k u hu
    · refine ⟨u', Or.inl ?_, h4⟩
      rw [hR]
      split
      · next hx => rw [hx.1, hx.2] at h1; omega
      · exact h1
    · rcases Nat.eq_or_lt_of_le h1 with rfl | hlt
      · have eu : u' = to := by rw [h3] at e; omega
        subst eu
        exact ⟨u', Or.inl (by rw [hR, if_pos ⟨h2, rfl⟩]), h4⟩
      · exact ⟨u', Or.inr ⟨hlt, h2, by rw [hR, if_neg (fun hx => hne hx.1.symm)]; exact h3⟩, h4⟩
/-- the opposite column -/
def opp (k : Nat) : Nat := k ^^^ 1
/-- each edge has one back, up to what is the same -/
def Back (R : Rows) (S : List Nat) : Prop := ∀ y k v, ent R y k = ((v : Nat) : Int) → ∃ z : Nat, ent R (rep S v) (opp k) = (z : Int) ∧ rep S z = rep S y
theorem Inv.back_edge {R : Rows} {S : List Nat} {a b m b1 c x k to : Nat} {Q : List (Nat × Nat)} {R1 : Rows} {S1 : List Nat} (h : Inv R S a b m b1 c Q R1 S1) (hB : Back R S) (hW : Wfs S) (e : ent R1 x k = (to : Int)) :
    ∃ y v, Con R S a b (rep S1 to) y ∧ Con R S a b x v ∧ ent R y (opp k) = ((v : Nat) : Int) := by
  obtain ⟨y, v, g1, g2, g3⟩ := h.s3 _ _ _ e
  obtain ⟨z, g4, g5⟩ := hB _ _ _ g3
  exact ⟨rep S v, z, ((h.s1 _ _ (rep_rep h.wf to)).trans g2).trans (.base (rep_rep hW v).symm), g1.trans (.base g5.symm), g4⟩
theorem Inv.back_have {R : Rows} {S : List Nat} {a b m b1 c x k to have' : Nat} {Q : List (Nat × Nat)} {R1 : Rows} {S1 : List Nat} (h : Inv R S a b m b1 c Q R1 S1) (hB : Back R S) (hW : Wfs S) (e : ent R1 x k = (to : Int)) (e2 : ent R1 (rep S1 to) (opp k) = (have' : Int)) {m' : Nat} (hm : rep S1 m' = rep S1 x) :
    Inv R S a b m b1 c (Q ++ [(have', m')]) R1 S1 := by
  have hmo : ∀ {x y}, Eqv S1 Q x y → Eqv S1 (Q ++ [(have', m')]) x y := fun e => Eqv.more (fun x hx => List.mem_append_left _ hx) e
  refine ⟨h.wf, h.s1, fun p q hxy => ?_, h.s3, fun x y e => hmo (h.c1 x y e), hmo h.c1', fun x k u hu => ?_⟩
  · rcases List.mem_append.1 hxy with hx | hx
    · exact h.s2 p q hx
    · obtain ⟨rfl, rfl⟩ := Prod.mk.inj (List.mem_singleton.1 hx)
      obtain ⟨y, v, g1, g2, g3⟩ := h.back_edge hB hW e
      obtain ⟨y2, v2, g4, g5, g6⟩ := h.s3 _ _ _ e2
      exact ((g5.trans (.step (g4.symm.trans g1) g6 g3)).trans g2.symm).trans (h.s1 _ _ hm.symm)
  · obtain ⟨u', h1, h4⟩ := h.c2 x k u hu
    exact ⟨u', h1, hmo h4⟩
theorem Inv.back_set {R : Rows} {S : List Nat} {a b m b1 c x k to : Nat} {Q : List (Nat × Nat)} {R1 R2 : Rows} {S1 : List Nat} (h : Inv R S a b m b1 c Q R1 S1) (hB : Back R S) (hW : Wfs S) (hb1 : rep S1 b1 ≠ b1) (e : ent R1 x k = (to : Int)) (e2 : ent R1 (rep S1 to) (opp k) < 0) {m' : Nat} (hm : rep S1 m' = rep S1 x) (hR : SetE R1 R2 (rep S1 to) (opp k) m') :
    Inv R S a b m b1 c Q R2 S1 := by
  refine ⟨h.wf, h.s1, h.s2, fun x' k' u hu => ?_, h.c1, h.c1', fun x' k' u hu => ?_⟩
  · rw [hR] at hu
    split at hu
    · next hx =>
      obtain ⟨rfl, rfl⟩ := hx
      have eu : u = m' := by omega
      subst eu
      obtain ⟨y, v, g1, g2, g3⟩ := h.back_edge hB hW e
      exact ⟨y, v, g1, (h.s1 _ _ hm).trans g2, g3⟩
    · exact h.s3 x' k' u hu
  · obtain ⟨u', h1 | ⟨h1, h2, h3⟩, h4⟩ := h.c2 x' k' u hu
    · refine ⟨u', Or.inl ?_, h4⟩
      rw [hR]
      split
      · next hx => rw [hx.1, hx.2] at h1; omega
      · exact h1
    · refine ⟨u', Or.inr ⟨h1, h2, ?_⟩, h4⟩
      rw [hR, if_neg (fun hx => hb1 ?_)]
      · exact h3
      · rw [hx.1]; exact rep_rep h.wf to
/-- all columns are done -/
theorem Inv.close {R : Rows} {S : List Nat} {a b m b1 c : Nat} {Q : List (Nat × Nat)} {R1 : Rows} {S1 : List Nat} (h : Inv R S a b m b1 c Q R1 S1) (hc : ∀ x k u, ent R x k = ((u : Nat) : Int) → k < c) : Inv R S a b 0 0 0 Q R1 S1 :=
  ⟨h.wf, h.s1, h.s2, h.s3, h.c1, h.c1', fun x k u hu => by
    obtain ⟨u', h1 | ⟨h1, h2, h3⟩, h4⟩ := h.c2 x k u hu
    · exact ⟨u', Or.inl h1, h4⟩
    · have := hc x k u hu; omega⟩
end Go.Proofs.YtedehmknijlgpaaDoor.TC
