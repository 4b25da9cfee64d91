/-
  TODD and COXETER, plain: what a join leaves; paths that stay.
-/
import Derived.Test.YtedehmknijlgpaaDoorTcA
namespace Go.Proofs.YtedehmknijlgpaaDoor.TC

/-- live rows have what any row of their class has -/
def Comp (R : Rows) (S : List Nat) : Prop := ∀ x k u, ent R x k = ((u : Nat) : Int) → ∃ u' : Nat, ent R (rep S x) k = (u' : Int) ∧ rep S u' = rep S u
structure Good (R : Rows) (S : List Nat) : Prop where
  wf : Wfs S
  comp : Comp R S
  back : Back R S
theorem Inv.good {R : Rows} {S : List Nat} {a b m c : Nat} {R1 : Rows} {S1 : List Nat} (hG : Good R S) (h : Inv R S a b m m c [] R1 S1) : Good R1 S1 := by
  refine ⟨h.wf, fun x k u hu => ?_, fun y k v hv => ?_⟩
  · obtain ⟨y, v, g1, g2, g3⟩ := h.s3 x k u hu
    obtain ⟨u', g4, g5⟩ := h.edge g3
    rw [← (h.done x y).2 g1] at g4
    exact ⟨u', g4, g5.trans ((h.done u v).2 g2).symm⟩
  · obtain ⟨y0, v0, g1, g2, g3⟩ := h.s3 y k v hv
    obtain ⟨z, g4, g5⟩ := hG.back _ _ _ g3
    obtain ⟨z', g6, g7⟩ := h.edge g4
    have e1 : rep S1 (rep S v0) = rep S1 v := ((h.done _ _).2 (.base (rep_rep hG.wf v0))).trans ((h.done v v0).2 g2).symm
    rw [e1] at g6
    exact ⟨z', g6, g7.trans (((h.done _ _).2 (.base g5)).trans ((h.done y y0).2 g1).symm)⟩

/-- a later state: what was the same is the same, what led leads -/
structure Later (R : Rows) (S : List Nat) (R1 : Rows) (S1 : List Nat) : Prop where
  same : ∀ x y, rep S x = rep S y → rep S1 x = rep S1 y
  edge : ∀ x k u, ent R x k = ((u : Nat) : Int) → ∃ u' : Nat, ent R1 (rep S1 x) k = (u' : Int) ∧ rep S1 u' = rep S1 u
theorem Later.refl {R : Rows} {S : List Nat} (h : Good R S) : Later R S R S := ⟨fun _ _ e => e, h.comp⟩
theorem Later.trans {R R1 R2 : Rows} {S S1 S2 : List Nat} (hw : Wfs S1) (h : Later R S R1 S1) (h' : Later R1 S1 R2 S2) : Later R S R2 S2 := by
  refine ⟨fun x y e => h'.same _ _ (h.same _ _ e), fun x k u hu => ?_⟩
  obtain ⟨u1, g1, g2⟩ := h.edge x k u hu
  obtain ⟨u2, g3, g4⟩ := h'.edge _ _ _ g1
  rw [h'.same _ _ (rep_rep hw x)] at g3
  exact ⟨u2, g3, g4.trans (h'.same _ _ g2)⟩
theorem Inv.later {R : Rows} {S : List Nat} {a b m c : Nat} {R1 : Rows} {S1 : List Nat} (h : Inv R S a b m m c [] R1 S1) : Later R S R1 S1 := ⟨fun x y e => (h.done x y).2 (.base e), fun x k u hu => h.edge hu⟩

/-- a word (as columns) leads from a live row to another one -/
inductive Path (R : Rows) (S : List Nat) : Nat → List Nat → Nat → Prop
  | nil {x} : Path R S x [] x
  | cons {x k u w y} : ent R x k = ((u : Nat) : Int) → Path R S (rep S u) w y → Path R S x (k :: w) y
theorem Path.snoc {R : Rows} {S : List Nat} {x y k u : Nat} {w : List Nat} (h : Path R S x w y) (e : ent R y k = (u : Int)) : Path R S x (w ++ [k]) (rep S u) := by
  induction h with
  | nil => exact .cons e .nil
  | cons e1 _ ih => exact .cons e1 (ih e)
theorem Path.later {R R1 : Rows} {S S1 : List Nat} (hw : Wfs S) (hL : Later R S R1 S1) {x y : Nat} {w : List Nat} (h : Path R S x w y) : Path R1 S1 (rep S1 x) w (rep S1 y) := by
  induction h with
  | nil => exact .nil
  | cons e _ ih =>
    obtain ⟨u', g1, g2⟩ := hL.edge _ _ _ e
    refine .cons g1 ?_
    rw [g2, ← hL.same _ _ (rep_rep hw _)]
    exact ih

/-- a row is opened: a leads to it by k, it leads back -/
structure Opened (R : Rows) (S : List Nat) (a k : Nat) (R1 : Rows) (S1 : List Nat) : Prop where
  new : S1 = S ++ [S.length]
  ents : ∀ x j, ent R1 x j = if x = a ∧ j = k then (S.length : Int) else if x = S.length ∧ j = opp k then (a : Int) else ent R x j
theorem rep_app {S : List Nat} (h : Wfs S) : ∀ x, rep (S ++ [S.length]) x = rep S x := by
  have hg : ∀ x, (S ++ [S.length]).getD x x = S.getD x x := fun x => by
    rw [List.getD_eq_getElem?_getD, List.getD_eq_getElem?_getD, List.getElem?_append]
    split
    · rfl
    · rw [List.getElem?_eq_none (l := S) (by omega)]
      by_cases e : x = S.length
      · subst e; simp
      · rw [List.getElem?_eq_none (by simp; omega)]
  have hw : Wfs (S ++ [S.length]) := fun k => by rw [hg]; exact h k
  intro x
  induction x using Nat.strongRecOn with
  | _ x ih =>
    by_cases e : S.getD x x = x
    · rw [rep_self e]; exact rep_self (by rw [hg]; exact e)
    · have := h x
      rw [rep_step hw, hg, ih _ (by omega), ← rep_step h]
theorem opp_opp (k : Nat) : opp (opp k) = k := by unfold opp; rw [Nat.xor_assoc]; simp
theorem opp_ne (k : Nat) : opp k ≠ k := fun e => by
  have h : k ^^^ (k ^^^ 1) = k ^^^ k := by unfold opp at e; rw [e]
  rw [← Nat.xor_assoc] at h
  simp at h
theorem Opened.wf {R R1 : Rows} {S S1 : List Nat} {a k : Nat} (h : Opened R S a k R1 S1) (hw : Wfs S) : Wfs S1 := fun x => by
  rw [h.new, List.getD_eq_getElem?_getD, List.getElem?_append]
  split
  · have := hw x
    rwa [List.getD_eq_getElem?_getD] at this
  · by_cases e : x = S.length
    · subst e; simp
    · rw [List.getElem?_eq_none (by simp; omega)]; simp
theorem Opened.rep {R R1 : Rows} {S S1 : List Nat} {a k : Nat} (h : Opened R S a k R1 S1) (hw : Wfs S) (x : Nat) : TC.rep S1 x = TC.rep S x := by rw [h.new]; exact rep_app hw x
theorem Opened.old {R R1 : Rows} {S S1 : List Nat} {a k : Nat} (h : Opened R S a k R1 S1) (hk : ent R a k < 0) (hn : ∀ j, ent R S.length j < 0) {x j u : Nat} (hu : ent R x j = (u : Int)) : ent R1 x j = (u : Int) := by
  rw [h.ents]
  split
  · next e => rw [e.1, e.2] at hu; omega
  · split
    · next e => have := hn j; rw [e.1] at hu; omega
    · exact hu
theorem Opened.good {R R1 : Rows} {S S1 : List Nat} {a k : Nat} (h : Opened R S a k R1 S1) (hG : Good R S) (ha : TC.rep S a = a) (haS : a < S.length) (hk : ent R a k < 0) (hn : ∀ j, ent R S.length j < 0) (hnS : TC.rep S S.length = S.length) : Good R1 S1 := by
  have hr := h.rep hG.wf
  have hold := fun {x j u : Nat} => h.old hk hn (x := x) (j := j) (u := u)
  have e1 : ent R1 a k = (S.length : Int) := by rw [h.ents, if_pos ⟨rfl, rfl⟩]
  have e2 : ent R1 S.length (opp k) = (a : Int) := by rw [h.ents, if_neg (fun e => by omega), if_pos ⟨rfl, rfl⟩]
  have hcase : ∀ x j u, ent R1 x j = ((u : Nat) : Int) → (x = a ∧ j = k ∧ u = S.length) ∨ (x = S.length ∧ j = opp k ∧ u = a) ∨ ent R x j = (u : Int) := fun x j u hu => by
    rw [h.ents] at hu
    split at hu
    · next e => exact Or.inl ⟨e.1, e.2, by omega⟩
    · split at hu
      · next e => exact Or.inr (Or.inl ⟨e.1, e.2, by omega⟩)
      · exact Or.inr (Or.inr hu)
  refine ⟨h.wf hG.wf, fun x j u hu => ?_, fun x j u hu => ?_⟩
  · rcases hcase x j u hu with ⟨rfl, rfl, rfl⟩ | ⟨rfl, rfl, rfl⟩ | h0
    · exact ⟨S.length, by rw [hr, ha]; exact e1, rfl⟩
    · exact ⟨u, by rw [hr, hnS]; exact e2, rfl⟩
    · obtain ⟨u', g1, g2⟩ := hG.comp x j u h0
      exact ⟨u', by rw [hr]; exact hold g1, by rw [hr, hr]; exact g2⟩
  · rcases hcase x j u hu with ⟨rfl, rfl, rfl⟩ | ⟨rfl, rfl, rfl⟩ | h0
    · exact ⟨x, by rw [hr, hnS]; exact e2, rfl⟩
    · exact ⟨S.length, by rw [hr, ha, opp_opp]; exact e1, rfl⟩
    · obtain ⟨z, g1, g2⟩ := hG.back x j u h0
      exact ⟨z, by rw [hr]; exact hold g1, by rw [hr, hr]; exact g2⟩
theorem Opened.later {R R1 : Rows} {S S1 : List Nat} {a k : Nat} (h : Opened R S a k R1 S1) (hG : Good R S) (hk : ent R a k < 0) (hn : ∀ j, ent R S.length j < 0) : Later R S R1 S1 := by
  have hr := h.rep hG.wf
  refine ⟨fun x y e => by rw [hr, hr]; exact e, fun x j u hu => ?_⟩
  obtain ⟨u', g1, g2⟩ := hG.comp x j u hu
  exact ⟨u', by rw [hr]; exact h.old hk hn g1, by rw [hr, hr]; exact g2⟩
end Go.Proofs.YtedehmknijlgpaaDoor.TC
