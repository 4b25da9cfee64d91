/-
  TODD and COXETER: the document's finder in step with the program's cosets, plain: labels, a merge, a closure, a step.
-/
import Derived.Test.YtedehmknijlgpaaDoorTcF
set_option linter.unusedVariables false
namespace Go.Proofs.YtedehmknijlgpaaDoor.TC

/-- a label; what lies beyond stands for itself -/
abbrev lb (L : List Nat) (p : Nat) : Nat := L.getD p p
/-- the document's rows D and labels L say what the program's state says -/
structure Sim (W : Nat) (m : St) (D : Rows) (L : List Nat) : Prop where
  wide : Wide W D
  lenD : D.length = m.R.length
  lenL : L.length = m.R.length
  lab : ∀ p, lb L p = rep m.S p
  fwd : ∀ x k u, rep m.S x = x → ent m.R x k = ((u : Nat) : Int) → ∃ u' : Nat, ent D x k = (u' : Int) ∧ rep m.S u' = rep m.S u
  bwd : ∀ x k u, ent D x k = ((u : Nat) : Int) → ∃ u' : Nat, ent m.R (rep m.S x) k = (u' : Int) ∧ rep m.S u' = rep m.S u
theorem Sim.con {W : Nat} {m : St} {D : Rows} {L : List Nat} (h : Sim W m D L) (hm : MOk W m) {a b p q : Nat} : Con D m.S a b p q ↔ Con m.R m.S a b p q := by
  constructor
  · intro hc
    induction hc with
    | base e => exact .base e
    | pair => exact .pair
    | symm _ ih => exact .symm ih
    | trans _ _ i1 i2 => exact .trans i1 i2
    | @step x y k u v _ e1 e2 ih =>
      obtain ⟨u', g1, g2⟩ := h.bwd _ _ _ e1
      obtain ⟨v', g3, g4⟩ := h.bwd _ _ _ e2
      have h1 : Con m.R m.S a b (rep m.S x) (rep m.S y) := (Con.base (rep_rep hm.good.wf x)).trans (ih.trans (.base (rep_rep hm.good.wf y).symm))
      exact (Con.base g2.symm).trans ((Con.step h1 g1 g3).trans (.base g4))
  · intro hc
    induction hc with
    | base e => exact .base e
    | pair => exact .pair
    | symm _ ih => exact .symm ih
    | trans _ _ i1 i2 => exact .trans i1 i2
    | @step x y k u v _ e1 e2 ih =>
      obtain ⟨u', g1, g2⟩ := hm.good.comp _ _ _ e1
      obtain ⟨v', g3, g4⟩ := hm.good.comp _ _ _ e2
      obtain ⟨u2, g5, g6⟩ := h.fwd _ _ _ (rep_rep hm.good.wf x) g1
      obtain ⟨v2, g7, g8⟩ := h.fwd _ _ _ (rep_rep hm.good.wf y) g3
      have h1 : Con D m.S a b (rep m.S x) (rep m.S y) := (Con.base (rep_rep hm.good.wf x)).trans (ih.trans (.base (rep_rep hm.good.wf y).symm))
      exact (Con.base (g6.trans g2).symm).trans ((Con.step h1 g5 g7).trans (.base (g8.trans g4)))
/-- an edge has one back -/
theorem Sim.back {W : Nat} {m : St} {D : Rows} {L : List Nat} (h : Sim W m D L) (hm : MOk W m) {x k u : Nat} (hu : ent D x k = (u : Int)) : ∃ z : Nat, ent D (rep m.S u) (opp k) = (z : Int) ∧ rep m.S z = rep m.S x := by
  obtain ⟨u', g1, g2⟩ := h.bwd _ _ _ hu
  obtain ⟨z, g3, g4⟩ := hm.good.back _ _ _ g1
  obtain ⟨z', g5, g6⟩ := h.fwd _ _ _ (rep_rep hm.good.wf u') g3
  rw [g2] at g5
  exact ⟨z', g5, g6.trans (g4.trans (rep_rep hm.good.wf x))⟩

/-- labels x and y become one -/
def mergeL (L : List Nat) (x y : Nat) : List Nat := L.map fun l => if l = max x y then min x y else l
theorem mergeL_len (L : List Nat) (x y : Nat) : (mergeL L x y).length = L.length := List.length_map ..
theorem mergeL_at {L : List Nat} {x y : Nat} (hx : x < L.length) (hy : y < L.length) (p : Nat) : lb (mergeL L x y) p = if lb L p = max x y then min x y else lb L p := by
  unfold lb mergeL
  rw [List.getD_eq_getElem?_getD, List.getElem?_map, List.getD_eq_getElem?_getD]
  rcases Nat.lt_or_ge p L.length with h | h
  · rw [List.getElem?_eq_getElem h]; rfl
  · rw [List.getElem?_eq_none h]
    show p = if p = max x y then min x y else p
    rw [if_neg (by omega)]
/-- the closure, on its way -/
structure DInv (W : Nat) (D0 : Rows) (S : List Nat) (a b : Nat) (D : Rows) (L : List Nat) : Prop where
  wide : Wide W D
  lenD : D.length = D0.length
  lenL : L.length = D0.length
  low : ∀ p, lb L p ≤ p
  idem : ∀ p, lb L (lb L p) = lb L p
  j1 : ∀ p q, lb L p = lb L q → Con D0 S a b p q
  j0 : ∀ p q, rep S p = rep S q → lb L p = lb L q
  j2 : ∀ x k u, ent D x k = ((u : Nat) : Int) → ∃ y v, Con D0 S a b x y ∧ Con D0 S a b u v ∧ ent D0 y k = ((v : Nat) : Int)
  j3 : ∀ x k u, ent D0 x k = ((u : Nat) : Int) → ent D x k = (u : Int)
theorem DInv.lt {W : Nat} {D0 : Rows} {S : List Nat} {a b : Nat} {D : Rows} {L : List Nat} (h : DInv W D0 S a b D L) {p : Nat} (hp : p < D.length) : lb L p < D.length := Nat.lt_of_le_of_lt (h.low p) hp
theorem DInv.merge {W : Nat} {D0 : Rows} {S : List Nat} {a b : Nat} {D : Rows} {L : List Nat} (h : DInv W D0 S a b D L) {p q : Nat} (hp : p < D.length) (hq : q < D.length) (hc : Con D0 S a b p q) :
    DInv W D0 S a b D (mergeL L (lb L p) (lb L q)) ∧ lb (mergeL L (lb L p) (lb L q)) p = lb (mergeL L (lb L p) (lb L q)) q ∧ ∀ x y, lb L x = lb L y → lb (mergeL L (lb L p) (lb L q)) x = lb (mergeL L (lb L p) (lb L q)) y := by
  have hl : L.length = D.length := h.lenL.trans h.lenD.symm
  have hat := mergeL_at (L := L) (x := lb L p) (y := lb L q) (by rw [hl]; exact h.lt hp) (by rw [hl]; exact h.lt hq)
  have hip := h.idem p
  have hiq := h.idem q
  have hlow : ∀ x, lb (mergeL L (lb L p) (lb L q)) x ≤ lb L x := fun x => by
    rw [hat]; split <;> omega
  have hcx : ∀ x, Con D0 S a b x (lb L x) := fun x => h.j1 _ _ (h.idem x).symm
  have hcl : ∀ x, lb L x = max (lb L p) (lb L q) → Con D0 S a b x (min (lb L p) (lb L q)) := fun x e => by
    have hpq : Con D0 S a b (lb L p) (lb L q) := (hcx p).symm.trans (hc.trans (hcx q))
    have hmm : Con D0 S a b (max (lb L p) (lb L q)) (min (lb L p) (lb L q)) := by
      rcases Nat.le_total (lb L p) (lb L q) with h1 | h1
      · rw [Nat.max_eq_right h1, Nat.min_eq_left h1]; exact hpq.symm
      · rw [Nat.max_eq_left h1, Nat.min_eq_right h1]; exact hpq
    have := hcx x
    rw [e] at this
    exact this.trans hmm
  refine ⟨⟨h.wide, h.lenD, (mergeL_len ..).trans h.lenL, fun x => Nat.le_trans (hlow x) (h.low x), fun x => ?_, fun x y e => ?_, fun x y e => ?_, h.j2, h.j3⟩, ?_, fun x y e => by rw [hat, hat, e]⟩
  · rw [hat x]
    split
    · rw [hat]
      have hmin : lb L (min (lb L p) (lb L q)) = min (lb L p) (lb L q) := by
        rcases Nat.le_total (lb L p) (lb L q) with h1 | h1
        · rw [Nat.min_eq_left h1]; exact hip
        · rw [Nat.min_eq_right h1]; exact hiq
      rw [hmin]
      split <;> rfl
    · next hne => rw [hat, h.idem, if_neg hne]
  · rw [hat, hat] at e
    by_cases h1 : lb L x = max (lb L p) (lb L q)
    · by_cases h2 : lb L y = max (lb L p) (lb L q)
      · exact h.j1 _ _ (h1.trans h2.symm)
      · rw [if_pos h1, if_neg h2] at e
        have := hcl x h1
        rw [e] at this
        exact this.trans (hcx y).symm
    · by_cases h2 : lb L y = max (lb L p) (lb L q)
      · rw [if_neg h1, if_pos h2] at e
        have := hcl y h2
        rw [← e] at this
        exact (hcx x).trans this.symm
      · rw [if_neg h1, if_neg h2] at e
        exact h.j1 _ _ e
  · rw [hat, hat, h.j0 x y e]
  · rw [hat, hat]
    rcases Nat.le_total (lb L p) (lb L q) with h1 | h1
    · rw [Nat.max_eq_right h1, Nat.min_eq_left h1, if_pos rfl]
      split <;> rfl
    · rw [Nat.max_eq_left h1, Nat.min_eq_right h1, if_pos rfl]
      split <;> rfl
theorem DInv.set {W : Nat} {D0 : Rows} {S : List Nat} {a b : Nat} {D : Rows} {L : List Nat} (h : DInv W D0 S a b D L) {x k u : Nat} (hx : x < D.length) (hk : k < W) (hu : u < D.length) (hn : ent D x k < 0) (hj : ∃ y v, Con D0 S a b x y ∧ Con D0 S a b u v ∧ ent D0 y k = ((v : Nat) : Int)) :
    DInv W D0 S a b (setE D x k (u : Int)) L := by
  have he := setE_ent h.wide hx hk (u : Int)
  refine ⟨setE_wide h.wide hx hk hu, (setE_len ..).trans h.lenD, h.lenL, h.low, h.idem, h.j1, h.j0, fun y j v hv => ?_, fun y j v hv => ?_⟩
  · rw [he] at hv
    split at hv
    · next e =>
      have : v = u := by omega
      subst this
      rw [e.1, e.2]; exact hj
    · exact h.j2 y j v hv
  · rw [he]
    split
    · next e =>
      have h1 := h.j3 y j v hv
      rw [e.1, e.2] at h1
      omega
    · exact h.j3 y j v hv
/-- two entries that must be the same -/
theorem DInv.same {W : Nat} {D0 : Rows} {S : List Nat} {a b : Nat} {D : Rows} {L : List Nat} (h : DInv W D0 S a b D L) {x y k u v : Nat} (hxy : Con D0 S a b x y) (hu : ent D x k = (u : Int)) (hv : ent D y k = (v : Int)) : Con D0 S a b u v := by
  obtain ⟨x0, u0, g1, g2, g3⟩ := h.j2 _ _ _ hu
  obtain ⟨y0, v0, g4, g5, g6⟩ := h.j2 _ _ _ hv
  exact g2.trans ((Con.step ((g1.symm.trans hxy).trans g4) g3 g6).trans g5.symm)
/-- an edge's back -/
theorem DInv.backs {W : Nat} {m : St} {D0 : Rows} {L0 : List Nat} (hs : Sim W m D0 L0) (hm : MOk W m) {a b : Nat} {D : Rows} {L : List Nat} (h : DInv W D0 m.S a b D L) {x k u : Nat} (hu : ent D x k = (u : Int)) :
    ∃ y v, Con D0 m.S a b u y ∧ Con D0 m.S a b x v ∧ ent D0 y (opp k) = ((v : Nat) : Int) := by
  obtain ⟨x0, u0, g1, g2, g3⟩ := h.j2 _ _ _ hu
  obtain ⟨z, g4, g5⟩ := hs.back hm g3
  exact ⟨_, z, g2.trans (.base (rep_rep hm.good.wf u0).symm), g1.trans (.base g5.symm), g4⟩
/-- what the document starts with -/
theorem dinv_start {W : Nat} {m : St} {D : Rows} {L : List Nat} (h : Sim W m D L) (hm : MOk W m) (a b : Nat) : DInv W D m.S a b D L :=
  ⟨h.wide, rfl, h.lenL.trans h.lenD.symm, fun p => by rw [h.lab]; exact rep_le hm.good.wf p, fun p => by rw [h.lab, h.lab, rep_rep hm.good.wf], fun p q e => .base (by rw [← h.lab, ← h.lab]; exact e), fun p q e => by rw [h.lab, h.lab]; exact e, fun x k u hu => ⟨x, u, .rfl', .rfl', hu⟩, fun x k u hu => hu⟩
/-- a cell that needs nothing -/
def Shut (D : Rows) (L : List Nat) (x k : Nat) : Prop := ∀ u : Nat, ent D x k = (u : Int) → ∃ v : Nat, ent D (lb L x) k = (v : Int) ∧ lb L v = lb L u
/-- where nothing more follows, both say the same -/
theorem sim_join {W : Nat} (hW2 : W % 2 = 0) {m : St} {D0 : Rows} {L0 : List Nat} (hs : Sim W m D0 L0) (hm : MOk W m) {a y : Nat} (ha : a < m.R.length) (hy : y < m.R.length) {D : Rows} {L : List Nat} (h : DInv W D0 m.S a y D L) (hab : lb L a = lb L y) (hsh : ∀ x k, Shut D L x k) :
    Sim W (joinS W m a y) D L := by
  obtain ⟨hstep, -, hcon⟩ := join_ok hW2 hm ha hy
  have hJ : JInv m.R m.S a y W m.R m.S [(a, y)] := ⟨inv_start hm.good.wf hm.good.comp, hm.wide, hm.len, fun p hp => by rw [List.mem_singleton.1 hp]; exact ⟨ha, hy⟩⟩
  obtain ⟨g1, g2⟩ := joinF_ok hm.good hW2 hm.wide _ hJ (Nat.le_refl _)
  have hlen : (joinS W m a y).R.length = m.R.length := g2
  have hs3 : ∀ x k u, ent (joinS W m a y).R x k = ((u : Nat) : Int) → ∃ z v, Con m.R m.S a y x z ∧ Con m.R m.S a y u v ∧ ent m.R z k = ((v : Nat) : Int) := g1.inv.s3
  -- the labels are the classes
  have hcl : ∀ p q, lb L p = lb L q ↔ Con m.R m.S a y p q := fun p q => by
    rw [← hs.con hm]
    refine ⟨h.j1 p q, fun hc => ?_⟩
    induction hc with
    | base e => exact h.j0 _ _ e
    | pair => exact hab
    | symm _ ih => exact ih.symm
    | trans _ _ i1 i2 => exact i1.trans i2
    | @step x z k u v _ e1 e2 ih =>
      obtain ⟨u', k1, k2⟩ := hsh x k u (h.j3 _ _ _ e1)
      obtain ⟨v', k3, k4⟩ := hsh z k v (h.j3 _ _ _ e2)
      rw [ih, k3] at k1
      have : v' = u' := by omega
      rw [← k2, ← k4, this]
  have hcr : ∀ p q, lb L p = lb L q ↔ rep (joinS W m a y).S p = rep (joinS W m a y).S q := fun p q => by rw [hcl, hcon]
  have hwf := hstep.ok.good.wf
  have hlab : ∀ p, lb L p = rep (joinS W m a y).S p := fun p => by
    have h1 : rep (joinS W m a y).S p ≤ lb L p := by
      rw [← (hcr _ _).1 (h.idem p)]; exact rep_le hwf _
    have h2 : lb L p ≤ rep (joinS W m a y).S p := by
      rw [← (hcr _ _).2 (rep_rep hwf p)]; exact h.low _
    omega
  refine ⟨h.wide, by rw [hlen]; exact h.lenD.trans hs.lenD, by rw [hlen]; exact h.lenL.trans hs.lenD, hlab, fun x k u hx hu => ?_, fun x k u hu => ?_⟩
  · obtain ⟨z, v, k1, k2, k3⟩ := hs3 x k u hu
    obtain ⟨v', k4, k5⟩ := hm.good.comp _ _ _ k3
    obtain ⟨v2, k6, k7⟩ := hs.fwd _ _ _ (rep_rep hm.good.wf z) k4
    obtain ⟨v3, k8, k9⟩ := hsh _ _ _ (h.j3 _ _ _ k6)
    have e1 : lb L (rep m.S z) = x := by
      rw [hlab, ← hx, ← hcr, hcl]
      exact (Con.base (rep_rep hm.good.wf z)).trans k1.symm
    rw [e1] at k8
    refine ⟨v3, k8, ?_⟩
    rw [← hcr, k9, hcl]
    exact (Con.base (k7.trans k5)).trans k2.symm
  · obtain ⟨z, v, k1, k2, k3⟩ := h.j2 x k u hu
    obtain ⟨v', k4, k5⟩ := hs.bwd _ _ _ k3
    obtain ⟨v2, k6, k7⟩ := hstep.later.edge _ _ _ k4
    have e1 : rep (joinS W m a y).S (rep m.S z) = rep (joinS W m a y).S x := by
      rw [← hcr, hcl, ← hs.con hm]
      exact (Con.base (rep_rep hm.good.wf z)).trans k1.symm
    rw [e1] at k6
    refine ⟨v2, k6, k7.trans ?_⟩
    rw [← hcr, hcl, ← hs.con hm]
    exact (Con.base k5).trans k2.symm
/-- a row is opened in both -/
theorem sim_open {W : Nat} (hW2 : W % 2 = 0) {m : St} {D : Rows} {L : List Nat} (hs : Sim W m D L) (hm : MOk W m) {x k : Nat} (hx : x < m.R.length) (hxx : rep m.S x = x) (hk : k < W) (he : ent m.R x k < 0) (heD : ent D x k < 0) (hl : m.R.length ≠ 5000) :
    Sim W (leadM (openM W m).1 x k (openM W m).2) (setE (setE (D ++ [List.replicate W (-1)]) x k (m.R.length : Int)) m.R.length (opp k) (x : Int)) (L ++ [m.R.length]) := by
  obtain ⟨o1, -, o3, o4, -, -, o7, o8⟩ := open_lead hW2 hm hx hxx hk he hl
  have e0 : openM W m = (⟨m.R ++ [List.replicate W (-1)], m.S ++ [m.R.length], m.full⟩, m.R.length) := by unfold openM; rw [if_neg hl]
  have hok := opp_lt hW2 hk
  have gen : ∀ R : Rows, Wide W R → R.length = m.R.length → (∀ y j, ent (setE (setE (R ++ [List.replicate W (-1)]) x k (m.R.length : Int)) m.R.length (opp k) (x : Int)) y j = if y = x ∧ j = k then (m.R.length : Int) else if y = m.R.length ∧ j = opp k then (x : Int) else ent R y j) ∧
      Wide W (setE (setE (R ++ [List.replicate W (-1)]) x k (m.R.length : Int)) m.R.length (opp k) (x : Int)) ∧ (setE (setE (R ++ [List.replicate W (-1)]) x k (m.R.length : Int)) m.R.length (opp k) (x : Int)).length = m.R.length + 1 := fun R hR hlR => by
    have hw1 := wide_app hR
    have hl1 : (R ++ [List.replicate W (-1)]).length = m.R.length + 1 := by simp [hlR]
    have hw2 : Wide W (setE (R ++ [List.replicate W (-1)]) x k (m.R.length : Int)) := setE_wide hw1 (by rw [hl1]; omega) hk (by rw [hl1]; omega)
    have hl2 : (setE (R ++ [List.replicate W (-1)]) x k (m.R.length : Int)).length = m.R.length + 1 := (setE_len ..).trans hl1
    refine ⟨fun y j => ?_, setE_wide hw2 (by rw [hl2]; omega) hok (by rw [hl2]; omega), (setE_len ..).trans hl2⟩
    rw [setE_ent hw2 (by rw [hl2]; omega) hok, setE_ent hw1 (by rw [hl1]; omega) hk, ent_app]
    by_cases e1 : y = m.R.length ∧ j = opp k
    · rw [if_pos e1, if_neg (fun e => by omega), if_pos e1]
    · rw [if_neg e1, if_neg e1]
  obtain ⟨eD, wD, lD⟩ := gen D hs.wide hs.lenD
  obtain ⟨eR, -, -⟩ := gen m.R hm.wide rfl
  rw [e0] at o1 o3 o4 o7 o8 ⊢
  have eR' : ∀ y j, ent (leadM ⟨m.R ++ [List.replicate W (-1)], m.S ++ [m.R.length], m.full⟩ x k m.R.length).R y j = _ := eR
  have hrep : ∀ y, rep (m.S ++ [m.R.length]) y = rep m.S y := o8
  have hrn : rep m.S m.R.length = m.R.length := (o8 _).symm.trans o7
  refine ⟨wD, lD.trans o4.symm, by show (L ++ [m.R.length]).length = _; rw [List.length_append, List.length_singleton, hs.lenL]; exact o4.symm, fun p => ?_, fun y j u hy hu => ?_, fun y j u hu => ?_⟩
  · show lb (L ++ [m.R.length]) p = rep (m.S ++ [m.R.length]) p
    rw [hrep, ← hs.lab]
    unfold lb
    rw [List.getD_eq_getElem?_getD, List.getD_eq_getElem?_getD, List.getElem?_append]
    split
    · rfl
    · rw [List.getElem?_eq_none (l := L) (by omega)]
      by_cases e : p = L.length
      · subst e; simp [hs.lenL]
      · rw [List.getElem?_eq_none (by simp; omega)]
  · have hy' : rep m.S y = y := (hrep y).symm.trans hy
    rw [eR'] at hu
    rw [eD]
    split at hu
    · next e => exact ⟨m.R.length, by rw [if_pos e], by rw [show m.R.length = u by omega]⟩
    · next e1 =>
      rw [if_neg e1]
      split at hu
      · next e => exact ⟨x, by rw [if_pos e], by rw [show x = u by omega]⟩
      · next e2 =>
        rw [if_neg e2]
        obtain ⟨u', g1, g2⟩ := hs.fwd _ _ _ hy' hu
        exact ⟨u', g1, by show rep (m.S ++ [m.R.length]) u' = rep (m.S ++ [m.R.length]) u; rw [hrep, hrep]; exact g2⟩
  · show ∃ u' : Nat, ent _ (rep (m.S ++ [m.R.length]) y) j = (u' : Int) ∧ rep (m.S ++ [m.R.length]) u' = rep (m.S ++ [m.R.length]) u
    rw [hrep, hrep]
    rw [eD] at hu
    split at hu
    · next e =>
      refine ⟨m.R.length, ?_, by rw [hrep, show m.R.length = u by omega]⟩
      rw [eR', e.1, hxx, if_pos ⟨rfl, e.2⟩]
    · next e1 =>
      split at hu
      · next e =>
        refine ⟨x, ?_, by rw [hrep, show x = u by omega]⟩
        rw [eR', e.1, hrn, if_neg (fun e3 => by omega), if_pos ⟨rfl, e.2⟩]
      · next e2 =>
        obtain ⟨u', g1, g2⟩ := hs.bwd _ _ _ hu
        refine ⟨u', ?_, by rw [hrep]; exact g2⟩
        rw [eR']
        have n1 : ¬ (rep m.S y = x ∧ j = k) := fun e => by rw [e.1, e.2] at g1; omega
        have n2 : ¬ (rep m.S y = m.R.length ∧ j = opp k) := fun e => by
          rw [e.1, ent_out (Nat.le_refl _)] at g1; omega
        rw [if_neg n1, if_neg n2]
        exact g1
end Go.Proofs.YtedehmknijlgpaaDoor.TC
