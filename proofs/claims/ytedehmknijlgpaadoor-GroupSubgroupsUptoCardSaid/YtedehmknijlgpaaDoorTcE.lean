/-
  TODD and COXETER: the program's steps as functions; what holds when all rows are done.
-/
import Derived.Test.YtedehmknijlgpaaDoorTcD
set_option linter.unusedVariables false
namespace Go.Proofs.YtedehmknijlgpaaDoor.TC

structure St where
  R : Rows
  S : List Nat
  full : Bool
structure MOk (W : Nat) (m : St) : Prop where
  good : Good m.R m.S
  wide : Wide W m.R
  len : m.S.length = m.R.length
  pos : 0 < m.R.length
  most : m.R.length ≤ 5000
  full : m.full = true → m.R.length = 5000
def LaterM (m m' : St) : Prop := Later m.R m.S m'.R m'.S
theorem LaterM.trans {W : Nat} {m m1 m2 : St} (h1 : MOk W m1) (h : LaterM m m1) (h' : LaterM m1 m2) : LaterM m m2 := Later.trans h1.good.wf h h'
theorem MOk.refl {W : Nat} {m : St} (h : MOk W m) : LaterM m m := Later.refl h.good
theorem MOk.rep_lt {W : Nat} {m : St} (h : MOk W m) {a : Nat} (ha : a < m.R.length) : rep m.S a < m.R.length := Nat.lt_of_le_of_lt (rep_le h.good.wf a) ha

def openM (W : Nat) (m : St) : St × Nat := if m.R.length = 5000 then (⟨m.R, m.S, true⟩, 0) else (⟨m.R ++ [List.replicate W (-1)], m.S ++ [m.R.length], m.full⟩, m.R.length)
def leadM (m : St) (a k b : Nat) : St := ⟨setE (setE m.R a k (b : Int)) b (opp k) (a : Int), m.S, m.full⟩
def nextM (W : Nat) (m : St) (a k : Nat) : St × Nat :=
  if 0 ≤ ent m.R (rep m.S a) k then (m, rep m.S (ent m.R (rep m.S a) k).toNat)
  else if (openM W m).1.full = true then openM W m
  else (leadM (openM W m).1 (rep m.S a) k (openM W m).2, (openM W m).2)
def traceW (W : Nat) : List Nat → St → Nat → St × Option Nat
  | [], m, y => (m, some y)
  | k :: w, m, y => if (nextM W m y k).1.full = true then ((nextM W m y k).1, none) else traceW W w (nextM W m y k).1 (nextM W m y k).2
def joinS (W : Nat) (m : St) (a y : Nat) : St := ⟨(joinM W m.R m.S [(a, y)]).1, (joinM W m.R m.S [(a, y)]).2, m.full⟩
def traceM (W : Nat) (m : St) (a : Nat) (w : List Nat) : St :=
  match traceW W w m (rep m.S a) with
  | (m', none) => m'
  | (m', some y) => joinS W m' a y

theorem ent_app (R : Rows) (W y j : Nat) : ent (R ++ [List.replicate W (-1)]) y j = ent R y j := by
  unfold ent
  rw [List.getD_eq_getElem?_getD (l := R ++ _), List.getD_eq_getElem?_getD (l := R), List.getElem?_append]
  split
  · rfl
  · rw [List.getElem?_eq_none (l := R) (by omega)]
    by_cases e : y = R.length
    · subst e
      simp only [Nat.sub_self, List.getElem?_cons_zero, Option.getD_some, Option.getD_none]
      rw [List.getD_eq_getElem?_getD, List.getElem?_replicate]
      split <;> simp
    · rw [List.getElem?_eq_none (by simp; omega)]
theorem wide_app {W : Nat} {R : Rows} (h : Wide W R) : Wide W (R ++ [List.replicate W (-1)]) := by
  refine ⟨fun x hx => ?_, fun x k => ?_⟩
  · rw [List.length_append, List.length_cons, List.length_nil] at hx
    rw [List.getD_eq_getElem?_getD, List.getElem?_append]
    split
    · next hlt => have := h.len x hlt; rwa [List.getD_eq_getElem?_getD] at this
    · rw [show x - R.length = 0 by omega]; simp
  · rw [ent_app, List.length_append, List.length_cons, List.length_nil]
    have := h.ent x k
    omega
theorem open_lead {W : Nat} (hW2 : W % 2 = 0) {m : St} (h : MOk W m) {x k : Nat} (hx : x < m.R.length) (hxx : rep m.S x = x) (hk : k < W) (he : ent m.R x k < 0) (hl : m.R.length ≠ 5000) :
    MOk W (leadM (openM W m).1 x k (openM W m).2) ∧ LaterM m (leadM (openM W m).1 x k (openM W m).2) ∧ (openM W m).2 = m.R.length ∧ (leadM (openM W m).1 x k (openM W m).2).R.length = m.R.length + 1 ∧ (leadM (openM W m).1 x k (openM W m).2).full = m.full ∧
      ent (leadM (openM W m).1 x k (openM W m).2).R x k = (m.R.length : Int) ∧ rep (leadM (openM W m).1 x k (openM W m).2).S m.R.length = m.R.length ∧ (∀ y, rep (leadM (openM W m).1 x k (openM W m).2).S y = rep m.S y) := by
  have e0 : openM W m = (⟨m.R ++ [List.replicate W (-1)], m.S ++ [m.R.length], m.full⟩, m.R.length) := by unfold openM; rw [if_neg hl]
  rw [e0]
  have hw1 := wide_app h.wide
  have hl1 : (m.R ++ [List.replicate W (-1)]).length = m.R.length + 1 := by simp
  have hok := opp_lt hW2 hk
  have hw2 : Wide W (setE (m.R ++ [List.replicate W (-1)]) x k (m.R.length : Int)) := setE_wide hw1 (by rw [hl1]; omega) hk (by rw [hl1]; omega)
  have hl2 : (setE (m.R ++ [List.replicate W (-1)]) x k (m.R.length : Int)).length = m.R.length + 1 := (setE_len ..).trans hl1
  have hO : Opened m.R m.S x k (leadM ⟨m.R ++ [List.replicate W (-1)], m.S ++ [m.R.length], m.full⟩ x k m.R.length).R (m.S ++ [m.R.length]) := by
    refine ⟨by rw [h.len], fun y j => ?_⟩
    show ent (setE (setE (m.R ++ [List.replicate W (-1)]) x k (m.R.length : Int)) m.R.length (opp k) (x : Int)) y j = _
    rw [setE_ent hw2 (by rw [hl2]; omega) hok, setE_ent hw1 (by rw [hl1]; omega) hk, ent_app, h.len]
    by_cases e1 : y = m.R.length ∧ j = opp k
    · rw [if_pos e1, if_neg (fun e => by omega), if_pos e1]
    · rw [if_neg e1, if_neg e1]
  have hn : ∀ j, ent m.R m.S.length j < 0 := fun j => by rw [h.len, ent_out (Nat.le_refl _)]; omega
  have hnS : rep m.S m.S.length = m.S.length := rep_self (by rw [List.getD_eq_getElem?_getD, List.getElem?_eq_none (Nat.le_refl _)]; rfl)
  have hgood := hO.good h.good hxx (by rw [h.len]; exact hx) he hn hnS
  refine ⟨⟨hgood, ?_, ?_, ?_, ?_, fun e => ?_⟩, hO.later h.good he hn, rfl, (setE_len ..).trans hl2, rfl, ?_, ?_, hO.rep h.good.wf⟩
  · exact setE_wide hw2 (by rw [hl2]; omega) hok (by rw [hl2]; omega)
  · show (m.S ++ [m.R.length]).length = (setE _ _ _ _).length
    rw [setE_len, hl2, List.length_append, h.len]; rfl
  · show 0 < (setE _ _ _ _).length
    rw [setE_len, hl2]; omega
  · show (setE _ _ _ _).length ≤ 5000
    rw [setE_len, hl2]; have := h.most; omega
  · exact absurd (h.full e) hl
  · rw [hO.ents, if_pos ⟨rfl, rfl⟩, h.len]
  · show rep (m.S ++ [m.R.length]) m.R.length = m.R.length
    rw [hO.rep h.good.wf, ← h.len]; exact hnS

/-- what a step by a letter gives -/
structure Step (W : Nat) (m m' : St) : Prop where
  ok : MOk W m'
  later : LaterM m m'
  grow : m.R.length ≤ m'.R.length
  full : m.full = true → m'.full = true
theorem Step.refl {W : Nat} {m : St} (h : MOk W m) : Step W m m := ⟨h, h.refl, Nat.le_refl _, id⟩
theorem Step.trans {W : Nat} {m m1 m2 : St} (h : Step W m m1) (h' : Step W m1 m2) : Step W m m2 := ⟨h'.ok, h.later.trans h.ok h'.later, Nat.le_trans h.grow h'.grow, fun e => h'.full (h.full e)⟩
theorem next_ok {W : Nat} (hW2 : W % 2 = 0) {m : St} (h : MOk W m) {a k : Nat} (ha : a < m.R.length) (hk : k < W) :
    Step W m (nextM W m a k).1 ∧ ((nextM W m a k).1.full = false → (nextM W m a k).2 < (nextM W m a k).1.R.length ∧ rep (nextM W m a k).1.S (nextM W m a k).2 = (nextM W m a k).2 ∧ ∃ u : Nat, ent (nextM W m a k).1.R (rep (nextM W m a k).1.S a) k = (u : Int) ∧ rep (nextM W m a k).1.S u = (nextM W m a k).2) := by
  unfold nextM
  by_cases h0 : 0 ≤ ent m.R (rep m.S a) k
  · rw [if_pos h0]
    obtain ⟨u, hu⟩ : ∃ u : Nat, ent m.R (rep m.S a) k = (u : Int) := ⟨(ent m.R (rep m.S a) k).toNat, by omega⟩
    have e2 : (ent m.R (rep m.S a) k).toNat = u := by rw [hu, Int.toNat_natCast]
    rw [e2]
    exact ⟨Step.refl h, fun _ => ⟨h.rep_lt (h.wide.inn hu).2.2, rep_rep h.good.wf u, u, hu, rfl⟩⟩
  rw [if_neg h0]
  by_cases hl : m.R.length = 5000
  · have e0 : openM W m = (⟨m.R, m.S, true⟩, 0) := by unfold openM; rw [if_pos hl]
    rw [e0, if_pos rfl]
    exact ⟨⟨⟨h.good, h.wide, h.len, h.pos, h.most, fun _ => hl⟩, h.refl, Nat.le_refl _, fun _ => rfl⟩, fun e => by cases e⟩
  · have hf : m.full = false := by
      cases e : m.full with
      | false => rfl
      | true => exact absurd (h.full e) hl
    have e0 : (openM W m).1.full = m.full := by unfold openM; rw [if_neg hl]
    rw [e0, hf, if_neg (by simp)]
    obtain ⟨g1, g2, g3, g4, g5, g6, g7, g8⟩ := open_lead hW2 h (h.rep_lt ha) (rep_rep h.good.wf a) hk (by omega) hl
    rw [g3] at g1 g2 g4 g5 g6 g7 g8 ⊢
    refine ⟨⟨g1, g2, by rw [g4]; omega, fun e => by rw [hf] at e; cases e⟩, fun _ => ⟨by rw [g4]; omega, g7, m.R.length, ?_, g7⟩⟩
    rw [g8]; exact g6
theorem traceW_ok {W : Nat} (hW2 : W % 2 = 0) : ∀ (w : List Nat) {m : St} {y : Nat}, MOk W m → y < m.R.length → rep m.S y = y → (∀ k ∈ w, k < W) →
    Step W m (traceW W w m y).1 ∧ (∀ z, (traceW W w m y).2 = some z → z < (traceW W w m y).1.R.length ∧ Path (traceW W w m y).1.R (traceW W w m y).1.S (rep (traceW W w m y).1.S y) w z ∧ rep (traceW W w m y).1.S z = z) ∧ ((traceW W w m y).2 = none → (traceW W w m y).1.full = true)
  | [], m, y, h, hy, hyy, _ => ⟨Step.refl h, fun z e => by
      obtain rfl : y = z := Option.some.inj e
      exact ⟨hy, by show Path m.R m.S (rep m.S y) [] y; rw [hyy]; exact .nil, hyy⟩, fun e => by cases e⟩
  | k :: w, m, y, h, hy, hyy, hw => by
    obtain ⟨g1, g2⟩ := next_ok hW2 h hy (hw k List.mem_cons_self)
    unfold traceW
    cases hf : (nextM W m y k).1.full with
    | true =>
      rw [if_pos rfl]
      exact ⟨g1, (fun z e => by cases e), fun _ => hf⟩
    | false =>
      rw [if_neg (by simp)]
      obtain ⟨g3, g4, u, g5, g6⟩ := g2 hf
      obtain ⟨i1, i2, i3⟩ := traceW_ok hW2 w g1.ok g3 g4 (fun k hk => hw k (List.mem_cons_of_mem _ hk))
      refine ⟨g1.trans i1, fun z e => ?_, i3⟩
      obtain ⟨j1, j2, j3⟩ := i2 z e
      refine ⟨j1, ?_, j3⟩
      obtain ⟨u', k1, k2⟩ := i1.later.edge _ _ _ g5
      rw [i1.later.same _ _ (rep_rep g1.ok.good.wf y)] at k1
      refine .cons k1 ?_
      rw [k2, i1.later.same u (nextM W m y k).2 (by rw [g6, g4])]
      exact j2
theorem join_ok {W : Nat} (hW2 : W % 2 = 0) {m : St} (h : MOk W m) {a y : Nat} (ha : a < m.R.length) (hy : y < m.R.length) :
    Step W m (joinS W m a y) ∧ rep (joinS W m a y).S a = rep (joinS W m a y).S y ∧ ∀ p q, rep (joinS W m a y).S p = rep (joinS W m a y).S q ↔ Con m.R m.S a y p q := by
  have hJ : JInv m.R m.S a y W m.R m.S [(a, y)] := ⟨inv_start h.good.wf h.good.comp, h.wide, h.len, fun p hp => by rw [List.mem_singleton.1 hp]; exact ⟨ha, hy⟩⟩
  obtain ⟨g1, g2⟩ := joinF_ok h.good hW2 h.wide _ hJ (Nat.le_refl _)
  have hd := g1.inv.done
  refine ⟨⟨⟨g1.inv.good h.good, g1.wide, g1.len, ?_, ?_, fun e => ?_⟩, g1.inv.later, ?_, id⟩, (hd a y).2 .pair, hd⟩
  · show 0 < (joinF W _ _ _ _).1.length
    rw [g2]; exact h.pos
  · show (joinF W _ _ _ _).1.length ≤ 5000
    rw [g2]; exact h.most
  · show (joinF W _ _ _ _).1.length = 5000
    rw [g2]; exact h.full e
  · show m.R.length ≤ (joinF W _ _ _ _).1.length
    rw [g2]; exact Nat.le_refl _
theorem trace_ok {W : Nat} (hW2 : W % 2 = 0) {m : St} (h : MOk W m) {a : Nat} (ha : a < m.R.length) {w : List Nat} (hw : ∀ k ∈ w, k < W) :
    Step W m (traceM W m a w) ∧ ((traceM W m a w).full = false → Path (traceM W m a w).R (traceM W m a w).S (rep (traceM W m a w).S a) w (rep (traceM W m a w).S a)) := by
  obtain ⟨g1, g2, g3⟩ := traceW_ok hW2 w h (h.rep_lt ha) (rep_rep h.good.wf a) hw
  unfold traceM
  generalize traceW W w m (rep m.S a) = r at g1 g2 g3 ⊢
  obtain ⟨m', o⟩ := r
  cases o with
  | none => exact ⟨g1, fun e => by have := g3 rfl; rw [this] at e; cases e⟩
  | some y =>
    obtain ⟨h1, h2, h3⟩ := g2 y rfl
    have ha' : a < m'.R.length := Nat.lt_of_lt_of_le ha g1.grow
    obtain ⟨j1, j2, -⟩ := join_ok hW2 g1.ok ha' h1
    refine ⟨g1.trans j1, fun _ => ?_⟩
    have hp := h2.later g1.ok.good.wf j1.later
    have e1 : rep m'.S (rep m.S a) = rep m'.S a := g1.later.same _ _ (rep_rep h.good.wf a)
    simp only [e1] at hp
    rw [j1.later.same _ _ (rep_rep g1.ok.good.wf a), ← j2] at hp
    exact hp
end Go.Proofs.YtedehmknijlgpaaDoor.TC
