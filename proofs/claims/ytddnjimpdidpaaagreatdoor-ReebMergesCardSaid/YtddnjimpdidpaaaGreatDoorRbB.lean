/-
  The sign of an order, plain: how many pairs stand the wrong way round; a change of two neighbours takes one away; none is left where no neighbours fall.
  Merge trees and bars, plain: pieces joined one edge after the other; who joins a piece first; when a lowest one is not any more.
  Merge trees and bars, plain: what is kept while the vertices come from the lowest on, with their edges one after the other.
-/
import Derived.Test.YtddnjimpdidpaaaGreatDoorCelP
set_option linter.unusedSimpArgs false
set_option linter.unusedVariables false
namespace Go.Proofs.YtddnjimpdidpaaaGreatDoor
open Go Go.RowKit Go.Maps

/-- how many numbers behind are less, of each -/
def invN : List Int → Nat
  | [] => 0
  | a :: l => (l.filter fun b => decide (b < a)).length + invN l
def sgN (n : Nat) : Int := if n % 2 = 0 then 1 else -1
theorem sgN_succ (n : Nat) : sgN (n + 1) = - sgN n := by
  unfold sgN
  by_cases h : n % 2 = 0
  · rw [if_pos h, if_neg (by omega)]
  · rw [if_neg h, if_pos (by omega)]; rfl
theorem sgN_add (n m : Nat) : sgN (n + m) = sgN n * sgN m := by
  induction m with
  | zero => simp [sgN]
  | succ m ih => rw [← Nat.add_assoc, sgN_succ, sgN_succ, ih, Int.mul_neg]
theorem sgN_bd (n : Nat) : sgN n = 1 ∨ sgN n = -1 := by unfold sgN; split <;> simp
/-- one number more behind -/
theorem invN_snoc : ∀ (l : List Int) (a : Int), invN (l ++ [a]) = invN l + (l.filter fun b => decide (a < b)).length
  | [], a => by simp [invN]
  | x :: l, a => by
    have ih := invN_snoc l a
    rw [List.cons_append]
    simp only [invN]
    rw [ih, List.filter_append, List.length_append, List.filter_cons]
    by_cases h : a < x
    · rw [if_pos (decide_eq_true h)]
      simp [h]; omega
    · rw [if_neg (by simpa using h)]
      simp [h]; omega
theorem invN_swap : ∀ (u : List Int) {x y : Int} (v : List Int), y < x → invN (u ++ x :: y :: v) = invN (u ++ y :: x :: v) + 1
  | [], x, y, v, h => by
    simp only [List.nil_append, invN, List.filter_cons]
    rw [if_pos (decide_eq_true h), if_neg (by simp; omega)]
    simp; omega
  | z :: u, x, y, v, h => by
    have ih := invN_swap u v h
    simp only [List.cons_append, invN]
    have hp : (u ++ x :: y :: v).Perm (u ++ y :: x :: v) := List.Perm.append_left _ (List.Perm.swap ..)
    rw [ih, (hp.filter _).length_eq]
    omega
/-- where no neighbours fall, nothing stands the wrong way round -/
theorem invN_zero : ∀ {l : List Int}, (∀ i, i + 1 < l.length → l.getD i 0 ≤ l.getD (i + 1) 0) → invN l = 0
  | [], _ => rfl
  | [x], _ => rfl
  | x :: y :: l, h => by
    have hy : invN (y :: l) = 0 := invN_zero fun i hi => by
      have := h (i + 1) (by simpa using hi)
      simpa using this
    have hxy : x ≤ y := by simpa using h 0 (by simp)
    have hall : ∀ b ∈ y :: l, y ≤ b := by
      have hs : ∀ (m : List Int) (z : Int), (∀ i, i + 1 < (z :: m).length → (z :: m).getD i 0 ≤ (z :: m).getD (i + 1) 0) → ∀ b ∈ z :: m, z ≤ b := fun m => by
        induction m with
        | nil => intro z _ b hb; rw [List.mem_singleton.1 hb]; exact Int.le_refl _
        | cons t m ih =>
          intro z hz b hb
          rcases List.mem_cons.1 hb with rfl | hb
          · exact Int.le_refl _
          · have h1 : z ≤ t := by simpa using hz 0 (by simp)
            have h2 := ih t (fun i hi => by have := hz (i + 1) (by simpa using hi); simpa using this) b hb
            omega
      exact hs l y fun i hi => by have := h (i + 1) (by simpa using hi); simpa using this
    have : invN (x :: y :: l) = ((y :: l).filter fun b => decide (b < x)).length + invN (y :: l) := rfl
    rw [this, hy]
    have he : (y :: l).filter (fun b => decide (b < x)) = [] := List.filter_eq_nil_iff.2 fun b hb => by
      have := hall b hb
      simp; omega
    rw [he]; rfl
/-- two neighbours change places -/
def swapL (l : List Int) (i : Nat) : List Int := (l.set i (l.getD (i + 1) 0)).set (i + 1) (l.getD i 0)
theorem swap_form {l : List Int} {i : Nat} (h : i + 1 < l.length) : l = l.take i ++ l.getD i 0 :: l.getD (i + 1) 0 :: l.drop (i + 2) ∧ swapL l i = l.take i ++ l.getD (i + 1) 0 :: l.getD i 0 :: l.drop (i + 2) := by
  have e : l = l.take i ++ l.getD i 0 :: l.getD (i + 1) 0 :: l.drop (i + 2) := by
    have h1 := List.take_append_drop i l
    rw [List.drop_eq_getElem_cons (by omega), List.drop_eq_getElem_cons h] at h1
    have a : l.getD i 0 = l[i]'(by omega) := by rw [List.getD_eq_getElem?_getD, List.getElem?_eq_getElem (by omega)]; rfl
    have b : l.getD (i + 1) 0 = l[i + 1] := by rw [List.getD_eq_getElem?_getD, List.getElem?_eq_getElem h]; rfl
    rw [a, b]
    exact h1.symm
  refine ⟨e, ?_⟩
  unfold swapL
  generalize l.getD i 0 = x at e ⊢
  generalize l.getD (i + 1) 0 = y at e ⊢
  have hl : (l.take i).length = i := by rw [List.length_take]; omega
  generalize l.take i = u at e hl ⊢
  generalize l.drop (i + 2) = v at e ⊢
  subst e
  rw [List.set_append_right _ _ (by omega), hl, Nat.sub_self, List.set_cons_zero, List.set_append_right _ _ (by omega), hl, show i + 1 - i = 1 by omega]
  rfl
theorem invN_swapL {l : List Int} {i : Nat} (h : i + 1 < l.length) (hlt : l.getD (i + 1) 0 < l.getD i 0) : invN l = invN (swapL l i) + 1 := by
  obtain ⟨e1, e2⟩ := swap_form h
  rw [e2]
  conv => lhs; rw [e1]
  exact invN_swap _ _ hlt

/-- one comes to the other by steps -/
inductive Rch (A : Nat → Nat → Prop) : Nat → Nat → Prop
  | refl (x : Nat) : Rch A x x
  | tail {x y z : Nat} : Rch A x y → A y z → Rch A x z
theorem Rch.trans {A : Nat → Nat → Prop} {x y z : Nat} (h : Rch A x y) (k : Rch A y z) : Rch A x z := by
  induction k with
  | refl => exact h
  | tail _ a ih => exact .tail ih a
theorem Rch.one {A : Nat → Nat → Prop} {x y : Nat} (h : A x y) : Rch A x y := .tail (.refl x) h
theorem Rch.symm {A : Nat → Nat → Prop} (hs : ∀ x y, A x y → A y x) {x y : Nat} (h : Rch A x y) : Rch A y x := by
  induction h with
  | refl => exact .refl _
  | tail _ a ih => exact (Rch.one (hs _ _ a)).trans ih
theorem Rch.mono {A B : Nat → Nat → Prop} (hs : ∀ x y, A x y → B x y) {x y : Nat} (h : Rch A x y) : Rch B x y := by
  induction h with
  | refl => exact .refl _
  | tail _ a ih => exact .tail ih (hs _ _ a)
def addE (A : Nat → Nat → Prop) (u v : Nat) (x y : Nat) : Prop := A x y ∨ (x = u ∧ y = v) ∨ (x = v ∧ y = u)
theorem Rch.add {A : Nat → Nat → Prop} {u v x y : Nat} : Rch (addE A u v) x y ↔ Rch A x y ∨ (Rch A x u ∧ Rch A v y) ∨ (Rch A x v ∧ Rch A u y) := by
  constructor
  · intro h
    induction h with
    | refl => exact Or.inl (.refl _)
    | tail _ a ih =>
      rcases a with a | ⟨rfl, rfl⟩ | ⟨rfl, rfl⟩
      · rcases ih with h | ⟨h1, h2⟩ | ⟨h1, h2⟩
        · exact Or.inl (.tail h a)
        · exact Or.inr (Or.inl ⟨h1, .tail h2 a⟩)
        · exact Or.inr (Or.inr ⟨h1, .tail h2 a⟩)
      · rcases ih with h | ⟨h1, h2⟩ | ⟨h1, h2⟩
        · exact Or.inr (Or.inl ⟨h, .refl _⟩)
        · exact Or.inr (Or.inl ⟨h1, .refl _⟩)
        · exact Or.inl h1
      · rcases ih with h | ⟨h1, h2⟩ | ⟨h1, h2⟩
        · exact Or.inr (Or.inr ⟨h, .refl _⟩)
        · exact Or.inl h1
        · exact Or.inr (Or.inr ⟨h1, .refl _⟩)
  · have hm : ∀ x y, A x y → addE A u v x y := fun _ _ a => Or.inl a
    rintro (h | ⟨h1, h2⟩ | ⟨h1, h2⟩)
    · exact h.mono hm
    · exact ((h1.mono hm).trans (.one (Or.inr (Or.inl ⟨rfl, rfl⟩)))).trans (h2.mono hm)
    · exact ((h1.mono hm).trans (.one (Or.inr (Or.inr ⟨rfl, rfl⟩)))).trans (h2.mono hm)
theorem Rch.in {A : Nat → Nat → Prop} {R : Nat → Prop} (hR : ∀ x y, A x y → R y) {x y : Nat} (h : Rch A x y) (hx : R x) : R y := by
  cases h with
  | refl => exact hx
  | tail _ a => exact hR _ _ a

/-- o tells the lowest of each piece, hd of a lowest one the highest of its piece -/
structure UF (h : Nat → Int) (A : Nat → Nat → Prop) (R : Nat → Prop) (o hd : Nat → Nat) : Prop where
  sym : ∀ x y, A x y → A y x
  inR : ∀ x y, A x y → R x ∧ R y
  ro : ∀ x, R x → Rch A x (o x)
  low : ∀ x y, R x → Rch A x y → h (o x) ≤ h y
  hr : ∀ x, R x → Rch A x (hd (o x))
  high : ∀ x y, R x → Rch A x y → h y ≤ h (hd (o x))
theorem UF.to {h : Nat → Int} {A : Nat → Nat → Prop} {R : Nat → Prop} {o hd : Nat → Nat} (S : UF h A R o hd) {x y : Nat} (k : Rch A x y) (hx : R x) : R y := k.in (fun a b c => (S.inR a b c).2) hx
theorem UF.rin {h : Nat → Int} {A : Nat → Nat → Prop} {R : Nat → Prop} {o hd : Nat → Nat} (S : UF h A R o hd) {x : Nat} (hx : R x) : R (o x) := S.to (S.ro x hx) hx
theorem UF.eq_iff {h : Nat → Int} {A : Nat → Nat → Prop} {R : Nat → Prop} {o hd : Nat → Nat} (S : UF h A R o hd) (inj : ∀ x y, R x → R y → h x = h y → x = y) {x y : Nat} (hx : R x) (hy : R y) : o x = o y ↔ Rch A x y := by
  constructor
  · intro e
    have h1 := S.ro x hx
    rw [e] at h1
    exact h1.trans ((S.ro y hy).symm S.sym)
  · intro k
    have h1 := S.low x (o y) hx (k.trans (S.ro y hy))
    have h2 := S.low y (o x) hy ((k.symm S.sym).trans (S.ro x hx))
    exact inj _ _ (S.rin hx) (S.rin hy) (by omega)
theorem UF.root {h : Nat → Int} {A : Nat → Nat → Prop} {R : Nat → Prop} {o hd : Nat → Nat} (S : UF h A R o hd) (inj : ∀ x y, R x → R y → h x = h y → x = y) {x : Nat} (hx : R x) : o (o x) = o x :=
  (S.eq_iff inj (S.rin hx) hx).2 ((S.ro x hx).symm S.sym)
def updN (f : Nat → Nat) (a b : Nat) (x : Nat) : Nat := if x = a then b else f x
theorem updN_same (f : Nat → Nat) (a b : Nat) : updN f a b a = b := if_pos rfl
theorem updN_other {f : Nat → Nat} {a b x : Nat} (h : x ≠ a) : updN f a b x = f x := if_neg h
/-- a new one, alone -/
theorem UF.new {h : Nat → Int} {A : Nat → Nat → Prop} {R : Nat → Prop} {o hd : Nat → Nat} (S : UF h A R o hd) {v : Nat} (hv : ¬ R v) : UF h A (fun x => R x ∨ x = v) (updN o v v) (updN hd v v) := by
  have alone' : ∀ x y, Rch A x y → x = v → y = v := fun x y k => by
    induction k with
    | refl => exact id
    | tail _ a ih =>
      intro e
      have := ih e
      rw [this] at a
      exact absurd (S.inR _ _ a).1 hv
  have alone : ∀ y, Rch A v y → y = v := fun y k => alone' v y k rfl
  have ne : ∀ x, R x → x ≠ v := fun x hx e => hv (e ▸ hx)
  have one : ∀ x, R x → o x ≠ v := fun x hx => ne _ (S.rin hx)
  refine ⟨S.sym, fun x y a => ⟨Or.inl (S.inR x y a).1, Or.inl (S.inR x y a).2⟩, ?_, ?_, ?_, ?_⟩
  · rintro x (hx | rfl)
    · rw [updN_other (ne x hx)]; exact S.ro x hx
    · rw [updN_same]; exact .refl _
  · rintro x y (hx | rfl) k
    · rw [updN_other (ne x hx)]; exact S.low x y hx k
    · rw [updN_same, alone y k]; exact Int.le_refl _
  · rintro x (hx | rfl)
    · rw [updN_other (ne x hx), updN_other (one x hx)]; exact S.hr x hx
    · rw [updN_same, updN_same]; exact .refl _
  · rintro x y (hx | rfl) k
    · rw [updN_other (ne x hx), updN_other (one x hx)]; exact S.high x y hx k
    · rw [updN_same, updN_same, alone y k]; exact Int.le_refl _
/-- an edge within a piece -/
theorem UF.same {h : Nat → Int} {A : Nat → Nat → Prop} {R : Nat → Prop} {o hd : Nat → Nat} (S : UF h A R o hd) {u v : Nat} (hu : R u) (hv : R v) (k : Rch A u v) : UF h (addE A u v) R o hd := by
  have e : ∀ x y, Rch (addE A u v) x y → Rch A x y := fun x y h => by
    rcases Rch.add.1 h with h | ⟨h1, h2⟩ | ⟨h1, h2⟩
    · exact h
    · exact (h1.trans k).trans h2
    · exact (h1.trans (k.symm S.sym)).trans h2
  have m : ∀ x y, A x y → addE A u v x y := fun _ _ a => Or.inl a
  refine ⟨?_, ?_, fun x hx => (S.ro x hx).mono m, fun x y hx h => S.low x y hx (e x y h), fun x hx => (S.hr x hx).mono m, fun x y hx h => S.high x y hx (e x y h)⟩
  · rintro x y (a | ⟨rfl, rfl⟩ | ⟨rfl, rfl⟩)
    · exact Or.inl (S.sym _ _ a)
    · exact Or.inr (Or.inr ⟨rfl, rfl⟩)
    · exact Or.inr (Or.inl ⟨rfl, rfl⟩)
  · rintro x y (a | ⟨rfl, rfl⟩ | ⟨rfl, rfl⟩)
    · exact S.inR _ _ a
    · exact ⟨hu, hv⟩
    · exact ⟨hv, hu⟩
/-- an edge between two pieces: a is the lower one's lowest, b the other one's -/
theorem UF.join {h : Nat → Int} {A : Nat → Nat → Prop} {R : Nat → Prop} {o hd : Nat → Nat} (S : UF h A R o hd) (inj : ∀ x y, R x → R y → h x = h y → x = y) {u v a b : Nat} (hu : R u) (hv : R v) (hne : o u ≠ o v)
    (hmax : ∀ x, R x → h x ≤ h v) (hab : (a = o u ∧ b = o v) ∨ (a = o v ∧ b = o u)) (hl : h a ≤ h b) {o' : Nat → Nat} (ho : ∀ x, R x → o' x = if o x = b then a else o x) :
    UF h (addE A u v) R o' (updN (updN hd a v) b v) := by
  have m : ∀ x y, A x y → addE A u v x y := fun _ _ a => Or.inl a
  have sym' : ∀ x y, addE A u v x y → addE A u v y x := by
    rintro x y (a | ⟨rfl, rfl⟩ | ⟨rfl, rfl⟩)
    · exact Or.inl (S.sym _ _ a)
    · exact Or.inr (Or.inr ⟨rfl, rfl⟩)
    · exact Or.inr (Or.inl ⟨rfl, rfl⟩)
  have hou := S.ro u hu
  have hov := S.ro v hv
  have uv : Rch (addE A u v) u v := .one (Or.inr (Or.inl ⟨rfl, rfl⟩))
  have hRa : R a ∧ R b := by
    rcases hab with ⟨rfl, rfl⟩ | ⟨rfl, rfl⟩
    · exact ⟨S.rin hu, S.rin hv⟩
    · exact ⟨S.rin hv, S.rin hu⟩
  -- a and b lie in the joined piece
  have pa : Rch (addE A u v) v a := by
    rcases hab with ⟨rfl, rfl⟩ | ⟨rfl, rfl⟩
    · exact (uv.symm sym').trans (hou.mono m)
    · exact hov.mono m
  have pb : Rch (addE A u v) v b := by
    rcases hab with ⟨rfl, rfl⟩ | ⟨rfl, rfl⟩
    · exact hov.mono m
    · exact (uv.symm sym').trans (hou.mono m)
  have hneab : a ≠ b := by
    rcases hab with ⟨rfl, rfl⟩ | ⟨rfl, rfl⟩
    · exact hne
    · exact fun e => hne e.symm
  -- whether an old one lies in the joined piece
  have jn : ∀ x, R x → ((o x = a ∨ o x = b) ↔ (Rch A x u ∨ Rch A x v)) := fun x hx => by
    rw [← S.eq_iff inj hx hu, ← S.eq_iff inj hx hv]
    rcases hab with ⟨rfl, rfl⟩ | ⟨rfl, rfl⟩
    · exact Iff.rfl
    · exact Or.comm
  have o'in : ∀ x, R x → (o x = a ∨ o x = b) → o' x = a := fun x hx h => by
    rw [ho x hx]
    split
    · rfl
    · rename_i hb; exact h.resolve_right hb
  have o'out : ∀ x, R x → ¬ (o x = a ∨ o x = b) → o' x = o x := fun x hx h => by
    rw [ho x hx, if_neg (fun e => h (Or.inr e))]
  have hd'in : updN (updN hd a v) b v a = v := by rw [updN_other hneab, updN_same]
  have hd'out : ∀ x, R x → ¬ (o x = a ∨ o x = b) → updN (updN hd a v) b v (o x) = hd (o x) := fun x hx h => by
    rw [updN_other (fun e => h (Or.inr e)), updN_other (fun e => h (Or.inl e))]
  have inV : ∀ x, R x → (o x = a ∨ o x = b) → Rch (addE A u v) x v := fun x hx h => by
    rcases (jn x hx).1 h with k | k
    · exact (k.mono m).trans uv
    · exact k.mono m
  have old : ∀ x y, R x → ¬ (o x = a ∨ o x = b) → Rch (addE A u v) x y → Rch A x y := fun x y hx hno k => by
    rcases Rch.add.1 k with k | ⟨k1, -⟩ | ⟨k1, -⟩
    · exact k
    · exact absurd ((jn x hx).2 (Or.inl k1)) hno
    · exact absurd ((jn x hx).2 (Or.inr k1)) hno
  have stay : ∀ x y, R x → (o x = a ∨ o x = b) → Rch (addE A u v) x y → R y ∧ (o y = a ∨ o y = b) := fun x y hx hin k => by
    have hy : R y := Rch.in (R := R) (by
      rintro p q (c | ⟨rfl, rfl⟩ | ⟨rfl, rfl⟩)
      · exact (S.inR _ _ c).2
      · exact hv
      · exact hu) k hx
    refine ⟨hy, (jn y hy).2 ?_⟩
    rcases Rch.add.1 k with k | ⟨-, k2⟩ | ⟨-, k2⟩
    · rcases (jn x hx).1 hin with h | h
      · exact Or.inl ((k.symm S.sym).trans h)
      · exact Or.inr ((k.symm S.sym).trans h)
    · exact Or.inr (k2.symm S.sym)
    · exact Or.inl (k2.symm S.sym)
  refine ⟨sym', ?_, fun x hx => ?_, fun x y hx k => ?_, fun x hx => ?_, fun x y hx k => ?_⟩
  · rintro x y (c | ⟨rfl, rfl⟩ | ⟨rfl, rfl⟩)
    · exact S.inR _ _ c
    · exact ⟨hu, hv⟩
    · exact ⟨hv, hu⟩
  · by_cases hin : o x = a ∨ o x = b
    · rw [o'in x hx hin]; exact (inV x hx hin).trans pa
    · rw [o'out x hx hin]; exact (S.ro x hx).mono m
  · by_cases hin : o x = a ∨ o x = b
    · rw [o'in x hx hin]
      obtain ⟨hy, hyi⟩ := stay x y hx hin k
      have h1 := S.low y y hy (.refl _)
      rcases hyi with e | e <;> rw [e] at h1 <;> omega
    · rw [o'out x hx hin]; exact S.low x y hx (old x y hx hin k)
  · by_cases hin : o x = a ∨ o x = b
    · rw [o'in x hx hin, hd'in]; exact inV x hx hin
    · rw [o'out x hx hin, hd'out x hx hin]; exact (S.hr x hx).mono m
  · by_cases hin : o x = a ∨ o x = b
    · rw [o'in x hx hin, hd'in]
      exact hmax y (stay x y hx hin k).1
    · rw [o'out x hx hin, hd'out x hx hin]; exact S.high x y hx (old x y hx hin k)

structure Gr (n : Nat) (h : Nat → Int) (Ad : Nat → Nat → Prop) : Prop where
  sym : ∀ x y, Ad x y → Ad y x
  irr : ∀ x, ¬ Ad x x
  lt : ∀ x y, Ad x y → x < n ∧ y < n
  inj : ∀ x y, x < n → y < n → h x = h y → x = y
/-- edges up to a height -/
def AtH (h : Nat → Int) (Ad : Nat → Nat → Prop) (t : Int) (x y : Nat) : Prop := Ad x y ∧ h x ≤ t ∧ h y ≤ t
/-- the piece of a vertex at its own height -/
def Cl (h : Nat → Int) (Ad : Nat → Nat → Prop) (i x : Nat) : Prop := Rch (AtH h Ad (h i)) i x
/-- one above that touches the piece -/
def TQ (h : Nat → Int) (Ad : Nat → Nat → Prop) (i k : Nat) : Prop := h i < h k ∧ ∃ x, Cl h Ad i x ∧ Ad k x
/-- the lowest of those that T tells -/
def FirstH (h : Nat → Int) (T : Nat → Prop) (p : Option Nat) : Prop := (p = none ∧ ∀ k, ¬ T k) ∨ ∃ k, p = some k ∧ T k ∧ ∀ k', T k' → h k ≤ h k'
/-- at the height of k, r is not the lowest of its piece any more -/
def LowQ (n : Nat) (h : Nat → Int) (Ad : Nat → Nat → Prop) (r k : Nat) : Prop := k < n ∧ h r < h k ∧ ∃ y, Rch (AtH h Ad (h k)) r y ∧ h y < h r
/-- no neighbour is lower -/
def Lm (n : Nat) (h : Nat → Int) (Ad : Nat → Nat → Prop) (r : Nat) : Prop := r < n ∧ ∀ u, Ad u r → h r < h u
/-- the edges so far: those below v, and those from v to D -/
def StA (h : Nat → Int) (Ad : Nat → Nat → Prop) (v : Nat) (D : Nat → Prop) (x y : Nat) : Prop := (Ad x y ∧ h x < h v ∧ h y < h v) ∨ (x = v ∧ D y) ∨ (y = v ∧ D x)
def TS (h : Nat → Int) (Ad : Nat → Nat → Prop) (v : Nat) (D : Nat → Prop) (i k : Nat) : Prop := TQ h Ad i k ∧ (h k < h v ∨ (k = v ∧ ∃ x, Cl h Ad i x ∧ D x))
def BarQ (n : Nat) (h : Nat → Int) (Ad : Nat → Nat → Prop) (r k : Nat) : Prop := Lm n h Ad r ∧ LowQ n h Ad r k ∧ ∀ k', LowQ n h Ad r k' → h k ≤ h k'
structure Pst (n : Nat) (h : Nat → Int) (Ad : Nat → Nat → Prop) (t : Int) (o hd : Nat → Nat) (par : Nat → Option Nat) (bars : List (Nat × Nat)) : Prop where
  uf : UF h (fun x y => Ad x y ∧ h x < t ∧ h y < t) (fun x => x < n ∧ h x < t) o hd
  par : ∀ i, i < n → FirstH h (fun k => TQ h Ad i k ∧ h k < t) (par i)
  bar : ∀ r k, (r, k) ∈ bars ↔ BarQ n h Ad r k ∧ h r < t ∧ o r ≠ r
  nod : bars.Nodup
structure Mst (n : Nat) (h : Nat → Int) (Ad : Nat → Nat → Prop) (v : Nat) (D : Nat → Prop) (o hd : Nat → Nat) (par : Nat → Option Nat) (bars : List (Nat × Nat)) : Prop where
  vn : v < n
  dd : ∀ u, D u → Ad u v ∧ h u < h v
  uf : UF h (StA h Ad v D) (fun x => x < n ∧ h x ≤ h v) o hd
  par : ∀ i, i < n → FirstH h (TS h Ad v D i) (par i)
  bar : ∀ r k, (r, k) ∈ bars ↔ BarQ n h Ad r k ∧ h r ≤ h v ∧ o r ≠ r
  nod : bars.Nodup

theorem FirstH.congr {h : Nat → Int} {T T' : Nat → Prop} {p : Option Nat} (k : FirstH h T p) (e : ∀ k, T k ↔ T' k) : FirstH h T' p := by
  rcases k with ⟨h1, h2⟩ | ⟨k, h1, h2, h3⟩
  · exact Or.inl ⟨h1, fun k hk => h2 k ((e k).2 hk)⟩
  · exact Or.inr ⟨k, h1, (e k).1 h2, fun k' hk => h3 k' ((e k').2 hk)⟩
theorem FirstH.more {h : Nat → Int} {T T' : Nat → Prop} {p : Option Nat} {v : Nat} (k : FirstH h T p) (hex : ∃ k, T k) (h1 : ∀ k, T k → T' k) (h2 : ∀ k, T' k → T k ∨ k = v) (h3 : ∀ k, T k → h k ≤ h v) : FirstH h T' p := by
  rcases k with ⟨-, hn⟩ | ⟨k, e, hk, hm⟩
  · obtain ⟨k, hk⟩ := hex
    exact absurd hk (hn k)
  · refine Or.inr ⟨k, e, h1 k hk, fun k' hk' => ?_⟩
    rcases h2 k' hk' with h | rfl
    · exact hm k' h
    · exact h3 k hk
theorem FirstH.unique {n : Nat} {h : Nat → Int} {T : Nat → Prop} (inj : ∀ x y, x < n → y < n → h x = h y → x = y) (hT : ∀ k, T k → k < n) {p q : Option Nat} (a : FirstH h T p) (b : FirstH h T q) : p = q := by
  rcases a with ⟨rfl, hn⟩ | ⟨k, rfl, hk, hm⟩ <;> rcases b with ⟨rfl, hn'⟩ | ⟨k', rfl, hk', hm'⟩
  · rfl
  · exact absurd hk' (hn k')
  · exact absurd hk (hn' k)
  · have h1 := hm k' hk'
    have h2 := hm' k hk
    rw [inj k k' (hT k hk) (hT k' hk') (by omega)]
theorem UF.congr {h : Nat → Int} {A A' : Nat → Nat → Prop} {R R' : Nat → Prop} {o hd : Nat → Nat} (S : UF h A R o hd) (e : ∀ x y, A x y ↔ A' x y) (f : ∀ x, R x ↔ R' x) : UF h A' R' o hd := by
  have e1 : A = A' := funext fun x => funext fun y => propext (e x y)
  have e2 : R = R' := funext fun x => propext (f x)
  subst e1; subst e2; exact S
theorem cl_le {h : Nat → Int} {Ad : Nat → Nat → Prop} {i x : Nat} (k : Cl h Ad i x) : h x ≤ h i := by
  unfold Cl at k
  cases k with
  | refl => exact Int.le_refl _
  | tail _ a => exact a.2.2
theorem cl_sub {n : Nat} {h : Nat → Int} {Ad : Nat → Nat → Prop} {v : Nat} {D : Nat → Prop} {i x : Nat} (hi : h i < h v) (k : Cl h Ad i x) : Rch (StA h Ad v D) i x :=
  Rch.mono (fun x y a => Or.inl ⟨a.1, by have := a.2.1; omega, by have := a.2.2; omega⟩) k
theorem cl_cross {n : Nat} {h : Nat → Int} {Ad : Nat → Nat → Prop} (g : Gr n h Ad) {v : Nat} {D : Nat → Prop} (dd : ∀ u, D u → Ad u v ∧ h u < h v) {i y : Nat} (hi : h i < h v) (k : Rch (StA h Ad v D) i y) (hn : ¬ Cl h Ad i y) : ∃ k, TS h Ad v D i k := by
  induction k with
  | refl => exact absurd (Rch.refl _) hn
  | @tail x z _ a ih =>
    by_cases hc : Cl h Ad i x
    · have hx := cl_le hc
      rcases a with ⟨a, h1, h2⟩ | ⟨rfl, h1⟩ | ⟨rfl, h1⟩
      · by_cases hz : h z ≤ h i
        · exact absurd (Rch.tail hc ⟨a, hx, hz⟩) hn
        · exact ⟨z, ⟨by omega, x, hc, g.sym _ _ a⟩, Or.inl h2⟩
      · omega
      · exact ⟨z, ⟨hi, x, hc, g.sym _ _ (dd x h1).1⟩, Or.inr ⟨rfl, x, hc, h1⟩⟩
    · exact ih hc
theorem cl_restrict {h : Nat → Int} {Ad : Nat → Nat → Prop} {v : Nat} {D : Nat → Prop} {i y : Nat} (hz : ∀ z, Rch (StA h Ad v D) i z → h z ≤ h i ∧ z ≠ v) (k : Rch (StA h Ad v D) i y) : Cl h Ad i y := by
  induction k with
  | refl => exact .refl _
  | @tail x z k a ih =>
    have h1 := hz x k
    have h2 := hz z (.tail k a)
    rcases a with ⟨a, -, -⟩ | ⟨rfl, -⟩ | ⟨rfl, -⟩
    · exact .tail ih ⟨a, h1.1, h2.1⟩
    · exact absurd rfl h1.2
    · exact absurd rfl h2.2
theorem pst_init {n : Nat} {h : Nat → Int} {Ad : Nat → Nat → Prop} {t : Int} {o hd : Nat → Nat} (ht : ∀ x, x < n → t ≤ h x) (lt : ∀ x y, Ad x y → x < n ∧ y < n) : Pst n h Ad t o hd (fun _ => none) [] := by
  have no : ∀ x, ¬ (x < n ∧ h x < t) := fun x hx => by have := ht x hx.1; omega
  refine ⟨⟨fun x y a => absurd ⟨(lt x y a.1).1, a.2.1⟩ (no x), fun x y a => absurd ⟨(lt x y a.1).1, a.2.1⟩ (no x), fun x hx => absurd hx (no x), fun x y hx => absurd hx (no x), fun x hx => absurd hx (no x), fun x y hx => absurd hx (no x)⟩, fun i hi => Or.inl ⟨rfl, fun k hk => ?_⟩, fun r k => ⟨fun h => by simp at h, fun h => absurd ⟨h.1.1.1, h.2.1⟩ (no r)⟩, List.Pairwise.nil⟩
  obtain ⟨⟨-, x, -, a⟩, h2⟩ := hk
  exact no k ⟨(lt k x a).1, h2⟩
theorem pst_new {n : Nat} {h : Nat → Int} {Ad : Nat → Nat → Prop} (g : Gr n h Ad) {v : Nat} {o hd : Nat → Nat} {par : Nat → Option Nat} {bars : List (Nat × Nat)} (P : Pst n h Ad (h v) o hd par bars) (hv : v < n) : Mst n h Ad v (fun _ => False) (updN o v v) (updN hd v v) par bars := by
  refine ⟨hv, fun u h => h.elim, (P.uf.new (v := v) (fun h => by have := h.2; omega)).congr (fun x y => ?_) (fun x => ?_), fun i hi => (P.par i hi).congr fun k => ?_, fun r k => ?_, P.nod⟩
  · unfold StA; simp
  · constructor
    · rintro (⟨a, b⟩ | rfl)
      · exact ⟨a, by omega⟩
      · exact ⟨hv, Int.le_refl _⟩
    · rintro ⟨a, b⟩
      by_cases e : h x < h v
      · exact Or.inl ⟨a, e⟩
      · exact Or.inr (g.inj x v a hv (by omega))
  · unfold TS; simp
  · rw [P.bar r k]
    constructor
    · rintro ⟨a, b, c⟩
      exact ⟨a, by omega, by rw [updN_other (fun e => by rw [e] at b; omega)]; exact c⟩
    · rintro ⟨a, b, c⟩
      have hne : r ≠ v := fun e => by rw [e, updN_same] at c; exact c rfl
      have hlt : h r < h v := by
        have : h r ≠ h v := fun e => hne (g.inj r v a.1.1 hv e)
        omega
      rw [updN_other hne] at c
      exact ⟨a, hlt, c⟩
theorem mst_done {n : Nat} {h : Nat → Int} {Ad : Nat → Nat → Prop} (g : Gr n h Ad) {v : Nat} {D : Nat → Prop} {o hd : Nat → Nat} {par : Nat → Option Nat} {bars : List (Nat × Nat)} (M : Mst n h Ad v D o hd par bars) {t : Int} (full : ∀ u, Ad u v → h u < h v → D u) (ht : ∀ x, x < n → (h x < t ↔ h x ≤ h v)) : Pst n h Ad t o hd par bars := by
  have split : ∀ x, x < n → (h x ≤ h v ↔ (h x < h v ∨ x = v)) := fun x hx => by
    constructor
    · intro a
      by_cases e : h x < h v
      · exact Or.inl e
      · exact Or.inr (g.inj x v hx M.vn (by omega))
    · rintro (a | rfl) <;> omega
  refine ⟨M.uf.congr (fun x y => ?_) (fun x => ?_), fun i hi => (M.par i hi).congr fun k => ?_, fun r k => ?_, M.nod⟩
  · constructor
    · rintro (⟨a, b, c⟩ | ⟨rfl, d⟩ | ⟨rfl, d⟩)
      · have hx := g.lt x y a
        exact ⟨a, (ht x hx.1).2 (by omega), (ht y hx.2).2 (by omega)⟩
      · obtain ⟨a, b⟩ := M.dd y d
        have hx := g.lt y x a
        exact ⟨g.sym _ _ a, (ht x hx.2).2 (Int.le_refl _), (ht y hx.1).2 (by omega)⟩
      · obtain ⟨a, b⟩ := M.dd x d
        have hx := g.lt x y a
        exact ⟨a, (ht x hx.1).2 (by omega), (ht y hx.2).2 (Int.le_refl _)⟩
    · rintro ⟨a, b, c⟩
      have hx := g.lt x y a
      rcases (split x hx.1).1 ((ht x hx.1).1 b) with b | rfl
      · rcases (split y hx.2).1 ((ht y hx.2).1 c) with c | rfl
        · exact Or.inl ⟨a, b, c⟩
        · exact Or.inr (Or.inr ⟨rfl, full x a b⟩)
      · rcases (split y hx.2).1 ((ht y hx.2).1 c) with c | rfl
        · exact Or.inr (Or.inl ⟨rfl, full y (g.sym _ _ a) c⟩)
        · exact absurd a (g.irr _)
  · constructor
    · rintro ⟨a, b⟩; exact ⟨a, (ht x a).2 b⟩
    · rintro ⟨a, b⟩; exact ⟨a, (ht x a).1 b⟩
  · constructor
    · rintro ⟨a, b⟩
      have hk : k < n := by obtain ⟨-, x, -, c⟩ := a; exact (g.lt k x c).1
      refine ⟨a, (ht k hk).2 ?_⟩
      rcases b with b | ⟨rfl, -⟩ <;> omega
    · rintro ⟨a, b⟩
      have hk : k < n := by obtain ⟨-, x, -, c⟩ := a; exact (g.lt k x c).1
      refine ⟨a, ?_⟩
      rcases (split k hk).1 ((ht k hk).1 b) with b | rfl
      · exact Or.inl b
      · obtain ⟨h1, x, h2, h3⟩ := a
        exact Or.inr ⟨rfl, x, h2, full x (g.sym _ _ h3) (by have := cl_le h2; omega)⟩
  · rw [M.bar r k]
    constructor
    · rintro ⟨a, b, c⟩; exact ⟨a, (ht r a.1.1).2 b, c⟩
    · rintro ⟨a, b, c⟩; exact ⟨a, (ht r a.1.1).1 b, c⟩
theorem sta_add {h : Nat → Int} {Ad : Nat → Nat → Prop} {v : Nat} {D : Nat → Prop} {u x y : Nat} : addE (StA h Ad v D) u v x y ↔ StA h Ad v (fun z => D z ∨ z = u) x y := by
  unfold addE StA
  constructor
  · rintro ((a | ⟨a, b⟩ | ⟨a, b⟩) | ⟨a, b⟩ | ⟨a, b⟩)
    · exact Or.inl a
    · exact Or.inr (Or.inl ⟨a, Or.inl b⟩)
    · exact Or.inr (Or.inr ⟨a, Or.inl b⟩)
    · exact Or.inr (Or.inr ⟨b, Or.inr a⟩)
    · exact Or.inr (Or.inl ⟨a, Or.inr b⟩)
  · rintro (a | ⟨a, b | b⟩ | ⟨a, b | b⟩)
    · exact Or.inl (Or.inl a)
    · exact Or.inl (Or.inr (Or.inl ⟨a, b⟩))
    · exact Or.inr (Or.inr ⟨a, b⟩)
    · exact Or.inl (Or.inr (Or.inr ⟨a, b⟩))
    · exact Or.inr (Or.inl ⟨b, a⟩)
theorem ts_sub {h : Nat → Int} {Ad : Nat → Nat → Prop} {v : Nat} {D : Nat → Prop} {u i k : Nat} (a : TS h Ad v D i k) : TS h Ad v (fun z => D z ∨ z = u) i k := by
  obtain ⟨a, b | ⟨b, x, c, d⟩⟩ := a
  · exact ⟨a, Or.inl b⟩
  · exact ⟨a, Or.inr ⟨b, x, c, Or.inl d⟩⟩
theorem ts_sup {h : Nat → Int} {Ad : Nat → Nat → Prop} {v : Nat} {D : Nat → Prop} {u i k : Nat} (a : TS h Ad v (fun z => D z ∨ z = u) i k) : TS h Ad v D i k ∨ (k = v ∧ Cl h Ad i u) := by
  obtain ⟨a, b | ⟨b, x, c, d | d⟩⟩ := a
  · exact Or.inl ⟨a, Or.inl b⟩
  · exact Or.inl ⟨a, Or.inr ⟨b, x, c, d⟩⟩
  · subst d; exact Or.inr ⟨b, c⟩
theorem ts_le {h : Nat → Int} {Ad : Nat → Nat → Prop} {v : Nat} {D : Nat → Prop} {i k : Nat} (a : TS h Ad v D i k) : h k ≤ h v ∧ h i < h v := by
  obtain ⟨a, b | ⟨rfl, -⟩⟩ := a
  · exact ⟨by omega, by have := a.1; omega⟩
  · exact ⟨Int.le_refl _, a.1⟩
/-- who touches a piece, with an edge more: nothing new where one has touched it already -/
theorem par_keep {n : Nat} {h : Nat → Int} {Ad : Nat → Nat → Prop} {v : Nat} {D : Nat → Prop} {u i : Nat} {p : Option Nat} (k : FirstH h (TS h Ad v D i) p) (hex : Cl h Ad i u → h i < h v → ∃ k, TS h Ad v D i k) : FirstH h (TS h Ad v (fun z => D z ∨ z = u) i) p := by
  by_cases hi : h i < h v
  · by_cases hc : Cl h Ad i u
    · exact k.more (v := v) (hex hc hi) (fun _ a => ts_sub a) (fun _ a => (ts_sup a).imp id And.left) fun _ a => (ts_le a).1
    · exact k.congr fun k => ⟨ts_sub, fun a => (ts_sup a).resolve_right fun b => hc b.2⟩
  · exact k.congr fun k => ⟨ts_sub, fun a => absurd (ts_le a).2 hi⟩
theorem mst_skip {n : Nat} {h : Nat → Int} {Ad : Nat → Nat → Prop} (g : Gr n h Ad) {v : Nat} {D : Nat → Prop} {o hd : Nat → Nat} {par : Nat → Option Nat} {bars : List (Nat × Nat)} (M : Mst n h Ad v D o hd par bars) {u : Nat} (ha : Ad u v) (hu : h u < h v) (he : o u = o v) : Mst n h Ad v (fun z => D z ∨ z = u) o hd par bars := by
  have hun := (g.lt u v ha).1
  have inj : ∀ x y, (x < n ∧ h x ≤ h v) → (y < n ∧ h y ≤ h v) → h x = h y → x = y := fun x y a b => g.inj x y a.1 b.1
  have hk : Rch (StA h Ad v D) u v := (M.uf.eq_iff inj ⟨hun, by omega⟩ ⟨M.vn, Int.le_refl _⟩).1 he
  refine ⟨M.vn, ?_, (M.uf.same ⟨hun, by omega⟩ ⟨M.vn, Int.le_refl _⟩ hk).congr (fun x y => sta_add) (fun x => Iff.rfl), fun i hi => par_keep (n := n) (M.par i hi) fun hc hiv => ?_, M.bar, M.nod⟩
  · rintro z (d | rfl)
    · exact M.dd z d
    · exact ⟨ha, hu⟩
  · exact cl_cross g M.dd hiv ((cl_sub (n := n) hiv hc).trans hk) fun hc2 => by have := cl_le hc2; omega
def updO (f : Nat → Option Nat) (a : Nat) (b : Option Nat) (x : Nat) : Option Nat := if x = a then b else f x
theorem mst_join {n : Nat} {h : Nat → Int} {Ad : Nat → Nat → Prop} (g : Gr n h Ad) {v : Nat} {D : Nat → Prop} {o hd : Nat → Nat} {par : Nat → Option Nat} {bars : List (Nat × Nat)} (M : Mst n h Ad v D o hd par bars) {u a b : Nat} (ha : Ad u v) (hu : h u < h v) (hne : o u ≠ o v)
    (hab : (a = o u ∧ b = o v) ∨ (a = o v ∧ b = o u)) (hl : h a ≤ h b) {o' : Nat → Nat} (ho : ∀ x, x < n → h x ≤ h v → o' x = if o x = b then a else o x) :
    Mst n h Ad v (fun z => D z ∨ z = u) o' (updN (updN hd a v) b v) (updO par (hd (o u)) (some v)) (if b = v then bars else bars ++ [(b, v)]) := by
  have hun := (g.lt u v ha).1
  have inj : ∀ x y, (x < n ∧ h x ≤ h v) → (y < n ∧ h y ≤ h v) → h x = h y → x = y := fun x y a b => g.inj x y a.1 b.1
  have hRu : u < n ∧ h u ≤ h v := ⟨hun, by omega⟩
  have hRv : v < n ∧ h v ≤ h v := ⟨M.vn, Int.le_refl _⟩
  have S := M.uf
  have S' := S.join inj hRu hRv hne (fun x hx => hx.2) hab hl (fun x hx => ho x hx.1 hx.2)
  have hnk : ¬ Rch (StA h Ad v D) u v := fun k => hne ((S.eq_iff inj hRu hRv).2 k)
  have dd' : ∀ z, (D z ∨ z = u) → Ad z v ∧ h z < h v := by
    rintro z (d | rfl)
    · exact M.dd z d
    · exact ⟨ha, hu⟩
  -- the highest of u's piece
  have hr := S.hr u hRu
  have hR0 := S.to hr hRu
  obtain ⟨i0, hi0⟩ : ∃ i, hd (o u) = i := ⟨_, rfl⟩
  rw [hi0] at hr hR0
  have hhigh : ∀ z, Rch (StA h Ad v D) i0 z → h z ≤ h i0 ∧ z ≠ v := fun z k => by
    have h1 := S.high u z hRu (hr.trans k)
    rw [hi0] at h1
    exact ⟨h1, fun e => hnk (by have q := hr.trans k; rw [e] at q; exact q)⟩
  have hi0v : h i0 < h v := by
    have h1 := (hhigh i0 (.refl _)).2
    have : h i0 ≠ h v := fun e => h1 (g.inj i0 v hR0.1 M.vn e)
    have := hR0.2
    omega
  have hc0 : Cl h Ad i0 u := cl_restrict hhigh (hr.symm S.sym)
  have hRa : (a < n ∧ h a ≤ h v) ∧ (b < n ∧ h b ≤ h v) ∧ o a = a ∧ o b = b ∧ a ≠ b := by
    have h1 := S.rin hRu
    have h2 := S.rin hRv
    have h3 := S.root inj hRu
    have h4 := S.root inj hRv
    rcases hab with ⟨rfl, rfl⟩ | ⟨rfl, rfl⟩
    · exact ⟨h1, h2, h3, h4, hne⟩
    · exact ⟨h2, h1, h4, h3, fun e => hne e.symm⟩
  obtain ⟨hRa, hRb, hoa, hob, hneab⟩ := hRa
  have o'b : o' b = a := by rw [ho b hRb.1 hRb.2, if_pos hob]
  have fact1 : ∀ r, r < n → h r ≤ h v → (o' r ≠ r ↔ (o r ≠ r ∨ r = b)) := fun r h1 h2 => by
    rw [ho r h1 h2]
    by_cases hc : o r = b
    · rw [if_pos hc]
      constructor
      · intro _
        by_cases hrb : r = b
        · exact Or.inr hrb
        · exact Or.inl fun e => hrb (e.symm.trans hc)
      · intro _ e
        rw [← e, hoa] at hc
        exact hneab hc
    · rw [if_neg hc]
      constructor
      · exact Or.inl
      · rintro (e | rfl)
        · exact e
        · exact absurd hob hc
  have stAt : ∀ x y, addE (StA h Ad v D) u v x y → AtH h Ad (h v) x y := by
    rintro x y ((⟨c, h1, h2⟩ | ⟨rfl, d⟩ | ⟨rfl, d⟩) | ⟨rfl, rfl⟩ | ⟨rfl, rfl⟩)
    · exact ⟨c, by omega, by omega⟩
    · obtain ⟨c, h1⟩ := M.dd y d
      exact ⟨g.sym _ _ c, Int.le_refl _, by omega⟩
    · obtain ⟨c, h1⟩ := M.dd x d
      exact ⟨c, by omega, Int.le_refl _⟩
    · exact ⟨ha, by omega, Int.le_refl _⟩
    · exact ⟨g.sym _ _ ha, Int.le_refl _, by omega⟩
  have barb : b ≠ v → BarQ n h Ad b v := fun hbv => by
    have hbl : h b < h v := by
      have : h b ≠ h v := fun e => hbv (g.inj b v hRb.1 M.vn e)
      have := hRb.2
      omega
    have hablt : h a < h b := by
      have : h a ≠ h b := fun e => hneab (g.inj a b hRa.1 hRb.1 e)
      omega
    have hlow : ∀ y, Rch (StA h Ad v D) b y → h b ≤ h y := fun y k => by
      have := S.low b y hRb k
      rwa [hob] at this
    refine ⟨⟨hRb.1, fun w aw => ?_⟩, ⟨M.vn, hbl, a, ?_, hablt⟩, fun k' hk' => ?_⟩
    · have hwn := (g.lt w b aw).1
      by_cases hwb : h w < h b
      · have := hlow w (.one (Or.inl ⟨g.sym _ _ aw, hbl, by omega⟩))
        omega
      · have : h w ≠ h b := fun e => by
          have := g.inj w b hwn hRb.1 e
          rw [this] at aw
          exact g.irr _ aw
        omega
    · have k := S'.ro b hRb
      rw [o'b] at k
      exact k.mono stAt
    · obtain ⟨hk1, hk2, y, ky, hy⟩ := hk'
      by_cases hlt : h k' < h v
      · have := hlow y (ky.mono fun p q c => Or.inl ⟨c.1, by have := c.2.1; omega, by have := c.2.2; omega⟩)
        omega
      · omega
  refine ⟨M.vn, dd', S'.congr (fun x y => sta_add) (fun x => Iff.rfl), fun i hi => ?_, fun r k => ?_, ?_⟩
  · unfold updO
    rw [hi0]
    by_cases hii : i = i0
    · subst hii
      rw [if_pos rfl]
      refine Or.inr ⟨v, rfl, ⟨⟨hi0v, u, hc0, g.sym _ _ ha⟩, Or.inr ⟨rfl, u, hc0, Or.inr rfl⟩⟩, fun k' hk' => ?_⟩
      obtain ⟨⟨h1, x, h2, h3⟩, h4 | ⟨rfl, -⟩⟩ := hk'
      · have hx := cl_le h2
        have := (hhigh k' (.tail (cl_sub (n := n) hi0v h2) (Or.inl ⟨g.sym _ _ h3, by omega, h4⟩))).1
        omega
      · exact Int.le_refl _
    · rw [if_neg hii]
      refine par_keep (n := n) (M.par i hi) fun hc hiv => ?_
      have k1 : Rch (StA h Ad v D) i i0 := (cl_sub (n := n) hiv hc).trans hr
      refine cl_cross g M.dd hiv k1 fun hc2 => hii ?_
      have h1 := cl_le hc2
      have h2 := (hhigh i (k1.symm S.sym)).1
      exact g.inj i i0 hi hR0.1 (by omega)
  · have key : (BarQ n h Ad r k ∧ h r ≤ h v ∧ o' r ≠ r) ↔ ((r, k) ∈ bars ∨ (b ≠ v ∧ (r, k) = (b, v))) := by
      rw [M.bar r k]
      constructor
      · rintro ⟨hq, h1, h2⟩
        rcases (fact1 r hq.1.1 h1).1 h2 with h3 | rfl
        · exact Or.inl ⟨hq, h1, h3⟩
        · have hrv : r ≠ v := fun e => by
            rw [e] at hq
            have := hq.1.2 u ha
            omega
          have hbv := barb hrv
          have h4 := hq.2.2 v hbv.2.1
          have h5 := hbv.2.2 k hq.2.1
          have : k = v := g.inj k v hq.2.1.1 M.vn (by omega)
          exact Or.inr ⟨hrv, by rw [this]⟩
      · rintro (⟨hq, h1, h3⟩ | ⟨hbv, e⟩)
        · exact ⟨hq, h1, (fact1 r hq.1.1 h1).2 (Or.inl h3)⟩
        · cases e
          exact ⟨barb hbv, hRb.2, (fact1 b hRb.1 hRb.2).2 (Or.inr rfl)⟩
    rw [key]
    by_cases hbv : b = v
    · rw [if_pos hbv]
      constructor
      · exact Or.inl
      · exact fun h => h.resolve_right fun h2 => h2.1 hbv
    · rw [if_neg hbv, List.mem_append, List.mem_singleton]
      constructor
      · exact fun h => h.imp id fun e => ⟨hbv, e⟩
      · exact fun h => h.imp id fun e => e.2
  · by_cases hbv : b = v
    · rw [if_pos hbv]; exact M.nod
    · rw [if_neg hbv, List.nodup_append]
      refine ⟨M.nod, by simp, fun x hx y hy e => ?_⟩
      rw [List.mem_singleton] at hy
      rw [e, hy] at hx
      exact ((M.bar b v).1 hx).2.2 hob
end Go.Proofs.YtddnjimpdidpaaaGreatDoor
