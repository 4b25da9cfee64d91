/-
  TODD and COXETER: the program's join as a function, and that it ends in the smallest congruence.
-/
import Derived.Test.YtedehmknijlgpaaDoorTcB
namespace Go.Proofs.YtedehmknijlgpaaDoor.TC

/-- rows of one width, whose entries are rows or -1 -/
structure Wide (W : Nat) (R : Rows) : Prop where
  len : ∀ x, x < R.length → (R.getD x []).length = W
  ent : ∀ x k, -1 ≤ TC.ent R x k ∧ TC.ent R x k < R.length
theorem ent_out {R : Rows} {x k : Nat} (h : R.length ≤ x) : ent R x k = -1 := by
  unfold ent
  rw [List.getD_eq_getElem?_getD (l := R), List.getElem?_eq_none h]
  simp
theorem Wide.out {W : Nat} {R : Rows} (h : Wide W R) {x k : Nat} (hk : W ≤ k) : TC.ent R x k = -1 := by
  rcases Nat.lt_or_ge x R.length with hx | hx
  · have := h.len x hx
    unfold TC.ent
    rw [List.getD_eq_getElem?_getD (l := R.getD x []), List.getElem?_eq_none (by omega)]
    rfl
  · exact ent_out hx
theorem Wide.inn {W : Nat} {R : Rows} (h : Wide W R) {x k u : Nat} (e : TC.ent R x k = (u : Int)) : x < R.length ∧ k < W ∧ u < R.length := by
  refine ⟨?_, ?_, ?_⟩
  · rcases Nat.lt_or_ge x R.length with hx | hx
    · exact hx
    · rw [ent_out hx] at e; omega
  · rcases Nat.lt_or_ge k W with hk | hk
    · exact hk
    · rw [h.out hk] at e; omega
  · have := (h.ent x k).2; omega
def setE (R : Rows) (x k : Nat) (v : Int) : Rows := R.set x ((R.getD x []).set k v)
theorem setE_len (R : Rows) (x k : Nat) (v : Int) : (setE R x k v).length = R.length := List.length_set ..
theorem setE_ent {W : Nat} {R : Rows} (h : Wide W R) {x k : Nat} (hx : x < R.length) (hk : k < W) (v : Int) (y j : Nat) : ent (setE R x k v) y j = if y = x ∧ j = k then v else ent R y j := by
  have hl := h.len x hx
  unfold ent setE
  by_cases e : y = x
  · subst e
    rw [List.getD_eq_getElem?_getD (l := R.set y _), List.getElem?_set_self hx, Option.getD_some]
    by_cases e2 : j = k
    · subst e2
      rw [if_pos ⟨rfl, rfl⟩, List.getD_eq_getElem?_getD, List.getElem?_set_self (by omega)]; rfl
    · rw [if_neg (fun h => e2 h.2), List.getD_eq_getElem?_getD, List.getElem?_set_ne (fun h => e2 h.symm), ← List.getD_eq_getElem?_getD]
  · rw [if_neg (fun h => e h.1), List.getD_eq_getElem?_getD (l := R.set x _), List.getElem?_set_ne (fun h => e h.symm), ← List.getD_eq_getElem?_getD]
theorem setE_SetE {W : Nat} {R : Rows} (h : Wide W R) {x k : Nat} (hx : x < R.length) (hk : k < W) (u : Nat) : SetE R (setE R x k (u : Int)) x k u := fun y j => setE_ent h hx hk _ y j
theorem setE_wide {W : Nat} {R : Rows} (h : Wide W R) {x k : Nat} (hx : x < R.length) (hk : k < W) {u : Nat} (hu : u < R.length) : Wide W (setE R x k (u : Int)) := by
  refine ⟨fun y hy => ?_, fun y j => ?_⟩
  · rw [setE_len] at hy
    have hly := h.len y hy
    unfold setE
    by_cases e : y = x
    · subst e
      rw [List.getD_eq_getElem?_getD, List.getElem?_set_self hy, Option.getD_some, List.length_set]; exact hly
    · rw [List.getD_eq_getElem?_getD, List.getElem?_set_ne (fun h => e h.symm), ← List.getD_eq_getElem?_getD]; exact hly
  · rw [setE_ent h hx hk, setE_len]
    split
    · omega
    · exact h.ent y j

/-! One column of the row that is moved: b's into a's. -/
abbrev RQ := Rows × List (Nat × Nat)
def put1 (a k to : Nat) (s : RQ) : RQ := if 0 ≤ ent s.1 a k then (s.1, s.2 ++ [((ent s.1 a k).toNat, to)]) else (setE s.1 a k (to : Int), s.2)
def put2 (t k a : Nat) (s : RQ) : RQ := if 0 ≤ ent s.1 t k then (s.1, s.2 ++ [((ent s.1 t k).toNat, a)]) else (setE s.1 t k (a : Int), s.2)
def colM (S : List Nat) (a b k : Nat) (s : RQ) : RQ :=
  if ent s.1 b k < 0 then s else put2 (rep S (ent s.1 b k).toNat) (opp k) a (put1 a k (ent s.1 b k).toNat s)
def colsM (S : List Nat) (a b : Nat) : Nat → RQ → RQ
  | 0, s => s
  | k + 1, s => colM S a b k (colsM S a b k s)
def QOk (n : Nat) (Q : List (Nat × Nat)) : Prop := ∀ p ∈ Q, p.1 < n ∧ p.2 < n
theorem opp_lt {W k : Nat} (hW : W % 2 = 0) (hk : k < W) : opp k < W := by
  unfold opp
  have h : k ^^^ 1 = if k % 2 = 0 then k + 1 else k - 1 := by
    rcases Nat.mod_two_eq_zero_or_one k with e | e
    · rw [if_pos e]
      obtain ⟨m, rfl⟩ : ∃ m, k = 2 * m := ⟨k / 2, by omega⟩
      apply Nat.eq_of_testBit_eq
      intro i
      rw [Nat.testBit_xor]
      cases i with
      | zero => simp
      | succ i => simp [Nat.testBit_succ]; congr 1; omega
    · rw [if_neg (by omega)]
      obtain ⟨m, rfl⟩ : ∃ m, k = 2 * m + 1 := ⟨k / 2, by omega⟩
      apply Nat.eq_of_testBit_eq
      intro i
      rw [Nat.testBit_xor]
      cases i with
      | zero => simp
      | succ i => simp [Nat.testBit_succ]; congr 1; omega
  rw [h]
  split <;> omega
section
variable {R0 : Rows} {S0 : List Nat} {a0 b0 W : Nat} (hG : Good R0 S0) (hW2 : W % 2 = 0)
include hG hW2
theorem col_step {S : List Nat} {a b k : Nat} {s : RQ} (hI : Inv R0 S0 a0 b0 a b k s.2 s.1 S) (hWd : Wide W s.1) (hQ : QOk s.1.length s.2) (ha : rep S a = a) (hb : rep S b = a) (hne : a ≠ b) (hbl : b < s.1.length) (hal : a < s.1.length) (hk : k < W) :
    Inv R0 S0 a0 b0 a b (k + 1) (colM S a b k s).2 (colM S a b k s).1 S ∧ Wide W (colM S a b k s).1 ∧ QOk s.1.length (colM S a b k s).2 ∧ (colM S a b k s).1.length = s.1.length := by
  unfold colM
  by_cases h0 : ent s.1 b k < 0
  · rw [if_pos h0]
    exact ⟨hI.col_none h0, hWd, hQ, rfl⟩
  rw [if_neg h0]
  obtain ⟨to, hto⟩ : ∃ to : Nat, ent s.1 b k = (to : Int) := ⟨(ent s.1 b k).toNat, by omega⟩
  have hti := hWd.inn hto
  rw [hto, Int.toNat_natCast]
  have hbb : rep S b ≠ b := by rw [hb]; exact hne
  have hab : rep S a = rep S b := by rw [ha, hb]
  have p1 : Inv R0 S0 a0 b0 a b (k + 1) (put1 a k to s).2 (put1 a k to s).1 S ∧ Wide W (put1 a k to s).1 ∧ QOk s.1.length (put1 a k to s).2 ∧ (put1 a k to s).1.length = s.1.length ∧ ent (put1 a k to s).1 b k = (to : Int) := by
    unfold put1
    by_cases h1 : 0 ≤ ent s.1 a k
    · rw [if_pos h1]
      obtain ⟨hv, hhv⟩ : ∃ hv : Nat, ent s.1 a k = (hv : Int) := ⟨(ent s.1 a k).toNat, by omega⟩
      have hhi := hWd.inn hhv
      refine ⟨?_, hWd, fun p hp => ?_, rfl, hto⟩
      · rw [hhv, Int.toNat_natCast]; exact hI.col_have ha hab hto hhv
      · rcases List.mem_append.1 hp with hp | hp
        · exact hQ p hp
        · rw [List.mem_singleton.1 hp, hhv, Int.toNat_natCast]; exact ⟨hhi.2.2, hti.2.2⟩
    · rw [if_neg h1]
      refine ⟨hI.col_set ha hab hne hto (by omega) (setE_SetE hWd hal hk to), setE_wide hWd hal hk hti.2.2, hQ, setE_len .., ?_⟩
      show ent (setE s.1 a k (to : Int)) b k = (to : Int)
      rw [setE_ent hWd hal hk, if_neg (fun e => hne e.1.symm)]; exact hto
  obtain ⟨q1, q2, q3, q4, q5⟩ := p1
  generalize put1 a k to s = s1 at q1 q2 q3 q4 q5 ⊢
  have hrl : rep S to < s1.1.length := by rw [q4]; exact Nat.lt_of_le_of_lt (rep_le hI.wf to) hti.2.2
  have hok := opp_lt hW2 hk
  unfold put2
  by_cases h2 : 0 ≤ ent s1.1 (rep S to) (opp k)
  · rw [if_pos h2]
    obtain ⟨hv, hhv⟩ : ∃ hv : Nat, ent s1.1 (rep S to) (opp k) = (hv : Int) := ⟨(ent s1.1 (rep S to) (opp k)).toNat, by omega⟩
    have hhi := q2.inn hhv
    refine ⟨?_, q2, fun p hp => ?_, q4⟩
    · rw [hhv, Int.toNat_natCast]; exact q1.back_have hG.back hG.wf q5 hhv hab
    · rcases List.mem_append.1 hp with hp | hp
      · exact q3 p hp
      · rw [List.mem_singleton.1 hp, hhv, Int.toNat_natCast]; exact ⟨by rw [← q4]; exact hhi.2.2, hal⟩
  · rw [if_neg h2]
    exact ⟨q1.back_set hG.back hG.wf hbb q5 (by omega) hab (setE_SetE q2 hrl hok a), setE_wide q2 hrl hok (by rw [q4]; exact hal), q3, (setE_len ..).trans q4⟩
theorem cols_step {S : List Nat} {a b : Nat} {s : RQ} (hI : Inv R0 S0 a0 b0 a b 0 s.2 s.1 S) (hWd : Wide W s.1) (hQ : QOk s.1.length s.2) (ha : rep S a = a) (hb : rep S b = a) (hne : a ≠ b) (hbl : b < s.1.length) (hal : a < s.1.length) : ∀ k, k ≤ W →
    Inv R0 S0 a0 b0 a b k (colsM S a b k s).2 (colsM S a b k s).1 S ∧ Wide W (colsM S a b k s).1 ∧ QOk s.1.length (colsM S a b k s).2 ∧ (colsM S a b k s).1.length = s.1.length
  | 0, _ => ⟨hI, hWd, hQ, rfl⟩
  | k + 1, hk => by
    obtain ⟨h1, h2, h3, h4⟩ := cols_step hI hWd hQ ha hb hne hbl hal k (by omega)
    obtain ⟨g1, g2, g3, g4⟩ := col_step hG hW2 h1 h2 (by rw [h4]; exact h3) ha hb hne (by rw [h4]; exact hbl) (by rw [h4]; exact hal) (by omega)
    exact ⟨g1, g2, by rw [← h4]; exact g3, g4.trans h4⟩
end
end Go.Proofs.YtedehmknijlgpaaDoor.TC
