/-
  Floods of an image, plain: how one begins, goes on and ends; the ring's numbers.
-/
import Derived.Test.YtoheffkiohfmoaaGreatDoorImg
set_option linter.unusedVariables false
set_option linter.unusedSimpArgs false
namespace Go.Proofs.YtoheffkiohfmoaaGreatDoor.FL

section
variable {cor : Bool} {C : Sq → Prop} {W : Nat} {p : Sq}
theorem Flood.begin (hp : C p) (hf : ¬ Marked cor C W (p.2 * W + p.1) p) : Flood cor C W p (fun x => Marked cor C W (p.2 * W + p.1) x ∨ x = p) (fun x => x = p) where
  old q h := .inl h
  only q h := h.imp id fun e => by subst e; exact .refl hp
  start := .inr rfl
  todo q h := by subst h; exact .refl hp
  done q h hc := by
    rcases h with h | h
    · exact absurd (h.conn hc.symm) hf
    · exact .inl h
theorem Flood.push {S T : Sq → Prop} (h : Flood cor C W p S T) {q : Sq} (hq : Conn cor C p q) : Flood cor C W p (fun x => S x ∨ x = q) (fun x => T x ∨ x = q) where
  old x hx := .inl (h.old x hx)
  only x hx := hx.elim (h.only x) fun e => .inr (e ▸ hq)
  start := .inl h.start
  todo x hx := hx.elim (h.todo x) fun e => e ▸ hq
  done x hx hc := by
    rcases hx with hx | rfl
    · rcases h.done x hx hc with h1 | h1
      · exact .inl (.inl h1)
      · exact .inr fun r ha hr => .inl (h1 r ha hr)
    · exact .inl (.inr rfl)
theorem Flood.pop {S T : Sq → Prop} {q : Sq} (h : Flood cor C W p S (fun x => T x ∨ x = q)) (hn : ∀ r, Adj cor q r → C r → S r) : Flood cor C W p S T where
  old := h.old
  only := h.only
  start := h.start
  todo x hx := h.todo x (.inl hx)
  done x hx hc := by
    rcases h.done x hx hc with (h1 | rfl) | h1
    · exact .inl h1
    · exact .inr fun r ha hr => hn r ha hr
    · exact .inr h1
theorem Flood.iff {S S' T T' : Sq → Prop} (h : Flood cor C W p S T) (hS : ∀ x, S x ↔ S' x) (hT : ∀ x, T x ↔ T' x) : Flood cor C W p S' T' := by
  have e1 : S = S' := funext fun x => propext (hS x)
  have e2 : T = T' := funext fun x => propext (hT x)
  subst e1; subst e2; exact h
/-- what a flood's rim says -/
def RimS (cor : Bool) (C : Sq → Prop) (p : Sq) (R : Sq → Prop) (S T : Sq → Prop) (rim : Bool) : Prop := (rim = true → ∃ q, Conn cor C p q ∧ R q) ∧ ∀ q, S q → Conn cor C p q → ¬ T q → R q → rim = true
theorem RimS.all {R S T : Sq → Prop} {rim : Bool} (h : RimS cor C p R S T rim) (hT : ∀ q, ¬ T q) (hS : ∀ q, Conn cor C p q → S q) : rim = true ↔ ∃ q, Conn cor C p q ∧ R q :=
  ⟨h.1, fun ⟨q, hq, hr⟩ => h.2 q (hS q hq) hq (hT q) hr⟩
theorem RimS.push {R S T : Sq → Prop} {rim : Bool} (h : RimS cor C p R S T rim) (q : Sq) : RimS cor C p R (fun x => S x ∨ x = q) (fun x => T x ∨ x = q) rim :=
  ⟨h.1, fun x hx hc ht hr => by
    rcases hx with hx | rfl
    · exact h.2 x hx hc (fun h1 => ht (.inl h1)) hr
    · exact absurd (.inr rfl) ht⟩
theorem RimS.pop {R S T : Sq → Prop} {rim r' : Bool} {q : Sq} (h : RimS cor C p R S (fun x => T x ∨ x = q) rim) (hq : Conn cor C p q) (hr : r' = true ↔ rim = true ∨ R q) : RimS cor C p R S T r' :=
  ⟨fun e => (hr.1 e).elim h.1 fun hR => ⟨q, hq, hR⟩, fun x hx hc ht hR => by
    by_cases e : x = q
    · exact hr.2 (.inr (e ▸ hR))
    · exact hr.2 (.inl (h.2 x hx hc (fun h1 => h1.elim ht e) hR))⟩
end
/-- squares in a box: not too many -/
theorem nodup_leI : ∀ (n : Nat) (l : List Nat), l.Nodup → (∀ x ∈ l, x < n) → l.length ≤ n
  | 0, [], _, _ => Nat.le_refl _
  | 0, a :: l, _, h => absurd (h a List.mem_cons_self) (by omega)
  | n + 1, l, hn, h => by
    have h1 : (l.filter fun x => decide (x ≠ n)).length ≤ n := nodup_leI n _ (hn.sublist List.filter_sublist) fun x hx => by
      obtain ⟨h2, h3⟩ := List.mem_filter.1 hx
      have := h x h2
      have h4 := of_decide_eq_true h3
      omega
    have h2 : l.length ≤ (l.filter fun x => decide (x ≠ n)).length + 1 := by
      clear h1 h
      induction l with
      | nil => simp
      | cons a l ih =>
        obtain ⟨hn1, hn2⟩ := List.nodup_cons.1 hn
        by_cases c : a = n
        · have e : (l.filter fun x => decide (x ≠ n)) = l := List.filter_eq_self.2 fun x hx => by
            rw [decide_eq_true_eq]
            exact fun e => hn1 (by rw [c, ← e]; exact hx)
          rw [List.filter_cons, if_neg (by simpa using c), e, List.length_cons]
          exact Nat.le_refl _
        · rw [List.filter_cons, if_pos (by simpa using c), List.length_cons, List.length_cons]
          have := ih hn2
          omega
    omega
theorem place_lt {W H : Nat} {q : Sq} (h1 : q.1 < W) (h2 : q.2 < H) : q.2 * W + q.1 < H * W := by
  have h3 : q.2 * W ≤ (H - 1) * W := Nat.mul_le_mul_right _ (by omega)
  have : H * W = (H - 1) * W + W := by
    obtain ⟨k, rfl⟩ : ∃ k, H = k + 1 := ⟨H - 1, by omega⟩
    rw [Nat.succ_mul]; simp
  omega
theorem box_len {W H : Nat} {S : List Sq} (hn : S.Nodup) (h : ∀ q ∈ S, q.1 < W ∧ q.2 < H) : S.length ≤ H * W := by
  have h1 := nodup_leI (H * W) (S.map fun q => q.2 * W + q.1) (by
    rw [List.Nodup, List.pairwise_map]
    exact List.Pairwise.imp_of_mem (fun {a b} ha hb hne e => hne (place_inj (h a ha).1 (h b hb).1 e)) hn) fun x hx => by
      obtain ⟨q, hq, rfl⟩ := List.mem_map.1 hx
      exact place_lt (h q hq).1 (h q hq).2
  rwa [List.length_map] at h1
theorem cn_fst {ms : List ByteArray} {b : Bool} (p : Sq) (h : CnI ms b p) : p.1 < wideI ms := h.1

/-- one square alone is told -/
theorem cntI_one {ms : List ByteArray} {cor b inner : Bool} {a c : Nat} (ha : a < wideI ms) (h : ∀ x y, x < wideI ms → (TellI ms cor b inner (x, y) ↔ x = a ∧ y = c)) (k : Nat) : cntI ms cor b inner k = if c * wideI ms + a < k then 1 else 0 := by
  induction k with
  | zero => rfl
  | succ k ih =>
    have hW : 0 < wideI ms := by omega
    have hx : k % wideI ms < wideI ms := Nat.mod_lt _ hW
    have hk : k = (k / wideI ms) * wideI ms + k % wideI ms := by have := Nat.div_add_mod k (wideI ms); rw [Nat.mul_comm] at this; omega
    by_cases ht : TellI ms cor b inner (k % wideI ms, k / wideI ms)
    · have h1 := cntI_yes hx ht
      rw [← hk] at h1
      obtain ⟨e1, e2⟩ := (h _ _ hx).1 ht
      rw [h1, ih]
      have hkk : k = c * wideI ms + a := by rw [hk, e1, e2]
      rw [if_neg (by omega), if_pos (by omega)]
    · have h1 := cntI_no hx ht
      rw [← hk] at h1
      rw [h1, ih]
      have hne : c * wideI ms + a ≠ k := fun e => by
        refine ht ((h _ _ hx).2 ?_)
        have hd := place_div (y := c) ha
        rw [← e]; exact hd
      by_cases hlt : c * wideI ms + a < k
      · rw [if_pos hlt, if_pos (by omega)]
      · rw [if_neg hlt, if_neg (by omega)]

def ringI : List ByteArray := [⟨#[35, 35, 35]⟩, ⟨#[35, 46, 35]⟩, ⟨#[35, 35, 35]⟩]
theorem ring_wide : wideI ringI = 3 := rfl
theorem ring_cn (b : Bool) (x y : Nat) (hx : x < 3) (hy : y < 3) (h : fullI ringI (x : Int) (y : Int) = b) : CnI ringI b (x, y) := ⟨hx, hy, h⟩
theorem ring_full : ∀ x : Nat, x < 3 → ∀ y : Nat, y < 3 → (fullI ringI (x : Int) (y : Int) = true ↔ ¬ (x = 1 ∧ y = 1)) := by
  decide
theorem ring_conn : ∀ x, x < 3 → ∀ y, y < 3 → ¬ (x = 1 ∧ y = 1) → Conn true (CnI ringI true) (0, 0) (x, y) := by
  have c : ∀ x y, x < 3 → y < 3 → ¬ (x = 1 ∧ y = 1) → CnI ringI true (x, y) := fun x y hx hy h => ⟨hx, hy, (ring_full x hx y hy).2 h⟩
  have s : ∀ {x y x' y' : Nat}, Conn true (CnI ringI true) (0, 0) (x, y) → (x ≤ x' + 1 ∧ x' ≤ x + 1 ∧ y ≤ y' + 1 ∧ y' ≤ y + 1) → x' < 3 → y' < 3 → ¬ (x' = 1 ∧ y' = 1) → Conn true (CnI ringI true) (0, 0) (x', y') :=
    fun h ha hx hy hn => h.step ⟨ha.1, ha.2.1, ha.2.2.1, ha.2.2.2, .inl rfl⟩ (c _ _ hx hy hn)
  have p00 : Conn true (CnI ringI true) (0, 0) (0, 0) := .refl (c 0 0 (by omega) (by omega) (by omega))
  have p10 : Conn true (CnI ringI true) (0, 0) (1, 0) := s p00 (by omega) (by omega) (by omega) (by omega)
  have p20 : Conn true (CnI ringI true) (0, 0) (2, 0) := s p10 (by omega) (by omega) (by omega) (by omega)
  have p21 : Conn true (CnI ringI true) (0, 0) (2, 1) := s p20 (by omega) (by omega) (by omega) (by omega)
  have p22 : Conn true (CnI ringI true) (0, 0) (2, 2) := s p21 (by omega) (by omega) (by omega) (by omega)
  have p01 : Conn true (CnI ringI true) (0, 0) (0, 1) := s p00 (by omega) (by omega) (by omega) (by omega)
  have p02 : Conn true (CnI ringI true) (0, 0) (0, 2) := s p01 (by omega) (by omega) (by omega) (by omega)
  have p12 : Conn true (CnI ringI true) (0, 0) (1, 2) := s p02 (by omega) (by omega) (by omega) (by omega)
  intro x hx y hy hn
  match x, y, hx, hy, hn with
  | 0, 0, _, _, _ => exact p00
  | 1, 0, _, _, _ => exact p10
  | 2, 0, _, _, _ => exact p20
  | 0, 1, _, _, _ => exact p01
  | 1, 1, _, _, hn => exact absurd ⟨rfl, rfl⟩ hn
  | 2, 1, _, _, _ => exact p21
  | 0, 2, _, _, _ => exact p02
  | 1, 2, _, _, _ => exact p12
  | 2, 2, _, _, _ => exact p22
theorem ring_pieces : cntI ringI true true false 9 = 1 := by
  rw [cntI_one (a := 0) (c := 0) (by rw [ring_wide]; omega) (fun x y hx => ?_) 9]
  · rw [if_pos (by omega)]
  · rw [ring_wide] at hx
    constructor
    · rintro ⟨⟨h1, h2⟩, -⟩
      have hy : y < 3 := h1.2.1
      have h3 := h2 (0, 0) (ring_conn x hx y hy ((ring_full x hx y hy).1 h1.2.2))
      rw [ring_wide] at h3
      simp only at h3
      omega
    · rintro ⟨rfl, rfl⟩
      exact ⟨⟨ring_cn true 0 0 (by omega) (by omega) rfl, fun q _ => by simp⟩, fun h => by cases h⟩
theorem ring_holes : cntI ringI false false true 9 = 1 := by
  have only : ∀ q : Sq, CnI ringI false q → q = (1, 1) := fun q h => by
    have hx : q.1 < 3 := h.1
    have hy : q.2 < 3 := h.2.1
    by_cases e : q.1 = 1 ∧ q.2 = 1
    · exact Prod.ext e.1 e.2
    · have := (ring_full q.1 hx q.2 hy).2 e
      rw [h.2.2] at this; cases this
  rw [cntI_one (a := 1) (c := 1) (by rw [ring_wide]; omega) (fun x y hx => ?_) 9]
  · rw [ring_wide, if_pos (by omega)]
  · rw [ring_wide] at hx
    constructor
    · rintro ⟨⟨h1, h2⟩, -⟩
      have := only _ h1
      exact ⟨congrArg Prod.fst this, congrArg Prod.snd this⟩
    · rintro ⟨rfl, rfl⟩
      refine ⟨⟨ring_cn false 1 1 (by omega) (by omega) rfl, fun q hq => ?_⟩, fun _ q hq => ?_⟩
      · rw [only q hq.left]; exact Nat.le_refl _
      · rw [only q hq.right]
        unfold RimI
        rw [ring_wide]
        show ¬ (1 = 0 ∨ 1 = 0 ∨ 1 + 1 = 3 ∨ 1 + 1 = 3)
        omega
end Go.Proofs.YtoheffkiohfmoaaGreatDoor.FL
