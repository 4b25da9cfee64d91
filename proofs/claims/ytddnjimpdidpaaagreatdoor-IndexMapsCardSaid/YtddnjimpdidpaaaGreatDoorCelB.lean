/-
  All faces of sets, plain: by the bits of a number; what is wrong with sets.
-/
import Derived.Test.YtddnjimpdidpaaaGreatDoorCRefC
namespace Go.Proofs.YtddnjimpdidpaaaGreatDoor
open Go Go.RowKit

/-- the numbers whose bit is set -/
def bitsR : List Int → Nat → List Int
  | [], _ => []
  | x :: r, b => if b % 2 = 1 then x :: bitsR r (b / 2) else bitsR r (b / 2)
theorem bitsR_sub : ∀ (s : List Int) (b : Nat), (bitsR s b).Sublist s
  | [], _ => List.Sublist.slnil
  | x :: r, b => by
    unfold bitsR
    split
    · exact List.Sublist.cons_cons _ (bitsR_sub r _)
    · exact List.Sublist.cons _ (bitsR_sub r _)
theorem bitsR_all : ∀ {s g : List Int}, g.Sublist s → ∃ b, b < 2 ^ s.length ∧ bitsR s b = g
  | _, _, List.Sublist.slnil => ⟨0, by simp, rfl⟩
  | x :: s, g, List.Sublist.cons _ h => by
    obtain ⟨b, h1, h2⟩ := bitsR_all h
    refine ⟨2 * b, by rw [List.length_cons, Nat.pow_succ]; omega, ?_⟩
    unfold bitsR
    rw [if_neg (by omega), show 2 * b / 2 = b by omega]; exact h2
  | x :: s, _ :: g, List.Sublist.cons_cons _ h => by
    obtain ⟨b, h1, h2⟩ := bitsR_all h
    refine ⟨2 * b + 1, by rw [List.length_cons, Nat.pow_succ]; omega, ?_⟩
    unfold bitsR
    rw [if_pos (by omega), show (2 * b + 1) / 2 = b by omega, h2]
theorem bitsR_zero : ∀ s : List Int, bitsR s 0 = []
  | [] => rfl
  | x :: r => by unfold bitsR; rw [if_neg (by omega)]; exact bitsR_zero r
theorem bitsR_ne : ∀ (s : List Int) (b : Nat), 1 ≤ b → b < 2 ^ s.length → bitsR s b ≠ []
  | [], b, h1, h2 => by simp at h2; omega
  | x :: r, b, h1, h2 => by
    unfold bitsR
    split
    · simp
    · rw [List.length_cons, Nat.pow_succ] at h2
      exact bitsR_ne r (b / 2) (by omega) (by omega)
/-- .. up to a place -/
def bitsTo (s : List Int) (b q : Nat) : List Int := bitsR (s.take q) b
theorem bitsTo_all (s : List Int) (b : Nat) : bitsTo s b s.length = bitsR s b := by unfold bitsTo; rw [List.take_length]
theorem bitsR_app : ∀ (s : List Int) (x : Int) (b : Nat), bitsR (s ++ [x]) b = bitsR s b ++ (if b / 2 ^ s.length % 2 = 1 then [x] else [])
  | [], x, b => by
    show bitsR [x] b = _
    unfold bitsR
    simp [bitsR]
  | y :: r, x, b => by
    show bitsR (y :: (r ++ [x])) b = bitsR (y :: r) b ++ _
    unfold bitsR
    have h := bitsR_app r x (b / 2)
    have e : b / 2 / 2 ^ r.length = b / 2 ^ (y :: r).length := by rw [List.length_cons, Nat.pow_succ, Nat.div_div_eq_div_mul, Nat.mul_comm]
    rw [h, e]
    split <;> rfl
theorem bitsTo_step (s : List Int) (b q : Nat) (hq : q < s.length) : bitsTo s b (q + 1) = bitsTo s b q ++ (if b / 2 ^ q % 2 = 1 then [s.getD q 0] else []) := by
  unfold bitsTo
  rw [take_snoc_getD 0 s q hq, bitsR_app]
  have : (s.take q).length = q := by rw [List.length_take]; omega
  rw [this]
theorem bitsTo_len (s : List Int) (b q : Nat) : (bitsTo s b q).length ≤ q := by
  have := (bitsR_sub (s.take q) b).length_le
  rw [List.length_take] at this
  unfold bitsTo
  omega

/-- what is wrong with sets: 4: one is none; 2: too many; 0: nothing -/
noncomputable def errC (L : List (List Int)) : Nat :=
  have := Classical.propDecidable
  if ∃ l ∈ L, ¬ okSet l then 4 else if (∃ l ∈ L, 7 < l.length) ∨ 600 < (allF L).length then 2 else 0
theorem errC_4 {L : List (List Int)} {l : List Int} (h : l ∈ L) (hb : ¬ okSet l) : errC L = 4 := by unfold errC; exact if_pos ⟨l, h, hb⟩
theorem errC_2 {L : List (List Int)} (h : ∀ l ∈ L, okSet l) (hb : (∃ l ∈ L, 7 < l.length) ∨ 600 < (allF L).length) : errC L = 2 := by
  unfold errC
  exact (if_neg (fun ⟨l, h1, h2⟩ => h2 (h l h1))).trans (if_pos hb)
theorem errC_0 {L : List (List Int)} (h : ∀ l ∈ L, okSet l) (h7 : ∀ l ∈ L, l.length ≤ 7) (hn : (allF L).length ≤ 600) : errC L = 0 := by
  unfold errC
  exact (if_neg (fun ⟨l, h1, h2⟩ => h2 (h l h1))).trans (if_neg (fun h => h.elim (fun ⟨l, h1, h2⟩ => by have := h7 l h1; omega) (fun h => by omega)))
theorem errC_ok {L : List (List Int)} (h : errC L = 0) : (∀ l ∈ L, okSet l) ∧ (∀ l ∈ L, l.length ≤ 7) ∧ (allF L).length ≤ 600 := by
  have h1 : ∀ l ∈ L, okSet l := fun l hl => Classical.byContradiction fun hb => by rw [errC_4 hl hb] at h; cases h
  refine ⟨h1, fun l hl => ?_, ?_⟩
  · apply Classical.byContradiction
    intro hb
    rw [errC_2 h1 (Or.inl ⟨l, hl, by omega⟩)] at h; cases h
  · apply Classical.byContradiction
    intro hb
    rw [errC_2 h1 (Or.inr (by omega))] at h; cases h
theorem errC_cases (L : List (List Int)) : errC L = 0 ∨ errC L = 2 ∨ errC L = 4 := by
  unfold errC
  by_cases h1 : ∃ l ∈ L, ¬ okSet l
  · exact Or.inr (Or.inr (if_pos h1))
  · by_cases h2 : (∃ l ∈ L, 7 < l.length) ∨ 600 < (allF L).length
    · exact Or.inr (Or.inl ((if_neg h1).trans (if_pos h2)))
    · exact Or.inl ((if_neg h1).trans (if_neg h2))

theorem isF_snoc {L : List (List Int)} {l g : List Int} : IsF (L ++ [l]) g ↔ IsF L g ∨ (g ≠ [] ∧ g.Sublist (sortI l)) := by
  unfold IsF
  constructor
  · rintro ⟨h1, x, h2, h3⟩
    rcases List.mem_append.1 h2 with h | h
    · exact Or.inl ⟨h1, x, h, h3⟩
    · rw [List.mem_singleton.1 h] at h3
      exact Or.inr ⟨h1, h3⟩
  · rintro (⟨h1, x, h2, h3⟩ | ⟨h1, h2⟩)
    · exact ⟨h1, x, List.mem_append_left _ h2, h3⟩
    · exact ⟨h1, l, by simp, h2⟩
theorem isF_mono {L M : List (List Int)} (h : ∀ l ∈ L, l ∈ M) {g : List Int} (hg : IsF L g) : IsF M g := ⟨hg.1, hg.2.imp fun _ ⟨h1, h2⟩ => ⟨h _ h1, h2⟩⟩
theorem isF_len {L : List (List Int)} {m : Nat} (h : ∀ l ∈ L, l.length ≤ m) {g : List Int} (hg : IsF L g) : g.length ≤ m := by
  obtain ⟨_, l, h1, h2⟩ := hg
  have := h2.length_le
  rw [sortI_len] at this
  exact Nat.le_trans this (h l h1)
/-- faces of the first i sets, and of the next one by the bits below k -/
def IsB (L : List (List Int)) (i : Nat) (s : List Int) (k : Nat) (g : List Int) : Prop := IsF (L.take i) g ∨ ∃ b, 1 ≤ b ∧ b < k ∧ g = bitsR s b
theorem isB_step {L : List (List Int)} {i : Nat} {s : List Int} {k : Nat} (hk : 1 ≤ k) {g : List Int} : IsB L i s (k + 1) g ↔ IsB L i s k g ∨ g = bitsR s k := by
  unfold IsB
  constructor
  · rintro (h | ⟨b, h1, h2, h3⟩)
    · exact Or.inl (Or.inl h)
    · rcases (show b < k ∨ b = k by omega) with h | rfl
      · exact Or.inl (Or.inr ⟨b, h1, h, h3⟩)
      · exact Or.inr h3
  · rintro ((h | ⟨b, h1, h2, h3⟩) | h)
    · exact Or.inl h
    · exact Or.inr ⟨b, h1, by omega, h3⟩
    · exact Or.inr ⟨k, hk, by omega, h⟩
theorem isB_end {L : List (List Int)} {i : Nat} (hi : i < L.length) {g : List Int} : IsB L i (sortI (L.getD i [])) (2 ^ (sortI (L.getD i [])).length) g ↔ IsF (L.take (i + 1)) g := by
  rw [take_snoc_getD [] L i hi, isF_snoc]
  unfold IsB
  constructor
  · rintro (h | ⟨b, h1, h2, rfl⟩)
    · exact Or.inl h
    · exact Or.inr ⟨bitsR_ne _ _ h1 h2, bitsR_sub _ _⟩
  · rintro (h | ⟨h1, h2⟩)
    · exact Or.inl h
    · obtain ⟨b, hb, rfl⟩ := bitsR_all h2
      refine Or.inr ⟨b, ?_, hb, rfl⟩
      rcases Nat.eq_zero_or_pos b with rfl | h
      · rw [bitsR_zero] at h1; exact absurd rfl h1
      · exact h
theorem isB_F {L : List (List Int)} {i : Nat} (hi : i < L.length) {k : Nat} (hk : k ≤ 2 ^ (sortI (L.getD i [])).length) {g : List Int} (h : IsB L i (sortI (L.getD i [])) k g) : IsF L g := by
  refine isF_mono (fun l hl => List.mem_of_mem_take hl) ((isB_end hi).1 (h.imp id fun ⟨b, h1, h2, h3⟩ => ⟨b, h1, by omega, h3⟩))
theorem okSet_of {l : List Int} (h1 : onceB l = true) (h0 : setL l ≠ []) (ha : 0 ≤ (setL l).getD 0 0) (hb : (setL l).getD ((setL l).length - 1) 0 ≤ 99) : okSet l := by
  have hp : 0 < (setL l).length := List.length_pos_iff.2 h0
  refine ⟨fun e => h0 (by rw [e]; rfl), of_decide_eq_true h1, fun x hx => ?_⟩
  obtain ⟨i, hi, e⟩ := List.getElem_of_mem (mem_setL.2 hx)
  have hr := rise_setL l
  rw [List.getD_eq_getElem?_getD, List.getElem?_eq_getElem (by omega)] at ha hb
  simp only [Option.getD_some] at ha hb
  constructor
  · rcases Nat.eq_zero_or_pos i with rfl | h
    · rw [← e]; exact ha
    · have := List.pairwise_iff_getElem.1 hr 0 i (by omega) hi h
      rw [e] at this; omega
  · rcases (show i = (setL l).length - 1 ∨ i < (setL l).length - 1 by omega) with h | h
    · subst h; rw [← e]; exact hb
    · have := List.pairwise_iff_getElem.1 hr i ((setL l).length - 1) (by omega) (by omega) h
      rw [e] at this; omega
theorem not_okSet {l : List Int} (h : setL l = [] ∨ onceB l = false ∨ (0 < (setL l).length ∧ (setL l).getD 0 0 < 0) ∨ (0 < (setL l).length ∧ 99 < (setL l).getD ((setL l).length - 1) 0)) : ¬ okSet l := by
  rintro ⟨h0, h1, h2⟩
  rcases h with h | h | ⟨hp, h⟩ | ⟨hp, h⟩
  · apply h0
    have : ∀ y, y ∉ l := fun y hy => by have := mem_setL.2 hy; rw [h] at this; cases this
    exact List.eq_nil_iff_forall_not_mem.2 this
  · exact absurd (decide_eq_true h1) (by unfold onceB at h; rw [h]; decide)
  · have := (h2 _ (mem_setL.1 (show (setL l).getD 0 0 ∈ setL l by rw [List.getD_eq_getElem?_getD, List.getElem?_eq_getElem hp]; exact List.getElem_mem _))).1
    omega
  · have := (h2 _ (mem_setL.1 (show (setL l).getD ((setL l).length - 1) 0 ∈ setL l by rw [List.getD_eq_getElem?_getD, List.getElem?_eq_getElem (by omega)]; exact List.getElem_mem _))).2
    omega
end Go.Proofs.YtddnjimpdidpaaaGreatDoor
