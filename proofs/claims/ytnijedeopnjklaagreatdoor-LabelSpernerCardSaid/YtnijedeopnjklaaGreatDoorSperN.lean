/-
  SPERNER, plain: triangles with labelled points as rooms, sides with labels 0 and 1 as doors; an odd number of full triangles. No program in sight.
-/
import Derived.Test.YtnijedeopnjklaaGreatDoorSperM
namespace Go.Proofs.YtnijedeopnjklaaGreatDoor.Sper

abbrev Tri := Nat × Nat × Nat
abbrev Edge := Nat × Nat
def sides (t : Tri) : List Edge := [(t.1, t.2.1), (t.1, t.2.2), (t.2.1, t.2.2)]
def cnt (L : List Tri) (e : Edge) : Nat := L.countP fun t => (sides t).contains e
def i0 (P : List Tri) (k : Nat) : Bool := (P.getD k (0, 0, 0)).1 == 0
def k0 (P : List Tri) (k : Nat) : Bool := (P.getD k (0, 0, 0)).2.2 == 0
def j0 (P : List Tri) (k : Nat) : Bool := (P.getD k (0, 0, 0)).2.1 == 0
/-- what holds of the triangles L of points P with the side B; in closed words -/
def chk (L P : List Tri) (B : List Edge) : Bool :=
  L.all (fun t => Nat.blt t.1 t.2.1 && Nat.blt t.2.1 t.2.2 && Nat.blt t.2.2 P.length && (sides t).all fun e =>
    cnt L e == 2 || (cnt L e == 1 && (B.contains e || (i0 P e.1 && i0 P e.2) || (j0 P e.1 && j0 P e.2)))) &&
  B.all (fun e => cnt L e == 1)

/-- labels such as may be there -/
structure Labels (P : List Tri) (lab : Nat → Int) : Prop where
  rng : ∀ k, k < P.length → lab k = 0 ∨ lab k = 1 ∨ lab k = 2
  zero : ∀ k, k < P.length → lab k = 0 → i0 P k = false
  one : ∀ k, k < P.length → lab k = 1 → j0 P k = false
  two : ∀ k, k < P.length → lab k = 2 → k0 P k = false

def isDoor (lab : Nat → Int) (e : Edge) : Bool := decide (lab e.1 + lab e.2 = 1) && decide (lab e.1 ≠ lab e.2)
def isFull (lab : Nat → Int) (t : Tri) : Bool := decide (lab t.1 + lab t.2.1 + lab t.2.2 = 3) && decide (lab t.1 ≠ lab t.2.1) && decide (lab t.1 ≠ lab t.2.2)
def doors (lab : Nat → Int) (t : Tri) : List Edge := (sides t).filter (isDoor lab)

theorem doors_parity (lab : Nat → Int) (t : Tri) (h1 : lab t.1 = 0 ∨ lab t.1 = 1 ∨ lab t.1 = 2) (h2 : lab t.2.1 = 0 ∨ lab t.2.1 = 1 ∨ lab t.2.1 = 2) (h3 : lab t.2.2 = 0 ∨ lab t.2.2 = 1 ∨ lab t.2.2 = 2) :
    (doors lab t).length % 2 = if isFull lab t = true then 1 else 0 := by
  unfold doors sides isFull
  rcases h1 with h1 | h1 | h1 <;> rcases h2 with h2 | h2 | h2 <;> rcases h3 with h3 | h3 | h3 <;> simp [List.filter, isDoor, h1, h2, h3]

/-- elements that come twice go in pairs -/
theorem length_parity {D : Type} [BEq D] [LawfulBEq D] : ∀ (n : Nat) (S B : List D), S.length = n → B.Nodup → (∀ e ∈ B, e ∈ S) → (∀ e ∈ S, S.count e = if e ∈ B then 1 else 2) → n % 2 = B.length % 2 := by
  intro n
  induction n using Nat.strongRecOn with
  | ind n ih =>
    intro S B hn hB hsub hc
    cases S with
    | nil =>
      cases B with
      | nil => simp at hn; subst hn; rfl
      | cons b r => exact absurd (hsub b (by simp)) (by simp)
    | cons e r =>
      have hce := hc e (by simp)
      simp only [List.length_cons] at hn
      by_cases he : e ∈ B
      · rw [if_pos he, List.count_cons_self] at hce
        have hr0 : r.count e = 0 := by omega
        have her : e ∉ r := List.count_eq_zero.1 hr0
        have := ih (n - 1) (by omega) r (B.erase e) (by omega) (hB.erase _) (fun x hx => by
          obtain ⟨h1, h2⟩ := hB.mem_erase_iff.1 hx
          rcases List.mem_cons.1 (hsub x h2) with h | h
          · exact absurd h h1
          · exact h) (fun x hx => by
          have hxe : x ≠ e := fun h => her (h ▸ hx)
          have h1 := hc x (by simp [hx])
          rw [List.count_cons_of_ne (Ne.symm hxe)] at h1
          rw [h1]
          by_cases hxB : x ∈ B
          · rw [if_pos hxB, if_pos (hB.mem_erase_iff.2 ⟨hxe, hxB⟩)]
          · rw [if_neg hxB, if_neg (fun h => hxB (hB.mem_erase_iff.1 h).2)])
        rw [List.length_erase_of_mem he] at this
        have : 0 < B.length := List.length_pos_of_mem he
        omega
      · rw [if_neg he, List.count_cons_self] at hce
        have hr1 : r.count e = 1 := by omega
        have her : e ∈ r := List.count_pos_iff.1 (by omega)
        have := ih (n - 2) (by have := List.length_pos_of_mem her; omega) (r.erase e) B (by
          rw [List.length_erase_of_mem her]; omega) hB (fun x hx => by
          have hxe : x ≠ e := fun h => he (h ▸ hx)
          rcases List.mem_cons.1 (hsub x hx) with h | h
          · exact absurd h hxe
          · exact (List.mem_erase_of_ne hxe).2 h) (fun x hx => by
          have hxr := List.mem_of_mem_erase hx
          have hxe : x ≠ e := fun h => by
            subst h
            have h0 : (r.erase x).count x = 0 := by rw [List.count_erase_self]; omega
            exact List.count_eq_zero.1 h0 hx
          have h1 := hc x (by simp [hxr])
          rw [List.count_cons_of_ne (Ne.symm hxe)] at h1
          rw [List.count_erase_of_ne hxe]
          exact h1)
        have := List.length_pos_of_mem her
        omega

theorem flat_parity {lab : Nat → Int} : ∀ L : List Tri, (∀ t ∈ L, (doors lab t).length % 2 = if isFull lab t = true then 1 else 0) → (L.flatMap (doors lab)).length % 2 = (L.filter (isFull lab)).length % 2
  | [], _ => rfl
  | t :: r, h => by
    have h1 := flat_parity r (fun x hx => h x (by simp [hx]))
    have h2 := h t (by simp)
    rw [List.flatMap_cons, List.length_append]
    by_cases hf : isFull lab t = true
    · rw [if_pos hf] at h2
      rw [List.filter_cons_of_pos hf, List.length_cons]; omega
    · rw [if_neg hf] at h2
      rw [List.filter_cons_of_neg hf]; omega

section
variable {L P : List Tri} {B : List Edge} (hk : chk L P B = true)
include hk
theorem chk_tri (t : Tri) (ht : t ∈ L) : t.1 < t.2.1 ∧ t.2.1 < t.2.2 ∧ t.2.2 < P.length := by
  unfold chk at hk
  rw [Bool.and_eq_true] at hk
  have := List.all_eq_true.1 hk.1 t ht
  simp only [Bool.and_eq_true, Nat.blt_eq] at this
  exact ⟨this.1.1.1, this.1.1.2, this.1.2⟩
theorem chk_side (t : Tri) (ht : t ∈ L) (e : Edge) (he : e ∈ sides t) : cnt L e = 2 ∨ (cnt L e = 1 ∧ (e ∈ B ∨ (i0 P e.1 = true ∧ i0 P e.2 = true) ∨ (j0 P e.1 = true ∧ j0 P e.2 = true))) := by
  unfold chk at hk
  rw [Bool.and_eq_true] at hk
  have h1 := List.all_eq_true.1 hk.1 t ht
  simp only [Bool.and_eq_true] at h1
  have h2 := List.all_eq_true.1 h1.2 e he
  simp only [Bool.or_eq_true, Bool.and_eq_true, beq_iff_eq, List.contains_iff_mem] at h2
  rcases h2 with h | ⟨h, (h' | h') | h'⟩
  · exact Or.inl h
  · exact Or.inr ⟨h, Or.inl h'⟩
  · exact Or.inr ⟨h, Or.inr (Or.inl h')⟩
  · exact Or.inr ⟨h, Or.inr (Or.inr h')⟩
theorem chk_rim (e : Edge) (he : e ∈ B) : cnt L e = 1 := by
  unfold chk at hk
  rw [Bool.and_eq_true] at hk
  simpa using List.all_eq_true.1 hk.2 e he
theorem side_lt (t : Tri) (ht : t ∈ L) (e : Edge) (he : e ∈ sides t) : e.1 < P.length ∧ e.2 < P.length ∧ e.1 < e.2 := by
  obtain ⟨h1, h2, h3⟩ := chk_tri hk t ht
  simp only [sides, List.mem_cons, List.not_mem_nil, or_false] at he
  rcases he with rfl | rfl | rfl <;> simp only <;> omega
/-- a door that lies in one triangle lies on the side B -/
theorem rim_door {lab : Nat → Int} (hl : Labels P lab) (t : Tri) (ht : t ∈ L) (e : Edge) (he : e ∈ sides t) (hd : isDoor lab e = true) (h1 : cnt L e = 1) : e ∈ B := by
  obtain ⟨a, b, -⟩ := side_lt hk t ht e he
  simp only [isDoor, Bool.and_eq_true, decide_eq_true_eq] at hd
  rcases chk_side hk t ht e he with h | ⟨-, h | ⟨h2, h3⟩ | ⟨h2, h3⟩⟩
  · omega
  · exact h
  · exfalso
    rcases hl.rng e.1 a with x | x | x <;> rcases hl.rng e.2 b with y | y | y <;> try omega
    · rw [hl.zero e.1 a x] at h2; cases h2
    · rw [hl.zero e.2 b y] at h3; cases h3
  · exfalso
    rcases hl.rng e.1 a with x | x | x <;> rcases hl.rng e.2 b with y | y | y <;> try omega
    · rw [hl.one e.2 b y] at h3; cases h3
    · rw [hl.one e.1 a x] at h2; cases h2
end
end Go.Proofs.YtnijedeopnjklaaGreatDoor.Sper
