/-
  The walks from the side's doors, plain: each ends, in a dead end or outside, and in one way alone.
-/
import Derived.Test.YtnijedeopnjklaaGreatDoorOddN
namespace Go.Proofs.YtnijedeopnjklaaGreatDoor
open Go Go.RowKit Sper

section
variable {L P : List (Nat × Nat × Nat)} {B : List (Nat × Nat)} {lab : Nat → Int} (hk : chk L P B = true)
include hk
theorem rim_start {e : Nat × Nat} (h1 : e ∈ B) {t : Nat} (ht : t < L.length) (hs : e ∈ sides (tri L t)) (h2 : isDoor lab e = true) : otD L e t = none := by
  have hc := chk_rim hk e h1
  cases ho : otD L e t with
  | none => rfl
  | some t' =>
    exfalso
    obtain ⟨g1, g2⟩ := ot_has' (lab := lab) ⟨ht, hs, h2⟩ ho
    rw [cnt_range] at hc
    have m1 : t ∈ (List.range L.length).filter fun t => (sides (tri L t)).contains e := List.mem_filter.2 ⟨List.mem_range.2 ht, List.contains_iff_mem.2 hs⟩
    have m2 : t' ∈ (List.range L.length).filter fun t => (sides (tri L t)).contains e := List.mem_filter.2 ⟨List.mem_range.2 g1.1, List.contains_iff_mem.2 g1.2.1⟩
    generalize (List.range L.length).filter (fun t => (sides (tri L t)).contains e) = l at hc m1 m2
    match l, hc with
    | [x], _ => simp at m1 m2; exact g2 (by rw [m1, m2])

/-- from each door of the side a walk: into a dead end or outside again -/
theorem rim_ends (hin : ∀ e ∈ B, ∃ t, t < L.length ∧ e ∈ sides (tri L t)) {e : Nat × Nat} (he : e ∈ B) (hd : isDoor lab e = true) :
    ∃ T E K, Walk (house L P B lab hk) T E K ∧ E 0 = e ∧ (odD L lab (T K) (E K) = none ∨ (odD L lab (T K) (E K) = some (E (K + 1)) ∧ otD L (E (K + 1)) (T K) = none)) := by
  obtain ⟨t, ht, hs⟩ := hin e he
  obtain ⟨T, E, K, w, -, h0, h1⟩ := ends (H := house L P B lab hk) (N := L.length) (fun t e h => h.1) t e ⟨ht, hs, hd⟩ (rim_start hk he ht hs hd)
  rcases h1 with h1 | ⟨e', h1, h2⟩
  · exact ⟨T, E, K, w, h0, Or.inl h1⟩
  · refine ⟨T, fun k => if k = K + 1 then e' else E k, K, ⟨fun k hk' => ?_, fun k hk' => ?_, ?_, ?_⟩, ?_, Or.inr ⟨?_, ?_⟩⟩
    · simp only [if_neg (show ¬ k = K + 1 by omega), if_neg (show ¬ k + 1 = K + 1 by omega)]; exact w.door k hk'
    · simp only [if_neg (show ¬ k + 1 = K + 1 by omega)]; exact w.room k hk'
    · simp only [if_neg (show ¬ 0 = K + 1 by omega)]; exact w.start
    · simp only [if_neg (show ¬ 0 = K + 1 by omega)]; exact w.has0
    · simp only [if_neg (show ¬ 0 = K + 1 by omega)]; exact h0
    · simp only [if_neg (show ¬ K = K + 1 by omega), if_true]; exact h1
    · simp only [if_true]; exact h2

theorem one_room {T T' : Nat → Nat} {E E' : Nat → Nat × Nat} {K K' : Nat} (w : Walk (house L P B lab hk) T E K) (w' : Walk (house L P B lab hk) T' E' K') (h0 : E 0 = E' 0) : T 0 = T' 0 := by
  apply Classical.byContradiction
  intro hne
  have h1 := w.has0
  have h2 := w'.has0
  rw [← h0] at h2
  have h3 := (house L P B lab hk).ot_two h1 h2 (fun h => hne h.symm)
  rw [w.start] at h3
  cases h3

/-- two walks from one door into dead ends are one -/
theorem dead_same {T T' : Nat → Nat} {E E' : Nat → Nat × Nat} {K K' : Nat} (w : Walk (house L P B lab hk) T E K) (w' : Walk (house L P B lab hk) T' E' K') (h0 : E 0 = E' 0)
    (h1 : odD L lab (T K) (E K) = none) (h2 : odD L lab (T' K') (E' K') = none) : K = K' ∧ ∀ k, k ≤ K → T k = T' k := by
  have hs := w.same w' (one_room hk w w' h0) h0
  have hK : K = K' := by
    rcases Nat.lt_trichotomy K K' with h | h | h
    · obtain ⟨a, b⟩ := hs K (Nat.le_refl _) (by omega)
      have := w'.door K h
      change odD L lab (T' K) (E' K) = some _ at this
      rw [← a, ← b, h1] at this; cases this
    · exact h
    · obtain ⟨a, b⟩ := hs K' (by omega) (Nat.le_refl _)
      have := w.door K' h
      change odD L lab (T K') (E K') = some _ at this
      rw [a, b, h2] at this; cases this
  exact ⟨hK, fun k hk' => (hs k hk' (by omega)).1⟩

/-- of two walks from one door not one goes outside, the other into a dead end -/
theorem dead_not_out {T T' : Nat → Nat} {E E' : Nat → Nat × Nat} {K K' : Nat} (w : Walk (house L P B lab hk) T E K) (w' : Walk (house L P B lab hk) T' E' K') (h0 : E 0 = E' 0)
    (h1 : odD L lab (T K) (E K) = some (E (K + 1)) ∧ otD L (E (K + 1)) (T K) = none) (h2 : odD L lab (T' K') (E' K') = none) : False := by
  have hs := w.same w' (one_room hk w w' h0) h0
  rcases Nat.lt_or_ge K K' with h | h
  · obtain ⟨a, b⟩ := hs K (Nat.le_refl _) (by omega)
    have h3 := w'.door K h
    change odD L lab (T' K) (E' K) = some _ at h3
    rw [← a, ← b, h1.1] at h3
    have h4 := w'.room K h
    change otD L (E' (K + 1)) (T' K) = some _ at h4
    rw [← Option.some.inj h3, ← a, h1.2] at h4; cases h4
  · obtain ⟨a, b⟩ := hs K' h (Nat.le_refl _)
    rcases Nat.lt_or_ge K' K with h' | h'
    · have h3 := w.door K' h'
      change odD L lab (T K') (E K') = some _ at h3
      rw [a, b, h2] at h3; cases h3
    · obtain rfl : K = K' := by omega
      rw [← a, ← b, h1.1] at h2; cases h2
end

/-- does a walk from a door come to a dead end? -/
def Good (L P : List (Nat × Nat × Nat)) (B : List (Nat × Nat)) (lab : Nat → Int) (hk : chk L P B = true) (e : Nat × Nat) : Prop :=
  ∃ T E K, Walk (house L P B lab hk) T E K ∧ E 0 = e ∧ odD L lab (T K) (E K) = none
theorem good_door {L P : List (Nat × Nat × Nat)} {B : List (Nat × Nat)} {lab : Nat → Int} {hk : chk L P B = true} {e : Nat × Nat} (h : Good L P B lab hk e) : isDoor lab e = true := by
  obtain ⟨T, E, K, w, rfl, -⟩ := h
  exact w.has0.2.2

theorem rim_get (n i : Nat) (hi : 1 ≤ i) (hn : i ≤ n) : (rimQ n (i - 1), rimQ n i) ∈ rim n := by
  unfold rim
  exact List.mem_map.2 ⟨i - 1, List.mem_range.2 (by omega), by rw [show i - 1 + 1 = i from by omega]⟩
theorem rim_in (n : Nat) (h1 : 1 ≤ n) (h2 : n ≤ 12) : ∀ e ∈ rim n, ∃ t, t < (smallL n).length ∧ e ∈ sides (tri (smallL n) t) := by
  intro e he
  have h := rimIn_all n h1 h2
  unfold rimIn at h
  have h3 := List.all_eq_true.1 h e he
  obtain ⟨t, ht, hs⟩ := List.any_eq_true.1 h3
  obtain ⟨i, hi, rfl⟩ := List.getElem_of_mem ht
  refine ⟨i, hi, ?_⟩
  unfold tri
  rw [List.getD_eq_getElem?_getD, List.getElem?_eq_getElem hi]
  exact List.contains_iff_mem.1 hs
end Go.Proofs.YtnijedeopnjklaaGreatDoor
