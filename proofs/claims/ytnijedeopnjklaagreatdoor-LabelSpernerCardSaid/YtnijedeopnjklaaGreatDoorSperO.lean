/-
  SPERNER, plain: the house of labelled triangles; its full ones are odd in number; the walk from the side comes to one. No program in sight.
-/
import Derived.Test.YtnijedeopnjklaaGreatDoorSperN
namespace Go.Proofs.YtnijedeopnjklaaGreatDoor.Sper

def tri (L : List Tri) (t : Nat) : Tri := L.getD t (0, 0, 0)
def hasD (L : List Tri) (lab : Nat → Int) (t : Nat) (e : Edge) : Prop := t < L.length ∧ e ∈ sides (tri L t) ∧ isDoor lab e = true
instance (L : List Tri) (lab : Nat → Int) (t : Nat) (e : Edge) : Decidable (hasD L lab t e) := by unfold hasD; infer_instance
def odD (L : List Tri) (lab : Nat → Int) (t : Nat) (e : Edge) : Option Edge := if hasD L lab t e then (sides (tri L t)).find? (fun e' => decide (e' ≠ e) && isDoor lab e') else none
def otD (L : List Tri) (e : Edge) (t : Nat) : Option Nat := (List.range L.length).find? (fun t' => decide (t' ≠ t) && (sides (tri L t')).contains e)

theorem range_map_tri (L : List Tri) : (List.range L.length).map (tri L) = L := by
  apply List.ext_getElem
  · simp
  · intro i h1 h2
    simp [tri, h2]
theorem tri_mem {L : List Tri} {t : Nat} (h : t < L.length) : tri L t ∈ L := by
  unfold tri
  rw [List.getD_eq_getElem?_getD, List.getElem?_eq_getElem h]
  exact List.getElem_mem h
theorem cnt_range (L : List Tri) (e : Edge) : cnt L e = ((List.range L.length).filter fun t => (sides (tri L t)).contains e).length := by
  have h : cnt L e = cnt ((List.range L.length).map (tri L)) e := by rw [range_map_tri]
  rw [h]
  unfold cnt
  rw [List.countP_map, List.countP_eq_length_filter]
  rfl
theorem three {l : List Nat} (h : l.length ≤ 2) {a b c : Nat} (ha : a ∈ l) (hb : b ∈ l) (hc : c ∈ l) (h1 : a ≠ b) (h2 : a ≠ c) (h3 : b ≠ c) : False := by
  match l, h with
  | [], _ => cases ha
  | [x], _ => simp at ha hb; omega
  | [x, y], _ => simp at ha hb hc; omega
  | x :: y :: z :: r, h => simp at h

section
variable {L P : List Tri} {B : List Edge} {lab : Nat → Int} (hk : chk L P B = true)
include hk
theorem two_rooms {e : Edge} {a b c : Nat} (ha : hasD L lab a e) (hb : hasD L lab b e) (hc : hasD L lab c e) (h1 : a ≠ b) (h2 : a ≠ c) (h3 : b ≠ c) : False := by
  have hm : ∀ t, hasD L lab t e → t ∈ (List.range L.length).filter fun t => (sides (tri L t)).contains e := fun t h =>
    List.mem_filter.2 ⟨List.mem_range.2 h.1, List.contains_iff_mem.2 h.2.1⟩
  refine three ?_ (hm a ha) (hm b hb) (hm c hc) h1 h2 h3
  rw [← cnt_range]
  rcases chk_side hk _ (tri_mem ha.1) e ha.2.1 with h | ⟨h, -⟩ <;> omega
omit hk in
theorem two_doors {x y z : Int} (h1 : x + y = 1) (h2 : x + z = 1) (h3 : y + z = 1) : False := by omega
theorem od_two' {t : Nat} {e e' : Edge} (h : hasD L lab t e) (h' : hasD L lab t e') (hne : e' ≠ e) : odD L lab t e = some e' := by
  unfold odD
  rw [if_pos h]
  obtain ⟨ht, hs, hd⟩ := h
  obtain ⟨-, hs', hd'⟩ := h'
  obtain ⟨c1, c2, -⟩ := chk_tri hk _ (tri_mem ht)
  generalize tri L t = T at *
  obtain ⟨a, b, c⟩ := T
  simp only at c1 c2
  simp only [sides, List.mem_cons, List.not_mem_nil, or_false] at hs hs'
  have key : ∀ (p q : Edge), isDoor lab p = true → isDoor lab q = true → lab p.1 + lab p.2 = 1 ∧ lab q.1 + lab q.2 = 1 := fun p q hp hq => by
    simp only [isDoor, Bool.and_eq_true, decide_eq_true_eq] at hp hq
    exact ⟨hp.1, hq.1⟩
  have e1 : (a, c) ≠ (a, b) := fun h => by cases h; omega
  have e2 : (b, c) ≠ (a, b) := fun h => by cases h; omega
  have e3 : (b, c) ≠ (a, c) := fun h => by cases h; omega
  unfold sides
  rcases hs with rfl | rfl | rfl <;> rcases hs' with rfl | rfl | rfl <;> first
    | exact absurd rfl hne
    | (simp [List.find?, hd', Ne.symm e1, Ne.symm e2, Ne.symm e3, e1, e2, e3]; done)
    | (by_cases hx : isDoor lab (a, b) = true
       · have := key _ _ hd hd'; have := key _ _ hx hd; exact (two_doors (x := lab a) (y := lab b) (z := lab c) (by simp at *; omega) (by simp at *; omega) (by simp at *; omega)).elim
       · simp [List.find?, hd', hx, Ne.symm e1, Ne.symm e2, Ne.symm e3, e1, e2, e3])
    | (by_cases hx : isDoor lab (a, c) = true
       · have := key _ _ hd hd'; have := key _ _ hx hd; exact (two_doors (x := lab a) (y := lab b) (z := lab c) (by simp at *; omega) (by simp at *; omega) (by simp at *; omega)).elim
       · simp [List.find?, hd', hx, Ne.symm e1, Ne.symm e2, Ne.symm e3, e1, e2, e3])

theorem ot_two' {t t' : Nat} {e : Edge} (h : hasD L lab t e) (h' : hasD L lab t' e) (hne : t' ≠ t) : otD L e t = some t' := by
  unfold otD
  cases hf : (List.range L.length).find? (fun t' => decide (t' ≠ t) && (sides (tri L t')).contains e) with
  | none =>
    exfalso
    have := List.find?_eq_none.1 hf t' (List.mem_range.2 h'.1)
    exact this (by simp only [Bool.and_eq_true, decide_eq_true_eq]; exact ⟨hne, List.contains_iff_mem.2 h'.2.1⟩)
  | some s =>
    have h1 := List.find?_some hf
    have h2 := List.mem_range.1 (List.mem_of_find?_eq_some hf)
    simp only [Bool.and_eq_true, decide_eq_true_eq] at h1
    have hs : hasD L lab s e := ⟨h2, List.contains_iff_mem.1 h1.2, h.2.2⟩
    by_cases hss : s = t'
    · rw [hss]
    · exact (two_rooms hk h hs h' (Ne.symm h1.1) (Ne.symm hne) hss).elim
omit hk in
theorem ot_has' {t t' : Nat} {e : Edge} (h : hasD L lab t e) (ho : otD L e t = some t') : hasD L lab t' e ∧ t' ≠ t := by
  have h1 := List.find?_some ho
  have h2 := List.mem_range.1 (List.mem_of_find?_eq_some ho)
  simp only [Bool.and_eq_true, decide_eq_true_eq] at h1
  exact ⟨⟨h2, List.contains_iff_mem.1 h1.2, h.2.2⟩, h1.1⟩
end

/-- the house -/
def house (L P : List Tri) (B : List Edge) (lab : Nat → Int) (hk : chk L P B = true) : House Edge where
  od := odD L lab
  ot := otD L
  has := hasD L lab
  od_has {t e e'} h := by
    by_cases hh : hasD L lab t e
    · unfold odD at h
      rw [if_pos hh] at h
      have h1 := List.find?_some h
      have h2 := List.mem_of_find?_eq_some h
      simp only [Bool.and_eq_true, decide_eq_true_eq] at h1
      exact ⟨hh, ⟨hh.1, h2, h1.2⟩, h1.1⟩
    · unfold odD at h
      rw [if_neg hh] at h
      cases h
  od_two h h' hne := od_two' hk h h' hne
  ot_has h ho := ot_has' h ho
  ot_two h h' hne := ot_two' hk h h' hne
  ot_back h ho := ot_two' hk (ot_has' h ho).1 h (Ne.symm (ot_has' h ho).2)

/-- a dead end is full -/
theorem dead_full {L P : List Tri} {B : List Edge} {lab : Nat → Int} (hk : chk L P B = true) (hl : Labels P lab) {t : Nat} {e : Edge} (hh : hasD L lab t e) (hd : odD L lab t e = none) : isFull lab (tri L t) = true := by
  unfold odD at hd
  rw [if_pos hh] at hd
  obtain ⟨ht, hs, hdr⟩ := hh
  obtain ⟨c1, c2, c3⟩ := chk_tri hk _ (tri_mem ht)
  generalize tri L t = T at *
  obtain ⟨a, b, c⟩ := T
  simp only at c1 c2 c3
  have hno := List.find?_eq_none.1 hd
  have ra := hl.rng a (by omega)
  have rb := hl.rng b (by omega)
  have rc := hl.rng c (by omega)
  have notd : ∀ e', e' ∈ sides (a, b, c) → e' ≠ e → isDoor lab e' = false := fun e' hm hne => by
    have := hno e' hm
    simp only [Bool.and_eq_true, decide_eq_true_eq, not_and, Bool.not_eq_true] at this
    exact this hne
  have e1 : (a, c) ≠ (a, b) := fun h => by cases h; omega
  have e2 : (b, c) ≠ (a, b) := fun h => by cases h; omega
  have e3 : (b, c) ≠ (a, c) := fun h => by cases h; omega
  have m1 : (a, b) ∈ sides (a, b, c) := by simp [sides]
  have m2 : (a, c) ∈ sides (a, b, c) := by simp [sides]
  have m3 : (b, c) ∈ sides (a, b, c) := by simp [sides]
  simp only [sides, List.mem_cons, List.not_mem_nil, or_false] at hs
  rcases hs with rfl | rfl | rfl
  · have n2 := notd _ m2 e1
    have n3 := notd _ m3 e2
    rcases ra with x | x | x <;> rcases rb with y | y | y <;> rcases rc with z | z | z <;> simp [isDoor, isFull, x, y, z] at *
  · have n2 := notd _ m1 (Ne.symm e1)
    have n3 := notd _ m3 e3
    rcases ra with x | x | x <;> rcases rb with y | y | y <;> rcases rc with z | z | z <;> simp [isDoor, isFull, x, y, z] at *
  · have n2 := notd _ m1 (Ne.symm e2)
    have n3 := notd _ m2 (Ne.symm e3)
    rcases ra with x | x | x <;> rcases rb with y | y | y <;> rcases rc with z | z | z <;> simp [isDoor, isFull, x, y, z] at *

theorem count_flat {lab : Nat → Int} (e : Edge) (hd : isDoor lab e = true) : ∀ L : List Tri, (∀ t ∈ L, t.1 < t.2.1 ∧ t.2.1 < t.2.2) → (L.flatMap (doors lab)).count e = cnt L e
  | [], _ => rfl
  | t :: r, h => by
    have ih := count_flat e hd r (fun x hx => h x (by simp [hx]))
    obtain ⟨h1, h2⟩ := h t (by simp)
    have hcnt : cnt (t :: r) e = cnt r e + if (sides t).contains e then 1 else 0 := by
      unfold cnt
      rw [List.countP_cons]
    rw [List.flatMap_cons, List.count_append, ih, hcnt]
    have hc1 : (doors lab t).count e = (sides t).count e := by
      unfold doors
      rw [List.count_filter hd]
    have hnd : (sides t).Nodup := by
      obtain ⟨a, b, c⟩ := t
      simp only at h1 h2
      simp only [sides, List.nodup_cons, List.mem_cons, Prod.mk.injEq, List.not_mem_nil, or_false, not_false_eq_true, List.nodup_nil, and_true]
      omega
    rw [hc1]
    by_cases hm : e ∈ sides t
    · have g1 := List.count_pos_iff.2 hm
      have g2 := List.nodup_iff_count.1 hnd e
      rw [if_pos (List.contains_iff_mem.2 hm)]; omega
    · rw [if_neg (fun h => hm (List.contains_iff_mem.1 h)), List.count_eq_zero.2 hm]; omega

/-- the full ones are odd in number if the doors of the side are -/
theorem full_odd {L P : List Tri} {B : List Edge} {lab : Nat → Int} (hk : chk L P B = true) (hl : Labels P lab) (hB : B.Nodup) (hodd : (B.filter (isDoor lab)).length % 2 = 1) : (L.filter (isFull lab)).length % 2 = 1 := by
  rw [← flat_parity L (fun t ht => by
    obtain ⟨h1, h2, h3⟩ := chk_tri hk t ht
    exact doors_parity lab t (hl.rng _ (by omega)) (hl.rng _ (by omega)) (hl.rng _ h3))]
  rw [length_parity _ (L.flatMap (doors lab)) (B.filter (isDoor lab)) rfl (hB.filter _) (fun e he => ?_) (fun e he => ?_)]
  · exact hodd
  · obtain ⟨h1, h2⟩ := List.mem_filter.1 he
    have h3 := chk_rim hk e h1
    rw [← count_flat e h2 L (fun t ht => ⟨(chk_tri hk t ht).1, (chk_tri hk t ht).2.1⟩)] at h3
    exact List.count_pos_iff.1 (by omega)
  · obtain ⟨t, ht, hde⟩ := List.mem_flatMap.1 he
    obtain ⟨hs, hd⟩ := List.mem_filter.1 hde
    rw [count_flat e hd L (fun t ht => ⟨(chk_tri hk t ht).1, (chk_tri hk t ht).2.1⟩)]
    by_cases hb : e ∈ B
    · rw [if_pos (List.mem_filter.2 ⟨hb, hd⟩)]
      exact chk_rim hk e hb
    · rw [if_neg (fun h => hb (List.mem_filter.1 h).1)]
      rcases chk_side hk t ht e hs with h | ⟨h, -⟩
      · exact h
      · exact absurd (rim_door hk hl t ht e hs hd h) hb

/-- along the side from a point with label 1 to one with label 0: an odd number of doors -/
theorem rim_odd {lab : Nat → Int} (Q : Nat → Nat) (h0 : lab (Q 0) = 1) : ∀ n, (∀ i, i ≤ n → lab (Q i) = 0 ∨ lab (Q i) = 1) → (((List.range n).map fun i => (Q i, Q (i + 1))).filter (isDoor lab)).length % 2 = if lab (Q n) = 0 then 1 else 0
  | 0, _ => by simp [h0]
  | n + 1, h => by
    have ih := rim_odd Q h0 n (fun i hi => h i (by omega))
    rw [List.range_succ, List.map_append, List.filter_append, List.length_append]
    have a := h n (by omega)
    have b := h (n + 1) (by omega)
    rcases a with a | a <;> rcases b with b | b <;> simp [isDoor, a, b] at * <;> omega

theorem dead_end' {L P : List Tri} {B : List Edge} {lab : Nat → Int} (hk : chk L P B = true) (hl : Labels P lab) (hB : B.Nodup) (hodd : (B.filter (isDoor lab)).length % 2 = 1) (hin : ∀ e ∈ B, ∃ t, t < L.length ∧ e ∈ sides (tri L t)) :
    ∃ e ∈ B, isDoor lab e = true ∧ ∃ T E K, Walk (house L P B lab hk) T E K ∧ E 0 = e ∧ odD L lab (T K) (E K) = none := by
  obtain ⟨e, he, T, E, K, w, h0, h1⟩ := dead_end (H := house L P B lab hk) (N := L.length) (fun t e h => h.1) (B.filter (isDoor lab)) (hB.filter _) hodd (fun e he => by
    obtain ⟨h1, h2⟩ := List.mem_filter.1 he
    obtain ⟨t, ht, hs⟩ := hin e h1
    refine ⟨t, ⟨ht, hs, h2⟩, ?_⟩
    have hc := chk_rim hk e h1
    cases ho : otD L e t with
    | none => exact ho
    | some t' =>
      exfalso
      obtain ⟨g1, g2⟩ := ot_has' (lab := lab) ⟨ht, hs, h2⟩ ho
      rw [cnt_range] at hc
      have m1 : t ∈ (List.range L.length).filter fun t => (sides (tri L t)).contains e := List.mem_filter.2 ⟨List.mem_range.2 ht, List.contains_iff_mem.2 hs⟩
      have m2 : t' ∈ (List.range L.length).filter fun t => (sides (tri L t)).contains e := List.mem_filter.2 ⟨List.mem_range.2 g1.1, List.contains_iff_mem.2 g1.2.1⟩
      generalize (List.range L.length).filter (fun t => (sides (tri L t)).contains e) = l at hc m1 m2
      match l, hc with
      | [x], _ => simp at m1 m2; exact g2 (by rw [m1, m2])) (fun t e h ho => List.mem_filter.2 ⟨by
    refine rim_door hk hl _ (tri_mem h.1) e h.2.1 h.2.2 ?_
    rcases chk_side hk _ (tri_mem h.1) e h.2.1 with h2 | ⟨h2, -⟩
    · exfalso
      have hf := List.find?_eq_none.1 (show (List.range L.length).find? (fun t' => decide (t' ≠ t) && (sides (tri L t')).contains e) = none from ho)
      rw [cnt_range] at h2
      have hall : ∀ x ∈ (List.range L.length).filter (fun t => (sides (tri L t)).contains e), x = t := fun x hx => by
        obtain ⟨a, b⟩ := List.mem_filter.1 hx
        have := hf x a
        simp only [Bool.and_eq_true, decide_eq_true_eq, not_and] at this
        apply Classical.byContradiction
        intro hne
        exact this hne b
      have hn : ((List.range L.length).filter (fun t => (sides (tri L t)).contains e)).Nodup := List.nodup_range.filter _
      generalize (List.range L.length).filter (fun t => (sides (tri L t)).contains e) = l at h2 hall hn
      match l, h2 with
      | [x, y], _ =>
        have a := hall x (by simp)
        have b := hall y (by simp)
        subst a; subst b
        simp at hn
    · exact h2, h.2.2⟩)
  obtain ⟨h2, h3⟩ := List.mem_filter.1 he
  exact ⟨e, h2, h3, T, E, K, w, h0, h1⟩
end Go.Proofs.YtnijedeopnjklaaGreatDoor.Sper
