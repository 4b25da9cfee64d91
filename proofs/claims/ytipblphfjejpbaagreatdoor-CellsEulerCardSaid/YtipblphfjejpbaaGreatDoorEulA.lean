/-
  Euler's numbers of joins, products, unions; a link's link (plain).
-/
import Derived.Test.YtipblphfjejpbaaGreatDoorPrdE
set_option linter.unusedVariables false
namespace Go.Proofs.YtipblphfjejpbaaGreatDoor
open Go Go.RowKit Go.Maps

/-- each face lies in a facet -/
theorem top_above {L : List (List Int)} (h : errC L = 0) : ∀ (n : Nat) {f : List Int}, f ∈ allF L → 7 - f.length ≤ n → ∃ g ∈ madeF L, f.Sublist g := by
  have hstep : ∀ {f : List Int}, f ∈ allF L → f ∈ madeF L ∨ ∃ g ∈ allF L, f.length < g.length ∧ f.Sublist g := fun {f} hf => by
    cases ht : isTop (allF L) f with
    | true => exact Or.inl (List.mem_filter.2 ⟨hf, ht⟩)
    | false =>
      right
      unfold isTop at ht
      rw [Bool.not_eq_false', List.any_eq_true] at ht
      obtain ⟨g, hg, h2⟩ := ht
      rw [Bool.and_eq_true, decide_eq_true_eq, List.all_eq_true] at h2
      exact ⟨g, hg, h2.1, sub_of_rise (allF_rises h f hf) (allF_rises h g hg) fun x hx => by simpa using h2.2 x hx⟩
  intro n
  induction n with
  | zero =>
    intro f hf hn
    rcases hstep hf with h1 | ⟨g, hg, h1, -⟩
    · exact ⟨f, h1, List.Sublist.refl _⟩
    · have := allF_bd h g hg; omega
  | succ n ih =>
    intro f hf hn
    rcases hstep hf with h1 | ⟨g, hg, h1, h2⟩
    · exact ⟨f, h1, List.Sublist.refl _⟩
    · obtain ⟨k, hk, h3⟩ := ih hg (by have := allF_bd h g hg; omega)
      exact ⟨k, hk, h2.trans h3⟩
theorem made_all {L : List (List Int)} (h : errC L = 0) : allF (madeF L) = allF L := allF_congr fun g => by
  rw [isF_of_rise (M := madeF L) (fun l hl => allF_rises h l (mem_facets hl))]
  constructor
  · rintro ⟨h1, l, hl, hs⟩
    exact mem_allF.1 (closed_under l (mem_facets hl) g hs h1)
  · intro hg
    exact ⟨hg.1, top_above h _ (mem_allF.2 hg) (Nat.le_refl _)⟩
theorem made_X {L : List (List Int)} (h : errC L = 0) : errX (madeF L) = 0 := by
  have h1 : errC (madeF L) = 0 := errC_part h fun g hg => mem_facets hg
  have h2 : madeF L = madeF (madeF L) := by
    show facetsF (allF L) = facetsF (allF (madeF L))
    rw [made_all h]
  unfold errX
  rw [if_pos h1, if_pos h2]

theorem sum_perm {l l' : List Int} (h : l.Perm l') : l.sum = l'.sum := by
  induction h with
  | nil => rfl
  | cons x _ ih => simp [ih]
  | swap x y l => simp; omega
  | trans _ _ a b => exact a.trans b
/-- Euler's sum over lists of any things -/
def pmN (n : Nat) : Int := if n % 2 = 1 then 1 else -1
def eulG {α : Type} (l : List (List α)) : Int := (l.map fun c => pmN c.length).sum
theorem eulF_G (A : List (List Int)) : eulF A = eulG A := rfl
theorem eulG_members {α : Type} {A B : List (List α)} (h : A.Nodup) (h' : B.Nodup) (hm : ∀ f, f ∈ A ↔ f ∈ B) : eulG A = eulG B := sum_perm (((List.perm_ext_iff_of_nodup h h').2 hm).map _)
theorem eulG_nil {α : Type} : eulG ([] : List (List α)) = 0 := rfl
theorem eulG_cons {α : Type} (f : List α) (l : List (List α)) : eulG (f :: l) = pmN f.length + eulG l := by simp [eulG]
theorem eulG_app {α : Type} (l m : List (List α)) : eulG (l ++ m) = eulG l + eulG m := by simp [eulG]
theorem pmN_succ (n : Nat) : pmN (n + 1) = - pmN n := by
  unfold pmN
  rcases Nat.mod_two_eq_zero_or_one n with h | h
  · rw [if_pos (by omega), if_neg (by omega)]; rfl
  · rw [if_neg (by omega), if_pos (by omega)]
theorem pmN_add (m n : Nat) : pmN (m + n) = - (pmN m * pmN n) := by
  induction n with
  | zero => show pmN m = - (pmN m * (-1)); omega
  | succ n ih => rw [← Nat.add_assoc, pmN_succ, ih, pmN_succ, Int.mul_neg]
theorem eulG_push {α : Type} (a : α) (l : List (List α)) : eulG (l.map (a :: ·)) = - eulG l := by
  induction l with
  | nil => rfl
  | cons f l ih => rw [List.map_cons, eulG_cons, eulG_cons, ih, List.length_cons, pmN_succ]; omega
theorem eulG_len {α β : Type} (l : List (List α)) (F : List α → List β) (h : ∀ c ∈ l, (F c).length = c.length) : eulG (l.map F) = eulG l := by
  induction l with
  | nil => rfl
  | cons f l ih => rw [List.map_cons, eulG_cons, eulG_cons, ih (fun c hc => h c (List.mem_cons_of_mem _ hc)), h f List.mem_cons_self]
theorem eulG_flat {α β : Type} (l : List β) (F : β → List (List α)) : eulG (l.flatMap F) = (l.map fun b => eulG (F b)).sum := by
  induction l with
  | nil => rfl
  | cons f l ih => rw [List.flatMap_cons, eulG_app, ih]; simp
theorem sum_mulR {β : Type} (l : List β) (F : β → Int) (c : Int) : (l.map fun b => F b * c).sum = (l.map F).sum * c := by
  induction l with
  | nil => simp
  | cons f l ih => simp only [List.map_cons, List.sum_cons, ih, Int.add_mul]
theorem sum_mulL {β : Type} (l : List β) (F : β → Int) (c : Int) : (l.map fun b => c * F b).sum = c * (l.map F).sum := by
  induction l with
  | nil => simp
  | cons f l ih => simp only [List.map_cons, List.sum_cons, ih, Int.mul_add]
theorem eulG_filter {α : Type} (l : List (List α)) (p : List α → Bool) : eulG l = eulG (l.filter p) + eulG (l.filter fun x => !p x) := by
  induction l with
  | nil => rfl
  | cons f l ih =>
    rw [List.filter_cons, List.filter_cons, eulG_cons, ih]
    cases p f <;> simp [eulG_cons] <;> omega

/-! Unions. -/
theorem isF_append {A B : List (List Int)} {g : List Int} : IsF (A ++ B) g ↔ IsF A g ∨ IsF B g := by
  unfold IsF
  constructor
  · rintro ⟨h, l, hl, hs⟩
    rcases List.mem_append.1 hl with h1 | h1
    · exact Or.inl ⟨h, l, h1, hs⟩
    · exact Or.inr ⟨h, l, h1, hs⟩
  · rintro (⟨h, l, hl, hs⟩ | ⟨h, l, hl, hs⟩)
    · exact ⟨h, l, List.mem_append_left _ hl, hs⟩
    · exact ⟨h, l, List.mem_append_right _ hl, hs⟩
theorem mem_all_meet {A B : List (List Int)} (hA : errX A = 0) (hB : errX B = 0) {g : List Int} : g ∈ allF (meetP A B) ↔ g ∈ allF A ∧ g ∈ allF B := by
  rw [mem_allF, isF_mem (fun y => mem_meetP hB), isF_of_rise (M := meetR (allF A) (allF B)) (fun l hl => allF_rises (errX_ok hA).1 l (List.mem_filter.1 hl).1)]
  constructor
  · rintro ⟨h1, l, hl, hs⟩
    obtain ⟨h2, h3⟩ := List.mem_filter.1 hl
    exact ⟨closed_under l h2 g hs h1, closed_under l (of_decide_eq_true h3) g hs h1⟩
  · rintro ⟨h1, h2⟩
    exact ⟨allF_ne g h1, g, List.mem_filter.2 ⟨h1, decide_eq_true h2⟩, List.Sublist.refl _⟩
theorem union_eul {A B : List (List Int)} (hA : errX A = 0) (hB : errX B = 0) : eulF (allF (A ++ B)) + eulF (allF (meetP A B)) = eulF (allF A) + eulF (allF B) := by
  rw [eulF_G, eulF_G, eulF_G, eulF_G, eulG_filter (allF B) fun f => decide (f ∈ allF A)]
  have nA := (allF_sorted A).nodup
  have nB := (allF_sorted B).nodup
  have h1 : eulG (allF (A ++ B)) = eulG (allF A ++ (allF B).filter fun x => !decide (x ∈ allF A)) := eulG_members (allF_sorted _).nodup
    (List.nodup_append.2 ⟨nA, nB.sublist List.filter_sublist, fun a ha b hb e => by
      subst e
      have := (List.mem_filter.1 hb).2
      simp at this
      exact this ha⟩) fun f => by
      rw [mem_allF, isF_append, List.mem_append, List.mem_filter, ← mem_allF, ← mem_allF]
      by_cases h : f ∈ allF A <;> simp [h]
  have h2 : eulG (allF (meetP A B)) = eulG ((allF B).filter fun f => decide (f ∈ allF A)) := eulG_members (allF_sorted _).nodup (nB.sublist List.filter_sublist) fun f => by
    rw [mem_all_meet hA hB, List.mem_filter, decide_eq_true_eq, and_comm]
  rw [h1, h2, eulG_app]
  omega

/-! Joins. -/
theorem shF_inj {m : Int} : ∀ {f g : List Int}, shF m f = shF m g → f = g
  | [], [], _ => rfl
  | [], _ :: _, h => by simp [shF] at h
  | _ :: _, [], h => by simp [shF] at h
  | x :: f, y :: g, h => by
    unfold shF at h
    rw [List.map_cons, List.map_cons] at h
    obtain ⟨h1, h2⟩ := List.cons.inj h
    rw [shF_inj (f := f) (g := g) h2, show x = y by omega]
theorem low_part {m : Int} {f g : List Int} (hf : ∀ x ∈ f, x < m) (hg : ∀ x ∈ g, m ≤ x) : (f ++ g).filter (fun x => decide (x < m)) = f := by
  rw [List.filter_append, List.filter_eq_self.2 fun x hx => decide_eq_true (hf x hx), List.filter_eq_nil_iff.2 fun x hx => by simp; exact hg x hx, List.append_nil]
theorem nodup_nil {L : List (List Int)} : ([] :: allF L).Nodup := List.nodup_cons.2 ⟨fun h => allF_ne [] h rfl, (allF_sorted L).nodup⟩
theorem sub_or {L : List (List Int)} {f g : List Int} (hf : f ∈ [] :: allF L) (hs : g.Sublist f) : g ∈ [] :: allF L := by
  by_cases hg : g = []
  · rw [hg]; exact List.mem_cons_self
  · rcases List.mem_cons.1 hf with rfl | hf
    · exact absurd (List.sublist_nil.1 hs) hg
    · exact List.mem_cons_of_mem _ (closed_under f hf g hs hg)
def bigJ (m : Int) (P Q : List (List Int)) : List (List Int) := P.flatMap fun f => Q.map fun g => f ++ shF m g
theorem mem_bigJ {m : Int} {P Q : List (List Int)} {l : List Int} : l ∈ bigJ m P Q ↔ ∃ f ∈ P, ∃ g ∈ Q, f ++ shF m g = l := by
  unfold bigJ; simp [List.mem_flatMap]
theorem bigJ_eul (m : Int) (P Q : List (List Int)) : eulG (bigJ m P Q) = - (eulG P * eulG Q) := by
  have h : ∀ f : List Int, eulG (Q.map fun g => f ++ shF m g) = - (pmN f.length * eulG Q) := fun f => by
    induction Q with
    | nil => simp [eulG_nil]
    | cons g Q ih =>
      rw [List.map_cons, eulG_cons, eulG_cons, ih, List.length_append, shF_len, pmN_add, Int.mul_add]
      omega
  unfold bigJ
  rw [eulG_flat]
  simp only [h]
  have e : (P.map fun b => -(pmN b.length * eulG Q)) = P.map fun b => pmN b.length * (- eulG Q) := by
    congr 1; funext b; rw [Int.mul_neg]
  rw [e, sum_mulR, Int.mul_neg]
  rfl
theorem join_eul {A B : List (List Int)} (hA : errX A = 0) (hB : errX B = 0) : 1 - eulF (allF (joinP A B)) = (1 - eulF (allF A)) * (1 - eulF (allF B)) := by
  have hm := (more_0 hA).1
  have hlow : ∀ f ∈ [] :: allF A, ∀ x ∈ f, x < moreF (vertA A) := fun f hf x hx => by
    rcases List.mem_cons.1 hf with rfl | hf
    · cases hx
    · exact below_more hA f hf x hx
  have hhi : ∀ g ∈ [] :: allF B, ∀ x ∈ shF (moreF (vertA A)) g, moreF (vertA A) ≤ x := fun g hg x hx => by
    rcases List.mem_cons.1 hg with rfl | hg
    · simp [shF] at hx
    · exact (above_more hB hm g hg x hx).1
  have h1 : eulG ([] :: allF (joinP A B)) = eulG (bigJ (moreF (vertA A)) ([] :: allF A) ([] :: allF B)) := by
    refine eulG_members nodup_nil ?_ fun g => ?_
    · unfold bigJ
      refine nodup_flat (fun f hf => ?_) ?_
      · exact List.pairwise_map.2 ((nodup_nil (L := B)).imp fun hne e => hne (shF_inj (List.append_cancel_left e)))
      · refine (List.Pairwise.and_mem.1 (nodup_nil (L := A))).imp fun {f f'} ⟨hf, hf', hne⟩ x hx hx' => ?_
        obtain ⟨g, hg, rfl⟩ := List.mem_map.1 hx
        obtain ⟨g', hg', e⟩ := List.mem_map.1 hx'
        have e2 := congrArg (List.filter fun x => decide (x < moreF (vertA A))) e
        rw [low_part (hlow f' hf') (hhi g' hg'), low_part (hlow f hf) (hhi g hg)] at e2
        exact hne e2.symm
    · have h2 := join_plain hA hB (fun f h => h) (fun f h => h)
      rw [List.mem_cons, mem_allF, join_isF hA hB, isF_mem (joinR_eq hA hB), isF_of_rise (fun l hl => (h2 l hl).2.1), mem_bigJ]
      constructor
      · have hcase : ∀ l ∈ joinF (· ++ ·) (moreF (vertA A)) (allF A) (allF B), ∃ f ∈ [] :: allF A, ∃ h ∈ [] :: allF B, l = f ++ shF (moreF (vertA A)) h := fun l hl => by
          rcases mem_joinF.1 hl with h | ⟨k, hk, rfl⟩ | ⟨f, hf, k, hk, rfl⟩
          · exact ⟨l, List.mem_cons_of_mem _ h, [], List.mem_cons_self, by simp [shF]⟩
          · exact ⟨[], List.mem_cons_self, k, List.mem_cons_of_mem _ hk, rfl⟩
          · exact ⟨f, List.mem_cons_of_mem _ hf, k, List.mem_cons_of_mem _ hk, rfl⟩
        rintro (rfl | ⟨hg, l, hl, hs⟩)
        · exact ⟨[], List.mem_cons_self, [], List.mem_cons_self, rfl⟩
        · obtain ⟨f, hf, h, hh, rfl⟩ := hcase l hl
          obtain ⟨a, b, rfl, ha, hb⟩ := List.sublist_append_iff.1 hs
          obtain ⟨b', hb', rfl⟩ := List.sublist_map_iff.1 hb
          exact ⟨a, sub_or hf ha, b', sub_or hh hb', rfl⟩
      · rintro ⟨f, hf, h, hh, rfl⟩
        by_cases he : f ++ shF (moreF (vertA A)) h = []
        · exact Or.inl he
        · refine Or.inr ⟨he, _, ?_, List.Sublist.refl _⟩
          rcases List.mem_cons.1 hf with rfl | hf
          · rcases List.mem_cons.1 hh with rfl | hh
            · exact absurd rfl he
            · exact mem_joinF.2 (Or.inr (Or.inl ⟨h, hh, rfl⟩))
          · rcases List.mem_cons.1 hh with rfl | hh
            · exact mem_joinF.2 (Or.inl (by simpa [shF] using hf))
            · exact mem_joinF.2 (Or.inr (Or.inr ⟨f, hf, h, hh, rfl⟩))
  have e0 : pmN ([] : List Int).length = -1 := rfl
  rw [bigJ_eul, eulG_cons, eulG_cons, eulG_cons, e0] at h1
  rw [eulF_G, eulF_G, eulF_G]
  generalize eulG (allF (joinP A B)) = k at *
  generalize eulG (allF A) = m at *
  generalize eulG (allF B) = n at *
  rw [show (1 - m) = -(-1 + m) by omega, show (1 - n) = -(-1 + n) by omega, Int.neg_mul_neg]
  omega

/-! Products. -/
/-- the chains whose projections are just these faces -/
def surj : List Int → List Int → List (List (Int × Int))
  | [], _ => []
  | _ :: _, [] => []
  | x :: f, y :: g => if f = [] ∧ g = [] then [[(x, y)]] else ((surj f (y :: g) ++ surj (x :: f) g) ++ surj f g).map ((x, y) :: ·)
termination_by f g => f.length + g.length
theorem surj_nil (g : List Int) : surj [] g = [] := by unfold surj; rfl
theorem surj_nil2 (f : List Int) : surj f [] = [] := by cases f <;> (unfold surj; rfl)
theorem surj_cons (x : Int) (f : List Int) (y : Int) (g : List Int) : surj (x :: f) (y :: g) = if f = [] ∧ g = [] then [[(x, y)]] else ((surj f (y :: g) ++ surj (x :: f) g) ++ surj f g).map ((x, y) :: ·) := by rw [surj]
theorem pr1_cut {b : Int × Int} {t : List (Int × Int)} {f : List Int} (h : pr1 (b :: t) = f) : ∃ r, f = b.1 :: r := by
  obtain ⟨r, hr⟩ := pr1_head b t
  exact ⟨r, h ▸ hr⟩
theorem pr2_cut {b : Int × Int} {t : List (Int × Int)} {f : List Int} (h : pr2 (b :: t) = f) : ∃ r, f = b.2 :: r := by
  obtain ⟨r, hr⟩ := pr2_head b t
  exact ⟨r, h ▸ hr⟩
theorem mem_surj : ∀ (n : Nat) {f g : List Int} {c : List (Int × Int)}, f.length + g.length ≤ n → Rise f → Rise g → (c ∈ surj f g ↔ c ≠ [] ∧ Chain c ∧ pr1 c = f ∧ pr2 c = g)
  | 0, f, g, c, hn, _, _ => by
    obtain rfl : f = [] := List.length_eq_zero_iff.1 (by omega)
    rw [surj_nil]
    exact ⟨fun h => absurd h (by simp), fun h => absurd h.2.2.1 (pr1_ne h.1)⟩
  | n + 1, [], g, c, hn, _, _ => by
    rw [surj_nil]
    exact ⟨fun h => absurd h (by simp), fun h => absurd h.2.2.1 (pr1_ne h.1)⟩
  | n + 1, x :: f, [], c, hn, _, _ => by
    rw [surj_nil2]
    exact ⟨fun h => absurd h (by simp), fun h => absurd h.2.2.2 (pr2_ne h.1)⟩
  | n + 1, x :: f, y :: g, c, hn, hf, hg => by
    simp only [List.length_cons] at hn
    have hf' := (List.pairwise_cons.1 hf).2
    have hg' := (List.pairwise_cons.1 hg).2
    have i1 := fun c => mem_surj n (f := f) (g := y :: g) (c := c) (by simp; omega) hf' hg
    have i2 := fun c => mem_surj n (f := x :: f) (g := g) (c := c) (by simp; omega) hf hg'
    have i3 := fun c => mem_surj n (f := f) (g := g) (c := c) (by omega) hf' hg'
    rw [surj_cons]
    constructor
    · intro h
      split at h
      · next e =>
        obtain ⟨rfl, rfl⟩ := e
        obtain rfl := List.mem_singleton.1 h
        exact ⟨by simp, List.pairwise_singleton _ _, rfl, rfl⟩
      · obtain ⟨q, hq, rfl⟩ := List.mem_map.1 h
        refine ⟨by simp, ?_⟩
        rcases List.mem_append.1 hq with hq | hq
        · rcases List.mem_append.1 hq with hq | hq
          · obtain ⟨h1, h2, h3, h4⟩ := (i1 q).1 hq
            cases q with
            | nil => exact absurd rfl h1
            | cons b t =>
              obtain ⟨r, hr⟩ := pr1_cut h3
              obtain ⟨r2, hr2⟩ := pr2_cut h4
              have hlt : x < b.1 := (List.pairwise_cons.1 hf).1 b.1 (by rw [hr]; simp)
              have hy : y = b.2 := (List.cons.inj hr2).1
              refine ⟨Chain.cons ⟨by simp; omega, by simp; omega, fun e => by have := (Prod.ext_iff.1 e).1; simp at this; omega⟩ h2, ?_, ?_⟩
              · rw [pr1_cons, if_neg (by simp; omega), h3]
              · rw [pr2_cons, if_pos hy, h4]
          · obtain ⟨h1, h2, h3, h4⟩ := (i2 q).1 hq
            cases q with
            | nil => exact absurd rfl h1
            | cons b t =>
              obtain ⟨r, hr⟩ := pr1_cut h3
              obtain ⟨r2, hr2⟩ := pr2_cut h4
              have hlt : y < b.2 := (List.pairwise_cons.1 hg).1 b.2 (by rw [hr2]; simp)
              have hx : x = b.1 := (List.cons.inj hr).1
              refine ⟨Chain.cons ⟨by simp; omega, by simp; omega, fun e => by have := (Prod.ext_iff.1 e).2; simp at this; omega⟩ h2, ?_, ?_⟩
              · rw [pr1_cons, if_pos hx, h3]
              · rw [pr2_cons, if_neg (by simp; omega), h4]
        · obtain ⟨h1, h2, h3, h4⟩ := (i3 q).1 hq
          cases q with
          | nil => exact absurd rfl h1
          | cons b t =>
            obtain ⟨r, hr⟩ := pr1_cut h3
            obtain ⟨r2, hr2⟩ := pr2_cut h4
            have hlt : x < b.1 := (List.pairwise_cons.1 hf).1 b.1 (by rw [hr]; simp)
            have hlt2 : y < b.2 := (List.pairwise_cons.1 hg).1 b.2 (by rw [hr2]; simp)
            refine ⟨Chain.cons ⟨by simp; omega, by simp; omega, fun e => by have := (Prod.ext_iff.1 e).2; simp at this; omega⟩ h2, ?_, ?_⟩
            · rw [pr1_cons, if_neg (by simp; omega), h3]
            · rw [pr2_cons, if_neg (by simp; omega), h4]
    · rintro ⟨h1, h2, h3, h4⟩
      cases c with
      | nil => exact absurd rfl h1
      | cons a t =>
        obtain ⟨r, hr⟩ := pr1_cut h3
        obtain ⟨r2, hr2⟩ := pr2_cut h4
        obtain rfl : a = (x, y) := Prod.ext (List.cons.inj hr).1.symm (List.cons.inj hr2).1.symm
        cases t with
        | nil =>
          have e1 : [x] = x :: f := h3
          have e2 : [y] = y :: g := h4
          obtain rfl : f = [] := ((List.cons.inj e1).2).symm
          obtain rfl : g = [] := ((List.cons.inj e2).2).symm
          rw [if_pos ⟨rfl, rfl⟩]
          exact List.mem_singleton.2 rfl
        | cons b t =>
          have hup := (List.pairwise_cons.1 h2).1 b List.mem_cons_self
          have h2' : Chain (b :: t) := (List.pairwise_cons.1 h2).2
          rw [pr1_cons] at h3
          rw [pr2_cons] at h4
          have hne : (b :: t) ≠ [] := by simp
          by_cases e1 : x = b.1
          · have e2 : y ≠ b.2 := fun e2 => hup.2.2 (Prod.ext e1 e2)
            rw [if_pos e1] at h3
            rw [if_neg e2] at h4
            have h4 := (List.cons.inj h4).2
            rw [if_neg fun e => pr2_ne hne (by rw [h4]; exact e.2)]
            exact List.mem_map_of_mem (List.mem_append_left _ (List.mem_append_right _ ((i2 _).2 ⟨hne, h2', h3, h4⟩)))
          · rw [if_neg e1] at h3
            have h3 := (List.cons.inj h3).2
            rw [if_neg fun e => pr1_ne hne (by rw [h3]; exact e.1)]
            by_cases e2 : y = b.2
            · rw [if_pos e2] at h4
              exact List.mem_map_of_mem (List.mem_append_left _ (List.mem_append_left _ ((i1 _).2 ⟨hne, h2', h3, h4⟩)))
            · rw [if_neg e2] at h4
              exact List.mem_map_of_mem (List.mem_append_right _ ((i3 _).2 ⟨hne, h2', h3, (List.cons.inj h4).2⟩))
theorem surj_nodup : ∀ (n : Nat) {f g : List Int}, f.length + g.length ≤ n → Rise f → Rise g → (surj f g).Nodup
  | 0, f, g, hn, _, _ => by
    obtain rfl : f = [] := List.length_eq_zero_iff.1 (by omega)
    rw [surj_nil]; exact List.Pairwise.nil
  | n + 1, [], g, hn, _, _ => by rw [surj_nil]; exact List.Pairwise.nil
  | n + 1, x :: f, [], hn, _, _ => by rw [surj_nil2]; exact List.Pairwise.nil
  | n + 1, x :: f, y :: g, hn, hf, hg => by
    rw [surj_cons]
    split
    · exact List.pairwise_singleton _ _
    · simp only [List.length_cons] at hn
      have hf' := (List.pairwise_cons.1 hf).2
      have hg' := (List.pairwise_cons.1 hg).2
      have m1 : ∀ c ∈ surj f (y :: g), pr1 c = f ∧ pr2 c = y :: g := fun c hc => ((mem_surj _ (Nat.le_refl _) hf' hg).1 hc).2.2
      have m2 : ∀ c ∈ surj (x :: f) g, pr1 c = x :: f ∧ pr2 c = g := fun c hc => ((mem_surj _ (Nat.le_refl _) hf hg').1 hc).2.2
      have m3 : ∀ c ∈ surj f g, pr1 c = f ∧ pr2 c = g := fun c hc => ((mem_surj _ (Nat.le_refl _) hf' hg').1 hc).2.2
      have ne : ∀ {z : Int} {l : List Int}, l ≠ z :: l := fun {z l} e => by have := congrArg List.length e; simp at this
      refine nodup_map_cons (List.nodup_append.2 ⟨List.nodup_append.2 ⟨surj_nodup n (by simp; omega) hf' hg, surj_nodup n (by simp; omega) hf hg', fun a ha b hb e => ?_⟩, surj_nodup n (by omega) hf' hg', fun a ha b hb e => ?_⟩)
      · subst e
        exact ne ((m1 a ha).1.symm.trans (m2 a hb).1)
      · subst e
        rcases List.mem_append.1 ha with ha | ha
        · exact ne ((m3 a hb).2.symm.trans (m1 a ha).2)
        · exact ne ((m3 a hb).1.symm.trans (m2 a ha).1)
theorem surj_eul : ∀ (n : Nat) {f g : List Int}, f.length + g.length ≤ n → f ≠ [] → g ≠ [] → eulG (surj f g) = pmN f.length * pmN g.length
  | 0, f, g, hn, hf, _ => absurd (List.length_eq_zero_iff.1 (by omega)) hf
  | n + 1, [], g, hn, hf, _ => absurd rfl hf
  | n + 1, x :: f, [], hn, _, hg => absurd rfl hg
  | n + 1, x :: f, y :: g, hn, _, _ => by
    rw [surj_cons]
    simp only [List.length_cons] at hn
    by_cases hf : f = []
    · subst hf
      by_cases hg : g = []
      · subst hg
        rw [if_pos ⟨rfl, rfl⟩]; rfl
      · rw [if_neg fun e => hg e.2, eulG_push, eulG_app, eulG_app, surj_nil, surj_nil, eulG_nil, surj_eul n (f := [x]) (g := g) (by simp; omega) (by simp) hg, show (y :: g).length = g.length + 1 from rfl, pmN_succ g.length, Int.mul_neg]
        omega
    · by_cases hg : g = []
      · subst hg
        rw [if_neg fun e => hf e.1, eulG_push, eulG_app, eulG_app, surj_nil2, surj_nil2, eulG_nil, surj_eul n (f := f) (g := [y]) (by simp; omega) hf (by simp), show (x :: f).length = f.length + 1 from rfl, pmN_succ f.length, Int.neg_mul]
        omega
      · rw [if_neg fun e => hf e.1, eulG_push, eulG_app, eulG_app, surj_eul n (f := f) (g := y :: g) (by simp; omega) hf (by simp), surj_eul n (f := x :: f) (g := g) (by simp; omega) (by simp) hg, surj_eul n (f := f) (g := g) (by omega) hf hg]
        simp only [List.length_cons, pmN_succ, Int.mul_neg, Int.neg_mul, Int.neg_neg]
        omega
/-- all the chains of a product -/
def surjs (P Q : List (List Int)) : List (List (Int × Int)) := P.flatMap fun f => Q.flatMap fun g => surj f g
theorem surjs_eul {P Q : List (List Int)} (hP : ∀ f ∈ P, f ≠ []) (hQ : ∀ f ∈ Q, f ≠ []) : eulG (surjs P Q) = eulG P * eulG Q := by
  unfold surjs
  rw [eulG_flat]
  have h : ∀ f ∈ P, eulG (Q.flatMap fun g => surj f g) = pmN f.length * eulG Q := fun f hf => by
    rw [eulG_flat, List.map_congr_left fun g hg => surj_eul _ (Nat.le_refl _) (hP f hf) (hQ g hg), sum_mulL]
    rfl
  rw [List.map_congr_left h, sum_mulR]
  rfl
theorem prod_eul {A B : List (List Int)} (hA : errX A = 0) (hB : errX B = 0) : eulF (allF (wayL A B)) = eulF (allF A) * eulF (allF B) := by
  have rA := allF_rises (errX_ok hA).1
  have rB := allF_rises (errX_ok hB).1
  have hm : ∀ c, c ∈ surjs (allF A) (allF B) ↔ IsCh (allF A) (allF B) c := fun c => by
    unfold surjs IsCh
    simp only [List.mem_flatMap]
    constructor
    · rintro ⟨f, hf, g, hg, h⟩
      obtain ⟨h1, h2, h3, h4⟩ := (mem_surj _ (Nat.le_refl _) (rA f hf) (rB g hg)).1 h
      exact ⟨h1, h2, by rw [h3]; exact hf, by rw [h4]; exact hg⟩
    · rintro ⟨h1, h2, h3, h4⟩
      exact ⟨_, h3, _, h4, (mem_surj _ (Nat.le_refl _) (rA _ h3) (rB _ h4)).2 ⟨h1, h2, rfl, rfl⟩⟩
  have hn : (surjs (allF A) (allF B)).Nodup := by
    unfold surjs
    refine nodup_flat (fun f hf => nodup_flat (fun g hg => surj_nodup _ (Nat.le_refl _) (rA f hf) (rB g hg)) ?_) ?_
    · refine (List.Pairwise.and_mem.1 (allF_sorted B).nodup).imp fun {g g'} ⟨hg, hg', hne⟩ p hp hp' => ?_
      have h1 := ((mem_surj _ (Nat.le_refl _) (rA f hf) (rB g hg)).1 hp).2.2.2
      have h2 := ((mem_surj _ (Nat.le_refl _) (rA f hf) (rB g' hg')).1 hp').2.2.2
      exact hne (h1.symm.trans h2)
    · refine (List.Pairwise.and_mem.1 (allF_sorted A).nodup).imp fun {f f'} ⟨hf, hf', hne⟩ p hp hp' => ?_
      obtain ⟨g, hg, hp⟩ := List.mem_flatMap.1 hp
      obtain ⟨g', hg', hp'⟩ := List.mem_flatMap.1 hp'
      have h1 := ((mem_surj _ (Nat.le_refl _) (rA f hf) (rB g hg)).1 hp).2.2.1
      have h2 := ((mem_surj _ (Nat.le_refl _) (rA f' hf') (rB g' hg')).1 hp').2.2.1
      exact hne (h1.symm.trans h2)
  have h1 : eulG (allF (wayL A B)) = eulG ((surjs (allF A) (allF B)).map fun c => c.map (cdP (vertA A) (vertA B))) := by
    refine eulG_members (allF_sorted _).nodup ?_ fun s => ?_
    · exact List.pairwise_map.2 ((List.Pairwise.and_mem.1 hn).imp fun {c c'} ⟨hc, hc', hne⟩ e => hne (ch_inj hA hB ((hm c).1 hc) ((hm c').1 hc') e))
    · rw [mem_allF, way_isF hA hB, mem_growL hA hB, List.mem_map]
      constructor
      · rintro ⟨c, hc, rfl⟩; exact ⟨c, (hm c).2 hc, rfl⟩
      · rintro ⟨c, hc, rfl⟩; exact ⟨c, (hm c).1 hc, rfl⟩
  rw [eulF_G, eulF_G, eulF_G, h1, eulG_len _ _ (fun c _ => List.length_map ..), surjs_eul allF_ne allF_ne]

/-! A link's link. -/
def LkM (A : List (List Int)) (f y : List Int) : Prop := y ∈ A ∧ (∀ z ∈ y, z ∉ f) ∧ togF y f ∈ A
theorem minF_self {y f : List Int} (h : ∀ z ∈ y, z ∉ f) : minF y f = y := List.filter_eq_self.2 fun z hz => by simpa using h z hz
theorem mem_linkF_lk {A : List (List Int)} (hne : ∀ g ∈ A, g ≠ []) {f y : List Int} : y ∈ linkF A f ↔ LkM A f y := by
  rw [mem_linkF]
  constructor
  · rintro ⟨x, hx, h1, h2, h3, rfl⟩
    have e : minF x f = x := (List.filter_sublist (l := x)).eq_of_length h2
    exact ⟨by rw [e]; exact hx, fun z hz => (mem_minF.1 hz).2, h3⟩
  · rintro ⟨h1, h2, h3⟩
    have e := minF_self h2
    exact ⟨y, h1, by rw [e]; exact hne y h1, by rw [e], by rw [e]; exact h3, e.symm⟩
theorem mem_all_link {L : List (List Int)} (h : errC L = 0) {f y : List Int} : y ∈ allF (linkQ L f) ↔ LkM (allF L) f y := by
  have hr := allF_rises h
  have hm : ∀ y, y ∈ linkQ L f ↔ LkM (allF L) f y := fun y => (mem_linkQ.trans (link_same hr closed_under).symm).trans (mem_linkF_lk allF_ne)
  rw [mem_allF, isF_of_rise (fun l hl => hr l ((hm l).1 hl).1)]
  constructor
  · rintro ⟨h1, l, hl, hs⟩
    obtain ⟨h2, h3, h4⟩ := (hm l).1 hl
    refine ⟨closed_under l h2 y hs h1, fun z hz => h3 z (hs.subset hz), closed_under _ h4 _ (sub_of_rise (rise_togF _ _) (rise_togF _ _) fun z hz => ?_) fun e => ?_⟩
    · exact mem_togF.2 ((mem_togF.1 hz).imp (fun h => hs.subset h) id)
    · obtain ⟨z, hz⟩ := List.exists_mem_of_ne_nil _ h1
      have := mem_togF.2 (Or.inl hz : z ∈ y ∨ z ∈ f)
      rw [e] at this; cases this
  · intro hy
    exact ⟨allF_ne y hy.1, y, (hm y).2 hy, List.Sublist.refl _⟩
theorem togF_congr {a b c d : List Int} (h : ∀ z, (z ∈ a ∨ z ∈ b) ↔ (z ∈ c ∨ z ∈ d)) : togF a b = togF c d := rise_eq (rise_togF _ _) (rise_togF _ _) fun z => by rw [mem_togF, mem_togF]; exact h z
theorem link_link {L : List (List Int)} {f : List Int} {v : Int} (h : errS L f = 0) (h2 : errS (madeF (linkQ L f)) [v] = 0) :
    errS L (togF f [v]) = 0 ∧ madeF (linkQ (madeF (linkQ L f)) [v]) = madeF (linkQ L (togF f [v])) := by
  obtain ⟨hx, hf⟩ := errS_0 h
  have hc := (errX_ok hx).1
  obtain ⟨-, hv⟩ := errS_0 h2
  have hcl := (link_right h).1
  have hcm : errC (madeF (linkQ L f)) = 0 := (errX_ok (made_X hcl)).1
  rw [made_all hcl, mem_all_link hc] at hv
  obtain ⟨v1, v2, v3⟩ := hv
  have e0 : togF [v] f = togF f [v] := togF_congr fun z => Or.comm
  rw [e0] at v3
  refine ⟨errS_in hx v3, ?_⟩
  refine congrArg facetsF ?_
  refine (allF_sorted _).ext (allF_sorted _) fun y => ?_
  rw [mem_all_link hcm, mem_all_link hc]
  unfold LkM
  rw [made_all hcl, mem_all_link hc, mem_all_link hc]
  unfold LkM
  have e : togF (togF y [v]) f = togF y (togF f [v]) := togF_congr fun z => by rw [mem_togF, mem_togF]; exact ⟨fun h => h.elim (fun h => h.elim Or.inl fun h => Or.inr (Or.inr h)) (fun h => Or.inr (Or.inl h)), fun h => h.elim (fun h => Or.inl (Or.inl h)) (fun h => h.elim Or.inr fun h => Or.inl (Or.inr h))⟩
  rw [e]
  constructor
  · rintro ⟨⟨h1, h2, h3⟩, h4, -, h6, h7⟩
    refine ⟨h1, fun z hz hz2 => ?_, h7⟩
    rcases mem_togF.1 hz2 with h8 | h8
    · exact h2 z hz h8
    · exact h4 z hz h8
  · rintro ⟨h1, h2, h3⟩
    have sub : ∀ k : List Int, (∀ z ∈ k, z ∈ togF y (togF f [v])) → Rise k → k ≠ [] → k ∈ allF L := fun k hk hr hn => closed_under _ h3 k (sub_of_rise hr (rise_togF _ _) hk) hn
    obtain ⟨z0, hz0⟩ := List.exists_mem_of_ne_nil _ (allF_ne y h1)
    have nn : ∀ k : List Int, togF y k ≠ [] := fun k e => by
      have := mem_togF.2 (Or.inl hz0 : z0 ∈ y ∨ z0 ∈ k)
      rw [e] at this; cases this
    refine ⟨⟨h1, fun z hz hz2 => h2 z hz (mem_togF.2 (Or.inl hz2)), sub _ (fun z hz => ?_) (rise_togF _ _) (nn f)⟩, fun z hz hz2 => h2 z hz (mem_togF.2 (Or.inr hz2)), ⟨sub _ (fun z hz => ?_) (rise_togF _ _) (nn [v]), fun z hz hz2 => ?_, h3⟩⟩
    · exact mem_togF.2 ((mem_togF.1 hz).imp id fun h => mem_togF.2 (Or.inl h))
    · exact mem_togF.2 ((mem_togF.1 hz).imp id fun h => mem_togF.2 (Or.inr h))
    · rcases mem_togF.1 hz with h8 | h8
      · exact h2 z h8 (mem_togF.2 (Or.inl hz2))
      · obtain rfl := List.mem_singleton.1 h8
        exact v2 z List.mem_cons_self hz2
end Go.Proofs.YtipblphfjejpbaaGreatDoor
