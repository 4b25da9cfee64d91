/-
  Products (plain): ways through two faces, chains of pairs; what lies in a way is a chain, and each chain lies in a way.
  Products (plain): the document's growing of sets of pairs: they are the chains; the program's sets and its errors are the document's.
  The references' growing of sets of pairs (grow, ProductSets) by contracts. Condition: few faces.
  Product's closures and its ways (paths) by contracts.
  Product by a contract.
-/
import Derived.Test.YtipblphfjejpbaaGreatDoorJnG
import Derived.Deep.RegionHeld3
set_option linter.unusedVariables false
set_option linter.unusedSimpArgs false
namespace Go.Proofs.YtipblphfjejpbaaGreatDoor
open Go Go.RowKit Go.Maps

/-- numbers in a row, without one that is the same as the next one -/
def ddp : List Int → List Int
  | [] => []
  | [x] => [x]
  | x :: y :: t => if x = y then ddp (y :: t) else x :: ddp (y :: t)
theorem ddp_cons (x y : Int) (t : List Int) : ddp (x :: y :: t) = if x = y then ddp (y :: t) else x :: ddp (y :: t) := rfl
theorem ddp_head : ∀ (x : Int) (t : List Int), ∃ r, ddp (x :: t) = x :: r
  | x, [] => ⟨[], rfl⟩
  | x, y :: t => by
    obtain ⟨r, hr⟩ := ddp_head y t
    rw [ddp_cons]
    by_cases h : x = y
    · subst h; rw [if_pos rfl]; exact ⟨r, hr⟩
    · rw [if_neg h]; exact ⟨_, rfl⟩
theorem mem_ddp : ∀ {l : List Int} {z : Int}, z ∈ ddp l ↔ z ∈ l
  | [], z => Iff.rfl
  | [x], z => Iff.rfl
  | x :: y :: t, z => by
    rw [ddp_cons]
    have ih := mem_ddp (l := y :: t) (z := z)
    by_cases h : x = y
    · subst h; rw [if_pos rfl, ih]; simp
    · rw [if_neg h, List.mem_cons, ih, List.mem_cons (a := z) (b := x)]
theorem ddp_ne {l : List Int} (h : l ≠ []) : ddp l ≠ [] := by
  cases l with
  | nil => exact absurd rfl h
  | cons x t => obtain ⟨r, hr⟩ := ddp_head x t; rw [hr]; simp
theorem ddp_rise : ∀ {l : List Int}, l.Pairwise (· ≤ ·) → Rise (ddp l)
  | [], _ => List.Pairwise.nil
  | [x], _ => by unfold ddp Rise; exact List.pairwise_singleton _ _
  | x :: y :: t, h => by
    rw [List.pairwise_cons] at h
    have ih := ddp_rise h.2
    rw [ddp_cons]
    by_cases e : x = y
    · rw [if_pos e]; exact ih
    · rw [if_neg e]
      refine List.pairwise_cons.2 ⟨fun z hz => ?_, ih⟩
      have hxy := h.1 y List.mem_cons_self
      have hz' := mem_ddp.1 hz
      rcases List.mem_cons.1 hz' with rfl | hz2
      · omega
      · have := (List.pairwise_cons.1 h.2).1 z hz2; omega

/-- one pair stands behind another one -/
def Up (a b : Int × Int) : Prop := a.1 ≤ b.1 ∧ a.2 ≤ b.2 ∧ a ≠ b
theorem Up.trans {a b c : Int × Int} (h : Up a b) (h' : Up b c) : Up a c := by
  obtain ⟨h1, h2, h3⟩ := h
  obtain ⟨h4, h5, h6⟩ := h'
  refine ⟨by omega, by omega, fun e => ?_⟩
  subst e
  exact h3 (Prod.ext (by omega) (by omega))
def Chain (c : List (Int × Int)) : Prop := c.Pairwise Up
theorem Chain.cons {a b : Int × Int} {t : List (Int × Int)} (h : Up a b) (ht : Chain (b :: t)) : Chain (a :: b :: t) :=
  List.pairwise_cons.2 ⟨fun z hz => by
    rcases List.mem_cons.1 hz with rfl | hz
    · exact h
    · exact h.trans ((List.pairwise_cons.1 ht).1 z hz), ht⟩
def pr1 (c : List (Int × Int)) : List Int := ddp (c.map Prod.fst)
def pr2 (c : List (Int × Int)) : List Int := ddp (c.map Prod.snd)
theorem pr1_cons (a b : Int × Int) (t : List (Int × Int)) : pr1 (a :: b :: t) = if a.1 = b.1 then pr1 (b :: t) else a.1 :: pr1 (b :: t) := rfl
theorem pr2_cons (a b : Int × Int) (t : List (Int × Int)) : pr2 (a :: b :: t) = if a.2 = b.2 then pr2 (b :: t) else a.2 :: pr2 (b :: t) := rfl
theorem pr1_rise {c : List (Int × Int)} (h : Chain c) : Rise (pr1 c) := ddp_rise (List.pairwise_map.2 (h.imp fun h => h.1))
theorem pr2_rise {c : List (Int × Int)} (h : Chain c) : Rise (pr2 c) := ddp_rise (List.pairwise_map.2 (h.imp fun h => h.2.1))
theorem pr1_ne {c : List (Int × Int)} (h : c ≠ []) : pr1 c ≠ [] := ddp_ne (by simpa using h)
theorem pr2_ne {c : List (Int × Int)} (h : c ≠ []) : pr2 c ≠ [] := ddp_ne (by simpa using h)
theorem pr1_sub {c p : List (Int × Int)} (h : c.Sublist p) (hp : Chain p) : (pr1 c).Sublist (pr1 p) :=
  sub_of_rise (pr1_rise (hp.sublist h)) (pr1_rise hp) fun x hx => mem_ddp.2 ((h.map _).subset (mem_ddp.1 hx))
theorem pr2_sub {c p : List (Int × Int)} (h : c.Sublist p) (hp : Chain p) : (pr2 c).Sublist (pr2 p) :=
  sub_of_rise (pr2_rise (hp.sublist h)) (pr2_rise hp) fun x hx => mem_ddp.2 ((h.map _).subset (mem_ddp.1 hx))

/-- the ways from the first pair of two faces to the last -/
def ways : List Int → List Int → List (List (Int × Int))
  | [], _ => []
  | _ :: _, [] => []
  | x :: f, y :: g => if f = [] ∧ g = [] then [[(x, y)]] else (ways f (y :: g) ++ ways (x :: f) g).map ((x, y) :: ·)
termination_by f g => f.length + g.length
theorem ways_nil (g : List Int) : ways [] g = [] := by unfold ways; rfl
theorem ways_nil2 (f : List Int) : ways f [] = [] := by cases f <;> (unfold ways; rfl)
theorem ways_cons (x : Int) (f : List Int) (y : Int) (g : List Int) : ways (x :: f) (y :: g) = if f = [] ∧ g = [] then [[(x, y)]] else (ways f (y :: g) ++ ways (x :: f) g).map ((x, y) :: ·) := by rw [ways]

theorem ways_head {f g : List Int} {p : List (Int × Int)} (h : p ∈ ways f g) : ∃ x f' y g' p', f = x :: f' ∧ g = y :: g' ∧ p = (x, y) :: p' := by
  cases f with
  | nil => rw [ways_nil] at h; cases h
  | cons x f =>
    cases g with
    | nil => rw [ways_nil2] at h; cases h
    | cons y g =>
      rw [ways_cons] at h
      split at h
      · rw [List.mem_singleton] at h; exact ⟨x, f, y, g, [], rfl, rfl, h⟩
      · obtain ⟨q, -, rfl⟩ := List.mem_map.1 h; exact ⟨x, f, y, g, q, rfl, rfl, rfl⟩
theorem ways_ne : ∀ (n : Nat) {f g : List Int}, f.length + g.length ≤ n → f ≠ [] → g ≠ [] → ways f g ≠ []
  | 0, f, g, hn, hf, hg => absurd (List.length_eq_zero_iff.1 (by omega)) hf
  | n + 1, x :: f, y :: g, hn, _, _ => by
    rw [ways_cons]
    split
    · simp
    · next h =>
      simp only [List.length_cons] at hn
      by_cases h1 : f = []
      · have := ways_ne n (f := x :: f) (g := g) (by simp; omega) (by simp) (fun e => h ⟨h1, e⟩)
        simp [this]
      · have := ways_ne n (f := f) (g := y :: g) (by simp; omega) h1 (by simp)
        simp [this]
  | n + 1, [], _, _, hf, _ => absurd rfl hf
  | n + 1, _ :: _, [], _, _, hg => absurd rfl hg

/-- a way is a chain; its projections are the faces -/
theorem ways_spec : ∀ (n : Nat) {f g : List Int} {p : List (Int × Int)}, f.length + g.length ≤ n → Rise f → Rise g → p ∈ ways f g → Chain p ∧ pr1 p = f ∧ pr2 p = g ∧ p.length + 1 = f.length + g.length
  | 0, f, g, p, hn, _, _, h => by
    obtain ⟨x, f', y, g', p', rfl, rfl, rfl⟩ := ways_head h
    simp at hn
  | n + 1, f, g, p, hn, hf, hg, h => by
    obtain ⟨x, f, y, g, -, rfl, rfl, -⟩ := ways_head h
    rw [ways_cons] at h
    split at h
    · next e =>
      obtain ⟨rfl, rfl⟩ := e
      obtain rfl := List.mem_singleton.1 h
      exact ⟨List.pairwise_singleton _ _, rfl, rfl, rfl⟩
    · obtain ⟨q, hq, rfl⟩ := List.mem_map.1 h
      simp only [List.length_cons] at hn ⊢
      rcases List.mem_append.1 hq with hq | hq
      · obtain ⟨x2, f2, y2, g2, q2, e1, e2, e3⟩ := ways_head hq
        obtain ⟨h1, h2, h3, h4⟩ := ways_spec n (by simp; omega) (List.pairwise_cons.1 hf).2 hg hq
        cases e2
        have hlt : x < x2 := (List.pairwise_cons.1 hf).1 x2 (by rw [e1]; simp)
        rw [e3] at h1 h2 h3 h4 ⊢
        refine ⟨Chain.cons ⟨by simp; omega, by simp, fun e => by have := (Prod.ext_iff.1 e).1; simp at this; omega⟩ h1, ?_, ?_, ?_⟩
        · rw [pr1_cons, if_neg (by simp; omega), h2]
        · rw [pr2_cons, if_pos rfl, h3]
        · simp at h4 ⊢; omega
      · obtain ⟨x2, f2, y2, g2, q2, e1, e2, e3⟩ := ways_head hq
        obtain ⟨h1, h2, h3, h4⟩ := ways_spec n (by simp; omega) hf (List.pairwise_cons.1 hg).2 hq
        cases e1
        have hlt : y < y2 := (List.pairwise_cons.1 hg).1 y2 (by rw [e2]; simp)
        rw [e3] at h1 h2 h3 h4 ⊢
        refine ⟨Chain.cons ⟨by simp, by simp; omega, fun e => by have := (Prod.ext_iff.1 e).2; simp at this; omega⟩ h1, ?_, ?_, ?_⟩
        · rw [pr1_cons, if_pos rfl, h2]
        · rw [pr2_cons, if_neg (by simp; omega), h3]
        · simp at h4 ⊢; omega

theorem nodup_map_cons {a : Int × Int} {l : List (List (Int × Int))} (h : l.Nodup) : (l.map (a :: ·)).Nodup :=
  List.pairwise_map.2 (h.imp fun h e => h (List.cons.inj e).2)
theorem ways_nodup : ∀ (n : Nat) {f g : List Int}, f.length + g.length ≤ n → Rise f → Rise g → (ways f g).Nodup
  | 0, f, g, hn, _, _ => by
    obtain rfl : f = [] := List.length_eq_zero_iff.1 (by omega)
    rw [ways_nil]; exact List.Pairwise.nil
  | n + 1, [], g, hn, _, _ => by rw [ways_nil]; exact List.Pairwise.nil
  | n + 1, x :: f, [], hn, _, _ => by rw [ways_nil2]; exact List.Pairwise.nil
  | n + 1, x :: f, y :: g, hn, hf, hg => by
    rw [ways_cons]
    split
    · exact List.pairwise_singleton _ _
    · simp only [List.length_cons] at hn
      have hf' := (List.pairwise_cons.1 hf).2
      have hg' := (List.pairwise_cons.1 hg).2
      refine nodup_map_cons (List.nodup_append.2 ⟨ways_nodup n (by simp; omega) hf' hg, ways_nodup n (by simp; omega) hf hg', fun a ha b hb e => ?_⟩)
      subst e
      have h1 := (ways_spec _ (Nat.le_refl _) hf' hg ha).2.1
      have h2 := (ways_spec _ (Nat.le_refl _) hf hg' hb).2.1
      rw [h1] at h2
      have := congrArg List.length h2
      simp at this

theorem head_sub {a x : Int} {t f : List Int} (h : (a :: t).Sublist (x :: f)) (hne : a ≠ x) : (a :: t).Sublist f := by
  cases h with
  | cons _ h => exact h
  | cons_cons _ h => exact absurd rfl hne
theorem pr1_head (a : Int × Int) (c : List (Int × Int)) : ∃ r, pr1 (a :: c) = a.1 :: r := ddp_head _ _
theorem pr2_head (a : Int × Int) (c : List (Int × Int)) : ∃ r, pr2 (a :: c) = a.2 :: r := ddp_head _ _

/-- each chain lies in a way -/
theorem ways_cover : ∀ (n : Nat) {f g : List Int} {c : List (Int × Int)}, f.length + g.length ≤ n → Chain c → c ≠ [] → (pr1 c).Sublist f → (pr2 c).Sublist g → ∃ p ∈ ways f g, c.Sublist p
  | 0, f, g, c, hn, _, hc, h1, _ => by
    obtain rfl : f = [] := List.length_eq_zero_iff.1 (by omega)
    exact absurd (List.sublist_nil.1 h1) (pr1_ne hc)
  | n + 1, [], g, c, hn, _, hc, h1, _ => absurd (List.sublist_nil.1 h1) (pr1_ne hc)
  | n + 1, x :: f, [], c, hn, _, hc, _, h2 => absurd (List.sublist_nil.1 h2) (pr2_ne hc)
  | n + 1, x :: f, y :: g, [], hn, _, hc, _, _ => absurd rfl hc
  | n + 1, x :: f, y :: g, a :: c, hn, hch, _, h1, h2 => by
    simp only [List.length_cons] at hn
    by_cases ha : a.1 = x
    · by_cases hb : a.2 = y
      · obtain rfl : a = (x, y) := Prod.ext ha hb
        cases c with
        | nil =>
          have hne := ways_ne _ (Nat.le_refl _) (f := x :: f) (g := y :: g) (by simp) (by simp)
          obtain ⟨p, hp⟩ := List.exists_mem_of_ne_nil _ hne
          obtain ⟨x2, f2, y2, g2, p2, e1, e2, rfl⟩ := ways_head hp
          cases e1; cases e2
          exact ⟨_, hp, List.Sublist.cons_cons _ (List.nil_sublist _)⟩
        | cons e c =>
          have hup := (List.pairwise_cons.1 hch).1 e List.mem_cons_self
          have hch' := (List.pairwise_cons.1 hch).2
          have hnn : ¬ (f = [] ∧ g = []) := fun ⟨hf0, hg0⟩ => by
            subst hf0; subst hg0
            have m1 : e.1 ∈ [x] := h1.subset (mem_ddp.2 (by simp))
            have m2 : e.2 ∈ [y] := h2.subset (mem_ddp.2 (by simp))
            rw [List.mem_singleton] at m1 m2
            exact hup.2.2 (Prod.ext m1.symm m2.symm)
          rw [pr1_cons] at h1
          rw [pr2_cons] at h2
          rw [ways_cons, if_neg hnn]
          by_cases e1 : x = e.1
          · have e2 : y ≠ e.2 := fun e2 => hup.2.2 (Prod.ext e1 e2)
            rw [if_pos e1] at h1
            rw [if_neg e2] at h2
            obtain ⟨p, hp, hs⟩ := ways_cover n (f := x :: f) (g := g) (by simp; omega) hch' (by simp) h1 (List.cons_sublist_cons.1 h2)
            exact ⟨(x, y) :: p, List.mem_map_of_mem (List.mem_append.2 (Or.inr hp)), List.Sublist.cons_cons _ hs⟩
          · rw [if_neg e1] at h1
            have h2' : (pr2 (e :: c)).Sublist (y :: g) := by
              split at h2
              · exact h2
              · exact (List.sublist_cons_self _ _).trans h2
            obtain ⟨p, hp, hs⟩ := ways_cover n (f := f) (g := y :: g) (by simp; omega) hch' (by simp) (List.cons_sublist_cons.1 h1) h2'
            exact ⟨(x, y) :: p, List.mem_map_of_mem (List.mem_append.2 (Or.inl hp)), List.Sublist.cons_cons _ hs⟩
      · obtain ⟨r, hr⟩ := pr2_head a c
        have h2' : (pr2 (a :: c)).Sublist g := by rw [hr] at h2 ⊢; exact head_sub h2 hb
        have hg0 : g ≠ [] := fun e => by subst e; exact absurd (List.sublist_nil.1 h2') (pr2_ne (by simp))
        obtain ⟨p, hp, hs⟩ := ways_cover n (f := x :: f) (g := g) (by simp; omega) hch (by simp) h1 h2'
        rw [ways_cons, if_neg (fun h => hg0 h.2)]
        exact ⟨(x, y) :: p, List.mem_map_of_mem (List.mem_append.2 (Or.inr hp)), hs.trans (List.sublist_cons_self _ _)⟩
    · obtain ⟨r, hr⟩ := pr1_head a c
      have h1' : (pr1 (a :: c)).Sublist f := by rw [hr] at h1 ⊢; exact head_sub h1 ha
      have hf0 : f ≠ [] := fun e => by subst e; exact absurd (List.sublist_nil.1 h1') (pr1_ne (by simp))
      obtain ⟨p, hp, hs⟩ := ways_cover n (f := f) (g := y :: g) (by simp; omega) hch (by simp) h1' h2
      rw [ways_cons, if_neg (fun h => hf0 h.1)]
      exact ⟨(x, y) :: p, List.mem_map_of_mem (List.mem_append.2 (Or.inl hp)), hs.trans (List.sublist_cons_self _ _)⟩

theorem nodup_flat {α β : Type} {f : α → List β} : ∀ {l : List α}, (∀ a ∈ l, (f a).Nodup) → l.Pairwise (fun a b => ∀ x, x ∈ f a → x ∈ f b → False) → (l.flatMap f).Nodup
  | [], _, _ => List.Pairwise.nil
  | a :: l, h1, h2 => by
    rw [List.pairwise_cons] at h2
    rw [List.flatMap_cons]
    refine List.nodup_append.2 ⟨h1 a List.mem_cons_self, nodup_flat (fun b hb => h1 b (List.mem_cons_of_mem _ hb)) h2.2, fun x hx y hy e => ?_⟩
    subst e
    obtain ⟨b, hb, hxb⟩ := List.mem_flatMap.1 hy
    exact h2.1 b hb x hx hxb
/-- a chain whose projections are faces -/
def IsCh (P Q : List (List Int)) (c : List (Int × Int)) : Prop := c ≠ [] ∧ Chain c ∧ pr1 c ∈ P ∧ pr2 c ∈ Q
def waysP (A B : List (List Int)) : List (List (Int × Int)) := A.flatMap fun f => B.flatMap fun g => ways f g
theorem mem_waysP {A B : List (List Int)} {p : List (Int × Int)} : p ∈ waysP A B ↔ ∃ f ∈ A, ∃ g ∈ B, p ∈ ways f g := by unfold waysP; simp
section
variable {A B : List (List Int)} (hA : errX A = 0) (hB : errX B = 0)
theorem rise_mem {L : List (List Int)} (h : errX L = 0) {l : List Int} (hl : l ∈ L) : Rise l := allF_rises (errX_ok h).1 l (right_rise h l hl)
include hA hB
theorem ways_chain {c : List (Int × Int)} : (c ≠ [] ∧ ∃ p ∈ waysP A B, c.Sublist p) ↔ IsCh (allF A) (allF B) c := by
  constructor
  · rintro ⟨hc, p, hp, hs⟩
    obtain ⟨f, hf, g, hg, hp⟩ := mem_waysP.1 hp
    obtain ⟨h1, h2, h3, -⟩ := ways_spec _ (Nat.le_refl _) (rise_mem hA hf) (rise_mem hB hg) hp
    have s1 := pr1_sub hs h1
    have s2 := pr2_sub hs h1
    rw [h2] at s1
    rw [h3] at s2
    exact ⟨hc, h1.sublist hs, mem_allF.2 (isF_sub (mem_allF.1 (right_rise hA f hf)) s1 (pr1_ne hc)), mem_allF.2 (isF_sub (mem_allF.1 (right_rise hB g hg)) s2 (pr2_ne hc))⟩
  · rintro ⟨hc, hch, h1, h2⟩
    obtain ⟨f, hf, s1⟩ := right_up hA h1
    obtain ⟨g, hg, s2⟩ := right_up hB h2
    obtain ⟨p, hp, hs⟩ := ways_cover _ (Nat.le_refl _) hch hc s1 s2
    exact ⟨hc, p, mem_waysP.2 ⟨f, hf, g, hg, hp⟩, hs⟩
theorem waysP_nodup : (waysP A B).Nodup := by
  have hn : ∀ {L : List (List Int)}, errX L = 0 → L.Nodup := fun {L} h => by rw [(errX_ok h).2]; exact (facets_sorted (allF_sorted _)).nodup
  unfold waysP
  refine nodup_flat (fun f hf => nodup_flat (fun g hg => ways_nodup _ (Nat.le_refl _) (rise_mem hA hf) (rise_mem hB hg)) ?_) ?_
  · refine (List.Pairwise.and_mem.1 (hn hB)).imp fun {g g'} ⟨hg, hg', hne⟩ p hp hp' => ?_
    have h1 := (ways_spec _ (Nat.le_refl _) (rise_mem hA hf) (rise_mem hB hg) hp).2.2.1
    have h2 := (ways_spec _ (Nat.le_refl _) (rise_mem hA hf) (rise_mem hB hg') hp').2.2.1
    exact hne (h1.symm.trans h2)
  · refine (List.Pairwise.and_mem.1 (hn hA)).imp fun {f f'} ⟨hf, hf', hne⟩ p hp hp' => ?_
    obtain ⟨g, hg, hp⟩ := List.mem_flatMap.1 hp
    obtain ⟨g', hg', hp'⟩ := List.mem_flatMap.1 hp'
    have h1 := (ways_spec _ (Nat.le_refl _) (rise_mem hA hf) (rise_mem hB hg) hp).2.1
    have h2 := (ways_spec _ (Nat.le_refl _) (rise_mem hA hf') (rise_mem hB hg') hp').2.1
    exact hne (h1.symm.trans h2)
end

/-- a pair's number -/
def idxI (V : List Int) (x : Int) : Nat := V.idxOf x
def cdP (V W : List Int) (p : Int × Int) : Int := (idxI V p.1 : Int) * (W.length : Int) + (idxI W p.2 : Int)
def cdN (m : Nat) (p : Nat × Nat) : Int := (p.1 : Int) * (m : Int) + (p.2 : Int)
def valP (V W : List Int) (p : Nat × Nat) : Int × Int := (V.getD p.1 0, W.getD p.2 0)
def InR (V W : List Int) (p : Nat × Nat) : Prop := p.1 < V.length ∧ p.2 < W.length
def UpN (a b : Nat × Nat) : Prop := a.1 ≤ b.1 ∧ a.2 ≤ b.2 ∧ a ≠ b
def vals (V W : List Int) (c : List (Nat × Nat)) : List (Int × Int) := c.map (valP V W)

/-- the document's growing: all sets from one on -/
def gro (P Q : List (List Int)) (V W : List Int) : Nat → List Int → Nat → Nat → List Int → List Int → List (List Int)
  | 0, s, _, _, _, _ => if s = [] then [] else [s]
  | d + 1, s, x, y, f, g => (if s = [] then [] else [s]) ++ (List.range' x (V.length - x)).flatMap fun i => (List.range' y (W.length - y)).flatMap fun k =>
      if s ≠ [] ∧ i = x ∧ k = y then [] else
      if togF f [V.getD i 0] ∈ P ∧ togF g [W.getD k 0] ∈ Q then gro P Q V W d (s ++ [cdN W.length (i, k)]) i k (togF f [V.getD i 0]) (togF g [W.getD k 0]) else []
def groK (P Q : List (List Int)) (V W : List Int) (d : Nat) (s : List Int) (x y : Nat) (f g : List Int) (i k : Nat) : List (List Int) :=
  if s ≠ [] ∧ i = x ∧ k = y then [] else
  if togF f [V.getD i 0] ∈ P ∧ togF g [W.getD k 0] ∈ Q then gro P Q V W d (s ++ [cdN W.length (i, k)]) i k (togF f [V.getD i 0]) (togF g [W.getD k 0]) else []
theorem gro_succ (P Q : List (List Int)) (V W : List Int) (d : Nat) (s : List Int) (x y : Nat) (f g : List Int) :
    gro P Q V W (d + 1) s x y f g = (if s = [] then [] else [s]) ++ (List.range' x (V.length - x)).flatMap fun i => (List.range' y (W.length - y)).flatMap fun k => groK P Q V W d s x y f g i k := rfl

theorem rise_get {V : List Int} (h : Rise V) {i j : Nat} (hij : i < j) (hj : j < V.length) : V.getD i 0 < V.getD j 0 := by
  have := List.pairwise_iff_getElem.1 h i j (by omega) hj hij
  rw [List.getD_eq_getElem?_getD, List.getElem?_eq_getElem (by omega), List.getD_eq_getElem?_getD, List.getElem?_eq_getElem hj]
  exact this
theorem rise_le {V : List Int} (h : Rise V) {i j : Nat} (hij : i ≤ j) (hj : j < V.length) : V.getD i 0 ≤ V.getD j 0 := by
  rcases Nat.lt_or_eq_of_le hij with h1 | rfl
  · exact Int.le_of_lt (rise_get h h1 hj)
  · exact Int.le_refl _
theorem idx_lt {V : List Int} {x : Int} (h : x ∈ V) : idxI V x < V.length := List.idxOf_lt_length_of_mem h
theorem get_idx {V : List Int} {x : Int} (h : x ∈ V) : V.getD (idxI V x) 0 = x := by
  rw [List.getD_eq_getElem?_getD, List.getElem?_eq_getElem (idx_lt h)]
  exact List.getElem_idxOf (idx_lt h)
theorem idx_get {V : List Int} (h : Rise V) {i : Nat} (hi : i < V.length) : idxI V (V.getD i 0) = i := by
  have h1 := get_idx (getD_mem hi)
  have h2 := idx_lt (getD_mem hi)
  rcases Nat.lt_trichotomy (idxI V (V.getD i 0)) i with h3 | h3 | h3
  · have := rise_get h h3 hi; omega
  · exact h3
  · have := rise_get h h3 h2; omega
theorem idx_le {V : List Int} (h : Rise V) {x y : Int} (hx : x ∈ V) (hy : y ∈ V) (hxy : x ≤ y) : idxI V x ≤ idxI V y := by
  rcases Nat.lt_or_ge (idxI V y) (idxI V x) with h3 | h3
  · have := rise_get h h3 (idx_lt hx)
    rw [get_idx hx, get_idx hy] at this; omega
  · exact h3

theorem cdN_lt {m : Nat} {a b : Nat × Nat} (h : UpN a b) (hb : b.2 < m) : cdN m a < cdN m b := by
  obtain ⟨h1, h2, h3⟩ := h
  unfold cdN
  rcases Nat.lt_or_eq_of_le h1 with h4 | h4
  · have : ((a.1 : Int) + 1) * (m : Int) ≤ (b.1 : Int) * (m : Int) := Int.mul_le_mul_of_nonneg_right (by omega) (by omega)
    rw [Int.add_mul] at this
    omega
  · have h5 : a.2 ≠ b.2 := fun e => h3 (Prod.ext h4 e)
    rw [h4]; omega
theorem cdN_inj {m : Nat} {a b : Nat × Nat} (ha : a.2 < m) (hb : b.2 < m) (h : cdN m a = cdN m b) : a = b := by
  by_cases h1 : a.1 = b.1
  · unfold cdN at h
    rw [h1] at h
    exact Prod.ext h1 (by omega)
  · rcases Nat.lt_or_gt_of_ne h1 with h2 | h2
    · unfold cdN at h
      have : ((a.1 : Int) + 1) * (m : Int) ≤ (b.1 : Int) * (m : Int) := Int.mul_le_mul_of_nonneg_right (by omega) (by omega)
      rw [Int.add_mul] at this
      omega
    · unfold cdN at h
      have : ((b.1 : Int) + 1) * (m : Int) ≤ (a.1 : Int) * (m : Int) := Int.mul_le_mul_of_nonneg_right (by omega) (by omega)
      rw [Int.add_mul] at this
      omega
theorem cdN_bd {m n : Nat} {a : Nat × Nat} (h1 : a.1 < n) (h2 : a.2 < m) : 0 ≤ cdN m a ∧ cdN m a + 1 ≤ (n : Int) * (m : Int) := by
  unfold cdN
  have : ((a.1 : Int) + 1) * (m : Int) ≤ (n : Int) * (m : Int) := Int.mul_le_mul_of_nonneg_right (by omega) (by omega)
  have h0 : 0 ≤ (a.1 : Int) * (m : Int) := Int.mul_nonneg (by omega) (by omega)
  rw [Int.add_mul] at this
  omega

section
variable {V W : List Int} (hV : Rise V) (hW : Rise W)
include hV hW
theorem val_up {a b : Nat × Nat} (hb : InR V W b) (h : UpN a b) : Up (valP V W a) (valP V W b) := by
  obtain ⟨h1, h2, h3⟩ := h
  refine ⟨rise_le hV h1 hb.1, rise_le hW h2 hb.2, fun e => ?_⟩
  have e1 : V.getD a.1 0 = V.getD b.1 0 := congrArg Prod.fst e
  have e2 : W.getD a.2 0 = W.getD b.2 0 := congrArg Prod.snd e
  refine h3 (Prod.ext ?_ ?_)
  · rcases Nat.lt_or_eq_of_le h1 with h4 | h4
    · have := rise_get hV h4 hb.1; omega
    · exact h4
  · rcases Nat.lt_or_eq_of_le h2 with h4 | h4
    · have := rise_get hW h4 hb.2; omega
    · exact h4
theorem chain_vals {c : List (Nat × Nat)} (h : c.Pairwise UpN) (hr : ∀ p ∈ c, InR V W p) : Chain (vals V W c) :=
  List.pairwise_map.2 ((List.Pairwise.and_mem.1 h).imp fun ⟨_, hb, h⟩ => val_up hV hW (hr _ hb) h)
end

/-- a state of the growing: the chain so far -/
def GSt (V W : List Int) (c : List (Nat × Nat)) (x y : Nat) (f g : List Int) : Prop :=
  c.Pairwise UpN ∧ (∀ p ∈ c, InR V W p) ∧ ((c = [] ∧ x = 0 ∧ y = 0 ∧ f = [] ∧ g = []) ∨ ((∃ c0, c = c0 ++ [(x, y)]) ∧ f = pr1 (vals V W c) ∧ g = pr2 (vals V W c)))
theorem up_last {c : List (Nat × Nat)} {x y : Nat} (h : (c ++ [(x, y)]).Pairwise UpN) {a : Nat × Nat} (ha : a ∈ c ++ [(x, y)]) : a.1 ≤ x ∧ a.2 ≤ y := by
  rcases List.mem_append.1 ha with h1 | h1
  · have := (List.pairwise_append.1 h).2.2 a h1 (x, y) (by simp)
    exact ⟨this.1, this.2.1⟩
  · rw [List.mem_singleton] at h1; subst h1; exact ⟨Nat.le_refl _, Nat.le_refl _⟩
theorem GSt.up {V W : List Int} {c : List (Nat × Nat)} {x y : Nat} {f g : List Int} (h : GSt V W c x y f g) {i k : Nat} (hx : x ≤ i) (hy : y ≤ k) (hne : ¬ (c ≠ [] ∧ i = x ∧ k = y)) : (c ++ [(i, k)]).Pairwise UpN := by
  obtain ⟨h1, -, h3⟩ := h
  refine List.pairwise_append.2 ⟨h1, List.pairwise_singleton _ _, fun a ha b hb => ?_⟩
  rw [List.mem_singleton] at hb
  subst hb
  rcases h3 with ⟨rfl, -⟩ | ⟨⟨c0, rfl⟩, -, -⟩
  · cases ha
  · obtain ⟨h4, h5⟩ := up_last h1 ha
    refine ⟨Nat.le_trans h4 hx, Nat.le_trans h5 hy, fun e => ?_⟩
    subst e
    exact hne ⟨by simp, Nat.le_antisymm h4 hx, Nat.le_antisymm h5 hy⟩
theorem GSt.step {V W : List Int} (hV : Rise V) (hW : Rise W) {c : List (Nat × Nat)} {x y : Nat} {f g : List Int} (h : GSt V W c x y f g) {i k : Nat} (hx : x ≤ i) (hi : i < V.length) (hy : y ≤ k) (hk : k < W.length)
    (hne : ¬ (c ≠ [] ∧ i = x ∧ k = y)) : GSt V W (c ++ [(i, k)]) i k (togF f [V.getD i 0]) (togF g [W.getD k 0]) := by
  have hup := h.up hx hy hne
  obtain ⟨h1, h2, h3⟩ := h
  have hr : ∀ p ∈ c ++ [(i, k)], InR V W p := fun p hp => by
    rcases List.mem_append.1 hp with hp | hp
    · exact h2 p hp
    · rw [List.mem_singleton] at hp; subst hp; exact ⟨hi, hk⟩
  have hch := chain_vals hV hW hup hr
  have hf : ∀ z, z ∈ f ↔ z ∈ (vals V W c).map Prod.fst := fun z => by
    rcases h3 with ⟨rfl, -, -, rfl, -⟩ | ⟨-, rfl, -⟩
    · simp [vals]
    · exact mem_ddp
  have hg : ∀ z, z ∈ g ↔ z ∈ (vals V W c).map Prod.snd := fun z => by
    rcases h3 with ⟨rfl, -, -, -, rfl⟩ | ⟨-, -, rfl⟩
    · simp [vals]
    · exact mem_ddp
  refine ⟨hup, hr, Or.inr ⟨⟨c, rfl⟩, rise_eq (rise_togF _ _) (pr1_rise hch) fun z => ?_, rise_eq (rise_togF _ _) (pr2_rise hch) fun z => ?_⟩⟩
  · rw [mem_togF, hf z]
    unfold pr1
    rw [mem_ddp]
    simp [vals, valP]
  · rw [mem_togF, hg z]
    unfold pr2
    rw [mem_ddp]
    simp [vals, valP]

def Closed1 (P : List (List Int)) : Prop := ∀ g ∈ P, ∀ h, h.Sublist g → h ≠ [] → h ∈ P
theorem mem_range2 {x n i : Nat} : i ∈ List.range' x (n - x) ↔ x ≤ i ∧ i < n := by
  rw [List.mem_range'_1]; omega
theorem gro_mem {P Q : List (List Int)} {V W : List Int} (hV : Rise V) (hW : Rise W) (hP : Closed1 P) (hQ : Closed1 Q) : ∀ (d : Nat) (c : List (Nat × Nat)) (x y : Nat) (f g : List Int), GSt V W c x y f g →
    (c = [] → V.length + W.length ≤ d + 1) → (c ≠ [] → V.length + W.length ≤ d + x + y + 2) → ∀ s, s ∈ gro P Q V W d (c.map (cdN W.length)) x y f g ↔
      ∃ e, s = (c ++ e).map (cdN W.length) ∧ c ++ e ≠ [] ∧ (c ++ e).Pairwise UpN ∧ (∀ p ∈ e, InR V W p) ∧ (e ≠ [] → pr1 (vals V W (c ++ e)) ∈ P ∧ pr2 (vals V W (c ++ e)) ∈ Q) := by
  intro d
  induction d with
  | zero =>
    intro c x y f g hst h0 h1 s
    unfold gro
    have hno : ∀ p e, (c ++ p :: e).Pairwise UpN → InR V W p → False := fun p e hp hi => by
      have h4 : ∀ a ∈ c, UpN a p := fun a ha => (List.pairwise_append.1 hp).2.2 a ha p (by simp)
      rcases hst.2.2 with ⟨rfl, -⟩ | ⟨⟨c0, rfl⟩, -⟩
      · have := h0 rfl; have := hi.1; have := hi.2; omega
      · have := h1 (by simp)
        have h5 := h4 (x, y) (by simp)
        have h6 := hst.2.1 (x, y) (by simp)
        have h7 : (x, y) ≠ p := h5.2.2
        have h8 := h5.1; have h9 := h5.2.1
        have ha := hi.1; have hb := hi.2
        simp only at h8 h9
        exact h7 (Prod.ext (by simp only; omega) (by simp only; omega))
    constructor
    · intro hs
      split at hs
      · cases hs
      · next hne =>
        rw [List.mem_singleton] at hs
        refine ⟨[], by simpa using hs, by simpa using hne, by simpa using hst.1, (fun p hp => by cases hp), fun h => absurd rfl h⟩
    · rintro ⟨e, rfl, hne, hp, hi, -⟩
      cases e with
      | nil => rw [List.append_nil] at hne ⊢; rw [if_neg (by simpa using hne)]; exact List.mem_singleton.2 rfl
      | cons p e => exact absurd (hi p (by simp)) (fun h => hno p e hp h)
  | succ d ih =>
    intro c x y f g hst h0 h1 s
    rw [gro_succ, List.mem_append, List.mem_flatMap]
    have hcm : (c.map (cdN W.length) = []) ↔ c = [] := List.map_eq_nil_iff
    have hnext : ∀ {i k : Nat}, ¬ (c ≠ [] ∧ i = x ∧ k = y) → x ≤ i → i < V.length → y ≤ k → k < W.length →
        (c ++ [(i, k)] = [] → V.length + W.length ≤ d + 1) ∧ (c ++ [(i, k)] ≠ [] → V.length + W.length ≤ d + i + k + 2) := fun {i k} hne hx hi hy hk => by
      refine ⟨fun h => absurd h (by simp), fun _ => ?_⟩
      by_cases hc : c = []
      · have := h0 hc; omega
      · have := h1 hc
        have : i ≠ x ∨ k ≠ y := by
          by_cases e1 : i = x
          · exact Or.inr fun e2 => hne ⟨hc, e1, e2⟩
          · exact Or.inl e1
        omega
    constructor
    · rintro (hs | ⟨i, hi, hs⟩)
      · split at hs
        · cases hs
        · next hne =>
          rw [List.mem_singleton] at hs
          refine ⟨[], by simpa using hs, by simpa using hne, by simpa using hst.1, (fun p hp => by cases hp), fun h => absurd rfl h⟩
      · obtain ⟨k, hk, hs⟩ := List.mem_flatMap.1 hs
        obtain ⟨hx, hi⟩ := mem_range2.1 hi
        obtain ⟨hy, hk⟩ := mem_range2.1 hk
        unfold groK at hs
        split at hs
        · cases hs
        · next hne =>
          split at hs
          · next hpq =>
            have hne' : ¬ (c ≠ [] ∧ i = x ∧ k = y) := fun ⟨a1, a2⟩ => hne ⟨fun e => a1 (hcm.1 e), a2⟩
            have hst' := hst.step hV hW hx hi hy hk hne'
            obtain ⟨n1, n2⟩ := hnext hne' hx hi hy hk
            have hs' : s ∈ gro P Q V W d ((c ++ [(i, k)]).map (cdN W.length)) i k (togF f [V.getD i 0]) (togF g [W.getD k 0]) := by
              rw [List.map_append]; exact hs
            obtain ⟨e, e1, e2, e3, e4, e5⟩ := (ih (c ++ [(i, k)]) i k _ _ hst' n1 n2 s).1 hs'
            refine ⟨(i, k) :: e, by rw [e1]; simp, by simp, by simpa using e3, fun p hp => ?_, fun _ => ?_⟩
            · rcases List.mem_cons.1 hp with rfl | hp
              · exact ⟨hi, hk⟩
              · exact e4 p hp
            · cases e with
              | nil =>
                rcases hst'.2.2 with ⟨h, -⟩ | ⟨-, h5, h6⟩
                · exact absurd h (by simp)
                · rw [h5, h6] at hpq; exact hpq
              | cons q e => have := e5 (by simp); simpa using this
          · cases hs
    · rintro ⟨e, rfl, hne, hp, hi, hpq⟩
      cases e with
      | nil => left; rw [List.append_nil] at hne ⊢; rw [if_neg (by simpa using hne)]; exact List.mem_singleton.2 rfl
      | cons p e =>
        right
        obtain ⟨i, k⟩ := p
        obtain ⟨hin, hkn⟩ := hi (i, k) (by simp)
        simp only at hin hkn
        have hup : ∀ a ∈ c, UpN a (i, k) := fun a ha => (List.pairwise_append.1 hp).2.2 a ha _ (by simp)
        have hxy : x ≤ i ∧ y ≤ k ∧ ¬ (c ≠ [] ∧ i = x ∧ k = y) := by
          rcases hst.2.2 with ⟨rfl, rfl, rfl, -⟩ | ⟨⟨c0, rfl⟩, -⟩
          · exact ⟨Nat.zero_le _, Nat.zero_le _, fun h => h.1 rfl⟩
          · have h5 := hup (x, y) (by simp)
            exact ⟨h5.1, h5.2.1, fun h => h5.2.2 (by rw [h.2.1, h.2.2])⟩
        obtain ⟨hx, hy, hne'⟩ := hxy
        have hst' := hst.step hV hW hx hin hy hkn hne'
        obtain ⟨n1, n2⟩ := hnext hne' hx hin hy hkn
        have hpp : ((c ++ [(i, k)]) ++ e).Pairwise UpN := by simpa using hp
        have hall : ∀ p ∈ (c ++ [(i, k)]) ++ e, InR V W p := fun p hp => by
          rcases List.mem_append.1 hp with h | h
          · exact hst'.2.1 p h
          · exact hi p (List.mem_cons_of_mem _ h)
        have hch := chain_vals hV hW hpp hall
        have hpq' := hpq (by simp)
        have e0 : c ++ (i, k) :: e = (c ++ [(i, k)]) ++ e := by simp
        rw [e0] at hpq'
        have hsub : (vals V W (c ++ [(i, k)])).Sublist (vals V W ((c ++ [(i, k)]) ++ e)) := (List.sublist_append_left _ _).map _
        have hin1 : togF f [V.getD i 0] ∈ P ∧ togF g [W.getD k 0] ∈ Q := by
          rcases hst'.2.2 with ⟨h, -⟩ | ⟨-, h5, h6⟩
          · exact absurd h (by simp)
          · rw [h5, h6]
            exact ⟨hP _ hpq'.1 _ (pr1_sub hsub hch) (pr1_ne (by simp [vals])), hQ _ hpq'.2 _ (pr2_sub hsub hch) (pr2_ne (by simp [vals]))⟩
        refine ⟨i, mem_range2.2 ⟨hx, hin⟩, List.mem_flatMap.2 ⟨k, mem_range2.2 ⟨hy, hkn⟩, ?_⟩⟩
        unfold groK
        rw [if_neg (fun h => hne' ⟨fun e => h.1 (hcm.2 e), h.2⟩), if_pos hin1]
        have := (ih (c ++ [(i, k)]) i k _ _ hst' n1 n2 ((c ++ (i, k) :: e).map (cdN W.length))).2 ⟨e, by rw [e0], by simp, hpp, fun p hp => hi p (List.mem_cons_of_mem _ hp), fun _ => hpq'⟩
        rw [List.map_append] at this
        exact this

theorem gro_pre {P Q : List (List Int)} {V W : List Int} : ∀ (d : Nat) (s : List Int) (x y : Nat) (f g : List Int), ∀ t ∈ gro P Q V W d s x y f g, s <+: t := by
  intro d
  induction d with
  | zero =>
    intro s x y f g t ht
    unfold gro at ht
    split at ht
    · cases ht
    · rw [List.mem_singleton] at ht; subst ht; exact List.prefix_refl _
  | succ d ih =>
    intro s x y f g t ht
    rw [gro_succ, List.mem_append, List.mem_flatMap] at ht
    rcases ht with ht | ⟨i, -, ht⟩
    · split at ht
      · cases ht
      · rw [List.mem_singleton] at ht; subst ht; exact List.prefix_refl _
    · obtain ⟨k, -, ht⟩ := List.mem_flatMap.1 ht
      unfold groK at ht
      split at ht
      · cases ht
      · split at ht
        · exact (List.prefix_append _ _).trans (ih _ _ _ _ _ _ ht)
        · cases ht
theorem groK_pre {P Q : List (List Int)} {V W : List Int} {d : Nat} {s : List Int} {x y : Nat} {f g : List Int} {i k : Nat} {t : List Int} (ht : t ∈ groK P Q V W d s x y f g i k) : (s ++ [cdN W.length (i, k)]) <+: t := by
  unfold groK at ht
  split at ht
  · cases ht
  · split at ht
    · exact gro_pre _ _ _ _ _ _ _ ht
    · cases ht
theorem pre_one {s t : List Int} {a b : Int} (h : (s ++ [a]) <+: t) (h' : (s ++ [b]) <+: t) : a = b := by
  have := List.prefix_of_prefix_length_le h h' (by simp)
  rw [List.prefix_append_right_inj] at this
  simpa using this
theorem gro_nodup {P Q : List (List Int)} {V W : List Int} : ∀ (d : Nat) (s : List Int) (x y : Nat) (f g : List Int), (gro P Q V W d s x y f g).Nodup := by
  intro d
  induction d with
  | zero =>
    intro s x y f g
    unfold gro
    split
    · exact List.Pairwise.nil
    · exact List.pairwise_singleton _ _
  | succ d ih =>
    intro s x y f g
    rw [gro_succ]
    have hk : ∀ i k, (groK P Q V W d s x y f g i k).Nodup := fun i k => by
      unfold groK
      split
      · exact List.Pairwise.nil
      · split
        · exact ih _ _ _ _ _
        · exact List.Pairwise.nil
    refine List.nodup_append.2 ⟨?_, nodup_flat (fun i _ => nodup_flat (fun k _ => hk i k) ?_) ?_, fun a ha b hb e => ?_⟩
    · split
      · exact List.Pairwise.nil
      · exact List.pairwise_singleton _ _
    · refine (List.Pairwise.and_mem.1 (List.pairwise_lt_range' (s := y) (n := W.length - y))).imp fun {a b} ⟨ha, hb, hab⟩ t h1 h2 => ?_
      have := pre_one (groK_pre h1) (groK_pre h2)
      have := cdN_inj (mem_range2.1 ha).2 (mem_range2.1 hb).2 this
      have := congrArg Prod.snd this
      simp only at this
      omega
    · refine (List.Pairwise.and_mem.1 (List.pairwise_lt_range' (s := x) (n := V.length - x))).imp fun {a b} ⟨ha, hb, hab⟩ t h1 h2 => ?_
      obtain ⟨k, hk1, h1⟩ := List.mem_flatMap.1 h1
      obtain ⟨k', hk2, h2⟩ := List.mem_flatMap.1 h2
      have := pre_one (groK_pre h1) (groK_pre h2)
      have := cdN_inj (mem_range2.1 hk1).2 (mem_range2.1 hk2).2 this
      have := congrArg Prod.fst this
      simp only at this
      omega
    · subst e
      split at ha
      · cases ha
      · rw [List.mem_singleton] at ha
        subst ha
        obtain ⟨i, -, hb⟩ := List.mem_flatMap.1 hb
        obtain ⟨k, -, hb⟩ := List.mem_flatMap.1 hb
        have := (groK_pre hb).length_le
        simp at this
        omega

/-! ### a product: the program's sets and the document's -/
def growL (A B : List (List Int)) : List (List Int) := gro (allF A) (allF B) (vertA A) (vertA B) ((vertA A).length + (vertA B).length + 1) [] 0 0 [] []
def wayL (A B : List (List Int)) : List (List Int) := (waysP A B).map fun p => p.map (cdP (vertA A) (vertA B))
/-- which error a product has -/
noncomputable def errP (A B : List (List Int)) : Nat := if 100 < (vertA A).length * (vertA B).length then 4 else if 600 < (growL A B).length then 2 else errC (growL A B)
section
variable {A B : List (List Int)} (hA : errX A = 0) (hB : errX B = 0)
theorem closed1_all {L : List (List Int)} : Closed1 (allF L) := fun g hg h hs hne => mem_allF.2 (isF_sub (mem_allF.1 hg) hs hne)
include hA in
theorem face_vert {f : List Int} (hf : f ∈ allF A) {x : Int} (hx : x ∈ f) : x ∈ vertA A := by
  obtain ⟨l, hl, hs⟩ := right_up hA hf
  exact mem_vertA.2 ⟨l, hl, hs.subset hx⟩
include hA hB
theorem ch_vert {c : List (Int × Int)} (h : IsCh (allF A) (allF B) c) {p : Int × Int} (hp : p ∈ c) : p.1 ∈ vertA A ∧ p.2 ∈ vertA B :=
  ⟨face_vert hA h.2.2.1 (mem_ddp.2 (List.mem_map_of_mem hp)), face_vert hB h.2.2.2 (mem_ddp.2 (List.mem_map_of_mem hp))⟩
theorem ch_idx {c : List (Int × Int)} (h : IsCh (allF A) (allF B) c) : ∃ e : List (Nat × Nat), vals (vertA A) (vertA B) e = c ∧ e.Pairwise UpN ∧ (∀ p ∈ e, InR (vertA A) (vertA B) p) ∧ c.map (cdP (vertA A) (vertA B)) = e.map (cdN (vertA B).length) := by
  refine ⟨c.map fun p => (idxI (vertA A) p.1, idxI (vertA B) p.2), ?_, ?_, ?_, ?_⟩
  · unfold vals
    rw [List.map_map]
    conv => rhs; rw [← List.map_id c]
    refine List.map_congr_left fun p hp => ?_
    obtain ⟨h1, h2⟩ := ch_vert hA hB h hp
    simp only [Function.comp, valP, id]
    rw [get_idx h1, get_idx h2]
  · refine List.pairwise_map.2 ((List.Pairwise.and_mem.1 h.2.1).imp fun {a b} ⟨ha, hb, hup⟩ => ?_)
    obtain ⟨a1, a2⟩ := ch_vert hA hB h ha
    obtain ⟨b1, b2⟩ := ch_vert hA hB h hb
    refine ⟨idx_le (rise_setL _) a1 b1 hup.1, idx_le (rise_setL _) a2 b2 hup.2.1, fun e => hup.2.2 ?_⟩
    have e1 := congrArg (fun q : Nat × Nat => (vertA A).getD q.1 0) e
    have e2 := congrArg (fun q : Nat × Nat => (vertA B).getD q.2 0) e
    simp only at e1 e2
    rw [get_idx a1, get_idx b1] at e1
    rw [get_idx a2, get_idx b2] at e2
    exact Prod.ext e1 e2
  · intro p hp
    obtain ⟨q, hq, rfl⟩ := List.mem_map.1 hp
    obtain ⟨h1, h2⟩ := ch_vert hA hB h hq
    exact ⟨idx_lt h1, idx_lt h2⟩
  · rw [List.map_map]; rfl
omit hA hB in
theorem vals_cd {e : List (Nat × Nat)} (hr : ∀ p ∈ e, InR (vertA A) (vertA B) p) : (vals (vertA A) (vertA B) e).map (cdP (vertA A) (vertA B)) = e.map (cdN (vertA B).length) := by
  unfold vals
  rw [List.map_map]
  refine List.map_congr_left fun p hp => ?_
  obtain ⟨h1, h2⟩ := hr p hp
  simp only [Function.comp, valP, cdP, cdN]
  rw [idx_get (V := vertA A) (rise_setL _) h1, idx_get (V := vertA B) (rise_setL _) h2]
theorem mem_growL {s : List Int} : s ∈ growL A B ↔ ∃ c, IsCh (allF A) (allF B) c ∧ s = c.map (cdP (vertA A) (vertA B)) := by
  have hm := gro_mem (P := allF A) (Q := allF B) (V := vertA A) (W := vertA B) (rise_setL _) (rise_setL _) closed1_all closed1_all ((vertA A).length + (vertA B).length + 1) [] 0 0 [] []
    ⟨List.Pairwise.nil, (fun p hp => by cases hp), Or.inl ⟨rfl, rfl, rfl, rfl, rfl⟩⟩ (fun _ => by omega) (fun h => absurd rfl h) s
  refine hm.trans ⟨?_, ?_⟩
  · rintro ⟨e, rfl, hne, hp, hr, hpq⟩
    rw [List.nil_append] at *
    refine ⟨vals (vertA A) (vertA B) e, ⟨by simpa [vals] using hne, chain_vals (rise_setL _) (rise_setL _) hp hr, hpq hne⟩, (vals_cd hr).symm⟩
  · rintro ⟨c, hc, rfl⟩
    obtain ⟨e, e1, e2, e3, e4⟩ := ch_idx hA hB hc
    have hne : e ≠ [] := fun h => hc.1 (by rw [← e1, h]; rfl)
    exact ⟨e, e4, hne, e2, e3, fun _ => by rw [List.nil_append, e1]; exact hc.2.2⟩
omit hA hB in
theorem growL_nodup : (growL A B).Nodup := gro_nodup _ _ _ _ _ _
theorem ch_rise {c : List (Int × Int)} (h : IsCh (allF A) (allF B) c) : Rise (c.map (cdP (vertA A) (vertA B))) := by
  obtain ⟨e, e1, e2, e3, e4⟩ := ch_idx hA hB h
  rw [e4]
  exact List.pairwise_map.2 ((List.Pairwise.and_mem.1 e2).imp fun {a b} ⟨_, hb, h⟩ => cdN_lt h (e3 b hb).2)
theorem ch_bd {c : List (Int × Int)} (h : IsCh (allF A) (allF B) c) : ∀ x ∈ c.map (cdP (vertA A) (vertA B)), 0 ≤ x ∧ x + 1 ≤ ((vertA A).length * (vertA B).length : Nat) := fun x hx => by
  obtain ⟨e, e1, e2, e3, e4⟩ := ch_idx hA hB h
  rw [e4] at hx
  obtain ⟨p, hp, rfl⟩ := List.mem_map.1 hx
  have := cdN_bd (e3 p hp).1 (e3 p hp).2
  rw [Int.natCast_mul]
  exact this
theorem ch_inj {c c' : List (Int × Int)} (h : IsCh (allF A) (allF B) c) (h' : IsCh (allF A) (allF B) c') (he : c.map (cdP (vertA A) (vertA B)) = c'.map (cdP (vertA A) (vertA B))) : c = c' := by
  obtain ⟨e, e1, e2, e3, e4⟩ := ch_idx hA hB h
  obtain ⟨e', f1, f2, f3, f4⟩ := ch_idx hA hB h'
  rw [e4, f4] at he
  have : e = e' := by
    clear e1 e2 e4 f1 f2 f4
    induction e generalizing e' with
    | nil => cases e' with
      | nil => rfl
      | cons q e' => simp at he
    | cons p e ih => cases e' with
      | nil => simp at he
      | cons q e' =>
        simp only [List.map_cons, List.cons.injEq] at he
        rw [cdN_inj (e3 p (by simp)).2 (f3 q (by simp)).2 he.1, ih (fun a ha => e3 a (by simp [ha])) e' he.2 (fun a ha => f3 a (by simp [ha]))]
  rw [← e1, ← f1, this]
theorem way_ch {p : List (Int × Int)} (hp : p ∈ waysP A B) : IsCh (allF A) (allF B) p := by
  obtain ⟨f, hf, g, hg, hp'⟩ := mem_waysP.1 hp
  obtain ⟨x, f', y, g', p', -, -, rfl⟩ := ways_head hp'
  exact (ways_chain hA hB).1 ⟨by simp, _, hp, List.Sublist.refl _⟩
omit hA hB in
theorem mem_wayL {s : List Int} : s ∈ wayL A B ↔ ∃ p ∈ waysP A B, s = p.map (cdP (vertA A) (vertA B)) := by
  unfold wayL
  rw [List.mem_map]
  exact ⟨fun ⟨p, h, e⟩ => ⟨p, h, e.symm⟩, fun ⟨p, h, e⟩ => ⟨p, h, e.symm⟩⟩
theorem wayL_plain : Plain (wayL A B) := fun l hl => by
  obtain ⟨p, hp, rfl⟩ := mem_wayL.1 hl
  have hc := way_ch hA hB hp
  exact ⟨by simpa using hc.1, ch_rise hA hB hc, fun x hx => (ch_bd hA hB hc x hx).1⟩
theorem growL_plain : Plain (growL A B) := fun l hl => by
  obtain ⟨c, hc, rfl⟩ := (mem_growL hA hB).1 hl
  exact ⟨by simpa using hc.1, ch_rise hA hB hc, fun x hx => (ch_bd hA hB hc x hx).1⟩
omit hA hB in
theorem ch_sub {c p : List (Int × Int)} (hp : IsCh (allF A) (allF B) p) (hs : c.Sublist p) (hc : c ≠ []) : IsCh (allF A) (allF B) c :=
  ⟨hc, hp.2.1.sublist hs, closed1_all _ hp.2.2.1 _ (pr1_sub hs hp.2.1) (pr1_ne hc), closed1_all _ hp.2.2.2 _ (pr2_sub hs hp.2.1) (pr2_ne hc)⟩
theorem way_isF (g : List Int) : IsF (wayL A B) g ↔ g ∈ growL A B := by
  rw [isF_of_rise (fun l hl => (wayL_plain hA hB l hl).2.1), mem_growL hA hB]
  constructor
  · rintro ⟨hg, l, hl, hs⟩
    obtain ⟨p, hp, rfl⟩ := mem_wayL.1 hl
    obtain ⟨c, hc, rfl⟩ := List.sublist_map_iff.1 hs
    exact ⟨c, ch_sub (way_ch hA hB hp) hc (by simpa using hg), rfl⟩
  · rintro ⟨c, hc, rfl⟩
    obtain ⟨-, p, hp, hs⟩ := (ways_chain hA hB).2 hc
    exact ⟨by simpa using hc.1, _, mem_wayL.2 ⟨p, hp, rfl⟩, hs.map _⟩
theorem grow_isF (g : List Int) : IsF (growL A B) g ↔ g ∈ growL A B := by
  rw [isF_of_rise (fun l hl => (growL_plain hA hB l hl).2.1)]
  constructor
  · rintro ⟨hg, l, hl, hs⟩
    obtain ⟨p, hp, rfl⟩ := (mem_growL hA hB).1 hl
    obtain ⟨c, hc, rfl⟩ := List.sublist_map_iff.1 hs
    exact (mem_growL hA hB).2 ⟨c, ch_sub hp hc (by simpa using hg), rfl⟩
  · intro hg
    exact ⟨(growL_plain hA hB g hg).1, g, hg, List.Sublist.refl _⟩
theorem prod_same (g : List Int) : IsF (wayL A B) g ↔ IsF (growL A B) g := (way_isF hA hB g).trans (grow_isF hA hB g).symm
theorem prod_made : madeF (wayL A B) = madeF (growL A B) := made_congr (prod_same hA hB)
theorem allF_growL : (allF (wayL A B)).length = (growL A B).length := len_of_members (allF_sorted _).nodup growL_nodup fun f => mem_allF.trans (way_isF hA hB f)
theorem prod_ok (h : ((vertA A).length * (vertA B).length) ≤ 100) : ∀ l ∈ wayL A B, okSet l := fun l hl => by
  obtain ⟨p, hp, rfl⟩ := mem_wayL.1 hl
  have hc := way_ch hA hB hp
  refine ⟨by simpa using hc.1, (ch_rise hA hB hc).imp (fun h => by omega), fun x hx => ?_⟩
  have := ch_bd hA hB hc x hx
  omega
omit hA hB in
/-- the last vertex of a complex -/
theorem last_face {L : List (List Int)} (h : errX L = 0) (hne : 0 < (vertA L).length) : ∃ f ∈ L, (vertA L).getD ((vertA L).length - 1) 0 ∈ f := by
  have := getD_mem (l := vertA L) (i := (vertA L).length - 1) (by omega)
  obtain ⟨f, hf, hx⟩ := mem_vertA.1 this
  exact ⟨f, hf, hx⟩
theorem prod_4 (h : 100 < (vertA A).length * (vertA B).length) : errC (wayL A B) = 4 := by
  have h1 : 0 < (vertA A).length := Nat.pos_of_ne_zero fun e => by rw [e] at h; omega
  have h2 : 0 < (vertA B).length := Nat.pos_of_ne_zero fun e => by rw [e] at h; omega
  obtain ⟨f, hf, hx⟩ := last_face hA h1
  obtain ⟨g, hg, hy⟩ := last_face hB h2
  obtain ⟨x, hxe⟩ : ∃ x, (vertA A).getD ((vertA A).length - 1) 0 = x := ⟨_, rfl⟩
  obtain ⟨y, hye⟩ : ∃ y, (vertA B).getD ((vertA B).length - 1) 0 = y := ⟨_, rfl⟩
  rw [hxe] at hx
  rw [hye] at hy
  have hc : IsCh (allF A) (allF B) [(x, y)] := ⟨by simp, List.pairwise_singleton _ _, mem_allF.2 (isF_sub (mem_allF.1 (right_rise hA f hf)) (List.singleton_sublist.2 hx) (by simp [pr1, ddp])), mem_allF.2 (isF_sub (mem_allF.1 (right_rise hB g hg)) (List.singleton_sublist.2 hy) (by simp [pr2, ddp]))⟩
  obtain ⟨-, p, hp, hs⟩ := (ways_chain hA hB).2 hc
  refine errC_4 (mem_wayL.2 ⟨p, hp, rfl⟩) fun hok => ?_
  have hm := hok.2.2 (cdP (vertA A) (vertA B) (x, y)) (List.mem_map_of_mem (hs.subset (by simp)))
  unfold cdP at hm
  simp only at hm
  rw [← hxe, ← hye, idx_get (V := vertA A) (rise_setL _) (by omega), idx_get (V := vertA B) (rise_setL _) (by omega)] at hm
  have e : (((vertA A).length - 1 : Nat) : Int) * ((vertA B).length : Int) = ((vertA A).length * (vertA B).length : Nat) - (vertA B).length := by
    rw [Int.natCast_mul, show (((vertA A).length - 1 : Nat) : Int) = ((vertA A).length : Int) - 1 by omega, Int.sub_mul]; omega
  omega
theorem prod_err : errC (wayL A B) = errP A B := by
  unfold errP
  split
  · next h => exact prod_4 hA hB h
  · next h =>
    split
    · next h2 => exact errC_2 (prod_ok hA hB (by omega)) (Or.inr (by rw [allF_growL hA hB]; exact h2))
    · exact errC_congr (wayL_plain hA hB) (growL_plain hA hB) (prod_same hA hB)
/-- the program stops early: a way is too long -/
theorem prod_long {f g : List Int} (hf : f ∈ A) (hg : g ∈ B) (h : 8 < f.length + g.length) : errP A B = if 100 < (vertA A).length * (vertA B).length then 4 else 2 := by
  unfold errP
  split
  · rfl
  · next h1 =>
    split
    · rfl
    · have rf := rise_mem hA hf
      have rg := rise_mem hB hg
      have hf0 : f ≠ [] := allF_ne f (right_rise hA f hf)
      have hg0 : g ≠ [] := allF_ne g (right_rise hB g hg)
      obtain ⟨p, hp⟩ := List.exists_mem_of_ne_nil _ (ways_ne _ (Nat.le_refl _) hf0 hg0)
      have hl := (ways_spec _ (Nat.le_refl _) rf rg hp).2.2.2
      have hm : p ∈ waysP A B := mem_waysP.2 ⟨f, hf, g, hg, hp⟩
      rw [← errC_congr (wayL_plain hA hB) (growL_plain hA hB) (prod_same hA hB)]
      exact errC_2 (prod_ok hA hB (by omega)) (Or.inl ⟨_, mem_wayL.2 ⟨p, hm, rfl⟩, by rw [List.length_map]; omega⟩)
/-- the program stops early: there are too many ways -/
theorem prod_many {K : List (List Int)} (hK : K.Sublist (wayL A B)) (h : 1200 < K.length) : errP A B = if 100 < (vertA A).length * (vertA B).length then 4 else 2 := by
  unfold errP
  have hw : (wayL A B).Nodup := by
    refine List.pairwise_map.2 ((List.Pairwise.and_mem.1 (waysP_nodup hA hB)).imp fun {a b} ⟨ha, hb, hne⟩ e => hne (ch_inj hA hB (way_ch hA hB ha) (way_ch hA hB hb) e))
  have h1 : (wayL A B).length ≤ (growL A B).length := len_le_of_members hw growL_nodup fun l hl => by
    obtain ⟨p, hp, rfl⟩ := mem_wayL.1 hl
    exact (mem_growL hA hB).2 ⟨p, way_ch hA hB hp, rfl⟩
  have h2 := hK.length_le
  split
  · rfl
  · rw [if_pos (by omega)]
end

/-- below block q nothing has changed, and rows of ints are as they were -/
def FrI (q : Nat) (w w' : World) : Prop := Below q w w' ∧ ∀ (k : Nat) (c : Array Value), w.heap[k]? = some (Obj.cells c 3 (0, 0)) → w'.heap[k]? = some (Obj.cells c 3 (0, 0))
theorem FrI.refl (q : Nat) (w : World) : FrI q w w := ⟨Below.refl _ _, fun _ _ h => h⟩
theorem FrI.trans {q : Nat} {w w' w'' : World} (h : FrI q w w') (h' : FrI q w' w'') : FrI q w w'' := ⟨h.1.trans h'.1, fun k c e => h'.2 k c (h.2 k c e)⟩
theorem FrI.of {q : Nat} {w w' : World} (h : Below w.heap.size w w') (hq : q ≤ w.heap.size) : FrI q w w' :=
  ⟨h.mono hq, fun k c e => by rw [h.block k (Array.getElem?_eq_some_iff.1 e).1]; exact e⟩
theorem FrI.grown {q : Nat} {w w' : World} {row : Option Nat} (hg : w.grownBy w' row) (hq : q ≤ w.heap.size) (hr : ∀ k, row = some k → q ≤ k ∧ ∀ c, w.heap[k]? ≠ some (.cells c 3 (0, 0))) : FrI q w w' :=
  ⟨(Below.refl _ _).grown hg hq (fun k e => (hr k e).1), fun k c e => by
    rw [hg.block k (Array.getElem?_eq_some_iff.1 e).1 (fun h => (hr k h.symm).2 c e)]; exact e⟩
theorem FrI.set {q b o : Nat} {w : World} {v : Value} (hq : q ≤ b) (hb : ∀ c, w.heap[b]? ≠ some (.cells c 3 (0, 0))) : FrI q w (w.setCell ⟨b, o, none⟩ v) :=
  ⟨(Below.refl _ _).setCell hq _, fun k c e => by
    rw [Below.heap_setCell _ _ _ k (fun h => by simp at h; subst h; exact hb c e)]; exact e⟩
theorem IntsIn.fr {B q : Nat} {w w' : World} {v : Value} {xs : List Int} (h : IntsIn B w v xs) (hf : FrI q w w') (hB : B ≤ q) : IntsIn B w' v xs := by
  obtain ⟨p, c, hv, hc, hn, hx⟩ := h
  refine ⟨p, c, hv, hc, hn, fun i hi => ?_⟩
  obtain ⟨b, off, e1, e2, e3⟩ := hx i hi
  rcases e3 with hlt | ⟨cs, hcs⟩
  · exact ⟨b, off, e1, by rw [hf.1.cell (Nat.lt_of_lt_of_le hlt hB)]; exact e2, Or.inl hlt⟩
  · have h2 := hf.2 b cs hcs
    exact ⟨b, off, e1, by rw [World.cell?_of_block (h2.trans hcs.symm)]; exact e2, Or.inr ⟨cs, h2⟩⟩
/-- one number out of a row -/
theorem IntsIn.sub1 {B b off n c i : Nat} {w : World} {V : List Int} (h : IntsIn B w (.slice (some ⟨b, off, none⟩) n c) V) (hi : i < V.length) (hc : i < c) : IntsIn B w (.slice (some ⟨b, off + i, none⟩) 1 (c - i)) [V.getD i 0] := by
  obtain ⟨p, c', hv, -, -, hx⟩ := h
  refine ⟨_, c - i, rfl, by simp; omega, (fun e => by cases e), fun j hj => ?_⟩
  obtain rfl : j = 0 := by simpa using hj
  obtain ⟨b', off', e1, e2, e3⟩ := hx i hi
  cases hv
  cases e1
  exact ⟨b, off + i, rfl, by simpa using e2, e3⟩

theorem own_cellq {w : World} {O e n g k : Nat} {v y : Value} {xs : List Value} (h : w.ownsRow O e 1 v n xs) (hg : g < O) : (w.setCell ⟨g, k, none⟩ y).ownsRow O e 1 v n xs :=
  owns_keep h fun q hq => Below.heap_setCell _ _ _ q (fun e => by have := (h.lt q hq).1; simp at e; omega)
/-- the grower's cells -/
def GrC (w : World) (q : Nat) (av bv vv wv o : Value) : Prop := w.heap[q]? = some (.cells #[av, bv, vv, wv, .int .i64 600, o] 114 (0, 0))
theorem GrC.cells {w : World} {q : Nat} {av bv vv wv o : Value} (h : GrC w q av bv vv wv o) : w.cell? ⟨q, 0, none⟩ = some av ∧ w.cell? ⟨q, 1, none⟩ = some bv ∧ w.cell? ⟨q, 2, none⟩ = some vv ∧ w.cell? ⟨q, 3, none⟩ = some wv ∧
    w.cell? ⟨q, 4, none⟩ = some (.int .i64 600) ∧ w.cell? ⟨q, 5, none⟩ = some o ∧ w.frozen? ⟨q, 5, none⟩ = false := by
  unfold GrC at h
  refine ⟨?_, ?_, ?_, ?_, ?_, ?_, ?_⟩ <;> simp [World.cell?, World.frozen?, h]
theorem GrC.lt {w : World} {q : Nat} {av bv vv wv o : Value} (h : GrC w q av bv vv wv o) : q < w.heap.size := (Array.getElem?_eq_some_iff.1 h).1
theorem GrC.below {w w' : World} {q D : Nat} {av bv vv wv o : Value} (h : GrC w q av bv vv wv o) (hb : Below D w w') (hD : w.heap.size ≤ D) : GrC w' q av bv vv wv o := by
  have hlt := h.lt
  unfold GrC
  rw [hb.block q (Nat.lt_of_lt_of_le hlt hD)]; exact h
theorem GrC.grown {w w' : World} {q : Nat} {av bv vv wv o : Value} {row : Option Nat} (h : GrC w q av bv vv wv o) (hg : w.grownBy w' row) (hr : row ≠ some q) : GrC w' q av bv vv wv o := by
  have hlt := h.lt
  unfold GrC
  rw [hg.block q hlt (fun e => hr e.symm)]; exact h
theorem GrC.set {w : World} {q : Nat} {av bv vv wv o : Value} (h : GrC w q av bv vv wv o) (y : Value) : GrC (w.setCell ⟨q, 5, none⟩ y) q av bv vv wv y := by
  have h1 := set_block (k := 5) (v := y) h
  exact h1
theorem GrC.noint {w : World} {q : Nat} {av bv vv wv o : Value} (h : GrC w q av bv vv wv o) (c : Array Value) : w.heap[q]? ≠ some (.cells c 3 (0, 0)) := fun e => by
  unfold GrC at h
  rw [h] at e
  cases e
theorem GrC.norow {w : World} {q O n : Nat} {av bv vv wv o v : Value} {hs : List Value} (h : GrC w q av bv vv wv o) (ho : w.ownsRow O 26 1 v n hs) : v.ownBlock ≠ some q := fun e => by
  rcases ho.2 with ⟨rfl, _⟩ | ⟨g, cap, cur, rfl, hb, hgg, -⟩
  · cases e
  · cases e
    unfold GrC at h
    rw [h] at hgg
    cases hgg
/-- the grower: what is out so far -/
def GrS (w : World) (q O B : Nat) (av bv vv wv : Value) (L : List (List Int)) : Prop := ∃ p c, GrC w q av bv vv wv (.slice p L.length c) ∧ RowsO O B w (.slice p L.length c) L

theorem take_app_take {α : Type} (m : Nat) (A B : List α) : ((A.take m) ++ B).take m = (A ++ B).take m := by
  rw [List.take_append, List.take_append, List.take_take, Nat.min_self, List.length_take]
  congr 2
  omega

/-- what growing leaves -/
def GrP (q O B : Nat) (av bv vv wv : Value) (M : List (List Int)) (w : World) (e : Ending) (w' : World) : Prop := e = .returned (.tuple #[]) ∧ FrI q w w' ∧ GrS w' q O B av bv vv wv M
def partK (P Q : List (List Int)) (V W : List Int) (d : Nat) (s : List Int) (x y : Nat) (f g : List Int) (i k : Nat) : List (List Int) := (List.range' y (k - y)).flatMap fun k => groK P Q V W d s x y f g i k
def partI (P Q : List (List Int)) (V W : List Int) (d : Nat) (s : List Int) (x y : Nat) (f g : List Int) (i : Nat) : List (List Int) := (List.range' x (i - x)).flatMap fun i => partK P Q V W d s x y f g i W.length
theorem range_snoc {x i : Nat} (h : x ≤ i) : List.range' x (i + 1 - x) = List.range' x (i - x) ++ [i] := by
  rw [show i + 1 - x = (i - x) + 1 by omega, List.range'_1_concat, show x + (i - x) = i by omega]
theorem partK_step {P Q : List (List Int)} {V W : List Int} {d : Nat} {s : List Int} {x y : Nat} {f g : List Int} {i k : Nat} (h : y ≤ k) : partK P Q V W d s x y f g i (k + 1) = partK P Q V W d s x y f g i k ++ groK P Q V W d s x y f g i k := by
  unfold partK
  rw [range_snoc h, List.flatMap_append, List.flatMap_singleton]
theorem partI_step {P Q : List (List Int)} {V W : List Int} {d : Nat} {s : List Int} {x y : Nat} {f g : List Int} {i : Nat} (h : x ≤ i) : partI P Q V W d s x y f g (i + 1) = partI P Q V W d s x y f g i ++ partK P Q V W d s x y f g i W.length := by
  unfold partI
  rw [range_snoc h, List.flatMap_append, List.flatMap_singleton]
theorem gro_parts {P Q : List (List Int)} {V W : List Int} {d : Nat} {s : List Int} {x y : Nat} {f g : List Int} : gro P Q V W (d + 1) s x y f g = (if s = [] then [] else [s]) ++ partI P Q V W d s x y f g V.length := rfl
theorem range_none {α : Type} {x : Nat} (F : Nat → List α) : (List.range' x (x - x)).flatMap F = [] := by rw [Nat.sub_self]; rfl
theorem take_grow {α : Type} {L A : List α} (h : L.length = 601) : (L ++ A).take 601 = L := by rw [← h]; exact List.take_left
theorem tog1_len (f : List Int) (x : Int) : (togF f [x]).length ≤ f.length + 1 := by
  have := tog_len f [x]
  simpa using this

/-- one set more is out -/
theorem grow_push {q O B l c g2 c2 : Nat} {w w9 : World} {p : Option Addr} {L : List (List Int)} {hs : List Value} {s : List Int} {sv av bv vv wv : Value} (hB : B ≤ q) (hq : q < O) (hO : O ≤ w.heap.size)
    (hG : GrC w q av bv vv wv (.slice p l c)) (hl : L.length = l) (h1 : w.ownsRow O 26 1 (.slice p l c) l hs) (h2 : hs.length = l) (h3 : ∀ i, i < l → IntsIn B w (hs.getD i .nilIface) (L.getD i [])) (hsv : IntsIn B w sv s)
    (ho : w9.ownsRow O 26 1 (.slice (some ⟨g2, 0, none⟩) (l + 1) c2) (l + 1) (hs ++ [sv])) (hg : (w.alloc (.cells #[sv] 26)).grownBy w9 (Value.slice p l c).ownBlock) :
    GrC w9 q av bv vv wv (.slice p l c) ∧ FrI q w (w9.setCell ⟨q, 5, none⟩ (.slice (some ⟨g2, 0, none⟩) (l + 1) c2)) ∧ GrS (w9.setCell ⟨q, 5, none⟩ (.slice (some ⟨g2, 0, none⟩) (l + 1) c2)) q O B av bv vv wv (L ++ [s]) := by
  subst hl
  have hba : Below w.heap.size w (w.alloc (.cells #[sv] 26)) := (Below.refl _ _).alloc (Nat.le_refl _) _
  have hGa := hG.below hba (Nat.le_refl _)
  have h1a := h1.alloc (.cells #[sv] 26)
  have hG9 := hGa.grown hg (hGa.norow h1a)
  have hr := row_other h1a (Nat.le_trans hB (Nat.le_of_lt hq))
  have hfa : FrI q w (w.alloc (.cells #[sv] 26)) := FrI.of hba (by omega)
  have hf9 : FrI q (w.alloc (.cells #[sv] 26)) w9 := FrI.grown hg (by simp; omega) (fun k e => ⟨by have := (h1a.lt k e).1; omega, (hr k e).2⟩)
  have hfs : FrI q w9 (w9.setCell ⟨q, 5, none⟩ (.slice (some ⟨g2, 0, none⟩) (L.length + 1) c2)) := FrI.set (Nat.le_refl _) hG9.noint
  have hR9 : RowsO O B w9 (.slice (some ⟨g2, 0, none⟩) (L.length + 1) c2) (L ++ [s]) :=
    rowsO_push (w := w.alloc (.cells #[sv] 26)) (hs := hs) (by omega) h1a h2 (fun i hi => (h3 i hi).below hba (Nat.le_refl _)) (hsv.below hba (Nat.le_refl _)) ho hg
  refine ⟨hG9, (hfa.trans hf9).trans hfs, some ⟨g2, 0, none⟩, c2, ?_, ?_⟩
  · rw [List.length_append, List.length_singleton]; exact hG9.set _
  · rw [List.length_append, List.length_singleton]
    obtain ⟨hs', k1, k2, k3⟩ := hR9
    exact ⟨hs', own_cellq k1 hq, k2, fun i hi => (k3 i hi).fr hfs hB⟩
theorem GrS.below {w w' : World} {q O B D : Nat} {av bv vv wv : Value} {L : List (List Int)} (h : GrS w q O B av bv vv wv L) (hb : Below D w w') (hD : w.heap.size ≤ D) : GrS w' q O B av bv vv wv L := by
  obtain ⟨p, c, h1, h2⟩ := h
  exact ⟨p, c, h1.below hb hD, h2.below hb hD⟩

set_option maxRecDepth 100000 in
set_option maxHeartbeats 32000000 in
theorem grow_any (B q n m cV cW bV oV bW oW : Nat) (pv pw : Option Addr) (P Q : List (List Int)) (V W : List Int) (av bv : Value) (w0 : World) (hB : B ≤ q) (hVn : V.length = n) (hWm : W.length = m) (hn : n ≤ 40) (hm : m ≤ 40) (hcV : n ≤ cV) (hcW : m ≤ cW)
    (hpv : 0 < n → pv = some ⟨bV, oV, none⟩) (hpw : 0 < m → pw = some ⟨bW, oW, none⟩) (hP : P.length ≤ 1000) (hP7 : ∀ l ∈ P, l.length ≤ 1000) (hQ : Q.length ≤ 1000) (hQ7 : ∀ l ∈ Q, l.length ≤ 1000)
    (ha : ∀ w, Below q w0 w → ListsIn B w av P) (hb : ∀ w, Below q w0 w → ListsIn B w bv Q) (hv : ∀ w, Below q w0 w → IntsIn B w (.slice pv n cV) V) (hw : ∀ w, Below q w0 w → IntsIn B w (.slice pw m cW) W) :
    ∀ (d : Nat) (s : List Int) (x y : Nat) (f g : List Int) (L : List (List Int)) (sv fv gv : Value) (w : World), Below q w0 w → q < w.heap.size → GrS w q (q + 1) B av bv (.slice pv n cV) (.slice pw m cW) L →
      IntsIn B w sv s → IntsIn B w fv f → IntsIn B w gv g → L.length ≤ 601 → s.length + d ≤ 200 → f.length + d ≤ 200 → g.length + d ≤ 200 → x ≤ n → y ≤ m → (s = [] → n + m + 1 ≤ d) → (s ≠ [] → n + m ≤ d + x + y ∧ x < n ∧ y < m) →
      Calls Tryz.prog 85 #[.pointer (some ⟨q, 0, none⟩), sv, .int .i64 x, .int .i64 y, fv, gv] w (GrP q (q + 1) B av bv (.slice pv n cV) (.slice pw m cW) ((L ++ gro P Q V W d s x y f g).take 601) w) := by
  obtain ⟨i3, hi3, hy0, hy1, hy2⟩ := info_parts Tryz.info3
  obtain ⟨i39, hi39, hz0, hz1, hz2⟩ := info_parts Tryz.info26
  have HVN := Lib.hid hVn
  have HWM := Lib.hid hWm
  have HPV := Lib.hid hpv
  have HPW := Lib.hid hpw
  have HPL := Lib.hid hP
  have HP7 := Lib.hid hP7
  have HQL := Lib.hid hQ
  have HQ7 := Lib.hid hQ7
  have HA := Lib.hid ha
  have HBV := Lib.hid hb
  have HV := Lib.hid hv
  have HW := Lib.hid hw
  clear hVn hWm hpv hpw hP hP7 hQ hQ7 ha hb hv hw
  intro d
  induction d with
  | zero =>
    intro s x y f g L sv fv gv w _ _ _ _ _ _ _ _ _ _ _ _ h0 h1
    exfalso
    by_cases hs : s = []
    · have := h0 hs; omega
    · have := h1 hs; omega
  | succ d ih =>
    intro s x y f g L sv fv gv w hbw hqw hgs hsv hfv hgv hL hsd hfd hgd hx hy h0 h1
    have IH := Lib.hid ih
    have HS0 := Lib.hid h0
    have HS1 := Lib.hid h1
    obtain ⟨ps, cs, hse⟩ := hsv.len
    obtain ⟨k, hk⟩ : ∃ k, s.length = k := ⟨_, rfl⟩
    rw [hk] at hse hsd
    subst hse
    have HK := Lib.hid hk
    have HBW := Lib.hid hbw
    have HSV := Lib.hid hsv
    have HFV := Lib.hid hfv
    have HGV := Lib.hid hgv
    have HFD := Lib.hid hfd
    have HGD := Lib.hid hgd
    obtain ⟨po, co, hG, hR⟩ := hgs
    obtain ⟨l, hl⟩ : ∃ l, L.length = l := ⟨_, rfl⟩
    rw [hl] at hG hR hL
    have HLL := Lib.hid hl
    have HG := Lib.hid hG
    have HR := Lib.hid hR
    obtain ⟨e0, e1, e2, e3, e4, e5, e6⟩ := hG.cells
    clear ih h0 h1 hk hbw hsv hfv hgv hfd hgd hl hG hR
    unfold GrP
    by_cases h6 : l = 601
    · have HT : Hid ((L ++ gro P Q V W (d + 1) s x y f g).take 601 = L) := take_grow (by rw [HLL.out]; exact h6)
      rw [HT.out]
      have q1 : decide ((600 : Int) < (l : Int)) = true := decide_eq_true (by omega)
      have q2 : decide (600 < l) = true := decide_eq_true (by omega)
      clear h6
      go_enter Tryz.func85, Tryz.ntmps85
      go_wp2_with fail
      go_quiet (fail)
      go_wp2_with fail
      refine bodyPost_ret (results_none rfl _ _ _) rfl ?_
      exact ⟨rfl, FrI.of (Below.drewN _ _) (Nat.le_of_lt hqw), po, co, by rw [HLL.out]; exact HG.out, by rw [HLL.out]; exact HR.out⟩
    have hl6 : l ≤ 600 := by omega
    have q1 : decide ((600 : Int) < (l : Int)) = false := decide_eq_false (by omega)
    have q2 : decide (600 < l) = false := decide_eq_false (by omega)
    go_enter Tryz.func85, Tryz.ntmps85
    go_wp2_with fail
    go_quiet (fail)
    have hbd : Below w.heap.size w (w.drewN nq) := Below.drewN _ _
    generalize w.drewN nq = wd at hbd ⊢
    have HBD := Lib.hid hbd
    have HGD1 := Lib.hid (HG.out.below hbd (Nat.le_refl _))
    have HRD1 := Lib.hid (HR.out.below hbd (Nat.le_refl _))
    have hqd : q < wd.heap.size := HGD1.out.lt
    have HSD := Lib.hid (HSV.out.below hbd (Nat.le_refl _))
    clear hbd e0 e1 e2 e3 e4 e5 e6
    obtain ⟨e0, e1, e2, e3, e4, e5, e6⟩ := HGD1.out.cells
    obtain ⟨L1, hL1⟩ : ∃ L1, L ++ (if s = [] then [] else [s]) = L1 := ⟨_, rfl⟩
    have HL1 := Lib.hid hL1
    have HL1n : Hid (L1.length ≤ 601) := by
      unfold Hid
      rw [← hL1, List.length_append, HLL.out]
      split
      · simp; omega
      · simp; omega
    clear hL1
    go_upto_if 29 with fail
    go_cut [37] (fun s37 wx => FrI q w wx ∧ GrS wx q (q + 1) B av bv (.slice pv n cV) (.slice pw m cW) L1)
    case first =>
      by_cases hk0 : k = 0
      · have HE : Hid (L1 = L) := by unfold Hid; rw [← HL1.out, if_pos (List.length_eq_zero_iff.1 (HK.out.trans hk0)), List.append_nil]
        obtain rfl : k = 0 := hk0
        go_wp2_with fail
        go_meet
        exact ⟨FrI.of HBD.out (Nat.le_of_lt hqw), by rw [HE.out]; exact ⟨po, co, by rw [HLL.out]; exact HGD1.out, by rw [HLL.out]; exact HRD1.out⟩⟩
      · have j1 : decide ((0 : Int) < (k : Int)) = true := decide_eq_true (by omega)
        have j2 : decide (0 < k) = true := decide_eq_true (by omega)
        have hkp : 0 < k := by omega
        have HE : Hid (L1 = L ++ [s]) := by unfold Hid; rw [← HL1.out, if_neg (fun e => hk0 (by rw [← HK.out, e]; rfl))]
        obtain ⟨hs, h1, h2, h3⟩ := HRD1.out
        rw [HLL.out] at h1 h2 h3
        have H1 := Lib.hid h1
        have H2 := Lib.hid h2
        have H3 := Lib.hid h3
        clear hk0 h1 h2 h3
        go_wp2_with (at_builtin; refine wpList_append_lies _ rfl (.tmp 34) (.tmp 36) 22 rfl (q + 1) 26 i39 (.slice none 0 0) 1 24 Tryz.underlying22 hi39 hz0 hz1 hz2 rfl (by decide) _ l hs rfl (H1.out.alloc _) ⟨wd.heap.size, 0, none⟩ 1 1 [.slice ps k cs] rfl rfl (World.news_of_block (cs := #[.slice ps k cs]) (t := 26) (fr := (0, 0)) (heap_alloc_new wd _)) (by simp [Value.oneCell']) (by decide) (by unfold maxLen; omega) (by omega) (by simp; omega) (wd.heap.size + 1) (by simp) ?_; intro g2 c2 w9 hown2 hgr2 hat2 hlt2; have HO2 := Lib.hid hown2; have HG2 := Lib.hid hgr2; clear hown2 hgr2 hat2 hlt2; obtain ⟨y1, y2, y3⟩ := grow_push hB (Nat.lt_succ_self q) (by omega) HGD1.out HLL.out H1.out H2.out H3.out HSD.out HO2.out HG2.out; have Y1 := Lib.hid y1; have Y2 := Lib.hid y2; have Y3 := Lib.hid y3; clear y1 y2 y3; obtain ⟨d0, d1, d2, d3, d4, d5, d6⟩ := Y1.out.cells)
        go_meet
        exact ⟨(FrI.of HBD.out (Nat.le_of_lt hqw)).trans Y2.out, by rw [HE.out]; exact Y3.out⟩
    case rest =>
    obtain ⟨hf1, hs1⟩ := hcut
    obtain ⟨w1, rfl⟩ : ∃ w1, w1 = wc := ⟨_, rfl⟩
    have HF1 := Lib.hid hf1
    have HS1' := Lib.hid hs1
    clear hf1 hs1 e0 e1 e2 e3 e4 e5 e6
    go_wp2_with fail
    go_loopw [12] (fun i wr => ∃ ii : Nat, x ≤ ii ∧ ii ≤ n ∧ i = .int .i64 ii ∧ FrI q w wr ∧ GrS wr q (q + 1) B av bv (.slice pv n cV) (.slice pw m cW) ((L1 ++ partI P Q V W d s x y f g ii).take 601)) (fun i _ => n - (intOf i).toNat)
    case atStart => exact ⟨x, Nat.le_refl _, hx, rfl, HF1.out, by unfold partI; rw [range_none, List.append_nil, List.take_of_length_le HL1n.out]; exact HS1'.out⟩
    case round =>
    obtain ⟨ii, hxi, hin, rfl, hfr, hgs⟩ := hrel
    obtain ⟨M, hM⟩ : ∃ M, (L1 ++ partI P Q V W d s x y f g ii).take 601 = M := ⟨_, rfl⟩
    rw [hM] at hgs
    have HM6 : Hid (M.take 601 = M) := List.take_of_length_le (by rw [← hM, List.length_take]; omega)
    have HM := Lib.hid hM
    have HFR := Lib.hid hfr
    have HGS := Lib.hid hgs
    obtain ⟨pr, cr, hGr, -⟩ := hgs
    obtain ⟨e0, e1, e2, e3, e4, e5, e6⟩ := hGr.cells
    clear hM hfr hGr
    by_cases hlt : ii < n
    · go_wp2_with fail
      obtain ⟨wo, rfl⟩ : ∃ wo, wo = wr := ⟨_, rfl⟩
      clear e0 e1 e2 e3 e4 e5 e6
      go_loopw [13] (fun k wr => ∃ kk : Nat, y ≤ kk ∧ kk ≤ m ∧ k = .int .i64 kk ∧ FrI q w wr ∧ GrS wr q (q + 1) B av bv (.slice pv n cV) (.slice pw m cW) ((M ++ partK P Q V W d s x y f g ii kk).take 601)) (fun k _ => m - (intOf k).toNat)
      case atStart => exact ⟨y, Nat.le_refl _, hy, rfl, HFR.out, by unfold partK; rw [range_none, List.append_nil, HM6.out]; exact HGS.out⟩
      case round =>
      obtain ⟨kk, hyk, hkm, rfl, hfr, hgs⟩ := hrel
      obtain ⟨M2, hM2⟩ : ∃ M2, (M ++ partK P Q V W d s x y f g ii kk).take 601 = M2 := ⟨_, rfl⟩
      rw [hM2] at hgs
      have HM26 : Hid (M2.take 601 = M2) := List.take_of_length_le (by rw [← hM2, List.length_take]; omega)
      have HM2 := Lib.hid hM2
      have HFQ := Lib.hid hfr
      have HGQ := Lib.hid hgs
      obtain ⟨pr, cr, hGr, -⟩ := hgs
      obtain ⟨e0, e1, e2, e3, e4, e5, e6⟩ := hGr.cells
      clear hM2 hfr hGr
      have HSTP : Hid (∀ M3, (M2 ++ groK P Q V W d s x y f g ii kk).take 601 = M3 → (M ++ partK P Q V W d s x y f g ii (kk + 1)).take 601 = M3) := fun M3 h => by
        rw [partK_step hyk, ← List.append_assoc, ← take_app_take, HM2.out]; exact h
      by_cases hltk : kk < m
      · by_cases hsk : k ≠ 0 ∧ ii = x ∧ kk = y
        · obtain ⟨hk0, hix, hky⟩ := hsk
          have HNIL : Hid (groK P Q V W d s x y f g ii kk = []) := by
            unfold Hid groK
            exact if_pos ⟨fun e => hk0 (by rw [← HK.out, e]; rfl), hix, hky⟩
          have j1 : decide ((0 : Int) < (k : Int)) = true := decide_eq_true (by omega)
          have j2 : decide (0 < k) = true := decide_eq_true (by omega)
          have j3 : ((ii : Int) == (x : Int)) = true := beq_iff_eq.2 (by omega)
          have j4 : (ii == x) = true := beq_iff_eq.2 hix
          have j5 : ((kk : Int) == (y : Int)) = true := beq_iff_eq.2 (by omega)
          have j6 : (kk == y) = true := beq_iff_eq.2 hky
          have HN3 := Lib.hid (HSTP.out M2 (by rw [HNIL.out, List.append_nil]; exact HM26.out))
          clear hk0 hix hky
          go_wp2_with fail
          go_roundw
          case rel => exact ⟨kk + 1, by omega, by omega, by go_num, HFQ.out, by rw [HN3.out]; exact HGQ.out⟩
          case measure => simp [intOf]; omega
        · have hw3 : k = 0 ∨ (k ≠ 0 ∧ ii ≠ x) ∨ (k ≠ 0 ∧ ii = x ∧ kk ≠ y) := by omega
          have HNS : Hid (¬ (s ≠ [] ∧ ii = x ∧ kk = y)) := fun ⟨h1, h2, h3⟩ => hsk ⟨fun e => h1 (List.length_eq_zero_iff.1 (HK.out.trans e)), h2, h3⟩
          have HMSR : Hid (s ++ [cdN m (ii, kk)] ≠ [] → n + m ≤ d + ii + kk ∧ ii < n ∧ kk < m) := fun _ => by
            refine ⟨?_, hlt, hltk⟩
            by_cases hse : s = []
            · have := HS0.out hse; omega
            · have h5 := (HS1.out hse).1
              have : ii ≠ x ∨ kk ≠ y := by
                by_cases h6 : ii = x
                · exact Or.inr fun h7 => HNS.out ⟨hse, h6, h7⟩
                · exact Or.inl h6
              omega
          obtain rfl := HPV.out (by omega)
          obtain rfl := HPW.out (by omega)
          have HWR := Lib.hid (HBW.out.trans HFQ.out.1)
          have hqr : q < wr.heap.size := by
            obtain ⟨_, _, h5, -⟩ := HGQ.out
            exact h5.lt
          obtain ⟨xv, hxv⟩ : ∃ xv, V.getD ii 0 = xv := ⟨_, rfl⟩
          obtain ⟨yv, hyv⟩ : ∃ yv, W.getD kk 0 = yv := ⟨_, rfl⟩
          have hX1 := (HV.out wr HWR.out).sub1 (i := ii) (by rw [HVN.out]; exact hlt) (by omega)
          rw [hxv] at hX1
          have hG0 : groK P Q V W d s x y f g ii kk = if togF f [xv] ∈ P ∧ togF g [yv] ∈ Q then gro P Q V W d (s ++ [cdN m (ii, kk)]) ii kk (togF f [xv]) (togF g [yv]) else [] := by
            unfold groK
            rw [if_neg HNS.out, hxv, hyv, HWM.out]
          have HYV := Lib.hid hyv
          have HG0 := Lib.hid hG0
          have hfl : f.length ≤ 200 := by have := HFD.out; omega
          have hgl : g.length ≤ 200 := by have := HGD.out; omega
          have HTG := Lib.hid (together_any B f [xv] fv _ wr (HFV.out.fr HFQ.out hB).at hX1.at (by omega) (by simp))
          have hk1 := tog1_len f xv
          have hk2 := tog1_len g yv
          obtain ⟨f1, hf1⟩ : ∃ f1, togF f [xv] = f1 := ⟨_, rfl⟩
          obtain ⟨g1, hg1⟩ : ∃ g1, togF g [yv] = g1 := ⟨_, rfl⟩
          rw [hf1] at HTG HG0 hk1
          rw [hg1] at HG0 hk2
          have HGG := Lib.hid hg1
          obtain ⟨n1, hn1⟩ : ∃ n1, f1.length = n1 := ⟨_, rfl⟩
          obtain ⟨n2, hn2⟩ : ∃ n2, g1.length = n2 := ⟨_, rfl⟩
          rw [hn1] at hk1
          rw [hn2] at hk2
          have HN1 := Lib.hid hn1
          have HN2 := Lib.hid hn2
          unfold NumsP at HTG
          rw [hn1] at HTG
          have hmul : (ii : Int) * (m : Int) ≤ 40 * 40 := Int.mul_le_mul (by omega) (by omega) (by omega) (by omega)
          have hmul0 : 0 ≤ (ii : Int) * (m : Int) := Int.mul_nonneg (by omega) (by omega)
          clear hxv hyv hX1 hG0 hf1 hg1 hn1 hn2 hsk
          have hwr : 601 ≤ 601 := Nat.le_refl _
          rcases hw3 with h | h | h
          case' inl =>
            have j1 : decide ((0 : Int) < (k : Int)) = false := decide_eq_false (by omega)
            have j2 : decide (0 < k) = false := decide_eq_false (by omega)
            clear h
            go_upto_region 10 with fail
          case' inr.inl =>
            have j1 : decide ((0 : Int) < (k : Int)) = true := decide_eq_true (by omega)
            have j2 : decide (0 < k) = true := decide_eq_true (by omega)
            have j3 : ((ii : Int) == (x : Int)) = false := beq_eq_false_iff_ne.2 (by omega)
            have j4 : (ii == x) = false := beq_eq_false_iff_ne.2 h.2
            clear h
            go_upto_region 10 with fail
          case' inr.inr =>
            have j1 : decide ((0 : Int) < (k : Int)) = true := decide_eq_true (by omega)
            have j2 : decide (0 < k) = true := decide_eq_true (by omega)
            have j3 : ((ii : Int) == (x : Int)) = true := beq_iff_eq.2 (by omega)
            have j4 : (ii == x) = true := beq_iff_eq.2 h.2.1
            have j5 : ((kk : Int) == (y : Int)) = false := beq_eq_false_iff_ne.2 (by omega)
            have j6 : (kk == y) = false := beq_eq_false_iff_ne.2 h.2.2
            clear h
            go_upto_region 10 with fail
          all_goals
            go_wp2_with fail
            refine HTG.out.mono ?_
            rintro e w2 ⟨p2, c2, rfl, hb2, hi2⟩
            have HF2 := Lib.hid (HFQ.out.trans (FrI.of hb2 (Nat.le_of_lt hqr)))
            have HGS2 := Lib.hid (HGQ.out.below hb2 (Nat.le_refl _))
            have HI2 := Lib.hid hi2
            have hqs2 : q < w2.heap.size := Nat.lt_of_lt_of_le hqr hb2.size
            have hY1 := (HW.out w2 (HBW.out.trans HF2.out.1)).sub1 (i := kk) (by rw [HWM.out]; exact hltk) (by omega)
            rw [HYV.out] at hY1
            have HTH := Lib.hid (together_any B g [yv] gv _ w2 (HGV.out.fr HF2.out hB).at hY1.at (by omega) (by simp))
            rw [HGG.out] at HTH
            unfold NumsP at HTH
            rw [HN2.out] at HTH
            clear e0 e1 e2 e3 e4 e5 e6 hb2 hi2 hY1
            obtain ⟨pr2, cr2, hGr2, -⟩ := id HGS2.out
            obtain ⟨e0, e1, e2, e3, e4, e5, e6⟩ := hGr2.cells
            clear hGr2
            go_wp2_with fail
            refine HTH.out.mono ?_
            rintro e w3 ⟨p3, c3, rfl, hb3, hi3'⟩
            have HF3 := Lib.hid (HF2.out.trans (FrI.of hb3 (Nat.le_of_lt hqs2)))
            have HGS3 := Lib.hid (HGS2.out.below hb3 (Nat.le_refl _))
            have HI3 := Lib.hid (HI2.out.below hb3 (Nat.le_refl _))
            have HJ3 := Lib.hid hi3'
            have hqs3 : q < w3.heap.size := Nat.lt_of_lt_of_le hqs2 hb3.size
            have HIX := Lib.hid (indexOf_any B P f1 av (.slice p2 n1 c2) w3 (HA.out w3 (HBW.out.trans HF3.out.1)) HI3.out.at (Nat.le_trans HPL.out (by decide)) (fun l h => Nat.le_trans (HP7.out l h) (by decide)) (by rw [HN1.out]; omega))
            unfold IdxPost at HIX
            clear e0 e1 e2 e3 e4 e5 e6 hb3 hi3'
            obtain ⟨pr3, cr3, hGr3, -⟩ := id HGS3.out
            obtain ⟨e0, e1, e2, e3, e4, e5, e6⟩ := hGr3.cells
            clear hGr3
            go_wp2_with fail
            refine HIX.out.mono ?_
            rintro e w4 ⟨r, rfl, ⟨ni, hwi⟩, hiff, hlo⟩
            have hb4 : Below w3.heap.size w3 w4 := by rw [hwi]; exact Below.drewN w3 ni
            have HF4 := Lib.hid (HF3.out.trans (FrI.of hb4 (Nat.le_of_lt hqs3)))
            have HGS4 := Lib.hid (HGS3.out.below hb4 (Nat.le_refl _))
            have HI4 := Lib.hid (HI3.out.below hb4 (Nat.le_refl _))
            have HJ4 := Lib.hid (HJ3.out.below hb4 (Nat.le_refl _))
            have hqs4 : q < w4.heap.size := Nat.lt_of_lt_of_le hqs3 hb4.size
            have HIFF := Lib.hid hiff
            clear e0 e1 e2 e3 e4 e5 e6 hb4 hwi hiff hlo HIX
            obtain ⟨pr4, cr4, hGr4, -⟩ := id HGS4.out
            obtain ⟨e0, e1, e2, e3, e4, e5, e6⟩ := hGr4.cells
            clear hGr4
            by_cases hr : 0 ≤ r
            · have HIN1 := Lib.hid (HIFF.out.1 hr)
              have HIX := Lib.hid (indexOf_any B Q g1 bv (.slice p3 n2 c3) w4 (HBV.out w4 (HBW.out.trans HF4.out.1)) HJ4.out.at (Nat.le_trans HQL.out (by decide)) (fun l h => Nat.le_trans (HQ7.out l h) (by decide)) (by rw [HN2.out]; omega))
              unfold IdxPost at HIX
              go_wp2_with fail
              refine HIX.out.mono ?_
              rintro e w5 ⟨r2, rfl, ⟨ni, hwi⟩, hiff, hlo⟩
              have hb5 : Below w4.heap.size w4 w5 := by rw [hwi]; exact Below.drewN w4 ni
              have HF5 := Lib.hid (HF4.out.trans (FrI.of hb5 (Nat.le_of_lt hqs4)))
              have HGS5 := Lib.hid (HGS4.out.below hb5 (Nat.le_refl _))
              have HI5 := Lib.hid (HI4.out.below hb5 (Nat.le_refl _))
              have HJ5 := Lib.hid (HJ4.out.below hb5 (Nat.le_refl _))
              have hqs5 : q < w5.heap.size := Nat.lt_of_lt_of_le hqs4 hb5.size
              have HIFF2 := Lib.hid hiff
              clear e0 e1 e2 e3 e4 e5 e6 hb5 hwi hiff hlo HIX
              obtain ⟨pr5, cr5, hGr5, -⟩ := id HGS5.out
              obtain ⟨e0, e1, e2, e3, e4, e5, e6⟩ := hGr5.cells
              have hGr5' := Lib.hid hGr5
              clear hGr5
              by_cases hr2 : 0 ≤ r2
              · have HIN2 := Lib.hid (HIFF2.out.1 hr2)
                have HSV5 := Lib.hid (HSV.out.fr HF5.out hB)
                go_upto_region 15 with (at_builtin; refine wpList_app_any w5 rfl (.tmp 109) (.tmp 110) 26 rfl w5.heap.size 3 i3 (.int .i64 0) 8 Tryz.underlying26 hi3 hy0 hy1 hy2 rfl (.slice none 0 0) 0 [] rfl (World.ownsRow_nil _ _ _ _) ps k cs (intVs s) rfl (HSV5.out.at.lenE.trans rfl) HSV5.out.at.noneE HSV5.out.at.news (intVs_one _) (by unfold maxLen; omega) (by omega) (Nat.le_refl _) _ rfl ?_; intro p6 c6 w6 ho6 hg6 hat6; have HO6 := Lib.hid ho6; have HB6 := Lib.hid (below_none (w := w5) (w' := w6) hg6); clear ho6 hg6 hat6)
                have ho6 := HO6.out
                simp only [Nat.zero_add, List.nil_append] at ho6
                have HO6' := Lib.hid ho6
                have hs6 := HB6.out.size
                have HG6 := Lib.hid (hGr5'.out.below HB6.out (Nat.le_refl _))
                clear ho6 HO6 e0 e1 e2 e3 e4 e5 e6
                obtain ⟨e0, e1, e2, e3, e4, e5, e6⟩ := HG6.out.cells
                go_upto_region 16 with (at_builtin; refine wpList_append_lies _ rfl (.tmp 112) (.tmp 122) 26 rfl w5.heap.size 3 i3 (.int .i64 0) 1 8 Tryz.underlying26 hi3 hy0 hy1 hy2 rfl (by decide) _ k (intVs s) rfl (HO6'.out.alloc _) ⟨w6.heap.size, 0, none⟩ 1 1 [.int .i64 ((ii : Int) * (m : Int) + (kk : Int))] rfl rfl (World.news_of_block (cs := #[.int .i64 ((ii : Int) * (m : Int) + (kk : Int))]) (t := 3) (fr := (0, 0)) (heap_alloc_new w6 _)) (by simp [Value.oneCell']) (by decide) (by unfold maxLen; omega) (by omega) (by simp; omega) (w6.heap.size + 1) (by simp) ?_; intro g7 c7 w7 hown7 hgr7 hat7 hlt7; have HO7 := Lib.hid hown7; have HG7 := Lib.hid hgr7; clear hown7 hgr7 hat7 hlt7)
                have hb7 : Below w5.heap.size w5 w7 := (HB6.out.alloc hs6 _).grown HG7.out (by simp; omega) (fun i hi => (HO6'.out.lt i hi).1)
                have HF7 := Lib.hid (HF5.out.trans (FrI.of hb7 (Nat.le_of_lt hqs5)))
                have HGS7 := Lib.hid (HGS5.out.below hb7 (Nat.le_refl _))
                have HI7 : Hid (IntsIn B w7 (.slice (some ⟨g7, 0, none⟩) (k + 1) c7) (s ++ [cdN m (ii, kk)])) := by
                  have h := HO7.out
                  rw [show [Value.int .i64 ((ii : Int) * (m : Int) + (kk : Int))] = intVs [cdN m (ii, kk)] from rfl, show intVs s ++ intVs [cdN m (ii, kk)] = intVs (s ++ [cdN m (ii, kk)]) by simp [intVs]] at h
                  exact ints_owned (B := B) h (by rw [List.length_append, HK.out]; rfl)
                have hqs7 : q < w7.heap.size := Nat.lt_of_lt_of_le hqs5 hb7.size
                have HGW := Lib.hid (IH.out (s ++ [cdN m (ii, kk)]) ii kk f1 g1 M2 (.slice (some ⟨g7, 0, none⟩) (k + 1) c7) (.slice p2 n1 c2) (.slice p3 n2 c3) w7 (HBW.out.trans HF7.out.1) hqs7 HGS7.out HI7.out (HI5.out.below hb7 (Nat.le_refl _)) (HJ5.out.below hb7 (Nat.le_refl _)) (by rw [← HM2.out, List.length_take]; omega) (by rw [List.length_append, HK.out, List.length_singleton]; omega) (by rw [HN1.out]; have := HFD.out; omega) (by rw [HN2.out]; have := HGD.out; omega) (by omega) (by omega) (fun e => absurd e (by simp)) HMSR.out)
                unfold GrP at HGW
                have HN3 := Lib.hid (HSTP.out ((M2 ++ gro P Q V W d (s ++ [cdN m (ii, kk)]) ii kk f1 g1).take 601) (by rw [HG0.out, if_pos ⟨HIN1.out, HIN2.out⟩]))
                obtain ⟨M4, hM4⟩ : ∃ M4, (M2 ++ gro P Q V W d (s ++ [cdN m (ii, kk)]) ii kk f1 g1).take 601 = M4 := ⟨_, rfl⟩
                rw [hM4] at HGW HN3
                clear hb7 hM4 e0 e1 e2 e3 e4 e5 e6
                go_wp2_with fail
                refine HGW.out.mono ?_
                rintro e w8 ⟨rfl, hf8, hs8⟩
                have HF8 := Lib.hid (HF7.out.trans hf8)
                have HGS8 := Lib.hid hs8
                clear hf8 hs8
                go_wp2_with fail
                go_roundw
                case rel => exact ⟨kk + 1, by omega, by omega, by go_num, HF8.out, by rw [HN3.out]; exact HGS8.out⟩
                case measure => simp [intOf]; omega
              · have hr3 : r2 < 0 := by omega
                have HNIL : Hid (groK P Q V W d s x y f g ii kk = []) := by
                  unfold Hid
                  rw [HG0.out]
                  exact if_neg fun h => hr2 (HIFF2.out.2 h.2)
                have HN3 := Lib.hid (HSTP.out M2 (by rw [HNIL.out, List.append_nil]; exact HM26.out))
                go_wp2_with fail
                go_roundw
                case rel => exact ⟨kk + 1, by omega, by omega, by go_num, HF5.out, by rw [HN3.out]; exact HGS5.out⟩
                case measure => simp [intOf]; omega
            · have hr3 : r < 0 := by omega
              have HNIL : Hid (groK P Q V W d s x y f g ii kk = []) := by
                unfold Hid
                rw [HG0.out]
                exact if_neg fun h => hr (HIFF.out.2 h.1)
              have HN3 := Lib.hid (HSTP.out M2 (by rw [HNIL.out, List.append_nil]; exact HM26.out))
              go_wp2_with fail
              go_roundw
              case rel => exact ⟨kk + 1, by omega, by omega, by go_num, HF4.out, by rw [HN3.out]; exact HGS4.out⟩
              case measure => simp [intOf]; omega
      · obtain rfl : kk = m := by omega
        have HEND : Hid ((L1 ++ partI P Q V W d s x y f g (ii + 1)).take 601 = M2) := by
          unfold Hid
          rw [partI_step hxi, ← List.append_assoc, ← take_app_take, HM.out, HWM.out]; exact HM2.out
        go_wp2_with fail
        go_roundw
        case rel => exact ⟨ii + 1, by omega, by omega, by go_num, HFQ.out, by rw [HEND.out]; exact HGQ.out⟩
        case measure => simp [intOf]; omega
    · obtain rfl : ii = n := by omega
      have HEND : Hid ((L ++ gro P Q V W (d + 1) s x y f g).take 601 = M) := by
        unfold Hid
        rw [gro_parts, ← List.append_assoc, HL1.out, HVN.out]; exact HM.out
      go_wp2_with fail
      go_end0
      exact ⟨rfl, HFR.out, by rw [HEND.out]; exact HGS.out⟩
set_option maxRecDepth 100000 in
set_option maxHeartbeats 16000000 in
theorem productSets_any (B : Nat) (P Q : List (List Int)) (v u : Value) (w : World) (hB : B ≤ w.heap.size) (hv : ListsIn B w v P) (hu : ListsIn B w u Q) (hn : P.length ≤ 40) (hl : ∀ l ∈ P, l.length ≤ 7) (hn2 : Q.length ≤ 40) (hl2 : ∀ l ∈ Q, l.length ≤ 7) :
    Calls Tryz.prog 38 #[v, u, .int .i64 600] w (ListPost B ((gro P Q (vertR P) (vertR Q) ((vertR P).length + (vertR Q).length + 1) [] 0 0 [] []).take 601) w) := by
  obtain ⟨pv, cv, hve, -⟩ := id hv
  obtain ⟨np, hnp⟩ : ∃ np, P.length = np := ⟨_, rfl⟩
  rw [hnp] at hve
  subst hve
  obtain ⟨pu, cu, hue, -⟩ := id hu
  obtain ⟨nq, hnq⟩ : ∃ nq, Q.length = nq := ⟨_, rfl⟩
  rw [hnq] at hue
  subst hue
  have HVT := Lib.hid (verticesOf_any B P (.slice pv np cv) w hv (by omega) (fun l h => Nat.le_trans (hl l h) (by decide)))
  unfold NumsP at HVT
  have hvl : (vertR P).length ≤ 40 := Nat.le_trans (vertR_len P) hn
  have hwl : (vertR Q).length ≤ 40 := Nat.le_trans (vertR_len Q) hn2
  obtain ⟨V, hV⟩ : ∃ V, vertR P = V := ⟨_, rfl⟩
  obtain ⟨W, hW⟩ : ∃ W, vertR Q = W := ⟨_, rfl⟩
  rw [hV] at HVT hvl ⊢
  rw [hW] at hwl ⊢
  obtain ⟨n, hVn⟩ : ∃ n, V.length = n := ⟨_, rfl⟩
  obtain ⟨m, hWm⟩ : ∃ m, W.length = m := ⟨_, rfl⟩
  rw [hVn] at HVT hvl ⊢
  rw [hWm] at hwl ⊢
  have HWW := Lib.hid hW
  have HVN := Lib.hid hVn
  have HWM := Lib.hid hWm
  have HV := Lib.hid hv
  have HU := Lib.hid hu
  have HL := Lib.hid hl
  have HL2 := Lib.hid hl2
  have HPN := Lib.hid hn
  have HQN := Lib.hid hn2
  have HBB := Lib.hid hB
  clear hnp hnq hv hu hl hl2 hV hW hVn hWm hn hn2 hB
  obtain ⟨R, hR⟩ : ∃ R, (gro P Q V W (n + m + 1) [] 0 0 [] []).take 601 = R := ⟨_, rfl⟩
  have HRR := Lib.hid hR
  rw [hR]
  clear hR
  unfold ListPost
  go_enter Tryz.func38, Tryz.ntmps38
  go_wp2_with fail
  refine HVT.out.mono ?_
  rintro e w1 ⟨p1, c1, rfl, hb1, hi1⟩
  have HB1 := Lib.hid hb1
  have HI1 := Lib.hid hi1
  have HVT2 := Lib.hid (verticesOf_any B Q (.slice pu nq cu) w1 (HU.out.below hb1 (Nat.le_refl _)) (by have := HQN.out; omega) (fun l h => Nat.le_trans (HL2.out l h) (by decide)))
  rw [HWW.out] at HVT2
  unfold NumsP at HVT2
  rw [HWM.out] at HVT2
  clear hb1 hi1 HVT
  go_wp2_with fail
  refine HVT2.out.mono ?_
  rintro e w2 ⟨p2, c2, rfl, hb2, hi2⟩
  have HB2 := Lib.hid (HB1.out.trans (hb2.mono HB1.out.size))
  have HI12 := Lib.hid (HI1.out.below hb2 (Nat.le_refl _))
  have HI22 := Lib.hid hi2
  have HV2 := Lib.hid (HV.out.below HB2.out (Nat.le_refl _))
  have HU2 := Lib.hid (HU.out.below HB2.out (Nat.le_refl _))
  clear hb2 hi2 HVT2
  obtain ⟨w3, hw3⟩ : ∃ w3, w3 = w2.alloc (.cells #[.slice pv np cv, .slice pu nq cu, .slice p1 n c1, .slice p2 m c2, .int .i64 600, .slice none 0 0] 114) := ⟨_, rfl⟩
  have hba : Below w2.heap.size w2 w3 := by rw [hw3]; exact (Below.refl _ _).alloc (Nat.le_refl _) _
  have hG3 : GrC w3 w2.heap.size (.slice pv np cv) (.slice pu nq cu) (.slice p1 n c1) (.slice p2 m c2) (.slice none 0 0) := by rw [hw3]; exact heap_alloc_new w2 _
  have hq3 := hG3.lt
  have f1 : ∃ b o, n ≤ c1 ∧ (0 < n → p1 = some ⟨b, o, none⟩) := by
    obtain ⟨p', c', he, h1, -, h2⟩ := HI12.out
    rw [HVN.out] at he h1 h2
    cases he
    by_cases h0 : 0 < n
    · obtain ⟨b, o, e1, -⟩ := h2 0 h0
      exact ⟨b, o, h1, fun _ => e1⟩
    · exact ⟨0, 0, h1, fun h => absurd h h0⟩
  have f2 : ∃ b o, m ≤ c2 ∧ (0 < m → p2 = some ⟨b, o, none⟩) := by
    obtain ⟨p', c', he, h1, -, h2⟩ := HI22.out
    rw [HWM.out] at he h1 h2
    cases he
    by_cases h0 : 0 < m
    · obtain ⟨b, o, e1, -⟩ := h2 0 h0
      exact ⟨b, o, h1, fun _ => e1⟩
    · exact ⟨0, 0, h1, fun h => absurd h h0⟩
  obtain ⟨bV, oV, g1, g2⟩ := f1
  obtain ⟨bW, oW, g3, g4⟩ := f2
  have hBq : B ≤ w2.heap.size := Nat.le_trans HBB.out HB2.out.size
  have HGW := Lib.hid (grow_any B w2.heap.size n m c1 c2 bV oV bW oW p1 p2 P Q V W (.slice pv np cv) (.slice pu nq cu) w2 hBq HVN.out HWM.out hvl hwl g1 g3 g2 g4 (Nat.le_trans HPN.out (by decide)) (fun l h => Nat.le_trans (HL.out l h) (by decide)) (Nat.le_trans HQN.out (by decide)) (fun l h => Nat.le_trans (HL2.out l h) (by decide))
    (fun wx hb => HV2.out.below hb (Nat.le_refl _)) (fun wx hb => HU2.out.below hb (Nat.le_refl _)) (fun wx hb => HI12.out.below hb (Nat.le_refl _)) (fun wx hb => HI22.out.below hb (Nat.le_refl _))
    (n + m + 1) [] 0 0 [] [] [] (.slice none 0 0) (.slice none 0 0) (.slice none 0 0) w3 hba hq3 ⟨none, 0, hG3, RowsO.nil _ _ _⟩ (IntsIn.nil _ _) (IntsIn.nil _ _) (IntsIn.nil _ _) (by decide) (by simp; omega) (by simp; omega) (by simp; omega) (Nat.zero_le _) (Nat.zero_le _) (fun _ => Nat.le_refl _) (fun h => absurd rfl h))
  rw [List.nil_append, HRR.out] at HGW
  unfold GrP at HGW
  have HW3 := Lib.hid hw3
  have HB3 := Lib.hid (HB2.out.trans (hba.mono HB2.out.size))
  have HSQ : Hid (w.heap.size ≤ w2.heap.size) := HB2.out.size
  clear hw3 hba hG3 hBq g1 g2 g3 g4
  go_wp2_with fail
  rw [← HW3.out]
  refine HGW.out.mono ?_
  rintro e w4 ⟨rfl, hf4, p4, c4, hg4, hr4⟩
  obtain ⟨k4, hk4⟩ : ∃ k4, R.length = k4 := ⟨_, rfl⟩
  rw [hk4] at hg4 hr4
  obtain ⟨e0, e1, e2, e3, e4, e5, e6⟩ := hg4.cells
  have HK4 := Lib.hid hk4
  have HR4 := Lib.hid hr4
  have HB4 := Lib.hid (HB3.out.trans (hf4.1.mono HSQ.out))
  clear hg4 hr4 hk4 hf4
  go_wp2_with fail
  go_ret
  exact ⟨_, rfl, HB4.out, HR4.out.le (Nat.le_succ_of_le HSQ.out)⟩

theorem lib_idx {V : List Int} (hV : Rise V) {x : Int} (hx : x ∈ V) : Lib.idxOf V x = (idxI V x : Int) := by
  have h := Lib.idxOf_hit V V.length (idxI V x) x (idx_lt hx) (Nat.le_refl _) (get_idx hx) (fun j hj e => by
    have h1 := rise_get hV hj (idx_lt hx)
    rw [get_idx hx, e] at h1
    omega)
  rwa [List.take_length] at h
theorem index_any {V : List Int} {x : Int} (hV : Rise V) (hx : x ∈ V) (hn : V.length ≤ 100000) (v : Value) (w : World) (hv : IntsAt w v V) :
    Calls Tryz.prog 71 #[v, .int .i64 x] w fun e w' => e = .returned (.int .i64 (idxI V x : Int)) ∧ w' = w := by
  rcases hv.cases with ⟨rfl, -⟩ | ⟨hp, b, off, c, rfl, -, hc⟩
  · cases hx
  · refine (Tryz.slices_Index_int b off V.length c V x w (Nat.le_refl _) (by omega) hc).mono fun e w' ⟨h1, h2⟩ => ?_
    rw [List.take_length, lib_idx hV hx] at h1
    exact ⟨h1, h2⟩

set_option maxRecDepth 100000 in
set_option maxHeartbeats 4000000 in
theorem at_any (V W : List Int) (x y : Int) (vv wv : Value) (gv gw : Nat) (w : World) (hV : Rise V) (hW : Rise W) (hx : x ∈ V) (hy : y ∈ W) (hn : V.length ≤ 1000) (hm : W.length ≤ 1000)
    (h1 : w.cell? ⟨gv, 0, none⟩ = some vv) (h2 : w.cell? ⟨gw, 0, none⟩ = some wv) (hv : IntsAt w vv V) (hw : IntsAt w wv W) :
    Calls Tryz.prog 70 #[.int .i64 x, .int .i64 y, .pointer (some ⟨gv, 0, none⟩), .pointer (some ⟨gw, 0, none⟩)] w fun e w' => e = .returned (.int .i64 (cdP V W (x, y))) ∧ ∃ n, w' = w.drewN n := by
  have HI1 := Lib.hid (fun d : Nat => index_any hV hx (by omega) vv (w.drewN d) (hv.below (Below.drewN w d) (Nat.le_refl _)))
  have HI2 := Lib.hid (fun d : Nat => index_any hW hy (by omega) wv (w.drewN d) (hw.below (Below.drewN w d) (Nat.le_refl _)))
  have hi1 := idx_lt hx
  have hi2 := idx_lt hy
  have HE : Hid (cdP V W (x, y) = (idxI V x : Int) * (W.length : Int) + (idxI W y : Int)) := rfl
  rw [HE.out]
  obtain ⟨pw, cw, hwe, -⟩ := id hw
  obtain ⟨m, hWm⟩ : ∃ m, W.length = m := ⟨_, rfl⟩
  rw [hWm] at hwe hm hi2 ⊢
  subst hwe
  obtain ⟨i, hi⟩ : ∃ i, idxI V x = i := ⟨_, rfl⟩
  obtain ⟨j, hj⟩ : ∃ j, idxI W y = j := ⟨_, rfl⟩
  rw [hi] at HI1 hi1 ⊢
  rw [hj] at HI2 hi2 ⊢
  have hmul : (i : Int) * (m : Int) ≤ 1000 * 1000 := Int.mul_le_mul (by omega) (by omega) (by omega) (by omega)
  have hmul0 : 0 ≤ (i : Int) * (m : Int) := Int.mul_nonneg (by omega) (by omega)
  have s1 : IntKind.i64.wrap ((i : Int) * (m : Int)) = (i : Int) * (m : Int) := IntWalk.i64_in _ (by omega)
  have s2 : IntKind.i64.wrap ((i : Int) * (m : Int) + (j : Int)) = (i : Int) * (m : Int) + (j : Int) := IntWalk.i64_in _ (by omega)
  clear hv hw hx hy hV hW HE hWm hi hj
  go_enter Tryz.func70, Tryz.ntmps70
  go_wp2_with fail
  go_quiet ((first | (go_at_call 71; with_reducible exact Calls.quiet_of_same (HI1.out _)) | (go_at_call 71; with_reducible exact Calls.quiet_of_same (HI2.out _))))
  go_wp2_with fail
  go_ret
  exact ⟨rfl, nq, rfl⟩

/-- the cell of l: what is told so far -/
def TdC (w : World) (g : Nat) (v : Value) : Prop := w.heap[g]? = some (.cells #[v] 22 (0, 0))
theorem TdC.lt {w : World} {g : Nat} {v : Value} (h : TdC w g v) : g < w.heap.size := (Array.getElem?_eq_some_iff.1 h).1
theorem TdC.below {w w' : World} {g D : Nat} {v : Value} (h : TdC w g v) (hb : Below D w w') (hD : w.heap.size ≤ D) : TdC w' g v := by
  have hlt := h.lt
  unfold TdC
  rw [hb.block g (Nat.lt_of_lt_of_le hlt hD)]; exact h
theorem TdC.noint {w : World} {g : Nat} {v : Value} (h : TdC w g v) (c : Array Value) : w.heap[g]? ≠ some (.cells c 3 (0, 0)) := fun e => by
  unfold TdC at h
  rw [h] at e
  cases e
theorem TdC.norow {w : World} {g O n : Nat} {u v : Value} {hs : List Value} (h : TdC w g u) (ho : w.ownsRow O 26 1 v n hs) : v.ownBlock ≠ some g := fun e => by
  rcases ho.2 with ⟨rfl, _⟩ | ⟨g', cap, cur, rfl, hb, hgg, -⟩
  · cases e
  · cases e
    unfold TdC at h
    rw [h] at hgg
    cases hgg
theorem TdC.grown {w w' : World} {g : Nat} {v : Value} {row : Option Nat} (h : TdC w g v) (hg : w.grownBy w' row) (hr : row ≠ some g) : TdC w' g v := by
  have hlt := h.lt
  unfold TdC
  rw [hg.block g hlt (fun e => hr e.symm)]; exact h
def TdS (w : World) (g O B : Nat) (L : List (List Int)) : Prop := ∃ p c, TdC w g (.slice p L.length c) ∧ RowsO O B w (.slice p L.length c) L
theorem TdS.below {w w' : World} {g O B D : Nat} {L : List (List Int)} (h : TdS w g O B L) (hb : Below D w w') (hD : w.heap.size ≤ D) : TdS w' g O B L := by
  obtain ⟨p, c, h1, h2⟩ := h
  exact ⟨p, c, h1.below hb hD, h2.below hb hD⟩
theorem TdS.lt {w : World} {g O B : Nat} {L : List (List Int)} (h : TdS w g O B L) : g < w.heap.size := by
  obtain ⟨p, c, h1, -⟩ := h
  exact h1.lt
/-- one more is told -/
theorem told_push {g O B l c g2 c2 : Nat} {w w9 : World} {p : Option Addr} {L : List (List Int)} {hs : List Value} {s : List Int} {sv : Value} (hB : B ≤ g) (hg : g < O) (hO : O ≤ w.heap.size)
    (hG : TdC w g (.slice p l c)) (hl : L.length = l) (h1 : w.ownsRow O 26 1 (.slice p l c) l hs) (h2 : hs.length = l) (h3 : ∀ i, i < l → IntsIn B w (hs.getD i .nilIface) (L.getD i [])) (hsv : IntsIn B w sv s)
    (ho : w9.ownsRow O 26 1 (.slice (some ⟨g2, 0, none⟩) (l + 1) c2) (l + 1) (hs ++ [sv])) (hgr : (w.alloc (.cells #[sv] 26)).grownBy w9 (Value.slice p l c).ownBlock) :
    TdC w9 g (.slice p l c) ∧ FrI g w (w9.setCell ⟨g, 0, none⟩ (.slice (some ⟨g2, 0, none⟩) (l + 1) c2)) ∧ TdS (w9.setCell ⟨g, 0, none⟩ (.slice (some ⟨g2, 0, none⟩) (l + 1) c2)) g O B (L ++ [s]) := by
  subst hl
  have hba : Below w.heap.size w (w.alloc (.cells #[sv] 26)) := (Below.refl _ _).alloc (Nat.le_refl _) _
  have hGa := hG.below hba (Nat.le_refl _)
  have h1a := h1.alloc (.cells #[sv] 26)
  have hG9 := hGa.grown hgr (hGa.norow h1a)
  have hr := row_other h1a (Nat.le_trans hB (Nat.le_of_lt hg))
  have hfa : FrI g w (w.alloc (.cells #[sv] 26)) := FrI.of hba (by omega)
  have hf9 : FrI g (w.alloc (.cells #[sv] 26)) w9 := FrI.grown hgr (by simp; omega) (fun k e => ⟨by have := (h1a.lt k e).1; omega, (hr k e).2⟩)
  have hfs : FrI g w9 (w9.setCell ⟨g, 0, none⟩ (.slice (some ⟨g2, 0, none⟩) (L.length + 1) c2)) := FrI.set (Nat.le_refl _) hG9.noint
  have hR9 : RowsO O B w9 (.slice (some ⟨g2, 0, none⟩) (L.length + 1) c2) (L ++ [s]) :=
    rowsO_push (w := w.alloc (.cells #[sv] 26)) (hs := hs) (by omega) h1a h2 (fun i hi => (h3 i hi).below hba (Nat.le_refl _)) (hsv.below hba (Nat.le_refl _)) ho hgr
  refine ⟨hG9, (hfa.trans hf9).trans hfs, some ⟨g2, 0, none⟩, c2, ?_, ?_⟩
  · rw [List.length_append, List.length_singleton]; exact one_blk hG9
  · rw [List.length_append, List.length_singleton]
    obtain ⟨hs', k1, k2, k3⟩ := hR9
    exact ⟨hs', own_cellq k1 hg, k2, fun i hi => (k3 i hi).fr hfs hB⟩

def TdP (g O B : Nat) (M : List (List Int)) (w : World) (e : Ending) (w' : World) : Prop := e = .returned (.tuple #[]) ∧ FrI g w w' ∧ TdS w' g O B M
set_option maxRecDepth 100000 in
set_option maxHeartbeats 4000000 in
theorem told_any (g B : Nat) (L : List (List Int)) (s : List Int) (sv : Value) (w : World) (hB : B ≤ g) (hs : TdS w g (g + 1) B L) (hsv : IntsIn B w sv s) (hn : L.length ≤ 100000) :
    Calls Tryz.prog 74 #[sv, .pointer (some ⟨g, 0, none⟩)] w (TdP g (g + 1) B (L ++ [s]) w) := by
  obtain ⟨i39, hi39, hz0, hz1, hz2⟩ := info_parts Tryz.info26
  obtain ⟨ps, cs, hse⟩ := hsv.len
  obtain ⟨k, hk⟩ : ∃ k, s.length = k := ⟨_, rfl⟩
  rw [hk] at hse
  subst hse
  have hlt := hs.lt
  obtain ⟨p, c, hG, hs', h1, h2, h3⟩ := hs
  obtain ⟨l, hl⟩ : ∃ l, L.length = l := ⟨_, rfl⟩
  rw [hl] at hG h1 h2 h3 hn
  obtain ⟨d0, f0⟩ := one_at hG
  have HLL := Lib.hid hl
  have HG := Lib.hid hG
  have H1 := Lib.hid h1
  have H2 := Lib.hid h2
  have H3 := Lib.hid h3
  have HSV := Lib.hid hsv
  clear hk hG h1 h2 h3 hsv hl
  unfold TdP
  go_enter Tryz.func74, Tryz.ntmps74
  go_wp2_with (at_builtin; refine wpList_append_lies _ rfl (.tmp 3) (.tmp 5) 22 rfl (g + 1) 26 i39 (.slice none 0 0) 1 24 Tryz.underlying22 hi39 hz0 hz1 hz2 rfl (by decide) _ l hs' rfl (H1.out.alloc _) ⟨w.heap.size, 0, none⟩ 1 1 [.slice ps k cs] rfl rfl (World.news_of_block (cs := #[.slice ps k cs]) (t := 26) (fr := (0, 0)) (heap_alloc_new w _)) (by simp [Value.oneCell']) (by decide) (by unfold maxLen; omega) (by omega) (by simp; omega) (w.heap.size + 1) (by simp) ?_; intro g2 c2 w9 hown2 hgr2 hat2 hlt2; have HO2 := Lib.hid hown2; have HG2 := Lib.hid hgr2; clear hown2 hgr2 hat2 hlt2; obtain ⟨y1, y2, y3⟩ := told_push hB (Nat.lt_succ_self g) (by omega) HG.out HLL.out H1.out H2.out H3.out HSV.out HO2.out HG2.out; have Y2 := Lib.hid y2; have Y3 := Lib.hid y3; obtain ⟨d1, f1⟩ := one_at y1; clear y1 y2 y3)
  go_end0
  exact ⟨rfl, Y2.out, Y3.out⟩
theorem IntsIn.tail {B b off n c : Nat} {w : World} {x : Int} {V : List Int} (h : IntsIn B w (.slice (some ⟨b, off, none⟩) (n + 1) c) (x :: V)) (hn : V.length = n) : IntsIn B w (.slice (some ⟨b, off + 1, none⟩) n (c - 1)) V := by
  obtain ⟨p, c', hv, h1, -, hx⟩ := h
  cases hv
  refine ⟨_, c - 1, rfl, by simp at h1; omega, (fun e => by cases e), fun i hi => ?_⟩
  obtain ⟨b', off', e1, e2, e3⟩ := hx (i + 1) (by simpa using hi)
  cases e1
  refine ⟨b, off + 1, rfl, ?_, e3⟩
  rw [show off + 1 + i = off + (i + 1) by omega, e2]
  simp [List.getD_eq_getElem?_getD]
theorem ways_len : ∀ (n : Nat) (f g : List Int), f.length + g.length ≤ n → (ways f g).length ≤ 2 ^ (f.length + g.length)
  | 0, f, g, h => by
    obtain rfl : f = [] := List.length_eq_zero_iff.1 (by omega)
    rw [ways_nil]; simp
  | n + 1, [], g, h => by rw [ways_nil]; simp
  | n + 1, x :: f, [], h => by rw [ways_nil2]; simp
  | n + 1, x :: f, y :: g, h => by
    rw [ways_cons]
    simp only [List.length_cons] at h ⊢
    split
    · simp; exact Nat.one_le_two_pow
    · have h1 := ways_len n f (y :: g) (by simp; omega)
      have h2 := ways_len n (x :: f) g (by simp; omega)
      simp only [List.length_cons] at h1 h2
      rw [List.length_map, List.length_append]
      have e1 : f.length + 1 + (g.length + 1) = (f.length + (g.length + 1)) + 1 := by omega
      have e2 : f.length + 1 + g.length = f.length + (g.length + 1) := by omega
      rw [e1, Nat.pow_succ]
      rw [e2] at h2
      omega
/-- what the ways through two faces are told as -/
def wayA (V W : List Int) (a : List Int) (f g : List Int) : List (List Int) := (ways f g).map fun p => a ++ p.map (cdP V W)
theorem wayA_one (V W a : List Int) (x y : Int) : wayA V W a [x] [y] = [a ++ [cdP V W (x, y)]] := by unfold wayA; rw [ways_cons, if_pos ⟨rfl, rfl⟩]; rfl
theorem wayA_step (V W a : List Int) (x y : Int) (f g : List Int) (h : ¬ (f = [] ∧ g = [])) : wayA V W a (x :: f) (y :: g) = wayA V W (a ++ [cdP V W (x, y)]) f (y :: g) ++ wayA V W (a ++ [cdP V W (x, y)]) (x :: f) g := by
  unfold wayA
  rw [ways_cons, if_neg h, List.map_map, List.map_append]
  congr 1 <;> (refine List.map_congr_left fun p _ => ?_; simp)
theorem wayA_nil (V W a : List Int) (g : List Int) : wayA V W a [] g = [] := by unfold wayA; rw [ways_nil]; rfl
theorem wayA_nil2 (V W a : List Int) (f : List Int) : wayA V W a f [] = [] := by unfold wayA; rw [ways_nil2]; rfl
theorem wayA_len (V W a : List Int) (f g : List Int) : (wayA V W a f g).length ≤ 2 ^ (f.length + g.length) := by unfold wayA; rw [List.length_map]; exact ways_len _ f g (Nat.le_refl _)
theorem IntsIn.cons_form {B n : Nat} {w : World} {v : Value} {x : Int} {V : List Int} (h : IntsIn B w v (x :: V)) (hn : V.length = n) : ∃ b off c, v = .slice (some ⟨b, off, none⟩) (n + 1) c ∧ n + 1 ≤ c ∧ w.cell? ⟨b, off, none⟩ = some (.int .i64 x) := by
  obtain ⟨p, c, hv, h1, -, hx⟩ := h
  subst hn
  obtain ⟨b, off, e1, e2, -⟩ := hx 0 (by simp)
  subst e1
  exact ⟨b, off, c, hv, by simpa using h1, by simpa using e2⟩
theorem drewN_below {w w' : World} {n : Nat} (h : w' = w.drewN n) : Below w.heap.size w w' := by rw [h]; exact Below.drewN _ _
/-- slices.Clone, of nothing too -/
def CloneQ (O : Nat) (f : List Int) (w : World) (e : Ending) (w' : World) : Prop := ∃ p cap, e = .returned (.slice p f.length cap) ∧ Below w.heap.size w w' ∧ w'.ownsRow O 3 1 (.slice p f.length cap) f.length (intVs f)
theorem cloneQ_any (O : Nat) (f : List Int) (u : Value) (w : World) (hu : IntsAt w u f) (h0 : f = [] → u = .slice none 0 0) (hn : f.length ≤ 100000) (hO : O ≤ w.heap.size) : Calls Tryz.prog 59 #[u] w (CloneQ O f w) := by
  by_cases hp : 0 < f.length
  · exact (clone_any f u w hu hp hn).mono fun e w' ⟨g, cap, h1, h2, h3⟩ => ⟨_, cap, h1, h2, Joins.ownsRow_le h3 hO⟩
  · obtain rfl : f = [] := List.length_eq_zero_iff.1 (by omega)
    rw [h0 rfl]
    exact (Tryz.slices_Clone_int_nil 0 0 w).mono fun e w' ⟨h1, h2⟩ => ⟨none, 0, h1, by rw [h2]; exact Below.refl _ _, World.ownsRow_nil _ _ _ _⟩

set_option maxRecDepth 100000 in
set_option maxHeartbeats 16000000 in
theorem paths_any (B gl gv gw : Nat) (V W : List Int) (vv wv : Value) (w0 : World) (hB : B ≤ gl) (hV : Rise V) (hW : Rise W) (hn : V.length ≤ 1000) (hm : W.length ≤ 1000)
    (h1 : ∀ w, Below gl w0 w → w.cell? ⟨gv, 0, none⟩ = some vv ∧ w.cell? ⟨gw, 0, none⟩ = some wv ∧ IntsAt w vv V ∧ IntsAt w wv W) :
    ∀ (N : Nat) (f g ahead : List Int) (L : List (List Int)) (fv gv' av : Value) (w : World), f.length + g.length ≤ N → Below gl w0 w → TdS w gl (gl + 1) B L → IntsIn B w fv f → IntsIn B w gv' g → IntsIn B w av ahead → (ahead = [] → av = .slice none 0 0) →
      f ≠ [] → g ≠ [] → (∀ x ∈ f, x ∈ V) → (∀ x ∈ g, x ∈ W) → ahead.length + N ≤ 1000 → L.length + 2 ^ (f.length + g.length) ≤ 90000 →
      Calls Tryz.prog 73 #[fv, gv', av, .func (.func 70) #[] #[.pointer (some ⟨gv, 0, none⟩), .pointer (some ⟨gw, 0, none⟩)], .func (.func 74) #[] #[.pointer (some ⟨gl, 0, none⟩)]] w (TdP gl (gl + 1) B (L ++ wayA V W ahead f g) w) := by
  obtain ⟨i3, hi3, hy0, hy1, hy2⟩ := info_parts Tryz.info3
  have HH := Lib.hid h1
  have HRV := Lib.hid hV
  have HRW := Lib.hid hW
  clear h1 hV hW
  intro N
  induction N with
  | zero =>
    intro f g ahead L fv gv' av w hN _ _ _ _ _ _ hf
    exact absurd (List.length_eq_zero_iff.1 (by omega)) hf
  | succ N ih =>
    intro f g ahead L fv gv' av w hN hb hs hfv hgv hav ha0 hf hg hfV hgW hal hL
    obtain ⟨x, ft, rfl⟩ : ∃ x ft, f = x :: ft := List.exists_cons_of_ne_nil hf
    obtain ⟨y, gt, rfl⟩ : ∃ y gt, g = y :: gt := List.exists_cons_of_ne_nil hg
    obtain ⟨m, hm1⟩ : ∃ m, ft.length = m := ⟨_, rfl⟩
    obtain ⟨q, hq1⟩ : ∃ q, gt.length = q := ⟨_, rfl⟩
    have IH := Lib.hid ih
    have hfv2 := hfv
    have hgv2 := hgv
    obtain ⟨bf, of, cf, rfl, hcf, ef⟩ := hfv.cons_form hm1
    obtain ⟨bg, og, cg, rfl, hcg, eg⟩ := hgv.cons_form hq1
    obtain ⟨pa, ca, hae⟩ := hav.len
    obtain ⟨k, hk⟩ : ∃ k, ahead.length = k := ⟨_, rfl⟩
    rw [hk] at hae hal
    subst hae
    obtain ⟨z, hz⟩ : ∃ z, cdP V W (x, y) = z := ⟨_, rfl⟩
    have hgl := hs.lt
    have hxV := hfV x (by simp)
    have hyW := hgW y (by simp)
    have HCL : Hid (∀ X, Below w.heap.size w X → Calls Tryz.prog 59 #[.slice pa k ca] X (CloneQ w.heap.size ahead X)) := fun X hX => cloneQ_any _ ahead _ X (hav.at.below hX (Nat.le_refl _)) ha0 (by omega) hX.size
    have HAT : Hid (∀ X, Below w.heap.size w X → Calls Tryz.prog 70 #[.int .i64 x, .int .i64 y, .pointer (some ⟨gv, 0, none⟩), .pointer (some ⟨gw, 0, none⟩)] X (fun e w' => e = .returned (.int .i64 z) ∧ ∃ n, w' = X.drewN n)) := fun X hX => by
      obtain ⟨a1, a2, a3, a4⟩ := HH.out X (hb.trans (hX.mono (Nat.le_of_lt hgl)))
      rw [← hz]
      exact at_any V W x y vv wv gv gw X HRV.out HRW.out hxV hyW hn hm a1 a2 a3 a4
    have HEF := Lib.hid ef
    have HEG := Lib.hid eg
    have HB0 := Lib.hid hb
    have HS := Lib.hid hs
    have HFV := Lib.hid hfv2
    have HGV := Lib.hid hgv2
    have HAV := Lib.hid hav
    have HFI := Lib.hid hfV
    have HGI := Lib.hid hgW
    have HZ := Lib.hid hz
    have HM := Lib.hid hm1
    have HQ := Lib.hid hq1
    have HK := Lib.hid hk
    have HLB := Lib.hid hL
    have hL9 : L.length ≤ 90000 := Nat.le_trans (Nat.le_add_right _ _) hL
    obtain ⟨R, hR⟩ : ∃ R, L ++ wayA V W ahead (x :: ft) (y :: gt) = R := ⟨_, rfl⟩
    have HRES := Lib.hid hR
    rw [hR]
    clear hR
    have hmq : m + q + 1 ≤ N := by simp at hN; omega
    unfold TdP
    clear ih hb hs hfv hgv hfv2 hgv2 hav ha0 hfV hgW hz hm1 hq1 hk hL hf hg hN hxV hyW
    go_enter Tryz.func73, Tryz.ntmps73
    go_upto_region 0 with fail
    go_cut [10] (fun s10 wx => FrI gl w wx ∧ TdS wx gl (gl + 1) B L ∧ IntsIn B wx s10 (ahead ++ [z]))
    case first =>
      have hcur : Below w.heap.size w w.drew := (Below.refl _ _).drew
      go_wp2_with fail
      go_region_law (first
        | (go_simp
           go_at_call 59
           refine (HCL.out _ (by first | exact hcur | exact hcur.alloc hcur.size _)).mono ?_
           rintro e wn ⟨pc, cc, rfl, hbn, hon⟩
           first
             | (have kz := (hbn.block _ (by simp)).trans (heap_alloc_new _ (.cells #[.int .i64 z] 3))
                have hcur2 := (hcur.alloc hcur.size _).trans (hbn.mono (hcur.alloc hcur.size _).size)
                clear hcur
                have hcur := hcur2
                clear hcur2)
             | (have hcur2 := hcur.trans (hbn.mono hcur.size)
                clear hcur
                have hcur := hcur2
                clear hcur2)
           have ef2 : wn.cell? ⟨bf, of, none⟩ = some (.int .i64 x) := (hcur.cell (p := ⟨bf, of, none⟩) (mem_lt HEF.out)).trans HEF.out
           have eg2 : wn.cell? ⟨bg, og, none⟩ = some (.int .i64 y) := (hcur.cell (p := ⟨bg, og, none⟩) (mem_lt HEG.out)).trans HEG.out
           rw [HK.out] at hon
           try rw [HK.out]
           clear hbn)
        | (go_simp
           go_at_call 70
           refine (HAT.out _ (by first | exact hcur | exact hcur.alloc hcur.size _)).mono ?_
           rintro e wn ⟨rfl, nd, hwd⟩
           have hbn := drewN_below hwd
           have hcur2 := hcur.trans (hbn.mono hcur.size)
           clear hcur
           have hcur := hcur2
           clear hcur2
           try (have hon2 := owns_keep hon (fun k hk => hbn.block k (hon.lt k hk).2)
                clear hon
                have hon := hon2
                clear hon2)
           clear hwd hbn)
        | (refine step_append_lies _ (by rfl) (.tmp 12) (.tmp 21) 26 (by rfl) w.heap.size 3 i3 (.int .i64 0) 1 8 Tryz.underlying26 hi3 hy0 hy1 hy2 rfl (by decide) (.slice pc k cc) k (intVs ahead) (by rfl) (hon.alloc _) ⟨wn.heap.size, 0, none⟩ 1 1 [.int .i64 z] (by rfl) (by rfl) (World.news_of_block (cs := #[.int .i64 z]) (t := 3) (fr := (0, 0)) (heap_alloc_new wn _)) (by simp [Value.oneCell']) (by decide) (by unfold maxLen; omega) (by omega) (Nat.le_trans hcur.size (by simp)) (wn.heap.size + 1) (by simp) ?_
           intro g2 c2 w9 hown2 hgr2 hat2 hlt2
           have HFIN := Lib.hid ((hcur.alloc hcur.size _).grown hgr2 (hcur.alloc hcur.size _).size (fun i hi => (hon.lt i hi).1))
           have HO2 := Lib.hid hown2
           clear hown2 hgr2 hat2 hlt2)
        | (refine step_append_lies _ (by rfl) (.tmp 12) (.tmp 21) 26 (by rfl) w.heap.size 3 i3 (.int .i64 0) 1 8 Tryz.underlying26 hi3 hy0 hy1 hy2 rfl (by decide) (.slice pc k cc) k (intVs ahead) (by rfl) hon ⟨_, 0, none⟩ 1 1 [.int .i64 z] (by rfl) (by rfl) (World.news_of_block (cs := #[.int .i64 z]) (t := 3) (fr := (0, 0)) kz) (by simp [Value.oneCell']) (by decide) (by unfold maxLen; omega) (by omega) hcur.size wn.heap.size rfl ?_
           intro g2 c2 w9 hown2 hgr2 hat2 hlt2
           have HFIN := Lib.hid (hcur.grown hgr2 hcur.size (fun i hi => (hon.lt i hi).1))
           have HO2 := Lib.hid hown2
           clear hown2 hgr2 hat2 hlt2))
      all_goals
        go_wp2_with fail
        go_meet
        refine ⟨FrI.of HFIN.out (Nat.le_of_lt hgl), HS.out.below HFIN.out (Nat.le_refl _), ?_⟩
        have h := HO2.out
        rw [show [Value.int .i64 z] = intVs [z] from rfl, show intVs ahead ++ intVs [z] = intVs (ahead ++ [z]) by simp [intVs]] at h
        exact ints_owned (B := B) h (by rw [List.length_append, HK.out]; rfl)
    case rest =>
    obtain ⟨hf1, hs1, hi1⟩ := hcut
    obtain ⟨w1, rfl⟩ : ∃ w1, w1 = wc := ⟨_, rfl⟩
    have HF1 := Lib.hid hf1
    have HS1 := Lib.hid hs1
    have HI1 := Lib.hid hi1
    have HX1 := Lib.hid (HFV.out.fr hf1 hB)
    have HY1 := Lib.hid (HGV.out.fr hf1 hB)
    have hgl1 := hs1.lt
    have HBW1 := Lib.hid (HB0.out.trans hf1.1)
    clear hf1 hs1 hi1 ef eg
    by_cases hm0 : m = 0
    · by_cases hq0 : q = 0
      · obtain rfl : m = 0 := hm0
        obtain rfl : q = 0 := hq0
        obtain rfl : ft = [] := List.length_eq_zero_iff.1 HM.out
        obtain rfl : gt = [] := List.length_eq_zero_iff.1 HQ.out
        have HTD := Lib.hid (told_any gl B L (ahead ++ [z]) u10 w1 hB HS1.out HI1.out (by omega))
        have HWY : Hid (wayA V W ahead [x] [y] = [ahead ++ [z]]) := by unfold Hid; rw [wayA_one, HZ.out]
        unfold TdP at HTD
        go_wp2_with fail
        refine HTD.out.mono ?_
        rintro e w2 ⟨rfl, hf2, hs2⟩
        have HF2 := Lib.hid (HF1.out.trans hf2)
        have HS2 := Lib.hid hs2
        clear hf2 hs2
        go_wp2_with fail
        refine bodyPost_ret (results_none rfl _ _ _) rfl ?_
        exact ⟨rfl, HF2.out, by rw [← HRES.out, HWY.out]; exact HS2.out⟩
      · obtain rfl : m = 0 := hm0
        obtain rfl : ft = [] := List.length_eq_zero_iff.1 HM.out
        have hqp : 0 < q := by omega
        have j1 : ((q : Int) + 1 == 1) = false := beq_eq_false_iff_ne.2 (by omega)
        have j2 : (q + 1 == 1) = false := beq_eq_false_iff_ne.2 (by omega)
        have hgne : gt ≠ [] := fun e => by have := HQ.out; rw [e] at this; simp at this; omega
        have HWY : Hid (wayA V W ahead [x] (y :: gt) = wayA V W (ahead ++ [z]) [x] gt) := by
          unfold Hid
          rw [wayA_step _ _ _ _ _ _ _ (fun h => hgne h.2), HZ.out, wayA_nil, List.nil_append]
        have HR := Lib.hid (IH.out [x] gt (ahead ++ [z]) L (.slice (some ⟨bf, of, none⟩) (0 + 1) cf) (.slice (some ⟨bg, og + 1, none⟩) q (cg - 1)) u10 w1 (by simp [HQ.out]; omega) HBW1.out HS1.out HX1.out (HY1.out.tail HQ.out) HI1.out (fun e => absurd e (by simp)) (by simp) hgne HFI.out (fun v hv => HGI.out v (List.mem_cons_of_mem _ hv)) (by simp [HK.out]; omega)
          (Nat.le_trans (Nat.add_le_add_left (Nat.pow_le_pow_right (by decide) (by simp)) _) HLB.out))
        unfold TdP at HR
        clear hq0
        go_wp2_with fail
        refine HR.out.mono ?_
        rintro e w2 ⟨rfl, hf2, hs2⟩
        have HF2 := Lib.hid (HF1.out.trans hf2)
        have HS2 := Lib.hid hs2
        clear hf2 hs2
        go_wp2_with fail
        go_end0
        exact ⟨rfl, HF2.out, by rw [← HRES.out, HWY.out]; exact HS2.out⟩
    · have hmp : 0 < m := by omega
      have j1 : ((m : Int) + 1 == 1) = false := beq_eq_false_iff_ne.2 (by omega)
      have j2 : (m + 1 == 1) = false := beq_eq_false_iff_ne.2 (by omega)
      have hfne : ft ≠ [] := fun e => by have := HM.out; rw [e] at this; simp at this; omega
      have HWY : Hid (wayA V W ahead (x :: ft) (y :: gt) = wayA V W (ahead ++ [z]) ft (y :: gt) ++ wayA V W (ahead ++ [z]) (x :: ft) gt) := by
        unfold Hid
        rw [wayA_step _ _ _ _ _ _ _ (fun h => hfne h.1), HZ.out]
      have hpow : 2 ^ (m + 1 + (q + 1)) = 2 ^ (m + (q + 1)) + 2 ^ (m + 1 + q) := by
        rw [show m + 1 + (q + 1) = (m + (q + 1)) + 1 by omega, Nat.pow_succ, show m + 1 + q = m + (q + 1) by omega]; omega
      have hLB := HLB.out
      have hWL := wayA_len V W (ahead ++ [z]) ft (y :: gt)
      simp only [List.length_cons, HM.out, HQ.out] at hLB hWL
      obtain ⟨P1, hP1⟩ : ∃ P1, 2 ^ (m + (q + 1)) = P1 := ⟨_, rfl⟩
      obtain ⟨P2, hP2⟩ : ∃ P2, 2 ^ (m + 1 + q) = P2 := ⟨_, rfl⟩
      rw [hpow, hP1, hP2] at hLB
      rw [hP1] at hWL
      have HLB1 : Hid (L.length + 2 ^ (m + (q + 1)) ≤ 90000) := by unfold Hid; rw [hP1]; omega
      have HLB2 : Hid ((L ++ wayA V W (ahead ++ [z]) ft (y :: gt)).length + 2 ^ (m + 1 + q) ≤ 90000) := by
        unfold Hid
        rw [List.length_append, hP2]; omega
      clear hpow hLB hWL hP1 hP2
      have HR := Lib.hid (IH.out ft (y :: gt) (ahead ++ [z]) L (.slice (some ⟨bf, of + 1, none⟩) m (cf - 1)) (.slice (some ⟨bg, og, none⟩) (q + 1) cg) u10 w1 (by simp [HM.out, HQ.out]; omega) HBW1.out HS1.out (HX1.out.tail HM.out) HY1.out HI1.out (fun e => absurd e (by simp)) hfne (by simp) (fun v hv => HFI.out v (List.mem_cons_of_mem _ hv)) HGI.out (by simp [HK.out]; omega) (by rw [List.length_cons, HM.out, HQ.out]; exact HLB1.out))
      unfold TdP at HR
      by_cases hq0 : q = 0
      · obtain rfl : q = 0 := hq0
        obtain rfl : gt = [] := List.length_eq_zero_iff.1 HQ.out
        have HWY2 : Hid (L ++ wayA V W ahead (x :: ft) [y] = L ++ wayA V W (ahead ++ [z]) ft [y]) := by unfold Hid; rw [HWY.out, wayA_nil2, List.append_nil]
        clear hm0
        go_wp2_with fail
        refine HR.out.mono ?_
        rintro e w2 ⟨rfl, hf2, hs2⟩
        have HF2 := Lib.hid (HF1.out.trans hf2)
        have HS2 := Lib.hid hs2
        clear hf2 hs2
        go_wp2_with fail
        go_end0
        exact ⟨rfl, HF2.out, by rw [← HRES.out, HWY2.out]; exact HS2.out⟩
      · have hqp : 0 < q := by omega
        have hgne : gt ≠ [] := fun e => by have := HQ.out; rw [e] at this; simp at this; omega
        clear hm0 hq0
        go_wp2_with fail
        refine HR.out.mono ?_
        rintro e w2 ⟨rfl, hf2, hs2⟩
        have HF2 := Lib.hid (HF1.out.trans hf2)
        have HR2 := Lib.hid (IH.out (x :: ft) gt (ahead ++ [z]) (L ++ wayA V W (ahead ++ [z]) ft (y :: gt)) (.slice (some ⟨bf, of, none⟩) (m + 1) cf) (.slice (some ⟨bg, og + 1, none⟩) q (cg - 1)) u10 w2 (by simp [HM.out, HQ.out]; omega) (HBW1.out.trans hf2.1) hs2 (HX1.out.fr hf2 hB) ((HY1.out.fr hf2 hB).tail HQ.out) (HI1.out.fr hf2 hB) (fun e => absurd e (by simp)) (by simp) hgne HFI.out (fun v hv => HGI.out v (List.mem_cons_of_mem _ hv)) (by simp [HK.out]; omega) (by rw [List.length_cons, HM.out, HQ.out]; exact HLB2.out))
        unfold TdP at HR2
        rw [List.append_assoc] at HR2
        clear hf2 hs2
        go_wp2_with fail
        refine HR2.out.mono ?_
        rintro e w3 ⟨rfl, hf3, hs3⟩
        have HF3 := Lib.hid (HF2.out.trans hf3)
        have HS3 := Lib.hid hs3
        clear hf3 hs3
        go_wp2_with fail
        go_end0
        exact ⟨rfl, HF3.out, by rw [← HRES.out, HWY.out]; exact HS3.out⟩

theorem flat_small {L : List (List Int)} (h1 : L.length ≤ 300) (h2 : ∀ l ∈ L, l.length ≤ 100) : L.flatten.length ≤ 100000 := by
  have h3 := flat_bd h2
  have h4 := Nat.mul_le_mul_right 100 h1
  omega
theorem blk_lt {w : World} {b : Nat} {o : Obj} (h : w.heap[b]? = some o) : b < w.heap.size := (Array.getElem?_eq_some_iff.1 h).1
theorem below_blk {w w' : World} {b : Nat} {o : Obj} (h : Below w.heap.size w w') (k : w.heap[b]? = some o) : w'.heap[b]? = some o := (h.block _ (blk_lt k)).trans k
theorem two_blk {w w' : World} {a b : Obj} (h : Below ((w.alloc a).alloc b).heap.size ((w.alloc a).alloc b) w') : w'.heap[w.heap.size + 1]? = some b := by
  have h1 := heap_alloc_new (w.alloc a) b
  rw [lit_size] at h1
  exact below_blk h h1
theorem two_blk' {w w' : World} {a b : Obj} (h : Below ((w.alloc a).alloc b).heap.size ((w.alloc a).alloc b) w') : w'.heap[w.heap.size]? = some a :=
  below_blk h (below_blk ((Below.refl _ _).alloc (Nat.le_refl _) _) (heap_alloc_new w a))
theorem one_blk1 {w w' : World} {a : Obj} (h : Below (w.alloc a).heap.size (w.alloc a) w') : w'.heap[w.heap.size]? = some a := below_blk h (heap_alloc_new w a)
noncomputable def errD (L M : List (List Int)) : Nat := if errJ L M = 0 then errP L M else errJ L M
/-- the two lists of vertices, in cells -/
def VtP (B q : Nat) (V W : List Int) (w0 : World) (s7 s8 : Value) (w : World) : Prop := ∃ gv gw vv wv, s7 = .pointer (some ⟨gv, 0, none⟩) ∧ s8 = .pointer (some ⟨gw, 0, none⟩) ∧ Below q w0 w ∧ w.cell? ⟨gv, 0, none⟩ = some vv ∧ w.cell? ⟨gw, 0, none⟩ = some wv ∧ IntsIn B w vv V ∧ IntsIn B w wv W

theorem FrI.aloc {q : Nat} {w w' : World} (h : FrI q w w') (hq : q ≤ w'.heap.size) (o : Obj) : FrI q w (w'.alloc o) := h.trans (FrI.of ((Below.refl _ _).alloc (Nat.le_refl _) _) hq)
theorem noint_of {w : World} {b : Nat} {x : Array Value} (h : w.heap[b]? = some (Obj.cells x 26 (0, 0))) : ∀ c, w.heap[b]? ≠ some (Obj.cells c 3 (0, 0)) := fun c e => by rw [h] at e; cases e
section
variable {B q : Nat} {V W : List Int} {w0 w : World} {v1 v2 : Value} (hcur : Below q w0 w) (hqw : q ≤ w.heap.size) (hi1 : IntsIn B w v1 V) (hi2 : IntsIn B w v2 W) (hB : B ≤ q)
include hcur hqw hi1 hi2 hB
theorem vt_aa : VtP B q V W w0 (.pointer (some ⟨w.heap.size, 0, none⟩)) (.pointer (some ⟨w.heap.size + 1, 0, none⟩)) ((w.alloc (Obj.cells #[v1] 26)).alloc (Obj.cells #[v2] 26)) := by
  have hf : FrI q w ((w.alloc (Obj.cells #[v1] 26)).alloc (Obj.cells #[v2] 26)) := ((FrI.refl q w).aloc hqw _).aloc (by simp; omega) _
  refine ⟨_, _, v1, v2, rfl, rfl, hcur.trans hf.1, ?_, ?_, hi1.fr hf hB, hi2.fr hf hB⟩
  · exact (one_at (below_blk (lit_below _ _) (heap_alloc_new w (Obj.cells #[v1] 26)))).1
  · have h := heap_alloc_new (w.alloc (Obj.cells #[v1] 26)) (Obj.cells #[v2] 26)
    rw [lit_size] at h
    exact (one_at h).1
theorem vt_aa' : VtP B q V W w0 (.pointer (some ⟨w.heap.size + 1, 0, none⟩)) (.pointer (some ⟨w.heap.size, 0, none⟩)) ((w.alloc (Obj.cells #[v2] 26)).alloc (Obj.cells #[v1] 26)) := by
  have hf : FrI q w ((w.alloc (Obj.cells #[v2] 26)).alloc (Obj.cells #[v1] 26)) := ((FrI.refl q w).aloc hqw _).aloc (by simp; omega) _
  refine ⟨_, _, v1, v2, rfl, rfl, hcur.trans hf.1, ?_, ?_, hi1.fr hf hB, hi2.fr hf hB⟩
  · have h := heap_alloc_new (w.alloc (Obj.cells #[v2] 26)) (Obj.cells #[v1] 26)
    rw [lit_size] at h
    exact (one_at h).1
  · exact (one_at (below_blk (lit_below _ _) (heap_alloc_new w (Obj.cells #[v2] 26)))).1
theorem vt_sa {b : Nat} {x : Value} (hk : w.heap[b]? = some (Obj.cells #[x] 26 (0, 0))) (hb : q ≤ b) : VtP B q V W w0 (.pointer (some ⟨b, 0, none⟩)) (.pointer (some ⟨w.heap.size, 0, none⟩)) ((w.setCell ⟨b, 0, none⟩ v1).alloc (Obj.cells #[v2] 26)) := by
  have hs : (w.setCell ⟨b, 0, none⟩ v1).heap.size = w.heap.size := by simp
  have hf : FrI q w ((w.setCell ⟨b, 0, none⟩ v1).alloc (Obj.cells #[v2] 26)) := (FrI.set (v := v1) hb (noint_of hk)).aloc (by rw [hs]; exact hqw) _
  refine ⟨_, _, v1, v2, rfl, rfl, hcur.trans hf.1, ?_, ?_, hi1.fr hf hB, hi2.fr hf hB⟩
  · exact (one_at (below_blk (lit_below _ _) (one_blk (v := v1) hk))).1
  · have h := heap_alloc_new (w.setCell ⟨b, 0, none⟩ v1) (Obj.cells #[v2] 26)
    rw [hs] at h
    exact (one_at h).1
theorem vt_sa' {b : Nat} {x : Value} (hk : w.heap[b]? = some (Obj.cells #[x] 26 (0, 0))) (hb : q ≤ b) : VtP B q V W w0 (.pointer (some ⟨w.heap.size, 0, none⟩)) (.pointer (some ⟨b, 0, none⟩)) ((w.setCell ⟨b, 0, none⟩ v2).alloc (Obj.cells #[v1] 26)) := by
  have hs : (w.setCell ⟨b, 0, none⟩ v2).heap.size = w.heap.size := by simp
  have hf : FrI q w ((w.setCell ⟨b, 0, none⟩ v2).alloc (Obj.cells #[v1] 26)) := (FrI.set (v := v2) hb (noint_of hk)).aloc (by rw [hs]; exact hqw) _
  refine ⟨_, _, v1, v2, rfl, rfl, hcur.trans hf.1, ?_, ?_, hi1.fr hf hB, hi2.fr hf hB⟩
  · have h := heap_alloc_new (w.setCell ⟨b, 0, none⟩ v2) (Obj.cells #[v1] 26)
    rw [hs] at h
    exact (one_at h).1
  · exact (one_at (below_blk (lit_below _ _) (one_blk (v := v2) hk))).1
omit hqw in
theorem vt_ss {b c : Nat} {x y : Value} (hk : w.heap[b]? = some (Obj.cells #[x] 26 (0, 0))) (hk2 : w.heap[c]? = some (Obj.cells #[y] 26 (0, 0))) (hb : q ≤ b) (hc : q ≤ c) (hne : b ≠ c) :
    VtP B q V W w0 (.pointer (some ⟨b, 0, none⟩)) (.pointer (some ⟨c, 0, none⟩)) ((w.setCell ⟨b, 0, none⟩ v1).setCell ⟨c, 0, none⟩ v2) := by
  have hk3 : (w.setCell ⟨b, 0, none⟩ v1).heap[c]? = some (Obj.cells #[y] 26 (0, 0)) := by rw [Below.heap_setCell _ _ _ c (fun e => hne (by simp at e; omega))]; exact hk2
  have hk4 : ((w.setCell ⟨b, 0, none⟩ v1).setCell ⟨c, 0, none⟩ v2).heap[b]? = some (Obj.cells #[v1] 26 (0, 0)) := by rw [Below.heap_setCell _ _ _ b (fun e => hne (by simp at e; omega))]; exact one_blk hk
  have hf : FrI q w ((w.setCell ⟨b, 0, none⟩ v1).setCell ⟨c, 0, none⟩ v2) := (FrI.set (v := v1) hb (noint_of hk)).trans (FrI.set (v := v2) hc (noint_of hk3))
  exact ⟨_, _, v1, v2, rfl, rfl, hcur.trans hf.1, (one_at hk4).1, (one_at (one_blk (v := v2) hk3)).1, hi1.fr hf hB, hi2.fr hf hB⟩
end

theorem productErr_any (a : Nat → Addr) (nV nW : Nat) (p1 p2 : Option Addr) (q1 q2 : Nat) (w : World) (hS : Sents w a) (h1 : nV ≤ 100000) (h2 : nW ≤ 100000) :
    Calls Tryz.prog 72 #[.slice p1 nV q1, .slice p2 nW q2] w fun e w' => e = .returned (errE (a (if 100 < nV * nW then 3 else 1))) ∧ w' = w := by
  have hmul : (nV : Int) * (nW : Int) ≤ 100000 * 100000 := Int.mul_le_mul (by omega) (by omega) (by omega) (by omega)
  have hmul0 : 0 ≤ (nV : Int) * (nW : Int) := Int.mul_nonneg (by omega) (by omega)
  have hg3 := hS.g 3 (by decide)
  have hg1 := hS.g 1 (by decide)
  simp only [gnum] at hg3 hg1
  unfold errE
  by_cases h : 100 < nV * nW
  · have HI : Hid ((if 100 < nV * nW then 3 else 1) = 3) := if_pos h
    have q1 : decide ((100 : Int) < (nV : Int) * (nW : Int)) = true := decide_eq_true (by rw [← Int.natCast_mul]; omega)
    have q2 : decide (100 < nV * nW) = true := decide_eq_true h
    rw [HI.out]
    clear h hS
    go_enter Tryz.func72, Tryz.ntmps72
    go_wp2_with fail
    go_ret
    exact ⟨rfl, rfl⟩
  · have HI : Hid ((if 100 < nV * nW then 3 else 1) = 1) := if_neg h
    have q1 : decide ((100 : Int) < (nV : Int) * (nW : Int)) = false := decide_eq_false (by rw [← Int.natCast_mul]; omega)
    have q2 : decide (100 < nV * nW) = false := decide_eq_false h
    rw [HI.out]
    clear h hS
    go_enter Tryz.func72, Tryz.ntmps72
    go_wp2_with fail
    go_ret
    exact ⟨rfl, rfl⟩

theorem way_flat (L M : List (List Int)) : wayL L M = L.flatMap fun f => M.flatMap fun g => wayA (vertA L) (vertA M) [] f g := by
  unfold wayL waysP
  rw [List.map_flatMap]
  congr 1; funext f
  rw [List.map_flatMap]
  congr 1
/-- what is told when so many faces are done -/
def toldP (L M : List (List Int)) (j k : Nat) : List (List Int) := (L.take j).flatMap (fun f => M.flatMap fun g => wayA (vertA L) (vertA M) [] f g) ++ (M.take k).flatMap fun g => wayA (vertA L) (vertA M) [] (L.getD j []) g
def toldR (L M : List (List Int)) (j : Nat) : List (List Int) := (L.take j).flatMap (fun f => M.flatMap fun g => wayA (vertA L) (vertA M) [] f g)
theorem toldP_zero (L M : List (List Int)) (j : Nat) : toldP L M j 0 = toldR L M j := by unfold toldP toldR; simp
theorem toldP_step {L M : List (List Int)} {j k : Nat} (h : k < M.length) : toldP L M j (k + 1) = toldP L M j k ++ wayA (vertA L) (vertA M) [] (L.getD j []) (M.getD k []) := by
  unfold toldP
  rw [take_snoc_getD [] M k h, List.flatMap_append, List.flatMap_singleton, List.append_assoc]
theorem toldP_end {L M : List (List Int)} {j : Nat} (h : j < L.length) : toldP L M j M.length = toldR L M (j + 1) := by
  unfold toldP toldR
  rw [take_snoc_getD [] L j h, List.flatMap_append, List.flatMap_singleton, List.take_length]
theorem toldR_all (L M : List (List Int)) : toldR L M L.length = wayL L M := by unfold toldR; rw [List.take_length, way_flat]
theorem flat_take_sub {α β : Type} (F : α → List β) (l : List α) (k : Nat) : ((l.take k).flatMap F).Sublist (l.flatMap F) := by
  conv => rhs; rw [← List.take_append_drop k l]
  rw [List.flatMap_append]
  exact List.sublist_append_left _ _
theorem toldP_sub {L M : List (List Int)} {j k : Nat} (h : j < L.length) : (toldP L M j k).Sublist (wayL L M) := by
  have h1 : (toldP L M j k).Sublist (toldR L M (j + 1)) := by
    rw [← toldP_end h]
    unfold toldP
    rw [List.take_length]
    exact List.Sublist.append (List.Sublist.refl _) (flat_take_sub _ M k)
  have h2 : (toldR L M (j + 1)).Sublist (wayL L M) := by
    rw [way_flat]
    exact flat_take_sub _ L (j + 1)
  exact h1.trans h2
theorem face_in {L : List (List Int)} (h : errX L = 0) {f : List Int} (hf : f ∈ L) : f ≠ [] ∧ ∀ x ∈ f, x ∈ vertA L := ⟨allF_ne f (right_rise h f hf), fun x hx => mem_vertA.2 ⟨f, hf, hx⟩⟩
theorem wayL_bd {L M : List (List Int)} (hL : errX L = 0) (hM : errX M = 0) (h1 : ∀ l ∈ L, l.length ≤ 100) (h2 : ∀ l ∈ M, l.length ≤ 100) : ∀ l ∈ wayL L M, l.length ≤ 100000 := fun l hl => by
  obtain ⟨p, hp, rfl⟩ := mem_wayL.1 hl
  obtain ⟨f, hf, g, hg, hp⟩ := mem_waysP.1 hp
  have h3 := (ways_spec _ (Nat.le_refl _) (rise_mem hL hf) (rise_mem hM hg) hp).2.2.2
  have := h1 f hf
  have := h2 g hg
  rw [List.length_map]; omega

theorem rise_len : ∀ {V : List Int} {lo hi : Int}, Rise V → (∀ x ∈ V, lo ≤ x ∧ x ≤ hi) → (V.length : Int) ≤ max 0 (hi - lo + 1)
  | [], _, _, _, _ => by simp; omega
  | x :: t, lo, hi, h, hb => by
    rw [Rise, List.pairwise_cons] at h
    have hx := hb x (by simp)
    have := rise_len (lo := x + 1) (hi := hi) h.2 (fun y hy => ⟨by have := h.1 y hy; omega, (hb y (by simp [hy])).2⟩)
    rw [List.length_cons]
    omega
theorem vert_len {L : List (List Int)} (h : errX L = 0) : (vertA L).length ≤ 100 := by
  have := rise_len (lo := 0) (hi := 99) (rise_setL L.flatten) (fun x hx => by
    obtain ⟨l, hl, hx⟩ := mem_vertA.1 hx
    exact allF_0 (errX_ok h).1 l (right_rise h l hl) x hx)
  unfold vertA
  omega
theorem errP_early {L M : List (List Int)} {nV nW : Nat} (h : errP L M = if 100 < nV * nW then 4 else 2) : errP L M = (if 100 < nV * nW then 3 else 1) + 1 := by
  rw [h]; split <;> rfl

set_option maxRecDepth 100000 in
set_option maxHeartbeats 16000000 in
theorem product_any (a : Nat → Addr) (B : Nat) (L M : List (List Int)) (v u : Value) (w : World) (hS : Sents w a) (hB : B ≤ w.heap.size) (hv : ListsIn B w v L) (hu : ListsIn B w u M) (hn : L.length ≤ 300) (hl : ∀ l ∈ L, l.length ≤ 100) (hn2 : M.length ≤ 300) (hl2 : ∀ l ∈ M, l.length ≤ 100) :
    Calls Tryz.prog 24 #[.agg #[v], .agg #[u]] w (SetsP a B (errD L M) (wayL L M) w) := by
  obtain ⟨pv, cv, hve, -⟩ := id hv
  obtain ⟨n, hLn⟩ : ∃ n, L.length = n := ⟨_, rfl⟩
  rw [hLn] at hve
  subst hve
  obtain ⟨pu, cu, hue, -⟩ := id hu
  obtain ⟨m, hMn⟩ : ∃ m, M.length = m := ⟨_, rfl⟩
  rw [hMn] at hue
  subst hue
  obtain ⟨w0, hw0⟩ : ∃ w0, w0 = ((w.alloc (.cells #[.slice pv n cv] 34)).alloc (.cells #[.slice pu m cu] 34)).alloc (.cells #[.slice none 0 0] 34) := ⟨_, rfl⟩
  have hb0 : Below w.heap.size w w0 := by rw [hw0]; exact (((Below.refl _ _).alloc (Nat.le_refl _) _).alloc (by simp) _).alloc (by simp; omega) _
  have hk0 : w0.heap[w.heap.size]? = some (.cells #[.slice pv n cv] 34 (0, 0)) := by
    rw [hw0]; exact ((lit_below _ _).block _ (by simp; omega)).trans (((lit_below _ _).block _ (by simp)).trans (heap_alloc_new w _))
  have hk1 : w0.heap[w.heap.size + 1]? = some (.cells #[.slice pu m cu] 34 (0, 0)) := by
    rw [hw0]
    have h := heap_alloc_new (w.alloc (.cells #[.slice pv n cv] 34)) (.cells #[.slice pu m cu] 34)
    rw [lit_size] at h
    exact ((lit_below _ _).block _ (by simp)).trans h
  have hk2 : w0.heap[w.heap.size + 1 + 1]? = some (.cells #[.slice none 0 0] 34 (0, 0)) := by
    rw [hw0]
    have h := heap_alloc_new ((w.alloc (.cells #[.slice pv n cv] 34)).alloc (.cells #[.slice pu m cu] 34)) (.cells #[.slice none 0 0] 34)
    rw [lit_size, lit_size] at h
    exact h
  have HB0 := Lib.hid hb0
  have HW0 := Lib.hid hw0
  have HK0 := Lib.hid hk0
  have HK1 := Lib.hid hk1
  have HK2 := Lib.hid hk2
  have HS := Lib.hid hS
  have HBB := Lib.hid hB
  have HV := Lib.hid (hv.below hb0 (Nat.le_refl _))
  have HU := Lib.hid (hu.below hb0 (Nat.le_refl _))
  have hlt2 : w.heap.size + 1 + 1 < w0.heap.size := (Array.getElem?_eq_some_iff.1 hk2).1
  have HBO := Lib.hid (both_any a B L M (.slice pv n cv) (.slice pu m cu) w0 (hS.below hb0 (Nat.le_refl _)) (Nat.le_trans hB hb0.size) (hv.below hb0 (Nat.le_refl _)) (hu.below hb0 (Nat.le_refl _)) (by omega) (fun l h => Nat.le_trans (hl l h) (by decide)) (by omega) (fun l h => Nat.le_trans (hl2 l h) (by decide)))
  unfold Gives at HBO
  unfold SetsP
  obtain ⟨eJ, heJ⟩ : ∃ eJ, errJ L M = eJ := ⟨_, rfl⟩
  have HEJ := Lib.hid heJ
  rw [heJ] at HBO
  have HN1 := Lib.hid hn
  have HN2 := Lib.hid hn2
  have HL1 := Lib.hid hl
  have HL2 := Lib.hid hl2
  have HLN := Lib.hid hLn
  have HMN := Lib.hid hMn
  clear hS hB hv hu hn hl hn2 hl2 hb0 hLn hMn hw0 hk0 hk1 hk2 heJ
  by_cases hne : eJ ≠ 0
  · obtain ⟨k, rfl⟩ : ∃ k, eJ = k + 1 := ⟨eJ - 1, by omega⟩
    have hk8 : k < 8 := by have := errJ_le L M; rw [HEJ.out] at this; omega
    rw [errV_succ] at HBO
    have HER : Hid (errD L M = k + 1) := by unfold Hid errD; rw [HEJ.out, if_neg (by omega)]
    unfold errE at HBO
    go_enter Tryz.func24, Tryz.ntmps24
    go_wp2_with fail
    rw [← HW0.out]
    refine HBO.out.mono ?_
    rintro e w1 ⟨rfl, hb1⟩
    have HB1 := Lib.hid (HB0.out.trans (hb1.mono HB0.out.size))
    have hk2' := (hb1.block _ hlt2).trans HK2.out
    have d0 := (one_at hk2').1
    have f0 := (one_at hk2').2
    have R0 := Lib.hid (one_set (v := .slice none 0 0) hk2')
    have HBF := Lib.hid (show Below w.heap.size w (w1.setCell ⟨w.heap.size + 1 + 1, 0, none⟩ (.slice none 0 0)) from HB1.out.setCell (by show w.heap.size ≤ w.heap.size + 1 + 1; omega) _)
    clear hb1 hk2' hne HBO
    go_wp2_with fail
    refine bodyPost_ret (v := .tuple #[.agg #[.slice none 0 0], .iface 225 (.pointer (some (a k)))]) (by simp [results, Tryz.results24, go_sem, R0.out]) rfl ?_
    exact ⟨HBF.out, Or.inr ⟨k, hk8, HER.out, rfl⟩⟩
  · obtain rfl : eJ = 0 := by omega
    rw [errV_0] at HBO
    clear hne
    go_enter Tryz.func24, Tryz.ntmps24
    go_wp2_with fail
    rw [← HW0.out]
    refine HBO.out.mono ?_
    rintro e w1 ⟨rfl, hb1⟩
    have HB1 := Lib.hid (HB0.out.trans (hb1.mono HB0.out.size))
    have hk0' := (hb1.block _ (Array.getElem?_eq_some_iff.1 HK0.out).1).trans HK0.out
    have hk1' := (hb1.block _ (Array.getElem?_eq_some_iff.1 HK1.out).1).trans HK1.out
    have hk2' := (hb1.block _ hlt2).trans HK2.out
    have HK01 := Lib.hid hk0'
    have HK11 := Lib.hid hk1'
    have HK21 := Lib.hid hk2'
    have c0 := (one_at hk0').1
    have c1 := (one_at hk1').1
    have HC1 := Lib.hid c1
    have c0l : w.heap.size < w1.heap.size := mem_lt c0
    have c1l : w.heap.size + 1 < w1.heap.size := mem_lt c1
    have HV1 := Lib.hid (HV.out.below hb1 (Nat.le_refl _))
    have HU1 := Lib.hid (HU.out.below hb1 (Nat.le_refl _))
    have HFL1 : Hid (L.flatten.length ≤ 100000) := flat_small HN1.out HL1.out
    have HFL2 : Hid (M.flatten.length ≤ 100000) := flat_small HN2.out HL2.out
    have HVT1 := Lib.hid (fun (X : World) (hX : Below w1.heap.size w1 X) => vertices_any B L (.slice pv n cv) X (HV1.out.below hX (Nat.le_refl _)) (Nat.le_trans HN1.out (by decide)) HFL1.out)
    have HVT2 := Lib.hid (fun (X : World) (hX : Below w1.heap.size w1 X) => vertices_any B M (.slice pu m cu) X (HU1.out.below hX (Nat.le_refl _)) (Nat.le_trans HN2.out (by decide)) HFL2.out)
    unfold NumsP at HVT1 HVT2
    obtain ⟨V, hV⟩ : ∃ V, vertA L = V := ⟨_, rfl⟩
    obtain ⟨W, hW⟩ : ∃ W, vertA M = W := ⟨_, rfl⟩
    rw [hV] at HVT1
    rw [hW] at HVT2
    obtain ⟨nV, hnV⟩ : ∃ nV, V.length = nV := ⟨_, rfl⟩
    obtain ⟨nW, hnW⟩ : ∃ nW, W.length = nW := ⟨_, rfl⟩
    rw [hnV] at HVT1
    rw [hnW] at HVT2
    have HVV := Lib.hid hV
    have HWW := Lib.hid hW
    have HNV := Lib.hid hnV
    have HNW := Lib.hid hnW
    clear hk0' hk1' hk2' hV hW hnV hnW HBO hb1
    go_upto_region 4 with fail
    go_cut [7, 8] (fun s7 s8 wx => VtP B w1.heap.size V W w1 s7 s8 wx)
    case first =>
      have hcur : Below w1.heap.size w1 w1.drew := (Below.refl _ _).drew
      go_wp2_with fail
      go_region_law (first
        | (go_simp
           go_at_call 67
           (with_reducible refine (HVT1.out _ ?_).mono ?_)
           · first | exact hcur | exact hcur.alloc hcur.size _ | exact (hcur.alloc hcur.size _).alloc (hcur.alloc hcur.size _).size _
           rintro e w11 ⟨p1, q1, rfl, hbn, hi1⟩
           have hw : Below (w1.drew).heap.size (w1.drew) w11 := by
             first
               | exact hbn
               | exact ((Below.refl _ _).alloc (Nat.le_refl _) _).trans (hbn.mono (by simp))
               | exact (((Below.refl _ _).alloc (Nat.le_refl _) _).alloc (by simp) _).trans (hbn.mono (by simp; omega))
           have hcur2 : Below w1.heap.size w1 w11 := hcur.trans (hw.mono hcur.size)
           first
             | (have l1 : w11.heap[w1.heap.size + 1]? = some (Obj.cells #[.slice none 0 0] 26 (0, 0)) := two_blk (w := w1.drew) hbn
                have l2 : w11.heap[w1.heap.size]? = some (Obj.cells #[.slice none 0 0] 26 (0, 0)) := two_blk' (w := w1.drew) hbn)
             | (have l1 : w11.heap[w1.heap.size]? = some (Obj.cells #[.slice none 0 0] 26 (0, 0)) := one_blk1 (w := w1.drew) hbn)
             | skip
           clear hbn hw hcur
           have hcur := hcur2
           clear hcur2
           try (have l1l := blk_lt l1)
           have hs11 : w1.heap.size ≤ w11.heap.size := hcur.size
           have c1 : w11.cell? ⟨w.heap.size + 1, 0, none⟩ = some (.slice pu m cu) := (hcur.cell (p := ⟨w.heap.size + 1, 0, none⟩) (mem_lt HC1.out)).trans HC1.out
           have c1m : w.heap.size + 1 < w11.heap.size := mem_lt c1
           have c1n : w.heap.size < w11.heap.size := Nat.lt_of_succ_lt c1m)
        | (go_simp
           go_at_call 67
           (with_reducible refine (HVT2.out _ ?_).mono ?_)
           · first | exact hcur | exact hcur.alloc hcur.size _ | exact (hcur.alloc hcur.size _).alloc (hcur.alloc hcur.size _).size _
           rintro e w12 ⟨p2, q2, rfl, hbn, hi2⟩
           have hw : Below (w11).heap.size (w11) w12 := by
             first
               | exact hbn
               | exact ((Below.refl _ _).alloc (Nat.le_refl _) _).trans (hbn.mono (by simp))
               | exact (((Below.refl _ _).alloc (Nat.le_refl _) _).alloc (by simp) _).trans (hbn.mono (by simp; omega))
           have hcur2 : Below w1.heap.size w1 w12 := hcur.trans (hw.mono hcur.size)
           have hi12 := hi1.below hw (Nat.le_refl _)
           clear hi1
           have hi1 := hi12
           clear hi12
           try (have m1 := below_blk hw l1)
           try (have m2 := below_blk hw l2)
           first
             | (have n1 : w12.heap[w11.heap.size + 1]? = some (Obj.cells #[.slice none 0 0] 26 (0, 0)) := two_blk hbn
                have n2 : w12.heap[w11.heap.size]? = some (Obj.cells #[.slice none 0 0] 26 (0, 0)) := two_blk' hbn)
             | (have n1 : w12.heap[w11.heap.size]? = some (Obj.cells #[.slice none 0 0] 26 (0, 0)) := one_blk1 hbn)
             | skip
           clear hbn hw hcur
           have hcur := hcur2
           clear hcur2
           try (obtain ⟨m1c, m1f⟩ := one_at m1; have m1l := blk_lt m1)
           try (obtain ⟨m2c, m2f⟩ := one_at m2; have m2l := blk_lt m2)
           try (obtain ⟨n1c, n1f⟩ := one_at n1; have n1l := blk_lt n1)
           try (obtain ⟨n2c, n2f⟩ := one_at n2; have n2l := blk_lt n2)))
      all_goals
        go_wp2_with fail
        go_meet
        have hBq : B ≤ w1.heap.size := Nat.le_trans HBB.out HB1.out.size
        first
          | (with_reducible exact vt_aa hcur hcur.size hi1 hi2 hBq)
          | (with_reducible exact vt_aa' hcur hcur.size hi1 hi2 hBq)
          | (with_reducible exact vt_sa hcur hcur.size hi1 hi2 hBq m1 (by omega))
          | (with_reducible exact vt_sa' hcur hcur.size hi1 hi2 hBq m1 (by omega))
          | (with_reducible exact vt_sa hcur hcur.size hi1 hi2 hBq m2 (by omega))
          | (with_reducible exact vt_sa' hcur hcur.size hi1 hi2 hBq m2 (by omega))
          | (with_reducible exact vt_sa hcur hcur.size hi1 hi2 hBq n1 (by omega))
          | (with_reducible exact vt_sa' hcur hcur.size hi1 hi2 hBq n1 (by omega))
          | (with_reducible exact vt_sa hcur hcur.size hi1 hi2 hBq n2 (by omega))
          | (with_reducible exact vt_sa' hcur hcur.size hi1 hi2 hBq n2 (by omega))
          | (with_reducible exact vt_ss hcur hi1 hi2 hBq m1 m2 (by omega) (by omega) (by omega))
          | (with_reducible exact vt_ss hcur hi1 hi2 hBq m1 n1 (by omega) (by omega) (by omega))
          | (with_reducible exact vt_ss hcur hi1 hi2 hBq m1 n2 (by omega) (by omega) (by omega))
          | (with_reducible exact vt_ss hcur hi1 hi2 hBq m2 m1 (by omega) (by omega) (by omega))
          | (with_reducible exact vt_ss hcur hi1 hi2 hBq m2 n1 (by omega) (by omega) (by omega))
          | (with_reducible exact vt_ss hcur hi1 hi2 hBq m2 n2 (by omega) (by omega) (by omega))
          | (with_reducible exact vt_ss hcur hi1 hi2 hBq n1 m1 (by omega) (by omega) (by omega))
          | (with_reducible exact vt_ss hcur hi1 hi2 hBq n1 m2 (by omega) (by omega) (by omega))
          | (with_reducible exact vt_ss hcur hi1 hi2 hBq n1 n2 (by omega) (by omega) (by omega))
          | (with_reducible exact vt_ss hcur hi1 hi2 hBq n2 m1 (by omega) (by omega) (by omega))
          | (with_reducible exact vt_ss hcur hi1 hi2 hBq n2 m2 (by omega) (by omega) (by omega))
          | (with_reducible exact vt_ss hcur hi1 hi2 hBq n2 n1 (by omega) (by omega) (by omega))
    case rest =>
    unfold VtP at hcut
    obtain ⟨gv, gw, vv, wv, rfl, rfl, hb2, hcv, hcw, hiv, hiw⟩ := hcut
    obtain ⟨w2, rfl⟩ : ∃ w2, w2 = wc := ⟨_, rfl⟩
    obtain ⟨p1, q1, hve⟩ := hiv.len
    obtain ⟨p2, q2, hwe⟩ := hiw.len
    rw [HNV.out] at hve
    rw [HNW.out] at hwe
    subst hve
    subst hwe
    obtain ⟨hL0, hM0⟩ := errJ_0 HEJ.out
    have HL0 := Lib.hid hL0
    have HM0 := Lib.hid hM0
    have hnV : nV ≤ 100 := by rw [← HNV.out, ← HVV.out]; exact vert_len hL0
    have hnW : nW ≤ 100 := by rw [← HNW.out, ← HWW.out]; exact vert_len hM0
    obtain ⟨w3, hw3⟩ : ∃ w3, w3 = w2.alloc (.cells #[.slice none 0 0] 22) := ⟨_, rfl⟩
    have hb3 : Below w2.heap.size w2 w3 := by rw [hw3]; exact lit_below _ _
    have hT3 : TdC w3 w2.heap.size (.slice none 0 0) := by rw [hw3]; exact heap_alloc_new w2 _
    obtain ⟨gl, hgl⟩ : ∃ gl, w2.heap.size = gl := ⟨_, rfl⟩
    rw [hgl] at hb3 hT3
    have HGL := Lib.hid hgl
    have HB2 := Lib.hid (HB1.out.trans (hb2.mono HB1.out.size))
    have hgB : w.heap.size ≤ gl := by rw [← hgl]; exact HB2.out.size
    have hBg : B ≤ gl := Nat.le_trans HBB.out hgB
    have hn300 : n ≤ 300 := by have := HN1.out; rw [HLN.out] at this; exact this
    have hm300 : m ≤ 300 := by have := HN2.out; rw [HMN.out] at this; exact this
    have HPV : Hid (∀ wx, Below gl w2 wx → wx.cell? ⟨gv, 0, none⟩ = some (.slice p1 nV q1) ∧ wx.cell? ⟨gw, 0, none⟩ = some (.slice p2 nW q2) ∧ IntsAt wx (.slice p1 nV q1) V ∧ IntsAt wx (.slice p2 nW q2) W) := fun wx hx => by
      rw [← HGL.out] at hx
      exact ⟨(hx.cell (p := ⟨gv, 0, none⟩) (mem_lt hcv)).trans hcv, (hx.cell (p := ⟨gw, 0, none⟩) (mem_lt hcw)).trans hcw, hiv.at.below hx (Nat.le_refl _), hiw.at.below hx (Nat.le_refl _)⟩
    have HKS : Hid (∀ wx, Below gl w2 wx → wx.heap[w.heap.size]? = some (.cells #[.slice pv n cv] 34 (0, 0)) ∧ wx.heap[w.heap.size + 1]? = some (.cells #[.slice pu m cu] 34 (0, 0)) ∧ wx.heap[w.heap.size + 1 + 1]? = some (.cells #[.slice none 0 0] 34 (0, 0))) := fun wx hx => by
      rw [← HGL.out] at hx
      exact ⟨below_blk hx (below_blk hb2 HK01.out), below_blk hx (below_blk hb2 HK11.out), below_blk hx (below_blk hb2 HK21.out)⟩
    have HLV : Hid (∀ wx, Below gl w2 wx → ListsIn B wx (.slice pv n cv) L ∧ ListsIn B wx (.slice pu m cu) M) := fun wx hx => by
      rw [← HGL.out] at hx
      exact ⟨(HV1.out.below hb2 (Nat.le_refl _)).below hx (Nat.le_refl _), (HU1.out.below hb2 (Nat.le_refl _)).below hx (Nat.le_refl _)⟩
    have HW3 := Lib.hid hw3
    have HB3 := Lib.hid hb3
    have HT3 := Lib.hid hT3
    have HPE := Lib.hid (fun (wx : World) (hx : Below gl w2 wx) => productErr_any a nV nW p1 p2 q1 q2 wx (HS.out.below (HB2.out.trans (hx.mono hgB)) (Nat.le_refl _)) (by omega) (by omega))
    obtain ⟨ic, hic⟩ : ∃ ic, (if 100 < nV * nW then 3 else 1) = ic := ⟨_, rfl⟩
    rw [hic] at HPE
    have hic8 : ic < 8 := by rw [← hic]; split <;> omega
    have HIC : Hid (∀ {x : Nat}, x = (if 100 < (vertA L).length * (vertA M).length then 4 else 2) → x = ic + 1) := by
      intro x hx
      rw [hx, HVV.out, HWW.out, HNV.out, HNW.out, ← hic]; split <;> rfl
    have HED : Hid (errD L M = errP L M) := if_pos HEJ.out
    have hRVV : Rise V := by rw [← HVV.out]; exact rise_setL _
    have hRWW : Rise W := by rw [← HWW.out]; exact rise_setL _
    have HRV := Lib.hid hRVV
    have HRW := Lib.hid hRWW
    unfold errE at HPE
    clear hic hRVV hRWW hb2 hcv hcw hiv hiw hw3 hb3 hT3 hgl hL0 hM0 c0 c1
    have b0 := (HKS.out w2 (Below.refl _ _)).1
    have e0 := (one_at b0).1
    have e0l := blk_lt b0
    clear b0
    go_wp2_with fail
    rw [← HW3.out]
    rw [HGL.out]
    clear e0 e0l
    go_loopw [30] (fun i wr => ∃ j : Nat, j ≤ n ∧ i = .int .i64 j ∧ FrI gl w3 wr ∧ TdS wr gl (gl + 1) B (toldR L M j) ∧ Hid ((toldR L M j).length ≤ 1200)) (fun i _ => n - (intOf i).toNat)
    case atStart => exact ⟨0, Nat.zero_le _, rfl, FrI.refl _ _, ⟨none, 0, HT3.out, RowsO.nil _ _ _⟩, by unfold Hid toldR; simp⟩
    case round =>
    obtain ⟨j, hj, rfl, hfr, hts, HTL⟩ := hrel
    have HFR := Lib.hid hfr
    have HTS := Lib.hid hts
    have hbr := HB3.out.trans hfr.1
    obtain ⟨k1, k2, k3⟩ := HKS.out wr hbr
    have d0 := (one_at k1).1
    have d1 := (one_at k2).1
    clear hfr hts k1 k2 k3
    by_cases hjn : j < n
    · have hjL : j < L.length := by rw [HLN.out]; exact hjn
      obtain ⟨b, off, c2, hve⟩ := (HLV.out wr hbr).1.form (by omega)
      rw [HLN.out] at hve
      obtain ⟨rfl, rfl⟩ : pv = some ⟨b, off, none⟩ ∧ cv = c2 := by cases hve; exact ⟨rfl, rfl⟩
      obtain ⟨pj, cj, hcj, hij⟩ := cells_at (HLV.out wr hbr).1 j hjL
      have hfin := face_in HL0.out (getL_mem hjL)
      have hlj := HL1.out _ (getL_mem hjL)
      have HFM := Lib.hid (getL_mem hjL)
      obtain ⟨f, hf⟩ : ∃ f, L.getD j [] = f := ⟨_, rfl⟩
      have HFF := Lib.hid hf
      rw [hf] at hcj hij hfin hlj HFM
      obtain ⟨nf, hnf⟩ : ∃ nf, f.length = nf := ⟨_, rfl⟩
      rw [hnf] at hcj hij hlj
      have HNF := Lib.hid hnf
      have HFI := Lib.hid hfin
      have HIJ := Lib.hid hij
      have HJL := Lib.hid hjL
      clear hve hjL hf hnf hfin hij
      go_wp2_with fail
      obtain ⟨wo, rfl⟩ : ∃ wo, wo = wr := ⟨_, rfl⟩
      clear d0 d1 hcj
      go_loopw [37] (fun i wr => ∃ k : Nat, k ≤ m ∧ i = .int .i64 k ∧ FrI gl w3 wr ∧ TdS wr gl (gl + 1) B (toldP L M j k) ∧ Hid ((toldP L M j k).length ≤ 1200) ∧ IntsIn B wr (.slice pj nf cj) f) (fun i _ => m - (intOf i).toNat)
      case atStart => exact ⟨0, Nat.zero_le _, rfl, HFR.out, by rw [toldP_zero]; exact HTS.out, by rw [toldP_zero]; exact HTL, HIJ.out⟩
      case round =>
      obtain ⟨k, hk, rfl, hfr, hts, HTLK, hij⟩ := hrel
      have HFQ := Lib.hid hfr
      have HTQ := Lib.hid hts
      have HIQ := Lib.hid hij
      have hbq := HB3.out.trans hfr.1
      obtain ⟨k1, k2, k3⟩ := HKS.out wr hbq
      have d0 := (one_at k1).1
      have d1 := (one_at k2).1
      have hgr := hts.lt
      clear hfr hts hij k1 k2
      by_cases hkm : k < m
      · have hkM : k < M.length := by rw [HMN.out]; exact hkm
        obtain ⟨b2, off2, c3, hue⟩ := (HLV.out wr hbq).2.form (by omega)
        rw [HMN.out] at hue
        obtain ⟨rfl, rfl⟩ : pu = some ⟨b2, off2, none⟩ ∧ cu = c3 := by cases hue; exact ⟨rfl, rfl⟩
        obtain ⟨pk, ck, hck, hik⟩ := cells_at (HLV.out wr hbq).2 k hkM
        have hgin := face_in HM0.out (getL_mem hkM)
        have hlk := HL2.out _ (getL_mem hkM)
        have HGM := Lib.hid (getL_mem hkM)
        have HSTP := Lib.hid (toldP_step (L := L) (j := j) hkM)
        rw [HFF.out] at HSTP
        obtain ⟨g, hg⟩ : ∃ g, M.getD k [] = g := ⟨_, rfl⟩
        rw [hg] at hck hik hgin hlk HGM HSTP
        obtain ⟨ng, hng⟩ : ∃ ng, g.length = ng := ⟨_, rfl⟩
        rw [hng] at hck hik hlk
        have HNG := Lib.hid hng
        have HGI := Lib.hid hgin
        have HIK := Lib.hid hik
        have HBQ := Lib.hid hbq
        have hsub := Lib.hid (toldP_sub (M := M) (k := k + 1) HJL.out)
        obtain ⟨e3, f3⟩ := one_at k3
        have hgw2 : w.heap.size + 1 + 1 < wr.heap.size := blk_lt k3
        have HK3 := Lib.hid k3
        obtain ⟨x1, x2, -, -⟩ := HPV.out wr hbq
        clear hue hkM hg hng hgin hik hbq k3
        by_cases hlong : 8 < nf + ng
        · have t1 : decide ((8 : Int) < (nf : Int) + (ng : Int)) = true := decide_eq_true (by omega)
          have t2 : decide (8 < nf + ng) = true := decide_eq_true hlong
          have HER : Hid (errD L M = ic + 1) := by
            unfold Hid
            rw [HED.out]
            exact HIC.out (prod_long HL0.out HM0.out HFM.out HGM.out (by rw [HNF.out, HNG.out]; exact hlong))
          have R0 := Lib.hid (one_set (v := .slice none 0 0) HK3.out)
          have HBF := Lib.hid (show Below w.heap.size w (wr.setCell ⟨w.heap.size + 1 + 1, 0, none⟩ (.slice none 0 0)) from (HB2.out.trans (HBQ.out.mono hgB)).setCell (by show w.heap.size ≤ w.heap.size + 1 + 1; omega) _)
          have HPX := Lib.hid (HPE.out wr HBQ.out)
          clear hlong
          go_wp2_with fail
          refine HPX.out.mono ?_
          rintro e w' ⟨rfl, rfl⟩
          go_wp2_with fail
          refine bodyPost_ret (v := .tuple #[.agg #[.slice none 0 0], .iface 225 (.pointer (some (a ic)))]) (by simp [results, Tryz.results24, go_sem, R0.out]) rfl ?_
          exact ⟨HBF.out, Or.inr ⟨ic, hic8, HER.out, rfl⟩⟩
        · have t1 : decide ((8 : Int) < (nf : Int) + (ng : Int)) = false := decide_eq_false (by omega)
          have t2 : decide (8 < nf + ng) = false := decide_eq_false hlong
          have hpow : 2 ^ (f.length + g.length) ≤ 2 ^ 8 := Nat.pow_le_pow_right (by decide) (by rw [HNF.out, HNG.out]; omega)
          have HPT := Lib.hid (paths_any B gl gv gw V W (.slice p1 nV q1) (.slice p2 nW q2) w2 hBg HRV.out HRW.out (by rw [HNV.out]; omega) (by rw [HNW.out]; omega) HPV.out (nf + ng) f g [] (toldP L M j k) (.slice pj nf cj) (.slice pk ng ck) (.slice none 0 0) wr (by rw [HNF.out, HNG.out]; exact Nat.le_refl _) HBQ.out HTQ.out HIQ.out HIK.out (IntsIn.nil _ _) (fun _ => rfl) HFI.out.1 HGI.out.1 (fun x hx => by rw [← HVV.out]; exact HFI.out.2 x hx) (fun x hx => by rw [← HWW.out]; exact HGI.out.2 x hx) (by simp; omega) (by have := HTLK.out; omega))
          rw [← HVV.out, ← HWW.out, ← HSTP.out] at HPT
          unfold TdP at HPT
          clear hlong hpow
          go_wp2_with fail
          refine HPT.out.mono ?_
          rintro e w5 ⟨rfl, hf5, hs5⟩
          have HF5 := Lib.hid (HFQ.out.trans hf5)
          have HS5 := Lib.hid hs5
          have HIQ5 := Lib.hid (HIQ.out.fr hf5 hBg)
          obtain ⟨p5, c5, hc5, -⟩ := id hs5
          obtain ⟨l5, hl5⟩ : ∃ l5, (toldP L M j (k + 1)).length = l5 := ⟨_, rfl⟩
          rw [hl5] at hc5
          have HL5 := Lib.hid hl5
          have hbq5 := HB3.out.trans HF5.out.1
          obtain ⟨k1, k2, k3⟩ := HKS.out w5 hbq5
          have HK35 := Lib.hid k3
          obtain ⟨d5, -⟩ := one_at hc5
          obtain ⟨y1, y2, -, -⟩ := HPV.out w5 hbq5
          obtain ⟨e35, f35⟩ := one_at k3
          have hgw5 : w.heap.size + 1 + 1 < w5.heap.size := blk_lt k3
          have HBQ5 := Lib.hid hbq5
          clear hf5 hs5 hc5 hl5 hbq5 k1 k2 k3 d0 d1 x1 x2 e3 f3 HPT hck
          by_cases hmany : 1200 < l5
          · have t3 : decide ((1200 : Int) < (l5 : Int)) = true := decide_eq_true (by omega)
            have t4 : decide (1200 < l5) = true := decide_eq_true hmany
            have HER : Hid (errD L M = ic + 1) := by
              unfold Hid
              rw [HED.out]
              exact HIC.out (prod_many HL0.out HM0.out hsub.out (by rw [HL5.out]; exact hmany))
            have R0 := Lib.hid (one_set (v := .slice none 0 0) HK35.out)
            have HBF := Lib.hid (show Below w.heap.size w (w5.setCell ⟨w.heap.size + 1 + 1, 0, none⟩ (.slice none 0 0)) from (HB2.out.trans (HBQ5.out.mono hgB)).setCell (by show w.heap.size ≤ w.heap.size + 1 + 1; omega) _)
            have HPX := Lib.hid (HPE.out w5 HBQ5.out)
            clear hmany
            go_wp2_with fail
            refine HPX.out.mono ?_
            rintro e w' ⟨rfl, rfl⟩
            go_wp2_with fail
            refine bodyPost_ret (v := .tuple #[.agg #[.slice none 0 0], .iface 225 (.pointer (some (a ic)))]) (by simp [results, Tryz.results24, go_sem, R0.out]) rfl ?_
            exact ⟨HBF.out, Or.inr ⟨ic, hic8, HER.out, rfl⟩⟩
          · have t3 : decide ((1200 : Int) < (l5 : Int)) = false := decide_eq_false (by omega)
            have t4 : decide (1200 < l5) = false := decide_eq_false hmany
            have HTLN : Hid ((toldP L M j (k + 1)).length ≤ 1200) := by unfold Hid; rw [HL5.out]; omega
            clear hmany
            go_wp2_with fail
            go_roundw
            case rel => exact ⟨k + 1, by omega, by go_num, HF5.out, HS5.out, HTLN, HIQ5.out⟩
            case measure => simp [intOf]; omega
      · obtain rfl : k = m := by omega
        have HEND : Hid (toldP L M j k = toldR L M (j + 1)) := by unfold Hid; rw [← HMN.out]; exact toldP_end HJL.out
        clear k3
        go_wp2_with fail
        go_roundw
        case rel => exact ⟨j + 1, by omega, by go_num, HFQ.out, by rw [← HEND.out]; exact HTQ.out, by rw [← HEND.out]; exact HTLK⟩
        case measure => simp [intOf]; omega
    · obtain rfl : j = n := by omega
      have HALL : Hid (toldR L M j = wayL L M) := by unfold Hid; rw [← HLN.out]; exact toldR_all L M
      rw [HALL.out] at HTS HTL
      obtain ⟨p5, c5, hc5, hr5⟩ := HTS.out
      obtain ⟨l5, hl5⟩ : ∃ l5, (wayL L M).length = l5 := ⟨_, rfl⟩
      rw [hl5] at hc5 hr5
      obtain ⟨d5, -⟩ := one_at hc5
      have HLT := Lib.hid (show l5 ≤ 1200 by rw [← hl5]; exact HTL.out)
      have HL5 := Lib.hid hl5
      have HBW := Lib.hid (HB2.out.trans (hbr.mono hgB))
      have HMK := Lib.hid (make_any a B (wayL L M) (.slice p5 l5 c5) wr (HS.out.below HBW.out (Nat.le_refl _)) (Nat.le_trans HBB.out HBW.out.size) hr5.lists (by rw [HL5.out]; have := HLT.out; omega) (wayL_bd HL0.out HM0.out HL1.out HL2.out))
      unfold MakeC at HMK
      obtain ⟨-, -, k3⟩ := HKS.out wr hbr
      have HK3 := Lib.hid k3
      have hgw2 : w.heap.size + 1 + 1 < wr.heap.size := blk_lt k3
      clear hc5 hr5 hl5 k3 hbr
      go_wp2_with fail
      refine HMK.out.mono ?_
      rintro e w5 ⟨hb5, ⟨h0, u5, rfl, hR5⟩ | ⟨h0, k, hk, hek, rfl⟩⟩
      rotate_left
      · have HB5 := Lib.hid (HBW.out.trans (hb5.mono HBW.out.size))
        have hk5 := below_blk hb5 HK3.out
        have d0 := (one_at hk5).1
        have f0 := (one_at hk5).2
        have R0 := Lib.hid (one_set (v := .slice none 0 0) hk5)
        have HBF := Lib.hid (show Below w.heap.size w (w5.setCell ⟨w.heap.size + 1 + 1, 0, none⟩ (.slice none 0 0)) from HB5.out.setCell (by show w.heap.size ≤ w.heap.size + 1 + 1; omega) _)
        have HER : Hid (errD L M = k + 1) := by unfold Hid; rw [HED.out, ← prod_err HL0.out HM0.out]; exact hek
        unfold errE
        clear hb5 hk5 hek h0
        go_wp2_with fail
        refine bodyPost_ret (v := .tuple #[.agg #[.slice none 0 0], .iface 225 (.pointer (some (a k)))]) (by simp [results, Tryz.results24, go_sem, R0.out]) rfl ?_
        exact ⟨HBF.out, Or.inr ⟨k, hk, HER.out, rfl⟩⟩
      have HER : Hid (errD L M = 0) := by unfold Hid; rw [HED.out, ← prod_err HL0.out HM0.out]; exact h0
      clear h0 HMK
      obtain ⟨p6, c6, hu6, -⟩ := hR5.lists
      have hk5 := below_blk hb5 HK3.out
      obtain ⟨s5, hs5⟩ : ∃ s5, (madeF (wayL L M)).length = s5 := ⟨_, rfl⟩
      rw [hs5] at hu6
      subst hu6
      have HS5 := Lib.hid hs5
      have HB5 := Lib.hid (HBW.out.trans (hb5.mono HBW.out.size))
      have d0 := (one_at hk5).1
      have f0 := (one_at hk5).2
      have R0 := Lib.hid (one_set (v := .slice p6 s5 c6) hk5)
      have HBF := Lib.hid (show Below w.heap.size w (w5.setCell ⟨w.heap.size + 1 + 1, 0, none⟩ (.slice p6 s5 c6)) from HB5.out.setCell (by show w.heap.size ≤ w.heap.size + 1 + 1; omega) _)
      have HLF : Hid (RowsO w.heap.size B (w5.setCell ⟨w.heap.size + 1 + 1, 0, none⟩ (.slice p6 s5 c6)) (.slice p6 s5 c6) (madeF (wayL L M))) := by
        have hro := hR5.grown (c := w.heap.size + 1 + 1) (grown_cell w5 (w.heap.size + 1 + 1) (.slice p6 s5 c6)) hgw2 (Nat.le_trans HBB.out (by omega)) (fun x e => by rw [hk5] at e; cases e)
        exact hro.le HBW.out.size
      clear hb5 hR5 hk5 hs5
      go_wp2_with fail
      refine bodyPost_ret (v := .tuple #[.agg #[.slice p6 s5 c6], .nilIface]) (by simp [results, Tryz.results24, go_sem, R0.out]) rfl ?_
      refine ⟨HBF.out, Or.inl ⟨HER.out, p6, c6, ?_, ?_⟩⟩
      · rw [HS5.out]
      · rw [HS5.out]; exact HLF.out
end Go.Proofs.YtipblphfjejpbaaGreatDoor
