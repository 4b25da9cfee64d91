/-
  Indices by heights, plain: a vertex's index by the faces of which it is the highest; the lower part of its link gives the same; the sum is Euler's number.
-/
import Derived.Test.YtddnjimpdidpaaaGreatDoorParA
import Derived.Test.YtddnjimpdidpaaaGreatDoorVrt
set_option linter.unusedSimpArgs false
set_option linter.unusedVariables false
namespace Go.Proofs.YtddnjimpdidpaaaGreatDoor
open Go Go.RowKit Go.Maps

def hiF (V h : List Int) (x : Int) : Int := h.getD (V.idxOf x) 0
def wgtF (f : List Int) : Int := if f.length % 2 = 0 then 1 else -1
/-- v is the highest of f -/
def topB (hi : Int → Int) (f : List Int) (v : Int) : Bool := decide (v ∈ f) && f.all fun y => decide (y = v) || decide (hi y < hi v)
theorem topB_iff {hi : Int → Int} {f : List Int} {v : Int} : topB hi f v = true ↔ v ∈ f ∧ ∀ y ∈ f, y ≠ v → hi y < hi v := by
  unfold topB
  simp only [Bool.and_eq_true, decide_eq_true_eq, List.all_eq_true, Bool.or_eq_true]
  constructor
  · rintro ⟨h1, h2⟩; exact ⟨h1, fun y hy hn => (h2 y hy).resolve_left hn⟩
  · rintro ⟨h1, h2⟩; exact ⟨h1, fun y hy => by by_cases h : y = v; exact Or.inl h; exact Or.inr (h2 y hy h)⟩
/-- what a face takes away from a vertex's index -/
def dnF (hi : Int → Int) (v : Int) (f : List Int) : Int := if 2 ≤ f.length ∧ topB hi f v = true then wgtF f else 0
def idxF (A : List (List Int)) (hi : Int → Int) (v : Int) : Int := 1 - (A.map (dnF hi v)).sum

/-! ### sums -/
theorem perm_sum {l m : List Int} (h : l.Perm m) : l.sum = m.sum := by
  induction h with
  | nil => rfl
  | cons x _ ih => rw [List.sum_cons, List.sum_cons, ih]
  | swap x y l => rw [List.sum_cons, List.sum_cons, List.sum_cons, List.sum_cons]; omega
  | trans _ _ ih1 ih2 => exact ih1.trans ih2
theorem sum_swap {α β : Type} (c : α → β → Int) (l : List α) : ∀ m : List β, (l.map fun a => (m.map fun b => c a b).sum).sum = (m.map fun b => (l.map fun a => c a b).sum).sum := by
  have h0 : ∀ l : List α, (l.map fun _ => (0 : Int)).sum = 0 := fun l => by induction l with
    | nil => rfl
    | cons a l ih => rw [List.map_cons, List.sum_cons, ih]; rfl
  have ha : ∀ (l : List α) (f g : α → Int), (l.map fun a => f a + g a).sum = (l.map f).sum + (l.map g).sum := fun l f g => by induction l with
    | nil => rfl
    | cons a l ih => rw [List.map_cons, List.map_cons, List.map_cons, List.sum_cons, List.sum_cons, List.sum_cons, ih]; omega
  intro m
  induction m with
  | nil => exact h0 l
  | cons b m ih =>
    rw [List.map_cons, List.sum_cons, ← ih, ← ha]
    rfl
theorem sum_one {V : List Int} (hn : V.Nodup) {v : Int} (hv : v ∈ V) (x : Int) {c : Int → Int} (hc : ∀ u ∈ V, c u = if u = v then x else 0) : (V.map c).sum = x := by
  induction V with
  | nil => cases hv
  | cons u V ih =>
    obtain ⟨h1, h2⟩ := List.nodup_cons.1 hn
    rw [List.map_cons, List.sum_cons, hc u (List.mem_cons_self ..)]
    by_cases h : u = v
    · subst h
      have : ∀ l : List Int, (∀ w ∈ l, c w = 0) → (l.map c).sum = 0 := fun l hl => by induction l with
        | nil => rfl
        | cons w l ih => rw [List.map_cons, List.sum_cons, hl w (List.mem_cons_self ..), ih fun z hz => hl z (List.mem_cons_of_mem _ hz)]; rfl
      rw [if_pos rfl, this V fun w hw => by rw [hc w (List.mem_cons_of_mem _ hw), if_neg (fun e : w = u => h1 (e ▸ hw))]]
      omega
    · rw [if_neg h, ih h2 ((List.mem_cons.1 hv).resolve_left (fun e => h e.symm)) fun w hw => hc w (List.mem_cons_of_mem _ hw)]
      omega
/-- a face has a highest vertex -/
theorem top_ex {hi : Int → Int} : ∀ {f : List Int}, f ≠ [] → (∀ x ∈ f, ∀ y ∈ f, hi x = hi y → x = y) → ∃ v ∈ f, ∀ y ∈ f, y ≠ v → hi y < hi v
  | [], h, _ => absurd rfl h
  | [x], _, _ => ⟨x, List.mem_singleton_self x, fun y hy hn => absurd (List.mem_singleton.1 hy) hn⟩
  | x :: z :: f, _, hinj => by
    obtain ⟨v, hv, hm⟩ := top_ex (hi := hi) (f := z :: f) (by simp) fun a ha b hb => hinj a (List.mem_cons_of_mem _ ha) b (List.mem_cons_of_mem _ hb)
    by_cases h : hi v < hi x
    · refine ⟨x, List.mem_cons_self .., fun y hy hn => ?_⟩
      rcases List.mem_cons.1 hy with rfl | hy
      · exact absurd rfl hn
      · by_cases e : y = v
        · rw [e]; exact h
        · have := hm y hy e; omega
    · refine ⟨v, List.mem_cons_of_mem _ hv, fun y hy hn => ?_⟩
      rcases List.mem_cons.1 hy with rfl | hy
      · have : hi y ≠ hi v := fun e => hn (hinj y (List.mem_cons_self ..) v (List.mem_cons_of_mem _ hv) e)
        omega
      · exact hm y hy hn
theorem top_one {hi : Int → Int} {f : List Int} {v u : Int} (hv : topB hi f v = true) (hu : topB hi f u = true) : u = v := by
  obtain ⟨h1, h2⟩ := topB_iff.1 hv
  obtain ⟨h3, h4⟩ := topB_iff.1 hu
  refine Classical.byContradiction fun hn => ?_
  have a := h2 u h3 hn
  have b := h4 v h1 (fun e => hn e.symm)
  omega

/-- the sum of the indices is Euler's number -/
theorem sum_idx {A : List (List Int)} {hi : Int → Int} (hs : (vertR A).Nodup) (hne : ∀ f ∈ A, f ≠ []) (hin : ∀ f ∈ A, ∀ x ∈ f, x ∈ vertR A) (hinj : ∀ x ∈ vertR A, ∀ y ∈ vertR A, hi x = hi y → x = y) : ((vertR A).map (idxF A hi)).sum = eulF A := by
  have e1 : ∀ V : List Int, (V.map (idxF A hi)).sum = (V.length : Int) - (V.map fun v => (A.map fun f => dnF hi v f).sum).sum := fun V => by
    induction V with
    | nil => rfl
    | cons v V ih => rw [List.map_cons, List.sum_cons, ih, List.map_cons, List.sum_cons, List.length_cons, show idxF A hi v = 1 - (A.map fun f => dnF hi v f).sum from rfl]; omega
  rw [e1, sum_swap]
  have e2 : ∀ f ∈ A, ((vertR A).map fun v => dnF hi v f).sum = if 2 ≤ f.length then wgtF f else 0 := fun f hf => by
    by_cases h2 : 2 ≤ f.length
    · rw [if_pos h2]
      obtain ⟨v, hv, hm⟩ := top_ex (hi := hi) (hne f hf) fun x hx y hy => hinj x (hin f hf x hx) y (hin f hf y hy)
      refine sum_one hs (hin f hf v hv) _ fun u hu => ?_
      unfold dnF
      by_cases e : u = v
      · rw [if_pos e, e, if_pos ⟨h2, topB_iff.2 ⟨hv, hm⟩⟩]
      · rw [if_neg e, if_neg (fun hh => e (top_one (topB_iff.2 ⟨hv, hm⟩) hh.2))]
    · rw [if_neg h2]
      have : ∀ l : List Int, (l.map fun v => dnF hi v f).sum = 0 := fun l => by induction l with
        | nil => rfl
        | cons w l ih => rw [List.map_cons, List.sum_cons, ih]; unfold dnF; rw [if_neg (fun hh => h2 hh.1)]; rfl
      exact this _
  have e3 : ∀ B : List (List Int), (∀ f ∈ B, f ≠ []) → ((vertR B).length : Int) - (B.map fun f => if 2 ≤ f.length then wgtF f else 0).sum = eulF B := fun B => by
    induction B with
    | nil => intro _; rfl
    | cons f B ih =>
      intro hB
      have ih := ih fun g hg => hB g (List.mem_cons_of_mem _ hg)
      have hf : 1 ≤ f.length := by
        have := hB f (List.mem_cons_self ..)
        cases f with
        | nil => exact absurd rfl this
        | cons => simp
      have ev : ((vertR (f :: B)).length : Int) = (if f.length = 1 then 1 else 0) + ((vertR B).length : Int) := by
        unfold vertR
        rw [List.filterMap_cons]
        by_cases h : f.length = 1
        · rw [if_pos h, if_pos h]; simp; omega
        · rw [if_neg h, if_neg h]; simp
      have ee : eulF (f :: B) = sgnF f + eulF B := by unfold eulF; simp
      rw [ev, ee, List.map_cons, List.sum_cons]
      have : (if f.length = 1 then (1 : Int) else 0) - (if 2 ≤ f.length then wgtF f else 0) = sgnF f := by
        unfold wgtF sgnF
        by_cases h : f.length = 1
        · rw [if_pos h, if_neg (by omega), if_pos (by omega)]; rfl
        · rw [if_neg h, if_pos (by omega)]
          by_cases h3 : f.length % 2 = 0
          · rw [if_pos h3, if_neg (by omega)]; rfl
          · rw [if_neg h3, if_pos (by omega)]; rfl
      omega
  rw [List.map_congr_left e2]
  exact e3 A hne

/-! ### the document's index -/
theorem low_sum {A : List (List Int)} {hi : Int → Int} {v : Int} (hr : ∀ f ∈ A, Rise f) : (((linkP A [v]).filter fun x => x.all fun y => decide (hi y < hi v)).map sgnF).sum = (A.map (dnF hi v)).sum := by
  unfold linkP
  induction A with
  | nil => rfl
  | cons f A ih =>
    have ih := ih fun g hg => hr g (List.mem_cons_of_mem _ hg)
    rw [List.filterMap_cons, List.map_cons, List.sum_cons, ← ih]
    have hf := hr f (List.mem_cons_self ..)
    have hmin : ∀ y, y ∈ minF f [v] ↔ y ∈ f ∧ y ≠ v := fun y => by rw [mem_minF]; simp
    by_cases hv : v ∈ f
    · have hp : partB [v] f = true := partB_iff.2 fun x hx => by rw [List.mem_singleton.1 hx]; exact hv
      have hlen : (minF f [v]).length + 1 = f.length := by
        have hnd : f.Nodup := List.Pairwise.imp (fun h => by omega) hf
        have : ∀ l : List Int, l.Nodup → v ∈ l → (minF l [v]).length + 1 = l.length := fun l hl hm => by
          induction l with
          | nil => cases hm
          | cons z l ihl =>
            obtain ⟨q1, q2⟩ := List.nodup_cons.1 hl
            by_cases e : z = v
            · subst e
              have hs : minF (z :: l) [z] = l := by
                unfold minF
                rw [List.filter_cons, if_neg (by simp)]
                exact List.filter_eq_self.2 fun y hy => by
                  have : y ≠ z := fun e => q1 (e ▸ hy)
                  simp [this]
              rw [hs]; rfl
            · have hs : minF (z :: l) [v] = z :: minF l [v] := by
                unfold minF
                rw [List.filter_cons, if_pos (by simp [e])]
              rw [hs, List.length_cons, List.length_cons, ihl q2 ((List.mem_cons.1 hm).resolve_left (fun e' => e e'.symm))]
        exact this f hnd hv
      by_cases h2 : 2 ≤ f.length
      · have hne : minF f [v] ≠ [] := fun e => by rw [e] at hlen; simp at hlen; omega
        rw [if_pos ⟨hp, hne⟩]
        simp only
        rw [List.filter_cons]
        have hall : (minF f [v]).all (fun y => decide (hi y < hi v)) = topB hi f v := by
          rw [Bool.eq_iff_iff, topB_iff, List.all_eq_true]
          constructor
          · intro h; exact ⟨hv, fun y hy hn => of_decide_eq_true (h y ((hmin y).2 ⟨hy, hn⟩))⟩
          · rintro ⟨-, h⟩ y hy
            obtain ⟨a, b⟩ := (hmin y).1 hy
            exact decide_eq_true (h y a b)
        rw [hall]
        have hs : sgnF (minF f [v]) = wgtF f := by
          unfold sgnF wgtF
          by_cases h3 : f.length % 2 = 0
          · rw [if_pos h3, if_pos (by omega)]
          · rw [if_neg h3, if_neg (by omega)]
        unfold dnF
        by_cases ht : topB hi f v = true
        · rw [if_pos ht, if_pos ⟨h2, ht⟩, List.map_cons, List.sum_cons, hs]
        · rw [if_neg ht, if_neg (fun hh => ht hh.2)]; omega
      · have hne : minF f [v] = [] := List.eq_nil_of_length_eq_zero (by omega)
        rw [if_neg (fun hh => hh.2 hne)]
        unfold dnF
        rw [if_neg (fun hh => h2 hh.1)]
        simp only; omega
    · rw [if_neg (fun hh => hv (partB_iff.1 hh.1 v (List.mem_singleton_self v)))]
      have : dnF hi v f = 0 := by
        unfold dnF
        rw [if_neg (fun hh => hv (topB_iff.1 hh.2).1)]
      rw [this]
      simp only; omega
theorem fmap_filter {α : Type} {P : α → Prop} [DecidablePred P] {g : α → α} : ∀ {l : List α}, (∀ x ∈ l, P x → g x = x) → (l.filterMap fun x => if P x then some (g x) else none) = l.filter fun x => decide (P x)
  | [], _ => rfl
  | x :: l, h => by
    have ih := fmap_filter (P := P) (g := g) (l := l) fun y hy => h y (List.mem_cons_of_mem _ hy)
    rw [List.filterMap_cons, List.filter_cons, ← ih]
    by_cases hx : P x
    · rw [if_pos hx, if_pos (decide_eq_true hx), h x (List.mem_cons_self ..) hx]
    · rw [if_neg hx, if_neg (by simpa using hx)]
theorem nodup_linkF {A : List (List Int)} (hA : A.Nodup) (f : List Int) : (linkF A f).Nodup := by
  unfold linkF
  rw [fmap_filter (P := fun x => minF x f ≠ [] ∧ (minF x f).length = x.length ∧ togF (minF x f) f ∈ A) (g := fun x => minF x f) fun x _ hx => (List.filter_sublist (l := x)).eq_of_length hx.2.1]
  exact hA.sublist List.filter_sublist
theorem nodup_linkP {A : List (List Int)} (hA : A.Nodup) (hr : ∀ g ∈ A, Rise g) (v : Int) : (linkP A [v]).Nodup := by
  unfold linkP List.Nodup
  rw [List.pairwise_filterMap]
  refine List.Pairwise.imp_of_mem (fun {a b} ha hb hne => ?_) hA
  intro y hy z hz e
  by_cases h1 : partB [v] a = true ∧ minF a [v] ≠ []
  · by_cases h2 : partB [v] b = true ∧ minF b [v] ≠ []
    · rw [if_pos h1] at hy
      rw [if_pos h2] at hz
      obtain rfl := Option.some.inj hy
      obtain rfl := Option.some.inj hz
      refine hne (rise_ext (hr a ha) (hr b hb) fun x => ?_)
      have hva := partB_iff.1 h1.1 v (List.mem_singleton_self v)
      have hvb := partB_iff.1 h2.1 v (List.mem_singleton_self v)
      by_cases hx : x = v
      · rw [hx]; exact ⟨fun _ => hvb, fun _ => hva⟩
      · have q1 : x ∈ minF a [v] ↔ x ∈ a := by rw [mem_minF]; simp [hx]
        have q2 : x ∈ minF b [v] ↔ x ∈ b := by rw [mem_minF]; simp [hx]
        rw [← q1, ← q2, e]
    · rw [if_neg h2] at hz; cases hz
  · rw [if_neg h1] at hy; cases hy
/-- the document's index of a vertex -/
theorem ref_idx {A : List (List Int)} {hi : Int → Int} {v : Int} (hA : A.Nodup) (hr : ∀ g ∈ A, Rise g) (hc : ∀ g ∈ A, ∀ h, h.Sublist g → h ≠ [] → h ∈ A) : 1 - eulF ((linkF A [v]).filter fun x => x.all fun y => decide (hi y < hi v)) = idxF A hi v := by
  unfold idxF eulF
  rw [← low_sum hr]
  have hp : (linkF A [v]).Perm (linkP A [v]) := (List.perm_ext_iff_of_nodup (nodup_linkF hA _) (nodup_linkP hA hr v)).2 fun x => link_same hr hc
  rw [perm_sum ((hp.filter _).map sgnF)]
/-- the program's order of faces: by tables -/
theorem idx_perm {A T : List (List Int)} {hi : Int → Int} {v : Int} (h : T.Perm A) : 1 - (T.map (dnF hi v)).sum = idxF A hi v := by
  unfold idxF
  rw [perm_sum (h.map _)]
end Go.Proofs.YtddnjimpdidpaaaGreatDoor
