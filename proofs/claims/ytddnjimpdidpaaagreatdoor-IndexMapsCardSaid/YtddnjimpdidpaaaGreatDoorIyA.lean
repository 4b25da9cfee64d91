/-
  Indices by heights, plain: a vertex's index by the faces of which it is the highest; the lower part of its link gives the same; the sum is Euler's number.
  The sign of an order, plain: how many pairs stand the wrong way round; a change of two neighbours takes one away; none is left where no neighbours fall.
  Maps of complexes, plain: images of faces, the first fault, fixed faces, LEFSCHETZ' number.
-/
import Derived.Test.YtddnjimpdidpaaaGreatDoorParA
import Derived.Test.YtddnjimpdidpaaaGreatDoorJnC
import Derived.Test.YtddnjimpdidpaaaGreatDoorCelP
import Derived.Test.YtddnjimpdidpaaaGreatDoorCRefC
set_option linter.unusedSimpArgs false
set_option linter.unusedVariables false
namespace Go.Proofs.YtddnjimpdidpaaaGreatDoor
open Go Go.RowKit Go.Maps

def hiF (V h : List Int) (x : Int) : Int := h.getD (V.idxOf x) 0
def wgtF (f : List Int) : Int := if f.length % 2 = 0 then 1 else -1
/-- v is the highest of f -/
def topB (hi : Int → Int) (f : List Int) (v : Int) : Bool := decide (v ∈ f) && f.all fun y => decide (y = v) || decide (hi y < hi v)
theorem topB_iff {hi : Int → Int} {f : List Int} {v : Int} : topB hi f v = true ↔ v ∈ f ∧ ∀ y ∈ f, y ≠ v → hi y < hi v := by
  unfold topB
  simp only [Bool.and_eq_true, decide_eq_true_eq, List.all_eq_true, Bool.or_eq_true]
  constructor
  · rintro ⟨h1, h2⟩; exact ⟨h1, fun y hy hn => (h2 y hy).resolve_left hn⟩
  · rintro ⟨h1, h2⟩; exact ⟨h1, fun y hy => by by_cases h : y = v; exact Or.inl h; exact Or.inr (h2 y hy h)⟩
/-- what a face takes away from a vertex's index -/
def dnF (hi : Int → Int) (v : Int) (f : List Int) : Int := if 2 ≤ f.length ∧ topB hi f v = true then wgtF f else 0
def idxF (A : List (List Int)) (hi : Int → Int) (v : Int) : Int := 1 - (A.map (dnF hi v)).sum

/-! ### sums -/
theorem perm_sum {l m : List Int} (h : l.Perm m) : l.sum = m.sum := by
  induction h with
  | nil => rfl
  | cons x _ ih => rw [List.sum_cons, List.sum_cons, ih]
  | swap x y l => rw [List.sum_cons, List.sum_cons, List.sum_cons, List.sum_cons]; omega
  | trans _ _ ih1 ih2 => exact ih1.trans ih2
theorem sum_swap {α β : Type} (c : α → β → Int) (l : List α) : ∀ m : List β, (l.map fun a => (m.map fun b => c a b).sum).sum = (m.map fun b => (l.map fun a => c a b).sum).sum := by
  have h0 : ∀ l : List α, (l.map fun _ => (0 : Int)).sum = 0 := fun l => by induction l with
    | nil => rfl
    | cons a l ih => rw [List.map_cons, List.sum_cons, ih]; rfl
  have ha : ∀ (l : List α) (f g : α → Int), (l.map fun a => f a + g a).sum = (l.map f).sum + (l.map g).sum := fun l f g => by induction l with
    | nil => rfl
    | cons a l ih => rw [List.map_cons, List.map_cons, List.map_cons, List.sum_cons, List.sum_cons, List.sum_cons, ih]; omega
  intro m
  induction m with
  | nil => exact h0 l
  | cons b m ih =>
    rw [List.map_cons, List.sum_cons, ← ih, ← ha]
    rfl
theorem sum_one {V : List Int} (hn : V.Nodup) {v : Int} (hv : v ∈ V) (x : Int) {c : Int → Int} (hc : ∀ u ∈ V, c u = if u = v then x else 0) : (V.map c).sum = x := by
  induction V with
  | nil => cases hv
  | cons u V ih =>
    obtain ⟨h1, h2⟩ := List.nodup_cons.1 hn
    rw [List.map_cons, List.sum_cons, hc u (List.mem_cons_self ..)]
    by_cases h : u = v
    · subst h
      have : ∀ l : List Int, (∀ w ∈ l, c w = 0) → (l.map c).sum = 0 := fun l hl => by induction l with
        | nil => rfl
        | cons w l ih => rw [List.map_cons, List.sum_cons, hl w (List.mem_cons_self ..), ih fun z hz => hl z (List.mem_cons_of_mem _ hz)]; rfl
      rw [if_pos rfl, this V fun w hw => by rw [hc w (List.mem_cons_of_mem _ hw), if_neg (fun e : w = u => h1 (e ▸ hw))]]
      omega
    · rw [if_neg h, ih h2 ((List.mem_cons.1 hv).resolve_left (fun e => h e.symm)) fun w hw => hc w (List.mem_cons_of_mem _ hw)]
      omega
/-- a face has a highest vertex -/
theorem top_ex {hi : Int → Int} : ∀ {f : List Int}, f ≠ [] → (∀ x ∈ f, ∀ y ∈ f, hi x = hi y → x = y) → ∃ v ∈ f, ∀ y ∈ f, y ≠ v → hi y < hi v
  | [], h, _ => absurd rfl h
  | [x], _, _ => ⟨x, List.mem_singleton_self x, fun y hy hn => absurd (List.mem_singleton.1 hy) hn⟩
  | x :: z :: f, _, hinj => by
    obtain ⟨v, hv, hm⟩ := top_ex (hi := hi) (f := z :: f) (by simp) fun a ha b hb => hinj a (List.mem_cons_of_mem _ ha) b (List.mem_cons_of_mem _ hb)
    by_cases h : hi v < hi x
    · refine ⟨x, List.mem_cons_self .., fun y hy hn => ?_⟩
      rcases List.mem_cons.1 hy with rfl | hy
      · exact absurd rfl hn
      · by_cases e : y = v
        · rw [e]; exact h
        · have := hm y hy e; omega
    · refine ⟨v, List.mem_cons_of_mem _ hv, fun y hy hn => ?_⟩
      rcases List.mem_cons.1 hy with rfl | hy
      · have : hi y ≠ hi v := fun e => hn (hinj y (List.mem_cons_self ..) v (List.mem_cons_of_mem _ hv) e)
        omega
      · exact hm y hy hn
theorem top_one {hi : Int → Int} {f : List Int} {v u : Int} (hv : topB hi f v = true) (hu : topB hi f u = true) : u = v := by
  obtain ⟨h1, h2⟩ := topB_iff.1 hv
  obtain ⟨h3, h4⟩ := topB_iff.1 hu
  refine Classical.byContradiction fun hn => ?_
  have a := h2 u h3 hn
  have b := h4 v h1 (fun e => hn e.symm)
  omega

/-- the sum of the indices is Euler's number -/
theorem sum_idx {A : List (List Int)} {hi : Int → Int} (hs : (vertR A).Nodup) (hne : ∀ f ∈ A, f ≠ []) (hin : ∀ f ∈ A, ∀ x ∈ f, x ∈ vertR A) (hinj : ∀ x ∈ vertR A, ∀ y ∈ vertR A, hi x = hi y → x = y) : ((vertR A).map (idxF A hi)).sum = eulF A := by
  have e1 : ∀ V : List Int, (V.map (idxF A hi)).sum = (V.length : Int) - (V.map fun v => (A.map fun f => dnF hi v f).sum).sum := fun V => by
    induction V with
    | nil => rfl
    | cons v V ih => rw [List.map_cons, List.sum_cons, ih, List.map_cons, List.sum_cons, List.length_cons, show idxF A hi v = 1 - (A.map fun f => dnF hi v f).sum from rfl]; omega
  rw [e1, sum_swap]
  have e2 : ∀ f ∈ A, ((vertR A).map fun v => dnF hi v f).sum = if 2 ≤ f.length then wgtF f else 0 := fun f hf => by
    by_cases h2 : 2 ≤ f.length
    · rw [if_pos h2]
      obtain ⟨v, hv, hm⟩ := top_ex (hi := hi) (hne f hf) fun x hx y hy => hinj x (hin f hf x hx) y (hin f hf y hy)
      refine sum_one hs (hin f hf v hv) _ fun u hu => ?_
      unfold dnF
      by_cases e : u = v
      · rw [if_pos e, e, if_pos ⟨h2, topB_iff.2 ⟨hv, hm⟩⟩]
      · rw [if_neg e, if_neg (fun hh => e (top_one (topB_iff.2 ⟨hv, hm⟩) hh.2))]
    · rw [if_neg h2]
      have : ∀ l : List Int, (l.map fun v => dnF hi v f).sum = 0 := fun l => by induction l with
        | nil => rfl
        | cons w l ih => rw [List.map_cons, List.sum_cons, ih]; unfold dnF; rw [if_neg (fun hh => h2 hh.1)]; rfl
      exact this _
  have e3 : ∀ B : List (List Int), (∀ f ∈ B, f ≠ []) → ((vertR B).length : Int) - (B.map fun f => if 2 ≤ f.length then wgtF f else 0).sum = eulF B := fun B => by
    induction B with
    | nil => intro _; rfl
    | cons f B ih =>
      intro hB
      have ih := ih fun g hg => hB g (List.mem_cons_of_mem _ hg)
      have hf : 1 ≤ f.length := by
        have := hB f (List.mem_cons_self ..)
        cases f with
        | nil => exact absurd rfl this
        | cons => simp
      have ev : ((vertR (f :: B)).length : Int) = (if f.length = 1 then 1 else 0) + ((vertR B).length : Int) := by
        unfold vertR
        rw [List.filterMap_cons]
        by_cases h : f.length = 1
        · rw [if_pos h, if_pos h]; simp; omega
        · rw [if_neg h, if_neg h]; simp
      have ee : eulF (f :: B) = sgnF f + eulF B := by unfold eulF; simp
      rw [ev, ee, List.map_cons, List.sum_cons]
      have : (if f.length = 1 then (1 : Int) else 0) - (if 2 ≤ f.length then wgtF f else 0) = sgnF f := by
        unfold wgtF sgnF
        by_cases h : f.length = 1
        · rw [if_pos h, if_neg (by omega), if_pos (by omega)]; rfl
        · rw [if_neg h, if_pos (by omega)]
          by_cases h3 : f.length % 2 = 0
          · rw [if_pos h3, if_neg (by omega)]; rfl
          · rw [if_neg h3, if_pos (by omega)]; rfl
      omega
  rw [List.map_congr_left e2]
  exact e3 A hne

/-! ### the document's index -/
theorem low_sum {A : List (List Int)} {hi : Int → Int} {v : Int} (hr : ∀ f ∈ A, Rise f) : (((linkP A [v]).filter fun x => x.all fun y => decide (hi y < hi v)).map sgnF).sum = (A.map (dnF hi v)).sum := by
  unfold linkP
  induction A with
  | nil => rfl
  | cons f A ih =>
    have ih := ih fun g hg => hr g (List.mem_cons_of_mem _ hg)
    rw [List.filterMap_cons, List.map_cons, List.sum_cons, ← ih]
    have hf := hr f (List.mem_cons_self ..)
    have hmin : ∀ y, y ∈ minF f [v] ↔ y ∈ f ∧ y ≠ v := fun y => by rw [mem_minF]; simp
    by_cases hv : v ∈ f
    · have hp : partB [v] f = true := partB_iff.2 fun x hx => by rw [List.mem_singleton.1 hx]; exact hv
      have hlen : (minF f [v]).length + 1 = f.length := by
        have hnd : f.Nodup := List.Pairwise.imp (fun h => by omega) hf
        have : ∀ l : List Int, l.Nodup → v ∈ l → (minF l [v]).length + 1 = l.length := fun l hl hm => by
          induction l with
          | nil => cases hm
          | cons z l ihl =>
            obtain ⟨q1, q2⟩ := List.nodup_cons.1 hl
            by_cases e : z = v
            · subst e
              have hs : minF (z :: l) [z] = l := by
                unfold minF
                rw [List.filter_cons, if_neg (by simp)]
                exact List.filter_eq_self.2 fun y hy => by
                  have : y ≠ z := fun e => q1 (e ▸ hy)
                  simp [this]
              rw [hs]; rfl
            · have hs : minF (z :: l) [v] = z :: minF l [v] := by
                unfold minF
                rw [List.filter_cons, if_pos (by simp [e])]
              rw [hs, List.length_cons, List.length_cons, ihl q2 ((List.mem_cons.1 hm).resolve_left (fun e' => e e'.symm))]
        exact this f hnd hv
      by_cases h2 : 2 ≤ f.length
      · have hne : minF f [v] ≠ [] := fun e => by rw [e] at hlen; simp at hlen; omega
        rw [if_pos ⟨hp, hne⟩]
        simp only
        rw [List.filter_cons]
        have hall : (minF f [v]).all (fun y => decide (hi y < hi v)) = topB hi f v := by
          rw [Bool.eq_iff_iff, topB_iff, List.all_eq_true]
          constructor
          · intro h; exact ⟨hv, fun y hy hn => of_decide_eq_true (h y ((hmin y).2 ⟨hy, hn⟩))⟩
          · rintro ⟨-, h⟩ y hy
            obtain ⟨a, b⟩ := (hmin y).1 hy
            exact decide_eq_true (h y a b)
        rw [hall]
        have hs : sgnF (minF f [v]) = wgtF f := by
          unfold sgnF wgtF
          by_cases h3 : f.length % 2 = 0
          · rw [if_pos h3, if_pos (by omega)]
          · rw [if_neg h3, if_neg (by omega)]
        unfold dnF
        by_cases ht : topB hi f v = true
        · rw [if_pos ht, if_pos ⟨h2, ht⟩, List.map_cons, List.sum_cons, hs]
        · rw [if_neg ht, if_neg (fun hh => ht hh.2)]; omega
      · have hne : minF f [v] = [] := List.eq_nil_of_length_eq_zero (by omega)
        rw [if_neg (fun hh => hh.2 hne)]
        unfold dnF
        rw [if_neg (fun hh => h2 hh.1)]
        simp only; omega
    · rw [if_neg (fun hh => hv (partB_iff.1 hh.1 v (List.mem_singleton_self v)))]
      have : dnF hi v f = 0 := by
        unfold dnF
        rw [if_neg (fun hh => hv (topB_iff.1 hh.2).1)]
      rw [this]
      simp only; omega
theorem fmap_filter {α : Type} {P : α → Prop} [DecidablePred P] {g : α → α} : ∀ {l : List α}, (∀ x ∈ l, P x → g x = x) → (l.filterMap fun x => if P x then some (g x) else none) = l.filter fun x => decide (P x)
  | [], _ => rfl
  | x :: l, h => by
    have ih := fmap_filter (P := P) (g := g) (l := l) fun y hy => h y (List.mem_cons_of_mem _ hy)
    rw [List.filterMap_cons, List.filter_cons, ← ih]
    by_cases hx : P x
    · rw [if_pos hx, if_pos (decide_eq_true hx), h x (List.mem_cons_self ..) hx]
    · rw [if_neg hx, if_neg (by simpa using hx)]
theorem nodup_linkF {A : List (List Int)} (hA : A.Nodup) (f : List Int) : (linkF A f).Nodup := by
  unfold linkF
  rw [fmap_filter (P := fun x => minF x f ≠ [] ∧ (minF x f).length = x.length ∧ togF (minF x f) f ∈ A) (g := fun x => minF x f) fun x _ hx => (List.filter_sublist (l := x)).eq_of_length hx.2.1]
  exact hA.sublist List.filter_sublist
theorem nodup_linkP {A : List (List Int)} (hA : A.Nodup) (hr : ∀ g ∈ A, Rise g) (v : Int) : (linkP A [v]).Nodup := by
  unfold linkP List.Nodup
  rw [List.pairwise_filterMap]
  refine List.Pairwise.imp_of_mem (fun {a b} ha hb hne => ?_) hA
  intro y hy z hz e
  by_cases h1 : partB [v] a = true ∧ minF a [v] ≠ []
  · by_cases h2 : partB [v] b = true ∧ minF b [v] ≠ []
    · rw [if_pos h1] at hy
      rw [if_pos h2] at hz
      obtain rfl := Option.some.inj hy
      obtain rfl := Option.some.inj hz
      refine hne (rise_ext (hr a ha) (hr b hb) fun x => ?_)
      have hva := partB_iff.1 h1.1 v (List.mem_singleton_self v)
      have hvb := partB_iff.1 h2.1 v (List.mem_singleton_self v)
      by_cases hx : x = v
      · rw [hx]; exact ⟨fun _ => hvb, fun _ => hva⟩
      · have q1 : x ∈ minF a [v] ↔ x ∈ a := by rw [mem_minF]; simp [hx]
        have q2 : x ∈ minF b [v] ↔ x ∈ b := by rw [mem_minF]; simp [hx]
        rw [← q1, ← q2, e]
    · rw [if_neg h2] at hz; cases hz
  · rw [if_neg h1] at hy; cases hy
/-- the document's index of a vertex -/
theorem ref_idx {A : List (List Int)} {hi : Int → Int} {v : Int} (hA : A.Nodup) (hr : ∀ g ∈ A, Rise g) (hc : ∀ g ∈ A, ∀ h, h.Sublist g → h ≠ [] → h ∈ A) : 1 - eulF ((linkF A [v]).filter fun x => x.all fun y => decide (hi y < hi v)) = idxF A hi v := by
  unfold idxF eulF
  rw [← low_sum hr]
  have hp : (linkF A [v]).Perm (linkP A [v]) := (List.perm_ext_iff_of_nodup (nodup_linkF hA _) (nodup_linkP hA hr v)).2 fun x => link_same hr hc
  rw [perm_sum ((hp.filter _).map sgnF)]
/-- the program's order of faces: by tables -/
theorem idx_perm {A T : List (List Int)} {hi : Int → Int} {v : Int} (h : T.Perm A) : 1 - (T.map (dnF hi v)).sum = idxF A hi v := by
  unfold idxF
  rw [perm_sum (h.map _)]

/-- how many numbers behind are less, of each -/
def invN : List Int → Nat
  | [] => 0
  | a :: l => (l.filter fun b => decide (b < a)).length + invN l
def sgN (n : Nat) : Int := if n % 2 = 0 then 1 else -1
theorem sgN_succ (n : Nat) : sgN (n + 1) = - sgN n := by
  unfold sgN
  by_cases h : n % 2 = 0
  · rw [if_pos h, if_neg (by omega)]
  · rw [if_neg h, if_pos (by omega)]; rfl
theorem sgN_add (n m : Nat) : sgN (n + m) = sgN n * sgN m := by
  induction m with
  | zero => simp [sgN]
  | succ m ih => rw [← Nat.add_assoc, sgN_succ, sgN_succ, ih, Int.mul_neg]
theorem sgN_bd (n : Nat) : sgN n = 1 ∨ sgN n = -1 := by unfold sgN; split <;> simp
/-- one number more behind -/
theorem invN_snoc : ∀ (l : List Int) (a : Int), invN (l ++ [a]) = invN l + (l.filter fun b => decide (a < b)).length
  | [], a => by simp [invN]
  | x :: l, a => by
    have ih := invN_snoc l a
    rw [List.cons_append]
    simp only [invN]
    rw [ih, List.filter_append, List.length_append, List.filter_cons]
    by_cases h : a < x
    · rw [if_pos (decide_eq_true h)]
      simp [h]; omega
    · rw [if_neg (by simpa using h)]
      simp [h]; omega
theorem invN_swap : ∀ (u : List Int) {x y : Int} (v : List Int), y < x → invN (u ++ x :: y :: v) = invN (u ++ y :: x :: v) + 1
  | [], x, y, v, h => by
    simp only [List.nil_append, invN, List.filter_cons]
    rw [if_pos (decide_eq_true h), if_neg (by simp; omega)]
    simp; omega
  | z :: u, x, y, v, h => by
    have ih := invN_swap u v h
    simp only [List.cons_append, invN]
    have hp : (u ++ x :: y :: v).Perm (u ++ y :: x :: v) := List.Perm.append_left _ (List.Perm.swap ..)
    rw [ih, (hp.filter _).length_eq]
    omega
/-- where no neighbours fall, nothing stands the wrong way round -/
theorem invN_zero : ∀ {l : List Int}, (∀ i, i + 1 < l.length → l.getD i 0 ≤ l.getD (i + 1) 0) → invN l = 0
  | [], _ => rfl
  | [x], _ => rfl
  | x :: y :: l, h => by
    have hy : invN (y :: l) = 0 := invN_zero fun i hi => by
      have := h (i + 1) (by simpa using hi)
      simpa using this
    have hxy : x ≤ y := by simpa using h 0 (by simp)
    have hall : ∀ b ∈ y :: l, y ≤ b := by
      have hs : ∀ (m : List Int) (z : Int), (∀ i, i + 1 < (z :: m).length → (z :: m).getD i 0 ≤ (z :: m).getD (i + 1) 0) → ∀ b ∈ z :: m, z ≤ b := fun m => by
        induction m with
        | nil => intro z _ b hb; rw [List.mem_singleton.1 hb]; exact Int.le_refl _
        | cons t m ih =>
          intro z hz b hb
          rcases List.mem_cons.1 hb with rfl | hb
          · exact Int.le_refl _
          · have h1 : z ≤ t := by simpa using hz 0 (by simp)
            have h2 := ih t (fun i hi => by have := hz (i + 1) (by simpa using hi); simpa using this) b hb
            omega
      exact hs l y fun i hi => by have := h (i + 1) (by simpa using hi); simpa using this
    have : invN (x :: y :: l) = ((y :: l).filter fun b => decide (b < x)).length + invN (y :: l) := rfl
    rw [this, hy]
    have he : (y :: l).filter (fun b => decide (b < x)) = [] := List.filter_eq_nil_iff.2 fun b hb => by
      have := hall b hb
      simp; omega
    rw [he]; rfl
/-- two neighbours change places -/
def swapL (l : List Int) (i : Nat) : List Int := (l.set i (l.getD (i + 1) 0)).set (i + 1) (l.getD i 0)
theorem swap_form {l : List Int} {i : Nat} (h : i + 1 < l.length) : l = l.take i ++ l.getD i 0 :: l.getD (i + 1) 0 :: l.drop (i + 2) ∧ swapL l i = l.take i ++ l.getD (i + 1) 0 :: l.getD i 0 :: l.drop (i + 2) := by
  have e : l = l.take i ++ l.getD i 0 :: l.getD (i + 1) 0 :: l.drop (i + 2) := by
    have h1 := List.take_append_drop i l
    rw [List.drop_eq_getElem_cons (by omega), List.drop_eq_getElem_cons h] at h1
    have a : l.getD i 0 = l[i]'(by omega) := by rw [List.getD_eq_getElem?_getD, List.getElem?_eq_getElem (by omega)]; rfl
    have b : l.getD (i + 1) 0 = l[i + 1] := by rw [List.getD_eq_getElem?_getD, List.getElem?_eq_getElem h]; rfl
    rw [a, b]
    exact h1.symm
  refine ⟨e, ?_⟩
  unfold swapL
  generalize l.getD i 0 = x at e ⊢
  generalize l.getD (i + 1) 0 = y at e ⊢
  have hl : (l.take i).length = i := by rw [List.length_take]; omega
  generalize l.take i = u at e hl ⊢
  generalize l.drop (i + 2) = v at e ⊢
  subst e
  rw [List.set_append_right _ _ (by omega), hl, Nat.sub_self, List.set_cons_zero, List.set_append_right _ _ (by omega), hl, show i + 1 - i = 1 by omega]
  rfl
theorem invN_swapL {l : List Int} {i : Nat} (h : i + 1 < l.length) (hlt : l.getD (i + 1) 0 < l.getD i 0) : invN l = invN (swapL l i) + 1 := by
  obtain ⟨e1, e2⟩ := swap_form h
  rw [e2]
  conv => lhs; rw [e1]
  exact invN_swap _ _ hlt

/-- where the vertices of a face go -/
def imgF (V f x : List Int) : List Int := x.map (hiF V f)
theorem imgF_len (V f x : List Int) : (imgF V f x).length = x.length := List.length_map ..
/-- the first fault of a map: a code and a place -/
def mapE (V VB f : List Int) (F G : List (List Int)) : Nat × Int :=
  if V.length ≠ f.length then (3, -1) else
  if f.findIdx (fun x => decide (x ∉ VB)) < f.length then (4, (f.findIdx (fun x => decide (x ∉ VB)) : Int)) else
  if F.findIdx (fun x => decide (setL (imgF V f x) ∉ G)) < F.length then (7, (F.findIdx (fun x => decide (setL (imgF V f x) ∉ G)) : Int)) else (0, -1)
theorem first_at {α : Type} {p : α → Bool} {l : List α} {d : α} {i : Nat} (hi : i < l.length) (h : p (l.getD i d) = true) (hj : ∀ j, j < i → p (l.getD j d) = false) : l.findIdx p = i := by
  have hg : ∀ k, (hk : k < l.length) → l.getD k d = l[k] := fun k hk => by rw [List.getD_eq_getElem?_getD, List.getElem?_eq_getElem hk]; rfl
  refine (List.findIdx_eq hi).2 ⟨by rw [← hg i hi]; exact h, fun j hji => ?_⟩
  rw [← hg j (by omega)]
  exact hj j hji
theorem first_none {α : Type} {p : α → Bool} {l : List α} (h : ∀ x ∈ l, p x = false) : ¬ l.findIdx p < l.length := by
  rw [List.findIdx_lt_length]
  rintro ⟨x, hx, hp⟩
  rw [h x hx] at hp
  cases hp
theorem mapE_len {V VB f : List Int} {F G : List (List Int)} (h : V.length ≠ f.length) : mapE V VB f F G = (3, -1) := by unfold mapE; rw [if_pos h]
theorem mapE_face {V VB f : List Int} {F G : List (List Int)} {i : Nat} (h : V.length = f.length) (hi : i < f.length) (hj : ∀ j, j < i → f.getD j 0 ∈ VB) (hn : f.getD i 0 ∉ VB) : mapE V VB f F G = (4, (i : Int)) := by
  have e : f.findIdx (fun x => decide (x ∉ VB)) = i := first_at (d := 0) hi (decide_eq_true hn) fun j hji => decide_eq_false fun h => h (hj j hji)
  unfold mapE
  rw [if_neg (by simp [h]), e, if_pos hi]
theorem mapE_ord {V VB f : List Int} {F G : List (List Int)} {i : Nat} (h : V.length = f.length) (ha : ∀ x ∈ f, x ∈ VB) (hi : i < F.length) (hj : ∀ j, j < i → setL (imgF V f (F.getD j [])) ∈ G) (hn : setL (imgF V f (F.getD i [])) ∉ G) : mapE V VB f F G = (7, (i : Int)) := by
  have e : F.findIdx (fun x => decide (setL (imgF V f x) ∉ G)) = i := first_at (d := []) hi (decide_eq_true hn) fun j hji => decide_eq_false fun h => h (hj j hji)
  unfold mapE
  rw [if_neg (by simp [h]), if_neg (first_none fun x hx => decide_eq_false fun hn => hn (ha x hx)), e, if_pos hi]
theorem mapE_ok {V VB f : List Int} {F G : List (List Int)} (h : V.length = f.length) (ha : ∀ x ∈ f, x ∈ VB) (hF : ∀ x ∈ F, setL (imgF V f x) ∈ G) : mapE V VB f F G = (0, -1) := by
  unfold mapE
  rw [if_neg (by simp [h]), if_neg (first_none fun x hx => decide_eq_false fun hn => hn (ha x hx)), if_neg (first_none fun x hx => decide_eq_false fun hn => hn (hF x hx))]
theorem mapE_0 {V VB f : List Int} {F G : List (List Int)} (h : (mapE V VB f F G).1 = 0) : V.length = f.length ∧ (∀ x ∈ f, x ∈ VB) ∧ (∀ x ∈ F, setL (imgF V f x) ∈ G) ∧ (mapE V VB f F G).2 = -1 := by
  by_cases h1 : V.length ≠ f.length
  · rw [mapE_len h1] at h; cases h
  have h1 : V.length = f.length := by omega
  by_cases h2 : ∀ x ∈ f, x ∈ VB
  rotate_left
  · exfalso
    unfold mapE at h
    rw [if_neg (by simp [h1])] at h
    rw [if_pos ?_] at h
    · cases h
    · rw [List.findIdx_lt_length]
      have ⟨x, hx⟩ := Classical.not_forall.1 h2
      have ⟨h3, h4⟩ := Classical.not_imp.1 hx
      exact ⟨x, h3, decide_eq_true h4⟩
  by_cases h5 : ∀ x ∈ F, setL (imgF V f x) ∈ G
  rotate_left
  · exfalso
    unfold mapE at h
    rw [if_neg (by simp [h1]), if_neg (first_none fun x hx => decide_eq_false fun hn => hn (h2 x hx))] at h
    rw [if_pos ?_] at h
    · cases h
    · rw [List.findIdx_lt_length]
      have ⟨x, hx⟩ := Classical.not_forall.1 h5
      have ⟨h3, h4⟩ := Classical.not_imp.1 hx
      exact ⟨x, h3, decide_eq_true h4⟩
  exact ⟨h1, h2, h5, by rw [mapE_ok h1 h2 h5]⟩
theorem mapE_le (V VB f : List Int) (F G : List (List Int)) : (mapE V VB f F G).1 ≤ 7 := by
  unfold mapE
  repeat' split
  all_goals (show _ ≤ 7; first | exact (by decide : (3 : Nat) ≤ 7) | exact (by decide : (4 : Nat) ≤ 7) | exact Nat.le_refl 7 | exact Nat.zero_le 7)
theorem mapE_congr {V VB V' VB' f : List Int} {F G : List (List Int)} (h1 : V = V') (h2 : VB = VB') : mapE V VB f F G = mapE V' VB' f F G := by rw [h1, h2]

/-- the fixed faces -/
def fixF (V f : List Int) (F : List (List Int)) : List (List Int) := F.filter fun x => decide (setL (imgF V f x) = x)
theorem nodup_of_setL : ∀ {l : List Int}, (setL l).length = l.length → l.Nodup := fun {l} h => by
  induction hn : l.length generalizing l with
  | zero => rw [List.length_eq_zero_iff.1 hn]; exact List.Pairwise.nil
  | succ n ih =>
    obtain ⟨x, r, rfl⟩ : ∃ x r, l = r ++ [x] := ⟨l.getLast (by intro e; subst e; simp at hn), l.dropLast, (List.dropLast_concat_getLast _).symm⟩
    have e : r.length = n := by simpa using hn
    rw [setL_snoc] at h
    have h1 := setL_len r
    by_cases hx : x ∈ setL r
    · have h2 : insU (setL r) x = setL r := by unfold insU; rw [if_pos hx]
      rw [h2] at h
      simp at h
      omega
    · have h2 := insU_len (setL r) x
      simp at h
      have h3 := ih (l := r) (by omega) e
      rw [List.nodup_append]
      exact ⟨h3, by simp, fun a ha b hb => by
        obtain rfl := List.mem_singleton.1 hb
        exact fun e => hx (mem_setL.2 (e ▸ ha))⟩
theorem fix_once {V f x : List Int} (h : setL (imgF V f x) = x) : onceB (imgF V f x) = true := by
  unfold onceB
  exact decide_eq_true (nodup_of_setL (by rw [h, imgF_len]))
theorem fix_doc {V f x : List Int} : (onceB (imgF V f x) && decide (setL (imgF V f x) = x)) = decide (setL (imgF V f x) = x) := by
  by_cases h : setL (imgF V f x) = x
  · rw [fix_once h, Bool.true_and]
  · rw [decide_eq_false h, Bool.and_false]
/-- what a fixed face counts -/
def lefT (V f x : List Int) : Int := if x.length % 2 = 0 then - sgN (invN (imgF V f x)) else sgN (invN (imgF V f x))
theorem lefT_bd (V f x : List Int) : -1 ≤ lefT V f x ∧ lefT V f x ≤ 1 := by
  have := sgN_bd (invN (imgF V f x))
  unfold lefT
  split <;> omega
def lefF (V f : List Int) (F : List (List Int)) : Int := ((fixF V f F).map (lefT V f)).sum
/-- the sum of the first few -/
def preF (V f : List Int) (l : List (List Int)) (k : Nat) : Int := ((l.take k).map (lefT V f)).sum
theorem preF_succ {V f : List Int} {l : List (List Int)} {k : Nat} (h : k < l.length) : preF V f l (k + 1) = preF V f l k + lefT V f (l.getD k []) := by
  unfold preF
  rw [List.take_succ_eq_append_getElem h, List.map_append, List.sum_append, List.getD_eq_getElem?_getD, List.getElem?_eq_getElem h]
  simp
theorem preF_all (V f : List Int) (l : List (List Int)) : preF V f l l.length = (l.map (lefT V f)).sum := by unfold preF; rw [List.take_length]
theorem preF_bd {V f : List Int} {l : List (List Int)} : ∀ k, k ≤ l.length → -(k : Int) ≤ preF V f l k ∧ preF V f l k ≤ (k : Int)
  | 0, _ => by unfold preF; simp
  | k + 1, hk => by
    have ih := preF_bd (V := V) (f := f) (l := l) k (by omega)
    have h := lefT_bd V f (l.getD k [])
    rw [preF_succ (by omega)]
    omega
/-- one number more, as the program counts: each greater one ahead turns the sign -/
theorem sgN_snoc {l : List Int} {a : Int} : sgN (invN (l ++ [a])) = sgN (invN l) * sgN ((l.filter fun b => decide (a < b)).length) := by rw [invN_snoc, sgN_add]
theorem filt_snoc {l : List Int} {a b : Int} : ((l ++ [b]).filter fun b => decide (a < b)).length = (l.filter fun b => decide (a < b)).length + (if a < b then 1 else 0) := by
  rw [List.filter_append, List.length_append, List.filter_cons, List.filter_nil]
  split
  · rename_i h; rw [if_pos (of_decide_eq_true h)]; rfl
  · rename_i h; rw [if_neg (fun hh => h (decide_eq_true hh))]; rfl
theorem invN_len2 : ∀ l : List Int, invN l ≤ l.length * l.length
  | [] => Nat.le_refl _
  | a :: l => by
    have ih := invN_len2 l
    have h := List.length_filter_le (fun b => decide (b < a)) l
    unfold invN
    rw [List.length_cons, Nat.succ_mul, Nat.mul_succ]
    omega
end Go.Proofs.YtddnjimpdidpaaaGreatDoor
