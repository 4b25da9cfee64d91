/-
  Faces, plain: the order of faces, sorted lists of faces and their uniqueness, all faces of some sets.
-/
import Derived.WalkKit
namespace Go.Proofs.YtddnjimpdidpaaaGreatDoor
open Go

/-- does a face stand ahead of another one? -/
def ah : List Int → List Int → Bool
  | [], [] => false
  | [], _ :: _ => true
  | _ :: _, [] => false
  | x :: a, y :: b => if x = y then ah a b else decide (x < y)

theorem ah_irrefl : ∀ a, ah a a = false
  | [] => rfl
  | x :: a => by unfold ah; rw [if_pos rfl]; exact ah_irrefl a
theorem ah_trans : ∀ {a b c : List Int}, ah a b = true → ah b c = true → ah a c = true
  | [], [], _, h, _ => by cases h
  | [], _ :: _, [], _, h => by cases h
  | [], _ :: _, _ :: _, _, _ => rfl
  | _ :: _, [], _, h, _ => by cases h
  | _ :: _, _ :: _, [], _, h => by cases h
  | x :: a, y :: b, z :: c, h1, h2 => by
    unfold ah at h1 h2 ⊢
    by_cases hxy : x = y
    · subst hxy
      rw [if_pos rfl] at h1
      by_cases hxz : x = z
      · rw [if_pos hxz] at h2 ⊢; exact ah_trans h1 h2
      · rw [if_neg hxz] at h2 ⊢; exact h2
    · rw [if_neg hxy, decide_eq_true_eq] at h1
      by_cases hyz : y = z
      · subst hyz
        rw [if_neg hxy, decide_eq_true_eq]; exact h1
      · rw [if_neg hyz, decide_eq_true_eq] at h2
        rw [if_neg (by omega), decide_eq_true_eq]; omega
theorem ah_total : ∀ {a b : List Int}, a ≠ b → ah a b = true ∨ ah b a = true
  | [], [], h => absurd rfl h
  | [], _ :: _, _ => Or.inl rfl
  | _ :: _, [], _ => Or.inr rfl
  | x :: a, y :: b, h => by
    unfold ah
    by_cases hxy : x = y
    · subst hxy
      rw [if_pos rfl, if_pos rfl]
      exact ah_total fun e => h (by rw [e])
    · rw [if_neg hxy, if_neg (fun e => hxy e.symm), decide_eq_true_eq, decide_eq_true_eq]
      omega
theorem ah_asymm {a b : List Int} (h : ah a b = true) : ah b a = false := by
  cases h' : ah b a with
  | false => rfl
  | true => have := ah_trans h h'; rw [ah_irrefl] at this; cases this
theorem ah_ne {a b : List Int} (h : ah a b = true) : a ≠ b := fun e => by rw [e, ah_irrefl] at h; cases h

/-- sorted lists of faces, each once -/
def SortedF (l : List (List Int)) : Prop := l.Pairwise fun a b => ah a b = true
theorem SortedF.nodup {l : List (List Int)} (h : SortedF l) : l.Nodup := List.Pairwise.imp (fun h => ah_ne h) h
/-- a sorted list is known by its members -/
theorem SortedF.ext : ∀ {l l' : List (List Int)}, SortedF l → SortedF l' → (∀ f, f ∈ l ↔ f ∈ l') → l = l'
  | [], [], _, _, _ => rfl
  | [], y :: r, _, _, h => absurd ((h y).2 (List.mem_cons_self ..)) (by simp)
  | x :: r, [], _, _, h => absurd ((h x).1 (List.mem_cons_self ..)) (by simp)
  | x :: r, y :: s, h1, h2, h => by
    obtain ⟨a1, a2⟩ := List.pairwise_cons.1 h1
    obtain ⟨b1, b2⟩ := List.pairwise_cons.1 h2
    have hxy : x = y := by
      rcases List.mem_cons.1 ((h x).1 (List.mem_cons_self ..)) with e | hx
      · exact e
      · rcases List.mem_cons.1 ((h y).2 (List.mem_cons_self ..)) with e | hy
        · exact e.symm
        · have k1 := b1 x hx
          have k2 := a1 y hy
          rw [ah_asymm k1] at k2; cases k2
    subst hxy
    congr 1
    refine SortedF.ext a2 b2 fun f => ⟨fun hf => ?_, fun hf => ?_⟩
    · rcases List.mem_cons.1 ((h f).1 (List.mem_cons_of_mem _ hf)) with e | h'
      · exact absurd e.symm (ah_ne (a1 f hf))
      · exact h'
    · rcases List.mem_cons.1 ((h f).2 (List.mem_cons_of_mem _ hf)) with e | h'
      · exact absurd e.symm (ah_ne (b1 f hf))
      · exact h'
theorem len_of_members {l l' : List (List Int)} (h : l.Nodup) (h' : l'.Nodup) (hm : ∀ f, f ∈ l ↔ f ∈ l') : l.length = l'.length :=
  (List.perm_ext_iff_of_nodup h h').2 hm |>.length_eq
theorem len_le_of_members {l l' : List (List Int)} (h : l.Nodup) (h' : l'.Nodup) (hm : ∀ f, f ∈ l → f ∈ l') : l.length ≤ l'.length := by
  have e : l.length = (l'.filter fun f => decide (f ∈ l)).length := len_of_members h (h'.sublist List.filter_sublist) fun f => by
    rw [List.mem_filter, decide_eq_true_eq]
    exact ⟨fun hf => ⟨hm f hf, hf⟩, fun hf => hf.2⟩
  rw [e]
  exact List.length_filter_le _ _

/-- a face put into a sorted list -/
def putF (l : List (List Int)) (f : List Int) : List (List Int) := if f ∈ l then l else (l.filter fun g => ah g f) ++ f :: l.filter fun g => ah f g
theorem mem_putF {l : List (List Int)} {f g : List Int} : g ∈ putF l f ↔ g ∈ l ∨ g = f := by
  unfold putF
  by_cases h : f ∈ l
  · rw [if_pos h]
    exact ⟨Or.inl, fun h' => h'.elim id fun e => e ▸ h⟩
  · rw [if_neg h, List.mem_append, List.mem_cons, List.mem_filter, List.mem_filter]
    constructor
    · rintro (h' | h' | h')
      · exact Or.inl h'.1
      · exact Or.inr h'
      · exact Or.inl h'.1
    · rintro (h' | h')
      · have hne : g ≠ f := fun e => h (e ▸ h')
        rcases ah_total hne with k | k
        · exact Or.inl ⟨h', k⟩
        · exact Or.inr (Or.inr ⟨h', k⟩)
      · exact Or.inr (Or.inl h')
theorem sorted_putF {l : List (List Int)} (h : SortedF l) (f : List Int) : SortedF (putF l f) := by
  unfold putF
  by_cases hm : f ∈ l
  · rw [if_pos hm]; exact h
  · rw [if_neg hm]
    refine List.pairwise_append.2 ⟨h.sublist List.filter_sublist, List.pairwise_cons.2 ⟨fun g hg => (List.mem_filter.1 hg).2, h.sublist List.filter_sublist⟩, fun a ha b hb => ?_⟩
    have k1 := (List.mem_filter.1 ha).2
    rcases List.mem_cons.1 hb with e | hb
    · rw [e]; exact k1
    · exact ah_trans k1 (List.mem_filter.1 hb).2
theorem putF_len (l : List (List Int)) (h : SortedF l) (f : List Int) : (putF l f).length = if f ∈ l then l.length else l.length + 1 := by
  by_cases hm : f ∈ l
  · rw [if_pos hm]; unfold putF; rw [if_pos hm]
  · rw [if_neg hm]
    have h1 := sorted_putF h f
    have h2 : (f :: l).Nodup := List.nodup_cons.2 ⟨hm, h.nodup⟩
    have := len_of_members h1.nodup h2 (fun g => by rw [mem_putF, List.mem_cons]; exact Or.comm)
    simpa using this
/-- where a face stands, or would: how many are ahead -/
theorem putF_take {l : List (List Int)} (h : SortedF l) (f : List Int) (k : Nat) (hk : k ≤ l.length) (h1 : ∀ i, i < k → ah (l.getD i []) f = true) (h2 : ∀ i, k ≤ i → i < l.length → ah (l.getD i []) f = false) :
    (k < l.length ∧ l.getD k [] = f ∧ putF l f = l) ∨ ((∀ i, k = i → i < l.length → l.getD i [] ≠ f) ∧ putF l f = l.take k ++ f :: l.drop k) := by
  by_cases hm : k < l.length ∧ l.getD k [] = f
  · left
    refine ⟨hm.1, hm.2, ?_⟩
    unfold putF
    rw [if_pos]
    have : l.getD k [] ∈ l := by rw [List.getD_eq_getElem?_getD, List.getElem?_eq_getElem hm.1]; exact List.getElem_mem _
    rwa [hm.2] at this
  · right
    have hlt : ∀ i, k ≤ i → i < l.length → ah f (l.getD i []) = true := fun i hi hl => by
      have hne : l.getD i [] ≠ f := by
        intro e
        rcases Nat.eq_or_lt_of_le hi with rfl | hlt
        · exact hm ⟨hl, e⟩
        · have k1 := List.pairwise_iff_getElem.1 h k i (by omega) hl hlt
          have k2 := h2 k (Nat.le_refl _) (by omega)
          rw [List.getD_eq_getElem?_getD, List.getElem?_eq_getElem (show k < l.length by omega)] at k2
          rw [List.getD_eq_getElem?_getD, List.getElem?_eq_getElem hl] at e
          simp only [Option.getD_some] at k2 e
          rw [e, k2] at k1; cases k1
      rcases ah_total hne with q | q
      · rw [h2 i hi hl] at q; cases q
      · exact q
    refine ⟨fun i hi hl e => hm ⟨by omega, by rw [hi]; exact e⟩, ?_⟩
    have hs : l = l.take k ++ l.drop k := (List.take_append_drop k l).symm
    have ht : ∀ g ∈ l.take k, ah g f = true := fun g hg => by
      obtain ⟨i, hi, rfl⟩ := List.getElem_of_mem hg
      rw [List.length_take] at hi
      have := h1 i (by omega)
      rw [List.getD_eq_getElem?_getD, List.getElem?_eq_getElem (show i < l.length by omega)] at this
      rw [List.getElem_take]; exact this
    have hd : ∀ g ∈ l.drop k, ah f g = true := fun g hg => by
      obtain ⟨i, hi, rfl⟩ := List.getElem_of_mem hg
      rw [List.length_drop] at hi
      have := hlt (k + i) (by omega) (by omega)
      rw [List.getD_eq_getElem?_getD, List.getElem?_eq_getElem (show k + i < l.length by omega)] at this
      rw [List.getElem_drop]; exact this
    unfold putF
    rw [if_neg]
    · rw [hs, List.filter_append, List.filter_append, List.filter_eq_self.2 ht, List.filter_eq_nil_iff.2 (fun g hg => by rw [ah_asymm (hd g hg)]; decide), List.filter_eq_nil_iff.2 (fun g hg => by rw [ah_asymm (ht g hg)]; decide), List.filter_eq_self.2 hd]
      rw [← hs]; simp
    · intro hm2
      rw [hs] at hm2
      rcases List.mem_append.1 hm2 with q | q
      · have := ht f q; rw [ah_irrefl] at this; cases this
      · have := hd f q; rw [ah_irrefl] at this; cases this

/-! ### sorted numbers -/
def Rise (l : List Int) : Prop := l.Pairwise (· < ·)
def sortI (l : List Int) : List Int := l.mergeSort fun a b => decide (a ≤ b)
theorem sortI_perm (l : List Int) : (sortI l).Perm l := List.mergeSort_perm ..
theorem sortI_sorted (l : List Int) : (sortI l).Pairwise (· ≤ ·) := by
  have h := List.pairwise_mergeSort (le := fun a b : Int => decide (a ≤ b)) (fun a b c h1 h2 => by simp only [decide_eq_true_eq] at *; omega) (fun a b => by simp only [Bool.or_eq_true, decide_eq_true_eq]; omega) l
  exact h.imp fun h => by simpa using h
theorem rise_of_nodup {l : List Int} (h : l.Pairwise (· ≤ ·)) (hn : l.Nodup) : Rise l :=
  (h.and hn).imp fun ⟨h1, h2⟩ => by have : _ ≠ _ := h2; omega
theorem rise_ext : ∀ {l l' : List Int}, Rise l → Rise l' → (∀ f, f ∈ l ↔ f ∈ l') → l = l'
  | [], [], _, _, _ => rfl
  | [], y :: r, _, _, h => absurd ((h y).2 (List.mem_cons_self ..)) (by simp)
  | x :: r, [], _, _, h => absurd ((h x).1 (List.mem_cons_self ..)) (by simp)
  | x :: r, y :: s, h1, h2, h => by
    obtain ⟨a1, a2⟩ := List.pairwise_cons.1 h1
    obtain ⟨b1, b2⟩ := List.pairwise_cons.1 h2
    have hxy : x = y := by
      rcases List.mem_cons.1 ((h x).1 (List.mem_cons_self ..)) with e | hx
      · exact e
      · rcases List.mem_cons.1 ((h y).2 (List.mem_cons_self ..)) with e | hy
        · exact e.symm
        · have k1 := b1 x hx
          have k2 := a1 y hy
          omega
    subst hxy
    congr 1
    refine rise_ext a2 b2 fun f => ⟨fun hf => ?_, fun hf => ?_⟩
    · rcases List.mem_cons.1 ((h f).1 (List.mem_cons_of_mem _ hf)) with e | h'
      · have := a1 f hf; omega
      · exact h'
    · rcases List.mem_cons.1 ((h f).2 (List.mem_cons_of_mem _ hf)) with e | h'
      · have := b1 f hf; omega
      · exact h'
/-- is a list a set that may be a face? -/
def okSet (l : List Int) : Prop := l ≠ [] ∧ l.Nodup ∧ ∀ x ∈ l, 0 ≤ x ∧ x ≤ 99
theorem rise_sortI {l : List Int} (h : l.Nodup) : Rise (sortI l) := rise_of_nodup (sortI_sorted l) ((sortI_perm l).nodup_iff.2 h)
theorem mem_sortI {l : List Int} {x : Int} : x ∈ sortI l ↔ x ∈ l := (sortI_perm l).mem_iff
theorem sortI_len (l : List Int) : (sortI l).length = l.length := (sortI_perm l).length_eq
theorem sortI_rise {l : List Int} (h : Rise l) : sortI l = l := rise_ext (rise_sortI (h.imp fun h => by omega)) h fun _ => mem_sortI

/-! ### all faces -/
/-- is g a face of some of the sets? -/
def IsF (L : List (List Int)) (g : List Int) : Prop := g ≠ [] ∧ ∃ l ∈ L, g.Sublist (sortI l)
/-- the parts of a list -/
def subs : List Int → List (List Int)
  | [] => [[]]
  | x :: r => subs r ++ (subs r).map (x :: ·)
theorem mem_subs : ∀ {l g : List Int}, g ∈ subs l ↔ g.Sublist l
  | [], g => by simp [subs]
  | x :: r, g => by
    unfold subs
    rw [List.mem_append, List.mem_map, mem_subs]
    constructor
    · rintro (h | ⟨a, h, rfl⟩)
      · exact List.Sublist.cons _ h
      · exact List.Sublist.cons_cons _ (mem_subs.1 h)
    · intro h
      cases h with
      | cons _ h => exact Or.inl h
      | cons_cons _ h => exact Or.inr ⟨_, mem_subs.2 h, rfl⟩
/-- all faces of some sets, sorted -/
def allF (L : List (List Int)) : List (List Int) := ((L.flatMap fun l => subs (sortI l)).filter fun g => decide (g ≠ [])).foldl putF []
theorem foldl_putF : ∀ (K l : List (List Int)), SortedF l → SortedF (K.foldl putF l) ∧ ∀ g, g ∈ K.foldl putF l ↔ g ∈ l ∨ g ∈ K
  | [], l, h => ⟨h, fun g => by simp⟩
  | x :: r, l, h => by
    obtain ⟨h1, h2⟩ := foldl_putF r (putF l x) (sorted_putF h x)
    refine ⟨h1, fun g => ?_⟩
    show g ∈ r.foldl putF (putF l x) ↔ _
    rw [h2, mem_putF, List.mem_cons]
    constructor
    · rintro ((h | h) | h)
      · exact Or.inl h
      · exact Or.inr (Or.inl h)
      · exact Or.inr (Or.inr h)
    · rintro (h | h | h)
      · exact Or.inl (Or.inl h)
      · exact Or.inl (Or.inr h)
      · exact Or.inr h
theorem allF_sorted (L : List (List Int)) : SortedF (allF L) := (foldl_putF _ _ List.Pairwise.nil).1
theorem mem_allF {L : List (List Int)} {g : List Int} : g ∈ allF L ↔ IsF L g := by
  unfold allF IsF
  rw [(foldl_putF _ _ List.Pairwise.nil).2, List.mem_filter, List.mem_flatMap]
  simp only [List.not_mem_nil, false_or, decide_eq_true_eq]
  constructor
  · rintro ⟨⟨l, h1, h2⟩, h3⟩
    exact ⟨h3, l, h1, mem_subs.1 h2⟩
  · rintro ⟨h3, l, h1, h2⟩
    exact ⟨⟨l, h1, mem_subs.2 h2⟩, h3⟩
theorem isF_sub {L : List (List Int)} {g h : List Int} (hg : IsF L g) (hh : h.Sublist g) (hn : h ≠ []) : IsF L h :=
  ⟨hn, hg.2.imp fun _ ⟨h1, h2⟩ => ⟨h1, hh.trans h2⟩⟩
theorem isF_rise {L : List (List Int)} (hL : ∀ l ∈ L, okSet l) {g : List Int} (hg : IsF L g) : Rise g := by
  obtain ⟨_, l, h1, h2⟩ := hg
  exact (rise_sortI (hL l h1).2.1).sublist h2
theorem isF_bd {L : List (List Int)} (hL : ∀ l ∈ L, okSet l) {g : List Int} (hg : IsF L g) : ∀ x ∈ g, 0 ≤ x ∧ x ≤ 99 := by
  obtain ⟨_, l, h1, h2⟩ := hg
  exact fun x hx => (hL l h1).2.2 x (mem_sortI.1 (h2.subset hx))

/-! ### facets -/
/-- a face that lies in no greater one -/
def isTop (A : List (List Int)) (f : List Int) : Bool := !(A.any fun g => decide (f.length < g.length) && f.all fun x => g.contains x)
def facetsF (A : List (List Int)) : List (List Int) := A.filter (isTop A)
theorem facets_sorted {A : List (List Int)} (h : SortedF A) : SortedF (facetsF A) := h.sublist List.filter_sublist

theorem sub_of_rise : ∀ {f g : List Int}, Rise f → Rise g → (∀ x ∈ f, x ∈ g) → f.Sublist g
  | [], _, _, _, _ => List.nil_sublist _
  | x :: r, [], _, _, h => absurd (h x (List.mem_cons_self ..)) (by simp)
  | x :: r, y :: s, hf, hg, h => by
    obtain ⟨a1, a2⟩ := List.pairwise_cons.1 hf
    obtain ⟨b1, b2⟩ := List.pairwise_cons.1 hg
    rcases List.mem_cons.1 (h x (List.mem_cons_self ..)) with e | hx
    · subst e
      refine List.Sublist.cons_cons _ (sub_of_rise a2 b2 fun z hz => ?_)
      rcases List.mem_cons.1 (h z (List.mem_cons_of_mem _ hz)) with e | h'
      · have := a1 z hz; omega
      · exact h'
    · refine List.Sublist.cons _ (sub_of_rise hf b2 fun z hz => ?_)
      rcases List.mem_cons.1 (h z hz) with e | h'
      · have k1 := b1 x hx
        rcases List.mem_cons.1 hz with e2 | hz'
        · omega
        · have := a1 z hz'; omega
      · exact h'
/-- between a part and the whole lies a part with one vertex less than the whole -/
theorem sub_erase : ∀ {f g : List Int}, f.Sublist g → f.length < g.length → ∃ i, i < g.length ∧ f.Sublist (g.eraseIdx i)
  | _, _, List.Sublist.slnil, h => absurd h (by simp)
  | f, y :: g, List.Sublist.cons _ hs, _ => ⟨0, by simp, hs⟩
  | x :: f, _ :: g, List.Sublist.cons_cons _ hs, h => by
    obtain ⟨i, h1, h2⟩ := sub_erase hs (by simpa using h)
    exact ⟨i + 1, by simpa using h1, by simpa using h2⟩
end Go.Proofs.YtddnjimpdidpaaaGreatDoor
