/-
  The law's is and made, in one form for right and wrong; Star, Link, Skeleton so.
  Stars, links, skeletons (plain): the program's lists and the document's close alike.
  The law CellsParts says true.
-/
import Derived.Test.YtipblphfjejpbaaGreatDoorMrL
import Derived.Test.YtipblphfjejpbaaGreatDoorLawF
import Derived.Test.YtipblphfjejpbaaGreatDoorMrA
set_option linter.unusedSimpArgs false
set_option linter.unusedVariables false
namespace Go.Proofs.YtipblphfjejpbaaGreatDoor
open Go Go.RowKit Go.Maps

/-- a complex and an error, as a number says -/
def CompU (a : Nat → Addr) (B er : Nat) (M : List (List Int)) (w : World) (u ev : Value) : Prop :=
  (er = 0 ∧ ev = .nilIface ∧ ListsIn B w u (madeF M) ∧ errC M = 0) ∨ (∃ k, k < 8 ∧ er = k + 1 ∧ u = .slice none 0 0 ∧ ev = errE (a k))
theorem CompU.below {a : Nat → Addr} {B er : Nat} {M : List (List Int)} {w w' : World} {u ev : Value} {C : Nat} (h : CompU a B er M w u ev) (hb : Below C w w') (hC : w.heap.size ≤ C) : CompU a B er M w' u ev :=
  h.imp (fun ⟨h1, h2, h3, h4⟩ => ⟨h1, h2, h3.below hb hC, h4⟩) id
/-- as the call leaves it: its rows are its own -/
def CompR (a : Nat → Addr) (O B er : Nat) (M : List (List Int)) (w : World) (u ev : Value) : Prop :=
  (er = 0 ∧ ev = .nilIface ∧ RowsO O B w u (madeF M) ∧ errC M = 0) ∨ (∃ k, k < 8 ∧ er = k + 1 ∧ u = .slice none 0 0 ∧ ev = errE (a k))
theorem CompR.u {a : Nat → Addr} {O B er : Nat} {M : List (List Int)} {w : World} {u ev : Value} (h : CompR a O B er M w u ev) : CompU a B er M w u ev :=
  h.imp (fun ⟨h1, h2, h3, h4⟩ => ⟨h1, h2, h3.lists, h4⟩) id
theorem CompR.set {a : Nat → Addr} {O B er g : Nat} {M : List (List Int)} {w : World} {u ev x y : Value} (h : CompR a O B er M w u ev) (hg : g < O) (hB : B ≤ g) (hk : w.heap[g]? = some (.cells #[x] 34 (0, 0))) : CompU a B er M (w.setCell ⟨g, 0, none⟩ y) u ev :=
  h.imp (fun ⟨h1, h2, h3, h4⟩ => ⟨h1, h2, (h3.grown (grown_cell w g y) hg hB (fun x e => by rw [hk] at e; cases e)).lists, h4⟩) id
def CompP (a : Nat → Addr) (B er : Nat) (M : List (List Int)) (w : World) (e : Ending) (w' : World) : Prop :=
  ∃ p n c ev, e = .returned (.tuple #[.agg #[.slice p n c], ev]) ∧ Below w.heap.size w w' ∧ CompR a w.heap.size B er M w' (.slice p n c) ev
theorem SetsP.u {a : Nat → Addr} {B er : Nat} {M : List (List Int)} {w : World} {f : FuncId} {args : Array Value} {p : Program} (h : Calls p f args w (SetsP a B er M w)) (h0 : er = 0 → errC M = 0) : Calls p f args w (CompP a B er M w) := h.mono fun e w' hp => by
  obtain ⟨hb, ⟨he, q, c, rfl, hr⟩ | ⟨k, hk, hek, rfl⟩⟩ := hp
  · exact ⟨q, _, c, _, rfl, hb, Or.inl ⟨he, rfl, hr, h0 he⟩⟩
  · exact ⟨none, 0, 0, _, rfl, hb, Or.inr ⟨k, hk, hek, rfl, rfl⟩⟩

def MadeU (B er : Nat) (M : List (List Int)) (w : World) (e : Ending) (w' : World) : Prop := ∃ v, e = .returned (.tuple #[v, .int .i64 (er : Int)]) ∧ Below w.heap.size w w' ∧ (er = 0 → ListsIn B w' v (madeF M))
set_option maxHeartbeats 4000000 in
theorem lmade_any (B er : Nat) (M : List (List Int)) (v : Value) (w : World) (hB : B ≤ w.heap.size) (hv : ListsIn B w v M) (hn : M.length ≤ 100000) (hl : ∀ l ∈ M, l.length ≤ 100000) (h0 : er = 0 → errC M = 0) (he : er ≤ 8) :
    Calls Tryz.prog 42 #[v, .int .i64 (er : Int)] w (MadeU B er M w) := by
  have HM := Lib.hid (made_any B M v w hB hv hn hl)
  unfold MadePost at HM
  unfold MadeU
  clear hB hv hn hl
  by_cases hz : er = 0
  · have hc := h0 hz
    subst hz
    rw [hc] at HM
    clear h0 he
    go_enter Tryz.func42, Tryz.ntmps42
    go_wp2_with fail
    refine HM.out.mono ?_
    rintro e w1 ⟨v1, rfl, hb, hv1, -⟩
    have HB := Lib.hid hb
    have HV1 := Lib.hid (hv1 (by trivial))
    clear hb hv1
    go_wp2_with fail
    go_ret2
    exact ⟨v1, rfl, HB.out, fun _ => HV1.out⟩
  · have hp : 0 < er := by omega
    have q1 : decide ((0 : Int) < (er : Int)) = true := decide_eq_true (by omega)
    have q2 : decide (0 < er) = true := decide_eq_true hp
    have HZ := Lib.hid hz
    clear h0 hz
    go_enter Tryz.func42, Tryz.ntmps42
    go_wp2_with fail
    go_ret2
    exact ⟨_, rfl, Below.refl _ _, fun h => absurd h HZ.out⟩

theorem isF_mem {M M' : List (List Int)} (h : ∀ y, y ∈ M ↔ y ∈ M') (g : List Int) : IsF M g ↔ IsF M' g := by
  unfold IsF
  exact and_congr_right fun _ => exists_congr fun l => by rw [h l]
theorem allF_ne {L : List (List Int)} : ∀ g ∈ allF L, g ≠ [] := fun g hg => (mem_allF.1 hg).1
theorem allF_rises {L : List (List Int)} (h : errC L = 0) : ∀ g ∈ allF L, Rise g := fun g hg => isF_rise (errC_ok h).1 (mem_allF.1 hg)
def starP (L : List (List Int)) (f : List Int) : List (List Int) := coll (fun x => if partB f x then x else []) (tableF (allF L)).flatten
def linkQ (L : List (List Int)) (f : List Int) : List (List Int) := coll (fun x => if partB f x then minF x f else []) (tableF (allF L)).flatten
def skelP (L : List (List Int)) (dim : Int) : List (List Int) := coll (fun x => if dim < (x.length : Int) - 1 then [] else x) (tableF (allF L)).flatten
def lowF (A : List (List Int)) (dim : Int) : List (List Int) := A.filter fun x => decide ((x.length : Int) - 1 ≤ dim)
theorem mem_starP {L : List (List Int)} {f y : List Int} : y ∈ starP L f ↔ y ∈ openF (allF L) f := by
  unfold starP openF
  rw [mem_coll, List.mem_filter]
  constructor
  · rintro ⟨h1, x, hx, h2⟩
    have hx := (mem_flat allF_ne).1 hx
    cases hp : partB f x with
    | true => simp only [hp] at h2; subst h2; exact ⟨hx, hp⟩
    | false => simp only [hp] at h2; exact absurd h2.symm h1
  · rintro ⟨h1, h2⟩
    exact ⟨allF_ne y h1, y, (mem_flat allF_ne).2 h1, if_pos h2⟩
theorem mem_linkQ {L : List (List Int)} {f y : List Int} : y ∈ linkQ L f ↔ y ∈ linkP (allF L) f := by
  unfold linkQ
  rw [mem_coll, mem_linkP]
  constructor
  · rintro ⟨h1, x, hx, h2⟩
    have hx := (mem_flat allF_ne).1 hx
    cases hp : partB f x with
    | true => simp only [hp] at h2; subst h2; exact ⟨x, hx, hp, h1, rfl⟩
    | false => simp only [hp] at h2; exact absurd h2.symm h1
  · rintro ⟨x, hx, h1, h2, rfl⟩
    exact ⟨h2, x, (mem_flat allF_ne).2 hx, if_pos h1⟩
theorem mem_skelP {L : List (List Int)} {dim : Int} {y : List Int} : y ∈ skelP L dim ↔ y ∈ lowF (allF L) dim := by
  unfold skelP lowF
  rw [mem_coll, List.mem_filter]
  constructor
  · rintro ⟨h1, x, hx, h2⟩
    have hx := (mem_flat allF_ne).1 hx
    by_cases hp : dim < (x.length : Int) - 1
    · rw [if_pos hp] at h2; exact absurd h2.symm h1
    · rw [if_neg hp] at h2; subst h2; exact ⟨hx, decide_eq_true (by omega)⟩
  · rintro ⟨h1, h2⟩
    have h2 := of_decide_eq_true h2
    exact ⟨allF_ne y h1, y, (mem_flat allF_ne).2 h1, if_neg (by omega)⟩
theorem errS_0 {L : List (List Int)} {f : List Int} (h : errS L f = 0) : errX L = 0 ∧ f ∈ allF L := by
  unfold errS at h
  by_cases h1 : errX L = 0
  · rw [if_neg (by simp [h1])] at h
    refine ⟨h1, ?_⟩
    by_cases h2 : f ∈ allF L
    · exact h2
    · rw [if_neg h2] at h; cases h
  · rw [if_pos h1] at h; exact absurd h h1
theorem errS_bad {L : List (List Int)} {f : List Int} (h : errX L ≠ 0) : errS L f = errX L := by unfold errS; exact if_pos h
theorem errS_in {L : List (List Int)} {f : List Int} (h : errX L = 0) (h2 : f ∈ allF L) : errS L f = 0 := by unfold errS; rw [if_neg (by simp [h]), if_pos h2]
theorem errS_out {L : List (List Int)} {f : List Int} (h : errX L = 0) (h2 : f ∉ allF L) : errS L f = 4 := by unfold errS; rw [if_neg (by simp [h]), if_neg h2]
theorem errX_le (L : List (List Int)) : errX L ≤ 4 := by rcases errX_cases L with h | h | h | h <;> omega
theorem errS_le (L : List (List Int)) (f : List Int) : errS L f ≤ 4 := by
  by_cases h : errX L = 0
  · by_cases h2 : f ∈ allF L
    · rw [errS_in h h2]; decide
    · rw [errS_out h h2]; exact Nat.le_refl _
  · rw [errS_bad h]; exact errX_le L
theorem closed_under {L : List (List Int)} : ∀ g ∈ allF L, ∀ h, h.Sublist g → h ≠ [] → h ∈ allF L := fun g hg h hs hne => mem_allF.2 (isF_sub (mem_allF.1 hg) hs hne)
/-- a part of the faces is right -/
theorem errC_part {L M : List (List Int)} (h : errC L = 0) (hM : ∀ g ∈ M, g ∈ allF L) : errC M = 0 := errC_sub h fun g hg => mem_allF.1 (hM g hg)
theorem star_right {L : List (List Int)} {f : List Int} (h : errS L f = 0) : errC (starP L f) = 0 ∧ errC (starF (allE L) f) = 0 ∧ madeF (starP L f) = madeF (starF (allE L) f) := by
  obtain ⟨hx, hf⟩ := errS_0 h
  have hc := (errX_ok hx).1
  rw [allE_ok hx]
  refine ⟨errC_part hc fun g hg => (List.mem_filter.1 (mem_starP.1 hg)).1, errC_part hc fun g hg => (List.mem_filter.1 hg).1, made_congr fun g => ?_⟩
  rw [isF_mem (fun y => mem_starP), star_open (allF_rises hc) allF_ne]
theorem link_right {L : List (List Int)} {f : List Int} (h : errS L f = 0) : errC (linkQ L f) = 0 ∧ errC (linkF (allE L) f) = 0 ∧ madeF (linkQ L f) = madeF (linkF (allE L) f) := by
  obtain ⟨hx, hf⟩ := errS_0 h
  have hc := (errX_ok hx).1
  rw [allE_ok hx]
  have hm : ∀ y, y ∈ linkQ L f ↔ y ∈ linkF (allF L) f := fun y => mem_linkQ.trans (link_same (allF_rises hc) closed_under).symm
  have hp : ∀ g ∈ linkQ L f, g ∈ allF L := fun g hg => by
    obtain ⟨x, hx, -, h2, rfl⟩ := mem_linkP.1 (mem_linkQ.1 hg)
    exact closed_under x hx _ List.filter_sublist h2
  exact ⟨errC_part hc hp, errC_part hc fun g hg => hp g ((hm g).2 hg), made_congr fun g => isF_mem hm g⟩
theorem skel_right {L : List (List Int)} {dim : Int} (h : errX L = 0) : errC (skelP L dim) = 0 ∧ errC (lowF (allE L) dim) = 0 ∧ madeF (skelP L dim) = madeF (lowF (allE L) dim) := by
  have hc := (errX_ok h).1
  rw [allE_ok h]
  exact ⟨errC_part hc fun g hg => (List.mem_filter.1 (mem_skelP.1 hg)).1, errC_part hc fun g hg => (List.mem_filter.1 hg).1, made_congr fun g => isF_mem (fun y => mem_skelP) g⟩
theorem starF_len (A : List (List Int)) (f : List Int) : (starF A f).length ≤ A.length := List.length_filter_le _ _
theorem linkF_len (A : List (List Int)) (f : List Int) : (linkF A f).length ≤ A.length := List.length_filterMap_le _ _
theorem lowF_len (A : List (List Int)) (dim : Int) : (lowF A dim).length ≤ A.length := List.length_filter_le _ _
theorem starF_bd {L : List (List Int)} {f : List Int} : ∀ l ∈ starF (allE L) f, l.length ≤ 7 := fun l hl => allE_bd L l (List.mem_filter.1 hl).1
theorem linkF_bd {L : List (List Int)} {f : List Int} : ∀ l ∈ linkF (allE L) f, l.length ≤ 7 := fun l hl => by
  obtain ⟨x, hx, -, h2, -, rfl⟩ := mem_linkF.1 hl
  rw [h2]
  exact allE_bd L x hx
theorem lowF_bd {L : List (List Int)} {dim : Int} : ∀ l ∈ lowF (allE L) dim, l.length ≤ 7 := fun l hl => allE_bd L l (List.mem_filter.1 hl).1
theorem lowF_step {A : List (List Int)} {dim : Int} {j : Nat} (h : j < A.length) : lowF (A.take (j + 1)) dim = lowF (A.take j) dim ++ (if ((A.getD j []).length : Int) - 1 ≤ dim then [A.getD j []] else []) := by
  unfold lowF
  rw [take_snoc_getD [] A j h, List.filter_append]
  generalize A.getD j [] = x
  by_cases hc : (x.length : Int) - 1 ≤ dim
  · rw [if_pos hc]; congr 1; simp [hc]
  · rw [if_neg hc]; congr 1; simp [hc]

theorem below_grownBy {w w' : World} (h : Below w.heap.size w w') (r : Option Nat) : w.grownBy w' r :=
  ⟨h.1, h.2, h.3, h.size, fun k hk _ => h.block k hk⟩
theorem owns_empty {w : World} {g O : Nat} (hO : O ≤ g) (h : w.heap[g]? = some (.cells #[] 3 (0, 0))) : w.ownsRow O 3 1 (.slice (some ⟨g, 0, none⟩) 0 0) 0 [] :=
  ⟨rfl, Or.inr ⟨g, 0, #[], rfl, hO, h, Nat.le_refl _, Nat.zero_le _, rfl, rfl⟩⟩
end Go.Proofs.YtipblphfjejpbaaGreatDoor
