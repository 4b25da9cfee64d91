/-
  The law's is and made, in one form for right and wrong; Star, Link, Skeleton so.
  Stars, links, skeletons (plain): the program's lists and the document's close alike.
  The law CellsParts says true.
-/
import Derived.Test.YtipblphfjejpbaaGreatDoorMrL
import Derived.Test.YtipblphfjejpbaaGreatDoorLawF
import Derived.Test.YtipblphfjejpbaaGreatDoorMrA
set_option linter.unusedSimpArgs false
set_option linter.unusedVariables false
namespace Go.Proofs.YtipblphfjejpbaaGreatDoor
open Go Go.RowKit Go.Maps

/-- a complex and an error, as a number says -/
def CompU (a : Nat → Addr) (B er : Nat) (M : List (List Int)) (w : World) (u ev : Value) : Prop :=
  (er = 0 ∧ ev = .nilIface ∧ ListsIn B w u (madeF M) ∧ errC M = 0) ∨ (∃ k, k < 8 ∧ er = k + 1 ∧ u = .slice none 0 0 ∧ ev = errE (a k))
theorem CompU.below {a : Nat → Addr} {B er : Nat} {M : List (List Int)} {w w' : World} {u ev : Value} {C : Nat} (h : CompU a B er M w u ev) (hb : Below C w w') (hC : w.heap.size ≤ C) : CompU a B er M w' u ev :=
  h.imp (fun ⟨h1, h2, h3, h4⟩ => ⟨h1, h2, h3.below hb hC, h4⟩) id
/-- as the call leaves it: its rows are its own -/
def CompR (a : Nat → Addr) (O B er : Nat) (M : List (List Int)) (w : World) (u ev : Value) : Prop :=
  (er = 0 ∧ ev = .nilIface ∧ RowsO O B w u (madeF M) ∧ errC M = 0) ∨ (∃ k, k < 8 ∧ er = k + 1 ∧ u = .slice none 0 0 ∧ ev = errE (a k))
theorem CompR.u {a : Nat → Addr} {O B er : Nat} {M : List (List Int)} {w : World} {u ev : Value} (h : CompR a O B er M w u ev) : CompU a B er M w u ev :=
  h.imp (fun ⟨h1, h2, h3, h4⟩ => ⟨h1, h2, h3.lists, h4⟩) id
theorem CompR.set {a : Nat → Addr} {O B er g : Nat} {M : List (List Int)} {w : World} {u ev x y : Value} (h : CompR a O B er M w u ev) (hg : g < O) (hB : B ≤ g) (hk : w.heap[g]? = some (.cells #[x] 34 (0, 0))) : CompU a B er M (w.setCell ⟨g, 0, none⟩ y) u ev :=
  h.imp (fun ⟨h1, h2, h3, h4⟩ => ⟨h1, h2, (h3.grown (grown_cell w g y) hg hB (fun x e => by rw [hk] at e; cases e)).lists, h4⟩) id
def CompP (a : Nat → Addr) (B er : Nat) (M : List (List Int)) (w : World) (e : Ending) (w' : World) : Prop :=
  ∃ p n c ev, e = .returned (.tuple #[.agg #[.slice p n c], ev]) ∧ Below w.heap.size w w' ∧ CompR a w.heap.size B er M w' (.slice p n c) ev
theorem SetsP.u {a : Nat → Addr} {B er : Nat} {M : List (List Int)} {w : World} {f : FuncId} {args : Array Value} {p : Program} (h : Calls p f args w (SetsP a B er M w)) (h0 : er = 0 → errC M = 0) : Calls p f args w (CompP a B er M w) := h.mono fun e w' hp => by
  obtain ⟨hb, ⟨he, q, c, rfl, hr⟩ | ⟨k, hk, hek, rfl⟩⟩ := hp
  · exact ⟨q, _, c, _, rfl, hb, Or.inl ⟨he, rfl, hr, h0 he⟩⟩
  · exact ⟨none, 0, 0, _, rfl, hb, Or.inr ⟨k, hk, hek, rfl, rfl⟩⟩

def MadeU (B er : Nat) (M : List (List Int)) (w : World) (e : Ending) (w' : World) : Prop := ∃ v, e = .returned (.tuple #[v, .int .i64 (er : Int)]) ∧ Below w.heap.size w w' ∧ (er = 0 → ListsIn B w' v (madeF M))
set_option maxHeartbeats 4000000 in
theorem lmade_any (B er : Nat) (M : List (List Int)) (v : Value) (w : World) (hB : B ≤ w.heap.size) (hv : ListsIn B w v M) (hn : M.length ≤ 100000) (hl : ∀ l ∈ M, l.length ≤ 100000) (h0 : er = 0 → errC M = 0) (he : er ≤ 8) :
    Calls Tryz.prog 42 #[v, .int .i64 (er : Int)] w (MadeU B er M w) := by
  have HM := Lib.hid (made_any B M v w hB hv hn hl)
  unfold MadePost at HM
  unfold MadeU
  clear hB hv hn hl
  by_cases hz : er = 0
  · have hc := h0 hz
    subst hz
    rw [hc] at HM
    clear h0 he
    go_enter Tryz.func42, Tryz.ntmps42
    go_wp2_with fail
    refine HM.out.mono ?_
    rintro e w1 ⟨v1, rfl, hb, hv1, -⟩
    have HB := Lib.hid hb
    have HV1 := Lib.hid (hv1 (by trivial))
    clear hb hv1
    go_wp2_with fail
    go_ret2
    exact ⟨v1, rfl, HB.out, fun _ => HV1.out⟩
  · have hp : 0 < er := by omega
    have q1 : decide ((0 : Int) < (er : Int)) = true := decide_eq_true (by omega)
    have q2 : decide (0 < er) = true := decide_eq_true hp
    have HZ := Lib.hid hz
    clear h0 hz
    go_enter Tryz.func42, Tryz.ntmps42
    go_wp2_with fail
    go_ret2
    exact ⟨_, rfl, Below.refl _ _, fun h => absurd h HZ.out⟩

theorem is_u (a : Nat → Addr) (B er : Nat) (M M' : List (List Int)) (p : Option Addr) (n c : Nat) (ev v : Value) (w : World) (hS : Sents w a) (hu : CompU a B er M w (.slice p n c) ev) (hv : er = 0 → ListsIn B w v (madeF M')) (hm : er = 0 → madeF M = madeF M') :
    Calls Tryz.prog 37 #[.agg #[.slice p n c], ev, v, .int .i64 (er : Int)] w (True1 w) := by
  rcases hu with ⟨h1, rfl, h3, h4⟩ | ⟨k, hk, h1, h2, rfl⟩
  · have hv2 := hv h1
    rw [← hm h1] at hv2
    subst h1
    exact is_ok B B (madeF M) (.slice p n c) v w h3 hv2 (Nat.le_trans (made_len h4) (by decide)) (fun l h => Nat.le_trans (made_bd h4 l h) (by decide))
  · subst h1
    rw [h2]
    exact is_bad a k v w hS hk

theorem isF_mem {M M' : List (List Int)} (h : ∀ y, y ∈ M ↔ y ∈ M') (g : List Int) : IsF M g ↔ IsF M' g := by
  unfold IsF
  exact and_congr_right fun _ => exists_congr fun l => by rw [h l]
theorem allF_ne {L : List (List Int)} : ∀ g ∈ allF L, g ≠ [] := fun g hg => (mem_allF.1 hg).1
theorem allF_rises {L : List (List Int)} (h : errC L = 0) : ∀ g ∈ allF L, Rise g := fun g hg => isF_rise (errC_ok h).1 (mem_allF.1 hg)
def starP (L : List (List Int)) (f : List Int) : List (List Int) := coll (fun x => if partB f x then x else []) (tableF (allF L)).flatten
def linkQ (L : List (List Int)) (f : List Int) : List (List Int) := coll (fun x => if partB f x then minF x f else []) (tableF (allF L)).flatten
def skelP (L : List (List Int)) (dim : Int) : List (List Int) := coll (fun x => if dim < (x.length : Int) - 1 then [] else x) (tableF (allF L)).flatten
def lowF (A : List (List Int)) (dim : Int) : List (List Int) := A.filter fun x => decide ((x.length : Int) - 1 ≤ dim)
theorem mem_starP {L : List (List Int)} {f y : List Int} : y ∈ starP L f ↔ y ∈ openF (allF L) f := by
  unfold starP openF
  rw [mem_coll, List.mem_filter]
  constructor
  · rintro ⟨h1, x, hx, h2⟩
    have hx := (mem_flat allF_ne).1 hx
    cases hp : partB f x with
    | true => simp only [hp] at h2; subst h2; exact ⟨hx, hp⟩
    | false => simp only [hp] at h2; exact absurd h2.symm h1
  · rintro ⟨h1, h2⟩
    exact ⟨allF_ne y h1, y, (mem_flat allF_ne).2 h1, if_pos h2⟩
theorem mem_linkQ {L : List (List Int)} {f y : List Int} : y ∈ linkQ L f ↔ y ∈ linkP (allF L) f := by
  unfold linkQ
  rw [mem_coll, mem_linkP]
  constructor
  · rintro ⟨h1, x, hx, h2⟩
    have hx := (mem_flat allF_ne).1 hx
    cases hp : partB f x with
    | true => simp only [hp] at h2; subst h2; exact ⟨x, hx, hp, h1, rfl⟩
    | false => simp only [hp] at h2; exact absurd h2.symm h1
  · rintro ⟨x, hx, h1, h2, rfl⟩
    exact ⟨h2, x, (mem_flat allF_ne).2 hx, if_pos h1⟩
theorem mem_skelP {L : List (List Int)} {dim : Int} {y : List Int} : y ∈ skelP L dim ↔ y ∈ lowF (allF L) dim := by
  unfold skelP lowF
  rw [mem_coll, List.mem_filter]
  constructor
  · rintro ⟨h1, x, hx, h2⟩
    have hx := (mem_flat allF_ne).1 hx
    by_cases hp : dim < (x.length : Int) - 1
    · rw [if_pos hp] at h2; exact absurd h2.symm h1
    · rw [if_neg hp] at h2; subst h2; exact ⟨hx, decide_eq_true (by omega)⟩
  · rintro ⟨h1, h2⟩
    have h2 := of_decide_eq_true h2
    exact ⟨allF_ne y h1, y, (mem_flat allF_ne).2 h1, if_neg (by omega)⟩
theorem errS_0 {L : List (List Int)} {f : List Int} (h : errS L f = 0) : errX L = 0 ∧ f ∈ allF L := by
  unfold errS at h
  by_cases h1 : errX L = 0
  · rw [if_neg (by simp [h1])] at h
    refine ⟨h1, ?_⟩
    by_cases h2 : f ∈ allF L
    · exact h2
    · rw [if_neg h2] at h; cases h
  · rw [if_pos h1] at h; exact absurd h h1
theorem errS_bad {L : List (List Int)} {f : List Int} (h : errX L ≠ 0) : errS L f = errX L := by unfold errS; exact if_pos h
theorem errS_in {L : List (List Int)} {f : List Int} (h : errX L = 0) (h2 : f ∈ allF L) : errS L f = 0 := by unfold errS; rw [if_neg (by simp [h]), if_pos h2]
theorem errS_out {L : List (List Int)} {f : List Int} (h : errX L = 0) (h2 : f ∉ allF L) : errS L f = 4 := by unfold errS; rw [if_neg (by simp [h]), if_neg h2]
theorem errX_le (L : List (List Int)) : errX L ≤ 4 := by rcases errX_cases L with h | h | h | h <;> omega
theorem errS_le (L : List (List Int)) (f : List Int) : errS L f ≤ 4 := by
  by_cases h : errX L = 0
  · by_cases h2 : f ∈ allF L
    · rw [errS_in h h2]; decide
    · rw [errS_out h h2]; exact Nat.le_refl _
  · rw [errS_bad h]; exact errX_le L
theorem closed_under {L : List (List Int)} : ∀ g ∈ allF L, ∀ h, h.Sublist g → h ≠ [] → h ∈ allF L := fun g hg h hs hne => mem_allF.2 (isF_sub (mem_allF.1 hg) hs hne)
/-- a part of the faces is right -/
theorem errC_part {L M : List (List Int)} (h : errC L = 0) (hM : ∀ g ∈ M, g ∈ allF L) : errC M = 0 := errC_sub h fun g hg => mem_allF.1 (hM g hg)
theorem star_right {L : List (List Int)} {f : List Int} (h : errS L f = 0) : errC (starP L f) = 0 ∧ errC (starF (allE L) f) = 0 ∧ madeF (starP L f) = madeF (starF (allE L) f) := by
  obtain ⟨hx, hf⟩ := errS_0 h
  have hc := (errX_ok hx).1
  rw [allE_ok hx]
  refine ⟨errC_part hc fun g hg => (List.mem_filter.1 (mem_starP.1 hg)).1, errC_part hc fun g hg => (List.mem_filter.1 hg).1, made_congr fun g => ?_⟩
  rw [isF_mem (fun y => mem_starP), star_open (allF_rises hc) allF_ne]
theorem link_right {L : List (List Int)} {f : List Int} (h : errS L f = 0) : errC (linkQ L f) = 0 ∧ errC (linkF (allE L) f) = 0 ∧ madeF (linkQ L f) = madeF (linkF (allE L) f) := by
  obtain ⟨hx, hf⟩ := errS_0 h
  have hc := (errX_ok hx).1
  rw [allE_ok hx]
  have hm : ∀ y, y ∈ linkQ L f ↔ y ∈ linkF (allF L) f := fun y => mem_linkQ.trans (link_same (allF_rises hc) closed_under).symm
  have hp : ∀ g ∈ linkQ L f, g ∈ allF L := fun g hg => by
    obtain ⟨x, hx, -, h2, rfl⟩ := mem_linkP.1 (mem_linkQ.1 hg)
    exact closed_under x hx _ List.filter_sublist h2
  exact ⟨errC_part hc hp, errC_part hc fun g hg => hp g ((hm g).2 hg), made_congr fun g => isF_mem hm g⟩
theorem skel_right {L : List (List Int)} {dim : Int} (h : errX L = 0) : errC (skelP L dim) = 0 ∧ errC (lowF (allE L) dim) = 0 ∧ madeF (skelP L dim) = madeF (lowF (allE L) dim) := by
  have hc := (errX_ok h).1
  rw [allE_ok h]
  exact ⟨errC_part hc fun g hg => (List.mem_filter.1 (mem_skelP.1 hg)).1, errC_part hc fun g hg => (List.mem_filter.1 hg).1, made_congr fun g => isF_mem (fun y => mem_skelP) g⟩
theorem starF_len (A : List (List Int)) (f : List Int) : (starF A f).length ≤ A.length := List.length_filter_le _ _
theorem linkF_len (A : List (List Int)) (f : List Int) : (linkF A f).length ≤ A.length := List.length_filterMap_le _ _
theorem lowF_len (A : List (List Int)) (dim : Int) : (lowF A dim).length ≤ A.length := List.length_filter_le _ _
theorem starF_bd {L : List (List Int)} {f : List Int} : ∀ l ∈ starF (allE L) f, l.length ≤ 7 := fun l hl => allE_bd L l (List.mem_filter.1 hl).1
theorem linkF_bd {L : List (List Int)} {f : List Int} : ∀ l ∈ linkF (allE L) f, l.length ≤ 7 := fun l hl => by
  obtain ⟨x, hx, -, h2, -, rfl⟩ := mem_linkF.1 hl
  rw [h2]
  exact allE_bd L x hx
theorem lowF_bd {L : List (List Int)} {dim : Int} : ∀ l ∈ lowF (allE L) dim, l.length ≤ 7 := fun l hl => allE_bd L l (List.mem_filter.1 hl).1
theorem lowF_step {A : List (List Int)} {dim : Int} {j : Nat} (h : j < A.length) : lowF (A.take (j + 1)) dim = lowF (A.take j) dim ++ (if ((A.getD j []).length : Int) - 1 ≤ dim then [A.getD j []] else []) := by
  unfold lowF
  rw [take_snoc_getD [] A j h, List.filter_append]
  generalize A.getD j [] = x
  by_cases hc : (x.length : Int) - 1 ≤ dim
  · rw [if_pos hc]; congr 1; simp [hc]
  · rw [if_neg hc]; congr 1; simp [hc]

theorem below_grownBy {w w' : World} (h : Below w.heap.size w w') (r : Option Nat) : w.grownBy w' r :=
  ⟨h.1, h.2, h.3, h.size, fun k hk _ => h.block k hk⟩
theorem owns_empty {w : World} {g O : Nat} (hO : O ≤ g) (h : w.heap[g]? = some (.cells #[] 3 (0, 0))) : w.ownsRow O 3 1 (.slice (some ⟨g, 0, none⟩) 0 0) 0 [] :=
  ⟨rfl, Or.inr ⟨g, 0, #[], rfl, hO, h, Nat.le_refl _, Nat.zero_le _, rfl, rfl⟩⟩

set_option maxRecDepth 100000 in
set_option maxHeartbeats 16000000 in
theorem cellsParts_no (a : Nat → Addr) (L : List (List Int)) (face : List Int) (dim : Int) (v u : Value) (w : World) (hS : Sents w a) (hv : ListsIn w.heap.size w v L) (hu : IntsAt w u face) (hno : littleB L 150 = false ∨ 20 < face.length) :
    Calls Tryz.prog 7 #[v, u, .int .i64 dim] w (True1 w) := by
  have HV := Lib.hid hv
  have HCI := Lib.hid (circle_any a w hS)
  obtain ⟨pu, cu, hue, -⟩ := id hu
  obtain ⟨m, hm⟩ : ∃ m, face.length = m := ⟨_, rfl⟩
  rw [hm] at hue hno
  subst hue
  clear hS hv hu hm
  unfold True1
  obtain ⟨r, hr⟩ : ∃ r, littleB L 150 = r := ⟨_, rfl⟩
  have HR := Lib.hid hr
  rw [hr] at hno
  clear hr
  cases r with
  | false =>
    clear hno
    go_enter Tryz.func7, Tryz.ntmps7
    go_wp2_with fail
    refine HCI.out.mono ?_
    rintro e w1 ⟨rfl, hb1⟩
    have HB1 := Lib.hid hb1
    have HLI := Lib.hid (little_any L 150 v w1 (HV.out.later hb1 (Nat.le_refl _) (Nat.le_refl _)) (by decide))
    rw [HR.out] at HLI
    unfold Gives at HLI
    clear hb1
    go_wp2_with fail
    refine HLI.out.mono ?_
    rintro e w2 ⟨rfl, hb2⟩
    have HB2 := Lib.hid (HB1.out.trans (hb2.mono HB1.out.size))
    clear hb2
    go_wp2_with fail
    go_ret
    exact ⟨rfl, HB2.out⟩
  | true =>
    have hm20 : 20 < m := hno.elim (fun h => by cases h) id
    have q1 : decide (20 < m) = true := decide_eq_true hm20
    have q2 : decide ((20 : Int) < (m : Int)) = true := decide_eq_true (by omega)
    clear hno
    go_enter Tryz.func7, Tryz.ntmps7
    go_wp2_with fail
    refine HCI.out.mono ?_
    rintro e w1 ⟨rfl, hb1⟩
    have HB1 := Lib.hid hb1
    have HLI := Lib.hid (little_any L 150 v w1 (HV.out.later hb1 (Nat.le_refl _) (Nat.le_refl _)) (by decide))
    rw [HR.out] at HLI
    unfold Gives at HLI
    clear hb1
    go_wp2_with fail
    refine HLI.out.mono ?_
    rintro e w2 ⟨rfl, hb2⟩
    have HB2 := Lib.hid (HB1.out.trans (hb2.mono HB1.out.size))
    clear hb2
    go_wp2_with fail
    go_ret
    exact ⟨rfl, HB2.out⟩

set_option maxRecDepth 100000 in
set_option maxHeartbeats 16000000 in
theorem cellsParts_yes (a : Nat → Addr) (L : List (List Int)) (face : List Int) (dim : Int) (v u : Value) (w : World) (hS : Sents w a) (hv : ListsIn w.heap.size w v L) (hu : IntsAt w u face) (hlit : littleB L 150 = true) (hf20 : face.length ≤ 20) :
    Calls Tryz.prog 7 #[v, u, .int .i64 dim] w (True1 w) := by
  obtain ⟨i3, hi3, hy0, hy1, hy2⟩ := info_parts Tryz.info3
  obtain ⟨i39, hi39, hz0, hz1, hz2⟩ := info_parts Tryz.info26
  have HS := Lib.hid hS
  have HV := Lib.hid hv
  have HU := Lib.hid hu
  have HCI := Lib.hid (circle_any a w hS)
  have HR := Lib.hid hlit
  obtain ⟨hn, hl⟩ := littleB_few hlit
  have HN := Lib.hid hn
  have HL := Lib.hid hl
  obtain ⟨pu, cu, hue, -⟩ := id hu
  obtain ⟨m, hm⟩ : ∃ m, face.length = m := ⟨_, rfl⟩
  rw [hm] at hue hf20
  subst hue
  have HM := Lib.hid hm
  have q1 : decide (20 < m) = false := decide_eq_false (by omega)
  have q2 : decide ((20 : Int) < (m : Int)) = false := decide_eq_false (by omega)
  obtain ⟨c, hc⟩ : ∃ c, errX L = c := ⟨_, rfl⟩
  have HC := Lib.hid hc
  clear hS hv hu hm hlit hn hl hc
  unfold True1
  go_enter Tryz.func7, Tryz.ntmps7
  go_wp2_with fail
  refine HCI.out.mono ?_
  rintro e w1 ⟨rfl, hb1⟩
  have HB1 := Lib.hid hb1
  have HLI := Lib.hid (little_any L 150 v w1 (HV.out.later hb1 (Nat.le_refl _) (Nat.le_refl _)) (by decide))
  rw [HR.out] at HLI
  unfold Gives at HLI
  clear hb1
  go_wp2_with fail
  refine HLI.out.mono ?_
  rintro e w2 ⟨rfl, hb2⟩
  have HB2 := Lib.hid (HB1.out.trans (hb2.mono HB1.out.size))
  have HCE := Lib.hid (complexError_any L v w2 (HV.out.later HB2.out (Nat.le_refl _) (Nat.le_refl _)) HN.out HL.out)
  rw [HC.out] at HCE
  unfold Gives at HCE
  clear hb2
  go_wp2_with fail
  refine HCE.out.mono ?_
  rintro e w3 ⟨rfl, hb3⟩
  have HB3 := Lib.hid (HB2.out.trans (hb3.mono HB2.out.size))
  clear hb3
  by_cases hc0 : c = 0
  focus
    have q3 : ((c : Int) == 0) = true := beq_iff_eq.2 (by omega)
    have HX0 : Hid (errX L = 0) := by unfold Hid; rw [HC.out]; exact hc0
    have HC0 := Lib.hid hc0
    have HCL := Lib.hid (closed_any w.heap.size L v w3 HB3.out.size (HV.out.below HB3.out (Nat.le_refl _)) HN.out HL.out)
    unfold ClosedPost at HCL
    rw [(errX_ok HX0.out).1] at HCL
    clear hc0
    go_wp2_with fail
    refine HCL.out.mono ?_
    rintro e w5 ⟨va, rfl, hb5, hva, -⟩
    have HB5 := Lib.hid (HB3.out.trans (hb5.mono HB3.out.size))
    have HALL : Hid (ListsIn w.heap.size w5 va (allE L)) := by unfold Hid; rw [allE_ok HX0.out]; exact hva (by trivial)
    clear hb5 hva HCL
    have HIX := Lib.hid (indexOf_any w.heap.size (allE L) face va (.slice pu m cu) w5 HALL.out (HU.out.below HB5.out (Nat.le_refl _)) (by have := allE_len L; omega) (fun l hl => by have := allE_bd L l hl; omega) (by rw [HM.out]; omega))
    unfold IdxPost at HIX
    go_wp2_with fail
    refine HIX.out.mono ?_
    rintro e wi ⟨ri, rfl, ⟨ni, hwi⟩, hiff, hlo⟩
    have HBI : Hid (Below w.heap.size w wi) := by unfold Hid; rw [hwi]; exact HB5.out.trans ((Below.drewN w5 ni).mono HB5.out.size)
    have HALI : Hid (ListsIn w.heap.size wi va (allE L)) := by unfold Hid; rw [hwi]; exact HALL.out.drewN ni
    rw [allE_ok HX0.out] at hiff
    clear hwi HIX HB5 HALL
    obtain ⟨w4, hw4⟩ : ∃ w4, w4 = wi := ⟨_, rfl⟩
    rw [← hw4] at HBI HALI ⊢
    clear hw4
    have HB5 := HBI
    have HALL := HALI
    clear HBI HALI
    by_cases hin : face ∈ allF L
    focus
      have hri : decide (ri < 0) = false := decide_eq_false (by have := hiff.2 hin; omega)
      have HER : Hid (errS L face = c) := by unfold Hid; rw [HC0.out]; exact errS_in HX0.out hin
      clear hiff hin hlo
      go_wp2_with fail
      clear hri q3 HX0 HC0
    rotate_left
    focus
      have hri : decide (ri < 0) = true := decide_eq_true (Int.not_le.1 fun h => hin (hiff.1 h))
      obtain ⟨er, her⟩ : ∃ er : Nat, er = 4 := ⟨_, rfl⟩
      have HER : Hid (errS L face = er) := by unfold Hid; rw [her]; exact errS_out HX0.out hin
      have E4 := Lib.hid (show Value.int .i64 4 = Value.int .i64 (er : Int) by rw [her]; rfl)
      clear her
      clear hiff hin hlo
      go_wp2_with fail
      rw [E4.out]
      clear hri q3 HX0 HC0 E4
  rotate_left 2
  focus
    have q3 : ((c : Int) == 0) = false := beq_eq_false_iff_ne.2 (by omega)
    obtain ⟨w4, rfl⟩ : ∃ w4, w4 = w3 := ⟨_, rfl⟩
    have HB5 := Lib.hid HB3.out
    obtain ⟨va, hva⟩ : ∃ va, va = Value.slice none 0 0 := ⟨_, rfl⟩
    have HALL : Hid (ListsIn w.heap.size w4 va (allE L)) := by unfold Hid; rw [allE_bad (by rw [HC.out]; exact hc0), hva]; exact ListsIn.nil _ _
    have HER : Hid (errS L face = c) := by unfold Hid; rw [errS_bad (by rw [HC.out]; exact hc0)]; exact HC.out
    clear hc0
    go_wp2_with fail
    rw [← hva]
    clear hva q3
  all_goals
    have HALL5 := Lib.hid HALL.out
    clear HALL
    have HCX := Lib.hid (cx_any w.heap.size L v w4 HB5.out.size (HV.out.below HB5.out (Nat.le_refl _)) HN.out HL.out)
    go_wp2_with fail
    refine HCX.out.mono ?_
    rintro e w6 ⟨u6, rfl, hb, hr⟩
    have HB6 := Lib.hid (HB5.out.trans (hb.mono HB5.out.size))
    have HR6 := Lib.hid hr.lists
    have HALL6 := Lib.hid (HALL5.out.below hb (Nat.le_refl _))
    clear hb hr HCX
    obtain ⟨w7, hw7⟩ : ∃ w7, w7 = w6.alloc (.cells #[] 3) := ⟨_, rfl⟩
    have hb7 : Below w6.heap.size w6 w7 := by rw [hw7]; exact (Below.refl _ _).alloc (Nat.le_refl _) _
    have hk7 : w7.heap[w6.heap.size]? = some (.cells #[] 3 (0, 0)) := by rw [hw7]; exact heap_alloc_new w6 _
    have HB7 := Lib.hid (HB6.out.trans (hb7.mono HB6.out.size))
    have HB67 := Lib.hid hb7
    have HO7 := Lib.hid (owns_empty (O := w6.heap.size) (Nat.le_refl _) hk7)
    have HU7 := Lib.hid (HU.out.below HB7.out (Nat.le_refl _))
    have hs7 : w7.heap.size = w6.heap.size + 1 := by rw [hw7]; simp
    have HW7 := Lib.hid hw7
    clear hw7 hb7 hk7
    go_wp2_with (at_builtin; rw [← HW7.out]; refine wpList_app_any w7 rfl (.tmp 57) (.tmp 58) 26 rfl w6.heap.size 3 i3 (.int .i64 0) 8 Tryz.underlying26 hi3 hy0 hy1 hy2 rfl (.slice (some ⟨w6.heap.size, 0, none⟩) 0 0) 0 [] rfl HO7.out pu m cu (intVs face) rfl HU7.out.lenE HU7.out.noneE HU7.out.news (intVs_one _) (by unfold maxLen; omega) (by omega) (by omega) _ rfl ?_; intro p8 cap8 w8 ho8 hg8 hat8)
    have hb8 := HB67.out.grown hg8 HB67.out.size (fun k e => by cases e; exact Nat.le_refl _)
    have HB8 := Lib.hid (HB6.out.trans (hb8.mono HB6.out.size))
    have HALL8 := Lib.hid (HALL6.out.below hb8 (Nat.le_refl _))
    have HI8 := (ints_owned (B := 0) ho8 (by rw [HM.out]; simp)).at
    simp only [Nat.zero_add, List.nil_append] at HI8
    have HST := Lib.hid (SetsP.u (M := starP L face) (slS_any a w.heap.size L face u6 (.slice p8 m cap8) w8 (HS.out.below HB8.out (Nat.le_refl _)) HB8.out.size (HR6.out.below hb8 (Nat.le_refl _)) HI8 HN.out HL.out (by rw [HM.out]; omega)) (fun h => (star_right h).1))
    rw [HER.out] at HST
    unfold CompP at HST
    clear hb8 HI8 ho8 hg8 hat8
    go_wp2_with fail
    refine HST.out.mono ?_
    rintro e w9 ⟨p9, n9, c9, ev9, rfl, hb, hu⟩
    have HB9 := Lib.hid (HB8.out.trans (hb.mono HB8.out.size))
    have HALL9 := Lib.hid (HALL8.out.below hb (Nat.le_refl _))
    have HU9 := Lib.hid hu.u
    clear hb hu HST
    obtain ⟨w10, hw10⟩ : ∃ w10, w10 = w9.alloc (.cells #[.slice p9 n9 c9] 34) := ⟨_, rfl⟩
    have hb10 : Below w9.heap.size w9 w10 := by rw [hw10]; exact (Below.refl _ _).alloc (Nat.le_refl _) _
    have hk10 : w10.heap[w9.heap.size]? = some (.cells #[.slice p9 n9 c9] 34 (0, 0)) := by rw [hw10]; exact heap_alloc_new w9 _
    have HK10 := Lib.hid hk10
    have HB10 := Lib.hid (HB9.out.trans (hb10.mono HB9.out.size))
    have HALL10 := Lib.hid (HALL9.out.below hb10 (Nat.le_refl _))
    have HU10 := Lib.hid (HU9.out.below hb10 (Nat.le_refl _))
    have HSO := Lib.hid (starOf_any w.heap.size (allE L) face va (.slice pu m cu) w10 HB10.out.size HALL10.out (HU.out.below HB10.out (Nat.le_refl _)) (by have := allE_len L; omega) (fun l hl => by have := allE_bd L l hl; omega) (by rw [HM.out]; omega))
    unfold ListPost at HSO
    have HW10 := Lib.hid hw10
    have HX10 := Lib.hid hb10
    clear hb10 hk10 hw10
    go_wp2_with fail
    rw [← HW10.out]
    refine HSO.out.mono ?_
    rintro e w11 ⟨v11, rfl, hb, hr⟩
    have HB11 := Lib.hid (HB10.out.trans (hb.mono HB10.out.size))
    have HX11 := Lib.hid (HX10.out.trans (hb.mono HX10.out.size))
    have HALL11 := Lib.hid (HALL10.out.below hb (Nat.le_refl _))
    have HU11 := Lib.hid (HU10.out.below hb (Nat.le_refl _))
    have hk11 : w11.heap[w9.heap.size]? = some (.cells #[.slice p9 n9 c9] 34 (0, 0)) := (hb.block _ (Array.getElem?_eq_some_iff.1 HK10.out).1).trans HK10.out
    have HK11 := Lib.hid hk11
    have HMD := Lib.hid (lmade_any w.heap.size (errS L face) (starF (allE L) face) v11 w11 HB11.out.size hr.lists (by have := starF_len (allE L) face; have := allE_len L; omega) (fun l hl => by have := starF_bd l hl; omega) (fun h => (star_right h).2.1) (by have := errS_le L face; omega))
    rw [HER.out] at HMD
    unfold MadeU at HMD
    clear hb hr HSO hk11
    go_wp2_with fail
    refine HMD.out.mono ?_
    rintro e w12 ⟨v12, rfl, hb, hv⟩
    have HB12 := Lib.hid (HB11.out.trans (hb.mono HB11.out.size))
    have HX12 := Lib.hid (HX11.out.trans (hb.mono HX11.out.size))
    have HALL12 := Lib.hid (HALL11.out.below hb (Nat.le_refl _))
    have HU12 := Lib.hid (HU11.out.below hb (Nat.le_refl _))
    have hk12 : w12.heap[w9.heap.size]? = some (.cells #[.slice p9 n9 c9] 34 (0, 0)) := (hb.block _ (Array.getElem?_eq_some_iff.1 HK11.out).1).trans HK11.out
    have HK12 := Lib.hid hk12
    have R12 : w12.cell? ⟨w9.heap.size, 0, none⟩ = some (.slice p9 n9 c9) := (blk_at2 hk12 0).1
    have HIS := Lib.hid (is_u a w.heap.size _ (starP L face) (starF (allE L) face) p9 n9 c9 ev9 v12 w12 (HS.out.below HB12.out (Nat.le_refl _)) HU12.out hv (fun h => (star_right (HER.out.trans h)).2.2))
    unfold True1 at HIS
    clear hb hv HMD hk12
    go_wp2_with fail
    refine HIS.out.mono ?_
    rintro e w13 ⟨rfl, hb⟩
    have HB13 := Lib.hid (HB12.out.trans (hb.mono HB12.out.size))
    have HX13 := Lib.hid (HX12.out.trans (hb.mono HX12.out.size))
    have HALL13 := Lib.hid (HALL12.out.below hb (Nat.le_refl _))
    have hk13 : w13.heap[w9.heap.size]? = some (.cells #[.slice p9 n9 c9] 34 (0, 0)) := (hb.block _ (Array.getElem?_eq_some_iff.1 HK12.out).1).trans HK12.out
    have HK13 := Lib.hid hk13
    obtain ⟨bx, hbx⟩ : ∃ bx, bx = w9.heap.size := ⟨_, rfl⟩
    have HBX : Hid (w.heap.size ≤ bx) := by unfold Hid; rw [hbx]; exact HB9.out.size
    have HSZ : Hid (w9.heap.size ≤ bx) := by unfold Hid; rw [hbx]; exact Nat.le_refl _
    rw [← hbx] at HK13 HX13 ⊢
    have HLT13 : Hid (bx < w13.heap.size) := (Array.getElem?_eq_some_iff.1 HK13.out).1
    clear hb HIS hk13 HU12 HU11 HU10 HK10 HK11 HK12 R12 HW10 hbx HU9
    have HCX := Lib.hid (cx_any w.heap.size L v w13 HB13.out.size (HV.out.below HB13.out (Nat.le_refl _)) HN.out HL.out)
    go_wp2_with fail
    refine HCX.out.mono ?_
    rintro e w14 ⟨u14, rfl, hb, hr⟩
    have HB14 := Lib.hid (HB13.out.trans (hb.mono HB13.out.size))
    have HR14 := Lib.hid hr.lists
    have HALL14 := Lib.hid (HALL13.out.below hb (Nat.le_refl _))
    have HX14 : Hid (Below bx w9 w14) := HX13.out.trans (hb.mono (Nat.le_of_lt HLT13.out))
    have HK14 : Hid (w14.heap[bx]? = some (.cells #[.slice p9 n9 c9] 34 (0, 0))) := (hb.block _ HLT13.out).trans HK13.out
    have HLT14 : Hid (bx < w14.heap.size) := Nat.lt_of_lt_of_le HLT13.out hb.size
    clear hb hr HCX
    obtain ⟨w15, hw15⟩ : ∃ w15, w15 = w14.alloc (.cells #[] 3) := ⟨_, rfl⟩
    have hb15 : Below w14.heap.size w14 w15 := by rw [hw15]; exact (Below.refl _ _).alloc (Nat.le_refl _) _
    have hk15 : w15.heap[w14.heap.size]? = some (.cells #[] 3 (0, 0)) := by rw [hw15]; exact heap_alloc_new w14 _
    have HB15 := Lib.hid (HB14.out.trans (hb15.mono HB14.out.size))
    have HB1415 := Lib.hid hb15
    have HO15 := Lib.hid (owns_empty (O := w14.heap.size) (Nat.le_refl _) hk15)
    have HU15 := Lib.hid (HU.out.below HB15.out (Nat.le_refl _))
    have hs15 : w15.heap.size = w14.heap.size + 1 := by rw [hw15]; simp
    have HW15 := Lib.hid hw15
    clear hw15 hb15 hk15
    go_wp2_with (at_builtin; rw [← HW15.out]; refine wpList_app_any w15 rfl (.tmp 79) (.tmp 80) 26 rfl w14.heap.size 3 i3 (.int .i64 0) 8 Tryz.underlying26 hi3 hy0 hy1 hy2 rfl (.slice (some ⟨w14.heap.size, 0, none⟩) 0 0) 0 [] rfl HO15.out pu m cu (intVs face) rfl HU15.out.lenE HU15.out.noneE HU15.out.news (intVs_one _) (by unfold maxLen; omega) (by omega) (by omega) _ rfl ?_; intro p16 cap16 w16 ho16 hg16 hat16)
    have hb16 := HB1415.out.grown hg16 HB1415.out.size (fun k e => by cases e; exact Nat.le_refl _)
    have HB16 := Lib.hid (HB14.out.trans (hb16.mono HB14.out.size))
    have HALL16 := Lib.hid (HALL14.out.below hb16 (Nat.le_refl _))
    have HX16 : Hid (Below bx w9 w16) := HX14.out.trans (hb16.mono (Nat.le_of_lt HLT14.out))
    have HK16 : Hid (w16.heap[bx]? = some (.cells #[.slice p9 n9 c9] 34 (0, 0))) := (hb16.block _ HLT14.out).trans HK14.out
    have HLT16 : Hid (bx < w16.heap.size) := Nat.lt_of_lt_of_le HLT14.out hb16.size
    have HI16 := (ints_owned (B := 0) ho16 (by rw [HM.out]; simp)).at
    simp only [Nat.zero_add, List.nil_append] at HI16
    have HST := Lib.hid (SetsP.u (M := linkQ L face) (slL_any a w.heap.size L face u14 (.slice p16 m cap16) w16 (HS.out.below HB16.out (Nat.le_refl _)) HB16.out.size (HR14.out.below hb16 (Nat.le_refl _)) HI16 HN.out HL.out (by rw [HM.out]; omega)) (fun h => (link_right h).1))
    rw [HER.out] at HST
    unfold CompP at HST
    clear hb16 HI16 ho16 hg16 hat16
    go_wp2_with fail
    refine HST.out.mono ?_
    rintro e w17 ⟨p17, n17, c17, ev17, rfl, hb, hu⟩
    have HB17 := Lib.hid (HB16.out.trans (hb.mono HB16.out.size))
    have HALL17 := Lib.hid (HALL16.out.below hb (Nat.le_refl _))
    have HX17 : Hid (Below bx w9 w17) := HX16.out.trans (hb.mono (Nat.le_of_lt HLT16.out))
    have hk17 : w17.heap[bx]? = some (.cells #[.slice p9 n9 c9] 34 (0, 0)) := (hb.block _ HLT16.out).trans HK16.out
    have R17 : w17.cell? ⟨bx, 0, none⟩ = some (.slice p9 n9 c9) := (blk_at2 hk17 0).1
    have F17 : w17.frozen? ⟨bx, 0, none⟩ = false := (blk_at2 hk17 0).2
    obtain ⟨w18, hw18⟩ : ∃ w18, w18 = w17.setCell ⟨bx, 0, none⟩ (.slice p17 n17 c17) := ⟨_, rfl⟩
    have HK18 : Hid (w18.heap[bx]? = some (.cells #[.slice p17 n17 c17] 34 (0, 0))) := by unfold Hid; rw [hw18]; exact one_blk hk17
    have hU18 := hu.set (y := .slice p17 n17 c17) HLT16.out HBX.out hk17
    have HB18 : Hid (Below w.heap.size w w18) := by unfold Hid; rw [hw18]; exact HB17.out.setCell HBX.out _
    have HX18 : Hid (Below bx w9 w18) := by unfold Hid; rw [hw18]; exact HX17.out.setCell (Nat.le_refl _) _
    have HLT18 : Hid (bx < w18.heap.size) := (Array.getElem?_eq_some_iff.1 HK18.out).1
    have HALL18 := Lib.hid (HALL9.out.below HX18.out HSZ.out)
    rw [← hw18] at hU18
    have HU18 := Lib.hid hU18
    have HW18 := Lib.hid hw18
    have HSO := Lib.hid (linkOf_any w.heap.size (allE L) face va (.slice pu m cu) w18 HB18.out.size HALL18.out (HU.out.below HB18.out (Nat.le_refl _)) (by have := allE_len L; omega) (fun l hl => by have := allE_bd L l hl; omega) (by rw [HM.out]; omega))
    unfold ListPost at HSO
    clear hb hu hU18 hw18 HST hk17
    go_wp2_with fail
    rw [← HW18.out]
    refine HSO.out.mono ?_
    rintro e w19 ⟨v19, rfl, hb, hr⟩
    have HB19 := Lib.hid (HB18.out.trans (hb.mono HB18.out.size))
    have HX19 : Hid (Below bx w9 w19) := HX18.out.trans (hb.mono (Nat.le_of_lt HLT18.out))
    have HALL19 := Lib.hid (HALL18.out.below hb (Nat.le_refl _))
    have HU19 := Lib.hid (HU18.out.below hb (Nat.le_refl _))
    have HK19 : Hid (w19.heap[bx]? = some (.cells #[.slice p17 n17 c17] 34 (0, 0))) := (hb.block _ HLT18.out).trans HK18.out
    have HLT19 : Hid (bx < w19.heap.size) := Nat.lt_of_lt_of_le HLT18.out hb.size
    have HMD := Lib.hid (lmade_any w.heap.size (errS L face) (linkF (allE L) face) v19 w19 HB19.out.size hr.lists (by have := linkF_len (allE L) face; have := allE_len L; omega) (fun l hl => by have := linkF_bd l hl; omega) (fun h => (link_right h).2.1) (by have := errS_le L face; omega))
    rw [HER.out] at HMD
    unfold MadeU at HMD
    clear hb hr HSO HW18 R17 F17
    go_wp2_with fail
    refine HMD.out.mono ?_
    rintro e w20 ⟨v20, rfl, hb, hv⟩
    have HB20 := Lib.hid (HB19.out.trans (hb.mono HB19.out.size))
    have HX20 : Hid (Below bx w9 w20) := HX19.out.trans (hb.mono (Nat.le_of_lt HLT19.out))
    have HALL20 := Lib.hid (HALL19.out.below hb (Nat.le_refl _))
    have HU20 := Lib.hid (HU19.out.below hb (Nat.le_refl _))
    have HK20 : Hid (w20.heap[bx]? = some (.cells #[.slice p17 n17 c17] 34 (0, 0))) := (hb.block _ HLT19.out).trans HK19.out
    have HLT20 : Hid (bx < w20.heap.size) := Nat.lt_of_lt_of_le HLT19.out hb.size
    have R20 : w20.cell? ⟨bx, 0, none⟩ = some (.slice p17 n17 c17) := (blk_at2 HK20.out 0).1
    have HIS := Lib.hid (is_u a w.heap.size _ (linkQ L face) (linkF (allE L) face) p17 n17 c17 ev17 v20 w20 (HS.out.below HB20.out (Nat.le_refl _)) HU20.out hv (fun h => (link_right (HER.out.trans h)).2.2))
    unfold True1 at HIS
    clear hb hv HMD
    go_wp2_with fail
    refine HIS.out.mono ?_
    rintro e w21 ⟨rfl, hb⟩
    have HB21 := Lib.hid (HB20.out.trans (hb.mono HB20.out.size))
    have HX21 : Hid (Below bx w9 w21) := HX20.out.trans (hb.mono (Nat.le_of_lt HLT20.out))
    have HALL21 := Lib.hid (HALL20.out.below hb (Nat.le_refl _))
    have HK21 : Hid (w21.heap[bx]? = some (.cells #[.slice p17 n17 c17] 34 (0, 0))) := (hb.block _ HLT20.out).trans HK20.out
    have HLT21 : Hid (bx < w21.heap.size) := Nat.lt_of_lt_of_le HLT20.out hb.size
    clear hb HIS R20 HU20 HU19 HU18 HK20 HK19 HK18
    obtain ⟨pa, ca, hae, -⟩ := id HALL21.out
    obtain ⟨n, hLn⟩ : ∃ n, (allE L).length = n := ⟨_, rfl⟩
    have hn6 : n ≤ 600 := by rw [← hLn]; exact allE_len L
    rw [hLn] at hae
    subst hae
    have HLN := Lib.hid hLn
    clear hLn
    go_wp2_with fail
    go_loopw [18, 19] (fun s i wr => ∃ j : Nat, j ≤ n ∧ i = .int .i64 j ∧ Below w21.heap.size w21 wr ∧ RowsO w21.heap.size w.heap.size wr s (lowF ((allE L).take j) dim)) (fun _ i _ => n - (intOf i).toNat)
    case atStart => exact ⟨0, Nat.zero_le _, rfl, Below.refl _ _, RowsO.nil _ _ _⟩
    case round =>
      obtain ⟨j, hj, rfl, hb, hR⟩ := hrel
      have HBR := Lib.hid hb
      have HR := Lib.hid hR
      have hws := hb.size
      clear hb hR
      by_cases hjn : j < n
      · obtain ⟨b, off, c2, hve⟩ := HALL21.out.form (by rw [HLN.out]; omega)
        rw [HLN.out] at hve
        obtain ⟨rfl, rfl⟩ : pa = some ⟨b, off, none⟩ ∧ ca = c2 := by cases hve; exact ⟨rfl, rfl⟩
        have hjL : j < (allE L).length := by rw [HLN.out]; exact hjn
        obtain ⟨pj, cj, hcj, hij⟩ := cells_at (HALL21.out.below HBR.out (Nat.le_refl _)) j hjL
        have hlj := allE_bd L _ (getL_mem hjL)
        have HTK := Lib.hid (lowF_step (dim := dim) hjL)
        obtain ⟨nf, hnf⟩ : ∃ nf, ((allE L).getD j []).length = nf := ⟨_, rfl⟩
        rw [hnf] at hij hcj hlj
        have HNF := Lib.hid hnf
        have HIJ := Lib.hid hij
        obtain ⟨hs, h1, h2, h3⟩ := HR.out
        obtain ⟨k, hk⟩ : ∃ k, (lowF ((allE L).take j) dim).length = k := ⟨_, rfl⟩
        have hkn : k ≤ 100000 := by
          have e1 := lowF_len ((allE L).take j) dim
          rw [List.length_take] at e1
          omega
        rw [hk] at h1
        have HK := Lib.hid hk
        have H1 := Lib.hid h1
        have H2 := Lib.hid h2
        have H3 := Lib.hid h3
        clear hve hij hnf h1 h2 h3 hk hjL
        by_cases hd : (nf : Int) - 1 ≤ dim
        · have q4 : decide ((nf : Int) - 1 ≤ dim) = true := decide_eq_true hd
          have HD := Lib.hid hd
          clear hd
          go_wp2_with (at_builtin; refine wpList_append_lies _ rfl (.tmp 112) (.tmp 117) 22 rfl w21.heap.size 26 i39 (.slice none 0 0) 1 24 Tryz.underlying22 hi39 hz0 hz1 hz2 rfl (by decide) _ k hs rfl (H1.out.alloc _) ⟨wr.heap.size, 0, none⟩ 1 1 [.slice pj nf cj] rfl rfl (World.news_of_block (cs := #[.slice pj nf cj]) (t := 26) (fr := (0, 0)) (heap_alloc_new wr _)) (by simp [Value.oneCell']) (by decide) (by unfold maxLen; omega) (by omega) (by simp; omega) (wr.heap.size + 1) (by simp) ?_; intro g2 c2 w9 hown2 hgr2 hat2 hlt2; have HO2 := Lib.hid hown2; have HG2 := Lib.hid hgr2; clear hown2 hgr2 hat2 hlt2)
          go_roundw
          case rel =>
            have hbA : Below wr.heap.size wr (wr.alloc (.cells #[.slice pj nf cj] 26)) := (Below.refl _ _).alloc (Nat.le_refl _) _
            refine ⟨j + 1, by omega, by go_num, (HBR.out.alloc hws _).grown HG2.out (by simp; omega) (fun i hi => (H1.out.lt i hi).1), ?_⟩
            rw [HTK.out, if_pos (by rw [HNF.out]; exact HD.out)]
            exact rowsO_push (w := wr.alloc (.cells #[.slice pj nf cj] 26)) (hs := hs) HB21.out.size (by rw [HK.out]; exact H1.out.alloc _) H2.out (fun i hi => (H3.out i hi).below hbA (Nat.le_refl _)) (HIJ.out.below hbA (Nat.le_refl _)) (by rw [HK.out]; exact HO2.out) HG2.out
          case measure => simp [intOf]; omega
        · have q4 : decide ((nf : Int) - 1 ≤ dim) = false := decide_eq_false hd
          have HD := Lib.hid hd
          clear hd
          go_wp2_with fail
          go_roundw
          case rel =>
            refine ⟨j + 1, by omega, by go_num, HBR.out, ?_⟩
            rw [HTK.out, if_neg (by rw [HNF.out]; exact HD.out), List.append_nil]
            exact HR.out
          case measure => simp [intOf]; omega
      · obtain rfl : j = n := by omega
        have HFULL : Hid ((allE L).take j = allE L) := by unfold Hid; rw [← HLN.out, List.take_length]
        obtain ⟨w22, rfl⟩ : ∃ w22, w22 = wr := ⟨_, rfl⟩
        have hl22 := HR.out.lists
        rw [HFULL.out] at hl22
        have HLOW22 := Lib.hid hl22
        have HB22 := Lib.hid (HB21.out.trans (HBR.out.mono HB21.out.size))
        have HX22 : Hid (Below bx w9 w22) := HX21.out.trans (HBR.out.mono (Nat.le_of_lt HLT21.out))
        have HK22 : Hid (w22.heap[bx]? = some (.cells #[.slice p17 n17 c17] 34 (0, 0))) := (HBR.out.block _ HLT21.out).trans HK21.out
        have HLT22 : Hid (bx < w22.heap.size) := Nat.lt_of_lt_of_le HLT21.out hws
        have HRO22 := HR
        have HB2222 : Hid (Below w22.heap.size w22 w22) := Below.refl _ _
        clear hl22 HR HBR hws hj hjn
        have HCX := Lib.hid (cx_any w.heap.size L v w22 HB22.out.size (HV.out.below HB22.out (Nat.le_refl _)) HN.out HL.out)
        go_wp2_with fail
        refine HCX.out.mono ?_
        rintro e w23 ⟨u23, rfl, hb, hr⟩
        have HB23 := Lib.hid (HB22.out.trans (hb.mono HB22.out.size))
        have HR23 := Lib.hid hr.lists
        have HLOW23 := Lib.hid (HLOW22.out.below hb (Nat.le_refl _))
        have HB2223 : Hid (Below w22.heap.size w22 w23) := hb
        have HK23 : Hid (w23.heap[bx]? = some (.cells #[.slice p17 n17 c17] 34 (0, 0))) := (hb.block _ HLT22.out).trans HK22.out
        have HLT23 : Hid (bx < w23.heap.size) := Nat.lt_of_lt_of_le HLT22.out hb.size
        have HST := Lib.hid (SetsP.u (M := skelP L dim) (skel_any a w.heap.size L dim u23 w23 (HS.out.below HB23.out (Nat.le_refl _)) HB23.out.size hr.lists HN.out HL.out) (fun h => (skel_right (dim := dim) h).1))
        rw [HC.out] at HST
        unfold CompP at HST
        clear hb hr HCX
        go_wp2_with fail
        refine HST.out.mono ?_
        rintro e w24 ⟨p24, n24, c24, ev24, rfl, hb, hu⟩
        have HB24 := Lib.hid (HB23.out.trans (hb.mono HB23.out.size))
        have HLOW24 := Lib.hid (HLOW23.out.below hb (Nat.le_refl _))
        have hk24 : w24.heap[bx]? = some (.cells #[.slice p17 n17 c17] 34 (0, 0)) := (hb.block _ HLT23.out).trans HK23.out
        have R24 : w24.cell? ⟨bx, 0, none⟩ = some (.slice p17 n17 c17) := (blk_at2 hk24 0).1
        have F24 : w24.frozen? ⟨bx, 0, none⟩ = false := (blk_at2 hk24 0).2
        have HB2224 : Hid (Below w22.heap.size w22 w24) := HB2223.out.trans (hb.mono HB2223.out.size)
        obtain ⟨w25, hw25⟩ : ∃ w25, w25 = w24.setCell ⟨bx, 0, none⟩ (.slice p24 n24 c24) := ⟨_, rfl⟩
        have HK25 : Hid (w25.heap[bx]? = some (.cells #[.slice p24 n24 c24] 34 (0, 0))) := by unfold Hid; rw [hw25]; exact one_blk hk24
        have hU25 := hu.set (y := .slice p24 n24 c24) HLT23.out HBX.out hk24
        have HB25 : Hid (Below w.heap.size w w25) := by unfold Hid; rw [hw25]; exact HB24.out.setCell HBX.out _
        have HLT25 : Hid (bx < w25.heap.size) := (Array.getElem?_eq_some_iff.1 HK25.out).1
        rw [← hw25] at hU25
        have HU25 := Lib.hid hU25
        have hgr : w22.grownBy w25 (some bx) := by rw [hw25]; exact (below_grownBy HB2224.out (some bx)).trans (grown_cell w24 bx _)
        have hl25 := (HRO22.out.grown hgr HLT21.out HBX.out (fun x e => by rw [HK22.out] at e; cases e)).lists
        rw [HFULL.out] at hl25
        have HW25 := Lib.hid hw25
        have HMD := Lib.hid (lmade_any w.heap.size (errX L) (lowF (allE L) dim) _ w25 HB25.out.size hl25 (by have := lowF_len (allE L) dim; have := allE_len L; omega) (fun l hl => by have := lowF_bd l hl; omega) (fun h => (skel_right h).2.1) (by have := errX_le L; omega))
        rw [HC.out] at HMD
        unfold MadeU at HMD
        clear hb hu hU25 hw25 HST hk24 hgr hl25
        go_wp2_with fail
        rw [← HW25.out]
        refine HMD.out.mono ?_
        rintro e w26 ⟨v26, rfl, hb, hv⟩
        have HB26 := Lib.hid (HB25.out.trans (hb.mono HB25.out.size))
        have HU26 := Lib.hid (HU25.out.below hb (Nat.le_refl _))
        have HK26 : Hid (w26.heap[bx]? = some (.cells #[.slice p24 n24 c24] 34 (0, 0))) := (hb.block _ HLT25.out).trans HK25.out
        have R26 : w26.cell? ⟨bx, 0, none⟩ = some (.slice p24 n24 c24) := (blk_at2 HK26.out 0).1
        have HIS := Lib.hid (is_u a w.heap.size _ (skelP L dim) (lowF (allE L) dim) p24 n24 c24 ev24 v26 w26 (HS.out.below HB26.out (Nat.le_refl _)) HU26.out hv (fun h => (skel_right (HC.out.trans h)).2.2))
        unfold True1 at HIS
        clear hb hv HMD HW25 R24 F24
        go_wp2_with fail
        refine HIS.out.mono ?_
        rintro e w27 ⟨rfl, hb⟩
        have HB27 := Lib.hid (HB26.out.trans (hb.mono HB26.out.size))
        clear hb HIS
        go_wp2_with fail
        go_ret
        exact ⟨rfl, HB27.out⟩

theorem cellsParts_any (a : Nat → Addr) (L : List (List Int)) (face : List Int) (dim : Int) (v u : Value) (w : World) (hS : Sents w a) (hv : ListsIn w.heap.size w v L) (hu : IntsAt w u face) :
    Calls Tryz.prog 7 #[v, u, .int .i64 dim] w (True1 w) := by
  by_cases h : littleB L 150 = false ∨ 20 < face.length
  · exact cellsParts_no a L face dim v u w hS hv hu h
  · have h1 : littleB L 150 = true := by
      cases hh : littleB L 150 with
      | true => rfl
      | false => exact absurd (Or.inl hh) h
    exact cellsParts_yes a L face dim v u w hS hv hu h1 (by omega)
end Go.Proofs.YtipblphfjejpbaaGreatDoor
