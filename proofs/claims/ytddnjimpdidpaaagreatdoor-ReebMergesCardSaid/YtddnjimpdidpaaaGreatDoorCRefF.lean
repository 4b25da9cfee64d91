/-
  All faces of sets, plain: by the bits of a number; what is wrong with sets.
  The references' Closed by a contract: all faces of any sets, or the number of what is wrong. Conditions: the sets read as lists; bounds on their numbers.
  The references' FacetsOf and SameLists by contracts; Made, ComplexError; the law's Few, Little.
  The references' Made and ComplexError, the law's Few and Little by contracts.
-/
import Derived.Test.YtddnjimpdidpaaaGreatDoorCRefC
import Derived.IntWalk

namespace Go.Proofs.YtddnjimpdidpaaaGreatDoor
open Go Go.RowKit

/-- the numbers whose bit is set -/
def bitsR : List Int → Nat → List Int
  | [], _ => []
  | x :: r, b => if b % 2 = 1 then x :: bitsR r (b / 2) else bitsR r (b / 2)
theorem bitsR_sub : ∀ (s : List Int) (b : Nat), (bitsR s b).Sublist s
  | [], _ => List.Sublist.slnil
  | x :: r, b => by
    unfold bitsR
    split
    · exact List.Sublist.cons_cons _ (bitsR_sub r _)
    · exact List.Sublist.cons _ (bitsR_sub r _)
theorem bitsR_all : ∀ {s g : List Int}, g.Sublist s → ∃ b, b < 2 ^ s.length ∧ bitsR s b = g
  | _, _, List.Sublist.slnil => ⟨0, by simp, rfl⟩
  | x :: s, g, List.Sublist.cons _ h => by
    obtain ⟨b, h1, h2⟩ := bitsR_all h
    refine ⟨2 * b, by rw [List.length_cons, Nat.pow_succ]; omega, ?_⟩
    unfold bitsR
    rw [if_neg (by omega), show 2 * b / 2 = b by omega]; exact h2
  | x :: s, _ :: g, List.Sublist.cons_cons _ h => by
    obtain ⟨b, h1, h2⟩ := bitsR_all h
    refine ⟨2 * b + 1, by rw [List.length_cons, Nat.pow_succ]; omega, ?_⟩
    unfold bitsR
    rw [if_pos (by omega), show (2 * b + 1) / 2 = b by omega, h2]
theorem bitsR_zero : ∀ s : List Int, bitsR s 0 = []
  | [] => rfl
  | x :: r => by unfold bitsR; rw [if_neg (by omega)]; exact bitsR_zero r
theorem bitsR_ne : ∀ (s : List Int) (b : Nat), 1 ≤ b → b < 2 ^ s.length → bitsR s b ≠ []
  | [], b, h1, h2 => by simp at h2; omega
  | x :: r, b, h1, h2 => by
    unfold bitsR
    split
    · simp
    · rw [List.length_cons, Nat.pow_succ] at h2
      exact bitsR_ne r (b / 2) (by omega) (by omega)
/-- .. up to a place -/
def bitsTo (s : List Int) (b q : Nat) : List Int := bitsR (s.take q) b
theorem bitsTo_all (s : List Int) (b : Nat) : bitsTo s b s.length = bitsR s b := by unfold bitsTo; rw [List.take_length]
theorem bitsR_app : ∀ (s : List Int) (x : Int) (b : Nat), bitsR (s ++ [x]) b = bitsR s b ++ (if b / 2 ^ s.length % 2 = 1 then [x] else [])
  | [], x, b => by
    show bitsR [x] b = _
    unfold bitsR
    simp [bitsR]
  | y :: r, x, b => by
    show bitsR (y :: (r ++ [x])) b = bitsR (y :: r) b ++ _
    unfold bitsR
    have h := bitsR_app r x (b / 2)
    have e : b / 2 / 2 ^ r.length = b / 2 ^ (y :: r).length := by rw [List.length_cons, Nat.pow_succ, Nat.div_div_eq_div_mul, Nat.mul_comm]
    rw [h, e]
    split <;> rfl
theorem bitsTo_step (s : List Int) (b q : Nat) (hq : q < s.length) : bitsTo s b (q + 1) = bitsTo s b q ++ (if b / 2 ^ q % 2 = 1 then [s.getD q 0] else []) := by
  unfold bitsTo
  rw [take_snoc_getD 0 s q hq, bitsR_app]
  have : (s.take q).length = q := by rw [List.length_take]; omega
  rw [this]
theorem bitsTo_len (s : List Int) (b q : Nat) : (bitsTo s b q).length ≤ q := by
  have := (bitsR_sub (s.take q) b).length_le
  rw [List.length_take] at this
  unfold bitsTo
  omega

/-- what is wrong with sets: 4: one is none; 2: too many; 0: nothing -/
noncomputable def errC (L : List (List Int)) : Nat :=
  have := Classical.propDecidable
  if ∃ l ∈ L, ¬ okSet l then 4 else if (∃ l ∈ L, 7 < l.length) ∨ 600 < (allF L).length then 2 else 0
theorem errC_4 {L : List (List Int)} {l : List Int} (h : l ∈ L) (hb : ¬ okSet l) : errC L = 4 := by unfold errC; exact if_pos ⟨l, h, hb⟩
theorem errC_2 {L : List (List Int)} (h : ∀ l ∈ L, okSet l) (hb : (∃ l ∈ L, 7 < l.length) ∨ 600 < (allF L).length) : errC L = 2 := by
  unfold errC
  exact (if_neg (fun ⟨l, h1, h2⟩ => h2 (h l h1))).trans (if_pos hb)
theorem errC_0 {L : List (List Int)} (h : ∀ l ∈ L, okSet l) (h7 : ∀ l ∈ L, l.length ≤ 7) (hn : (allF L).length ≤ 600) : errC L = 0 := by
  unfold errC
  exact (if_neg (fun ⟨l, h1, h2⟩ => h2 (h l h1))).trans (if_neg (fun h => h.elim (fun ⟨l, h1, h2⟩ => by have := h7 l h1; omega) (fun h => by omega)))
theorem errC_ok {L : List (List Int)} (h : errC L = 0) : (∀ l ∈ L, okSet l) ∧ (∀ l ∈ L, l.length ≤ 7) ∧ (allF L).length ≤ 600 := by
  have h1 : ∀ l ∈ L, okSet l := fun l hl => Classical.byContradiction fun hb => by rw [errC_4 hl hb] at h; cases h
  refine ⟨h1, fun l hl => ?_, ?_⟩
  · apply Classical.byContradiction
    intro hb
    rw [errC_2 h1 (Or.inl ⟨l, hl, by omega⟩)] at h; cases h
  · apply Classical.byContradiction
    intro hb
    rw [errC_2 h1 (Or.inr (by omega))] at h; cases h
theorem errC_cases (L : List (List Int)) : errC L = 0 ∨ errC L = 2 ∨ errC L = 4 := by
  unfold errC
  by_cases h1 : ∃ l ∈ L, ¬ okSet l
  · exact Or.inr (Or.inr (if_pos h1))
  · by_cases h2 : (∃ l ∈ L, 7 < l.length) ∨ 600 < (allF L).length
    · exact Or.inr (Or.inl ((if_neg h1).trans (if_pos h2)))
    · exact Or.inl ((if_neg h1).trans (if_neg h2))

theorem isF_snoc {L : List (List Int)} {l g : List Int} : IsF (L ++ [l]) g ↔ IsF L g ∨ (g ≠ [] ∧ g.Sublist (sortI l)) := by
  unfold IsF
  constructor
  · rintro ⟨h1, x, h2, h3⟩
    rcases List.mem_append.1 h2 with h | h
    · exact Or.inl ⟨h1, x, h, h3⟩
    · rw [List.mem_singleton.1 h] at h3
      exact Or.inr ⟨h1, h3⟩
  · rintro (⟨h1, x, h2, h3⟩ | ⟨h1, h2⟩)
    · exact ⟨h1, x, List.mem_append_left _ h2, h3⟩
    · exact ⟨h1, l, by simp, h2⟩
theorem isF_mono {L M : List (List Int)} (h : ∀ l ∈ L, l ∈ M) {g : List Int} (hg : IsF L g) : IsF M g := ⟨hg.1, hg.2.imp fun _ ⟨h1, h2⟩ => ⟨h _ h1, h2⟩⟩
theorem isF_len {L : List (List Int)} {m : Nat} (h : ∀ l ∈ L, l.length ≤ m) {g : List Int} (hg : IsF L g) : g.length ≤ m := by
  obtain ⟨_, l, h1, h2⟩ := hg
  have := h2.length_le
  rw [sortI_len] at this
  exact Nat.le_trans this (h l h1)
/-- faces of the first i sets, and of the next one by the bits below k -/
def IsB (L : List (List Int)) (i : Nat) (s : List Int) (k : Nat) (g : List Int) : Prop := IsF (L.take i) g ∨ ∃ b, 1 ≤ b ∧ b < k ∧ g = bitsR s b
theorem isB_step {L : List (List Int)} {i : Nat} {s : List Int} {k : Nat} (hk : 1 ≤ k) {g : List Int} : IsB L i s (k + 1) g ↔ IsB L i s k g ∨ g = bitsR s k := by
  unfold IsB
  constructor
  · rintro (h | ⟨b, h1, h2, h3⟩)
    · exact Or.inl (Or.inl h)
    · rcases (show b < k ∨ b = k by omega) with h | rfl
      · exact Or.inl (Or.inr ⟨b, h1, h, h3⟩)
      · exact Or.inr h3
  · rintro ((h | ⟨b, h1, h2, h3⟩) | h)
    · exact Or.inl h
    · exact Or.inr ⟨b, h1, by omega, h3⟩
    · exact Or.inr ⟨k, hk, by omega, h⟩
theorem isB_end {L : List (List Int)} {i : Nat} (hi : i < L.length) {g : List Int} : IsB L i (sortI (L.getD i [])) (2 ^ (sortI (L.getD i [])).length) g ↔ IsF (L.take (i + 1)) g := by
  rw [take_snoc_getD [] L i hi, isF_snoc]
  unfold IsB
  constructor
  · rintro (h | ⟨b, h1, h2, rfl⟩)
    · exact Or.inl h
    · exact Or.inr ⟨bitsR_ne _ _ h1 h2, bitsR_sub _ _⟩
  · rintro (h | ⟨h1, h2⟩)
    · exact Or.inl h
    · obtain ⟨b, hb, rfl⟩ := bitsR_all h2
      refine Or.inr ⟨b, ?_, hb, rfl⟩
      rcases Nat.eq_zero_or_pos b with rfl | h
      · rw [bitsR_zero] at h1; exact absurd rfl h1
      · exact h
theorem isB_F {L : List (List Int)} {i : Nat} (hi : i < L.length) {k : Nat} (hk : k ≤ 2 ^ (sortI (L.getD i [])).length) {g : List Int} (h : IsB L i (sortI (L.getD i [])) k g) : IsF L g := by
  refine isF_mono (fun l hl => List.mem_of_mem_take hl) ((isB_end hi).1 (h.imp id fun ⟨b, h1, h2, h3⟩ => ⟨b, h1, by omega, h3⟩))
theorem okSet_of {l : List Int} (h1 : onceB l = true) (h0 : setL l ≠ []) (ha : 0 ≤ (setL l).getD 0 0) (hb : (setL l).getD ((setL l).length - 1) 0 ≤ 99) : okSet l := by
  have hp : 0 < (setL l).length := List.length_pos_iff.2 h0
  refine ⟨fun e => h0 (by rw [e]; rfl), of_decide_eq_true h1, fun x hx => ?_⟩
  obtain ⟨i, hi, e⟩ := List.getElem_of_mem (mem_setL.2 hx)
  have hr := rise_setL l
  rw [List.getD_eq_getElem?_getD, List.getElem?_eq_getElem (by omega)] at ha hb
  simp only [Option.getD_some] at ha hb
  constructor
  · rcases Nat.eq_zero_or_pos i with rfl | h
    · rw [← e]; exact ha
    · have := List.pairwise_iff_getElem.1 hr 0 i (by omega) hi h
      rw [e] at this; omega
  · rcases (show i = (setL l).length - 1 ∨ i < (setL l).length - 1 by omega) with h | h
    · subst h; rw [← e]; exact hb
    · have := List.pairwise_iff_getElem.1 hr i ((setL l).length - 1) (by omega) (by omega) h
      rw [e] at this; omega
theorem not_okSet {l : List Int} (h : setL l = [] ∨ onceB l = false ∨ (0 < (setL l).length ∧ (setL l).getD 0 0 < 0) ∨ (0 < (setL l).length ∧ 99 < (setL l).getD ((setL l).length - 1) 0)) : ¬ okSet l := by
  rintro ⟨h0, h1, h2⟩
  rcases h with h | h | ⟨hp, h⟩ | ⟨hp, h⟩
  · apply h0
    have : ∀ y, y ∉ l := fun y hy => by have := mem_setL.2 hy; rw [h] at this; cases this
    exact List.eq_nil_iff_forall_not_mem.2 this
  · exact absurd (decide_eq_true h1) (by unfold onceB at h; rw [h]; decide)
  · have := (h2 _ (mem_setL.1 (show (setL l).getD 0 0 ∈ setL l by rw [List.getD_eq_getElem?_getD, List.getElem?_eq_getElem hp]; exact List.getElem_mem _))).1
    omega
  · have := (h2 _ (mem_setL.1 (show (setL l).getD ((setL l).length - 1) 0 ∈ setL l by rw [List.getD_eq_getElem?_getD, List.getElem?_eq_getElem (by omega)]; exact List.getElem_mem _))).2
    omega

def ClosedPost (B : Nat) (L : List (List Int)) (w : World) (e : Ending) (w' : World) : Prop :=
  ∃ v, e = .returned (.tuple #[v, .int .i64 (errC L : Int)]) ∧ Below w.heap.size w w' ∧ (errC L = 0 → ListsIn B w' v (allF L)) ∧ (errC L ≠ 0 → v = .slice none 0 0)
theorem ret_vi {v : Value} {a b : Int} (h : a = b) : Ending.returned (.tuple #[v, .int .i64 a]) = .returned (.tuple #[v, .int .i64 b]) := by rw [h]
theorem closed_bad {B : Nat} {L : List (List Int)} {w w' : World} {k : Nat} {e : Ending} (hk : errC L = k) (h0 : k ≠ 0) (he : e = .returned (.tuple #[.slice none 0 0, .int .i64 (k : Int)])) (hb : Below w.heap.size w w') : ClosedPost B L w e w' :=
  ⟨_, by rw [hk]; exact he, hb, fun h => absurd (hk.symm.trans h) h0, fun _ => rfl⟩

def setsTo (L : List (List Int)) (j : Nat) : List (List Int) := (L.take j).map sortI
theorem setsTo_len {L : List (List Int)} {j : Nat} (h : j ≤ L.length) : (setsTo L j).length = j := by unfold setsTo; rw [List.length_map, List.length_take]; omega
theorem setsTo_snoc {L : List (List Int)} {j : Nat} (h : j < L.length) : setsTo L (j + 1) = setsTo L j ++ [sortI (L.getD j [])] := by
  unfold setsTo
  rw [take_snoc_getD [] L j h, List.map_append]; rfl
theorem setsTo_at {L : List (List Int)} {i : Nat} (h : i < L.length) : (setsTo L L.length).getD i [] = sortI (L.getD i []) := by
  unfold setsTo
  rw [List.take_length, List.getD_eq_getElem?_getD, List.getElem?_map, List.getElem?_eq_getElem h, List.getD_eq_getElem?_getD, List.getElem?_eq_getElem h]; rfl

/-- a sorted list of faces, in memory -/
def AllAt (B : Nat) (P : List Int → Prop) (w0 wr : World) (v : Value) : Prop :=
  ∃ A, SortedF A ∧ (∀ g, g ∈ A ↔ P g) ∧ A.length ≤ 600 ∧ Below w0.heap.size w0 wr ∧ ListsIn B wr v A ∧ (A = [] → v = .slice none 0 0)
theorem AllAt.below {B : Nat} {P : List Int → Prop} {w0 wr w' : World} {v : Value} (h : AllAt B P w0 wr v) (hb : Below wr.heap.size wr w') : AllAt B P w0 w' v := by
  obtain ⟨A, a1, a2, a3, a4, a5, a6⟩ := h
  exact ⟨A, a1, a2, a3, a4.trans (hb.mono a4.size), a5.below hb (Nat.le_refl _), a6⟩
theorem AllAt.iff {B : Nat} {P Q : List Int → Prop} {w0 wr : World} {v : Value} (h : AllAt B P w0 wr v) (hq : ∀ g, P g ↔ Q g) : AllAt B Q w0 wr v := by
  obtain ⟨A, a1, a2, a3⟩ := h
  exact ⟨A, a1, fun g => (a2 g).trans (hq g), a3⟩
theorem allF_of {A L : List (List Int)} (h : SortedF A) (hm : ∀ g, g ∈ A ↔ IsF L g) : A = allF L := h.ext (allF_sorted L) fun g => (hm g).trans mem_allF.symm
theorem pow_7 {n : Nat} (h : n ≤ 7) : 2 ^ n ≤ 128 := Nat.le_trans (Nat.pow_le_pow_right (by decide) h) (by decide)
theorem wrap_pow {n : Nat} (h : n ≤ 7) : IntKind.i64.wrap ((2 : Int) ^ n) = ((2 ^ n : Nat) : Int) := by
  have h1 := pow_7 h
  have e : (2 : Int) ^ n = ((2 ^ n : Nat) : Int) := by rw [Int.natCast_pow]; rfl
  rw [e]
  generalize 2 ^ n = p at h1 ⊢
  exact IntWalk.i64_in _ (by omega)
theorem div_pow (k q : Nat) : (k : Int) / 2 ^ q = ((k / 2 ^ q : Nat) : Int) := by
  rw [Int.natCast_ediv, Int.natCast_pow]; rfl

set_option maxRecDepth 100000 in
set_option maxHeartbeats 16000000 in
theorem closed_any (B : Nat) (L : List (List Int)) (v : Value) (w : World) (hB : B ≤ w.heap.size) (hv : ListsIn B w v L) (hn : L.length ≤ 100000) (hl : ∀ l ∈ L, l.length ≤ 100000) :
    Calls Tryz.prog 24 #[v] w (ClosedPost B L w) := by
  obtain ⟨i3, hi3, hz30, hz31, hz32⟩ := info_parts Tryz.info3
  obtain ⟨i39, hi39, hz0, hz1, hz2⟩ := info_parts Tryz.info23
  obtain ⟨pv, cv, hve, -⟩ := id hv
  obtain ⟨n, hLn⟩ : ∃ n, L.length = n := ⟨_, rfl⟩
  rw [hLn] at hve hn
  subst hve
  have HLN := Lib.hid hLn
  have HV := Lib.hid hv
  have HB := Lib.hid hB
  have HL := Lib.hid hl
  clear hLn hv hB hl
  go_enter Tryz.func24, Tryz.ntmps24
  go_wp2_with fail
  go_loopw [4, 5] (fun s i wr => ∃ j : Nat, j ≤ n ∧ i = .int .i64 j ∧ (∀ q, q < j → okSet (L.getD q [])) ∧ Below w.heap.size w wr ∧ RowsO w.heap.size B wr s (setsTo L j)) (fun _ i _ => n - (intOf i).toNat)
  case atStart => exact ⟨0, Nat.zero_le _, rfl, fun q h => absurd h (by omega), Below.refl _ _, RowsO.nil _ _ _⟩
  case round =>
    obtain ⟨j, hj, rfl, hok, hb, hR⟩ := hrel
    have HOK := Lib.hid hok
    have HBR := Lib.hid hb
    have HR := Lib.hid hR
    clear hok hb hR
    by_cases hjn : j < n
    · obtain ⟨b, off, c, x, hve, -, hc0, hix0⟩ := HV.out.at_ne j (by rw [HLN.out]; exact hjn)
      rw [HLN.out] at hve
      obtain ⟨rfl, rfl⟩ : pv = some ⟨b, off, none⟩ ∧ cv = c := by cases hve; exact ⟨rfl, rfl⟩
      have hcx := (HBR.out.cell (p := ⟨b, off + j, none⟩) (mem_lt hc0)).trans hc0
      have hix := hix0.below HBR.out (Nat.le_refl _)
      have hlj : (L.getD j []).length ≤ 100000 := HL.out _ (getL_mem (by rw [HLN.out]; exact hjn))
      have HS := Lib.hid (sorted_any (L.getD j []) x wr hix.at (by omega))
      clear hc0 hix0 hix hve
      go_wp2_with fail
      refine HS.out.mono ?_
      rintro e w1 ⟨vf, rfl, hb1, hof⟩
      have HB1 := Lib.hid (HBR.out.trans (hb1.mono HBR.out.size))
      have hif : IntsIn B w1 vf (setL (L.getD j [])) := ints_owned hof rfl
      have HF := Lib.hid hif
      have HR1 := Lib.hid (HR.out.below hb1 (Nat.le_refl _))
      have hcells : ∀ q, q < (setL (L.getD j [])).length → ∃ bf of, (∃ cf, vf = .slice (some ⟨bf, of, none⟩) (setL (L.getD j [])).length cf) ∧ w1.cell? ⟨bf, of + q, none⟩ = some (.int .i64 ((setL (L.getD j [])).getD q 0)) := fun q hq => by
        obtain ⟨p, cc, e0, -, -, hx⟩ := hif
        obtain ⟨bf, of, e1, e2, -⟩ := hx q hq
        subst e1
        exact ⟨bf, of, ⟨cc, e0⟩, e2⟩
      have HC := Lib.hid hcells
      have hfl : (setL (L.getD j [])).length ≤ 100000 := Nat.le_trans (setL_len _) hlj
      have HX := Lib.hid (show ∀ (a : setL (L.getD j []) = [] ∨ onceB (L.getD j []) = false ∨ (0 < (setL (L.getD j [])).length ∧ (setL (L.getD j [])).getD 0 0 < 0) ∨ (0 < (setL (L.getD j [])).length ∧ 99 < (setL (L.getD j [])).getD ((setL (L.getD j [])).length - 1) 0)), errC L = 4 from fun a => errC_4 (getL_mem (by rw [HLN.out]; exact hjn)) (not_okSet a))
      have HY := Lib.hid (show onceB (L.getD j []) = true → setL (L.getD j []) ≠ [] → 0 ≤ (setL (L.getD j [])).getD 0 0 → (setL (L.getD j [])).getD ((setL (L.getD j [])).length - 1) 0 ≤ 99 → okSet (L.getD j []) from fun a b c d => okSet_of a b c d)
      have HZ := Lib.hid (setsTo_snoc (L := L) (j := j) (by rw [HLN.out]; exact hjn))
      have HW := Lib.hid (fun h => setL_nodup (l := L.getD j []) h)
      obtain ⟨f, hff⟩ : ∃ f, setL (L.getD j []) = f := ⟨_, rfl⟩
      obtain ⟨oo, hoo⟩ : ∃ oo, onceB (L.getD j []) = oo := ⟨_, rfl⟩
      rw [hoo] at HX HY ⊢
      rw [hff] at HF HC HX HY HW hfl
      have HOO := Lib.hid hoo
      obtain ⟨pf, cf, hvf⟩ := HF.out.len
      obtain ⟨nf, hnf⟩ : ∃ nf, f.length = nf := ⟨_, rfl⟩
      rw [hnf] at hvf hfl HC HX HY
      subst hvf
      have HNF := Lib.hid hnf
      clear hb1 hof hif hcells hff hoo hnf hcx HS hlj
      by_cases h0 : nf = 0
      · subst h0
        have h4 := HX.out (Or.inl (List.length_eq_zero_iff.1 HNF.out))
        have H4 := Lib.hid h4
        clear h4
        go_wp2_with fail
        go_ret2
        exact closed_bad H4.out (by decide) rfl HB1.out
      have hp : 0 < nf := by omega
      have hne : f ≠ [] := List.length_pos_iff.1 (by rw [HNF.out]; exact hp)
      have q0 : ((nf : Int) == 0) = false := beq_eq_false_iff_ne.2 (by omega)
      have q0' : (nf == 0) = false := beq_eq_false_iff_ne.2 h0
      have HNE := Lib.hid hne
      clear hne h0
      cases oo with
      | false =>
        have H4 := Lib.hid (HX.out (Or.inr (Or.inl rfl)))
        go_wp2_with fail
        go_ret2
        exact closed_bad H4.out (by decide) rfl HB1.out
      | true =>
        obtain ⟨bf, of, ⟨cf', e⟩, hc1⟩ := HC.out 0 hp
        obtain ⟨bf', of', ⟨cf'', e'⟩, hc2⟩ := HC.out (nf - 1) (by omega)
        cases e
        cases e'
        rw [Nat.add_zero] at hc1
        have hsub : (nf : Int) - 1 = ((nf - 1 : Nat) : Int) := by omega
        by_cases ha : f.getD 0 0 < 0
        · have H4 := Lib.hid (HX.out (Or.inr (Or.inr (Or.inl ⟨hp, ha⟩))))
          have q1 : decide (f.getD 0 0 < 0) = true := decide_eq_true ha
          generalize f.getD 0 0 = z at hc1 q1
          clear ha hc2 hsub
          go_wp2_with fail
          go_ret2
          exact closed_bad H4.out (by decide) rfl HB1.out
        by_cases hz : 99 < f.getD (nf - 1) 0
        · have H4 := Lib.hid (HX.out (Or.inr (Or.inr (Or.inr ⟨hp, hz⟩))))
          have q1 : decide (f.getD 0 0 < 0) = false := decide_eq_false ha
          have q2 : decide (99 < f.getD (nf - 1) 0) = true := decide_eq_true hz
          generalize f.getD 0 0 = z at hc1 q1
          generalize f.getD (nf - 1) 0 = z2 at hc2 q2
          clear ha hz
          go_wp2_with fail
          go_ret2
          exact closed_bad H4.out (by decide) rfl HB1.out
        have HOKJ := Lib.hid (HY.out rfl HNE.out (by omega) (by omega))
        have HSF : Hid (f = sortI (L.getD j [])) := (HW.out HOKJ.out.2.1)
        have q1 : decide (f.getD 0 0 < 0) = false := decide_eq_false ha
        have q2 : decide (99 < f.getD (nf - 1) 0) = false := decide_eq_false hz
        generalize f.getD 0 0 = z at hc1 q1
        generalize f.getD (nf - 1) 0 = z2 at hc2 q2
        clear ha hz HX HY HW
        obtain ⟨hs1, ho1, hl1, hi1⟩ := HR1.out
        rw [setsTo_len (by rw [HLN.out]; exact hj)] at ho1
        have HO1 := Lib.hid ho1
        have HL1 := Lib.hid hl1
        have HI1 := Lib.hid hi1
        have hs1b := HB1.out.size
        clear ho1 hl1 hi1
        go_wp2_with (at_builtin; go_must (refine wpList_append_own _ rfl _ _ 22 rfl w.heap.size 23 i39 (.slice none 0 0) 1 24 Tryz.underlying22 hi39 hz0 hz1 hz2 rfl (by decide) _ j _ rfl (HO1.out.alloc _) ⟨w1.heap.size, 0, none⟩ 1 1 [.slice (some ⟨bf, of, none⟩) nf cf] rfl rfl (cells_new _ _ _) (fun u hu => by simp at hu; subst hu; rfl) (by unfold maxLen; omega) (by omega) (by simp; omega) ?_); intro v2 w2 hown2 hgr2 _; have HO2 := Lib.hid hown2; have HG2 := Lib.hid hgr2; clear hown2 hgr2)
        go_roundw
        case rel =>
          have hbA : Below w1.heap.size w1 (w1.alloc (.cells #[.slice (some ⟨bf, of, none⟩) nf cf] 23)) := (Below.refl _ _).alloc (Nat.le_refl _) _
          have hlen : (setsTo L j).length = j := setsTo_len (by rw [HLN.out]; exact hj)
          refine ⟨j + 1, by omega, by go_num, fun q hq => ?_, (HB1.out.alloc hs1b _).grown HG2.out (by simp; omega) (fun i hi => (HO1.out.lt i hi).1), ?_⟩
          · rcases (show q < j ∨ q = j by omega) with h | rfl
            · exact HOK.out q h
            · exact HOKJ.out
          · rw [HZ.out, ← HSF.out]
            exact rowsO_push (w := w1.alloc (.cells #[.slice (some ⟨bf, of, none⟩) nf cf] 23)) (hs := hs1) HB.out (by rw [hlen]; exact HO1.out.alloc _) (HL1.out) (fun i hi => (HI1.out i hi).below hbA (Nat.le_refl _)) (HF.out.below hbA (Nat.le_refl _)) (by rw [hlen]; exact HO2.out) HG2.out
        case measure => simp [intOf]; omega
    · obtain rfl : j = n := by omega
      have hokL : ∀ l ∈ L, okSet l := fun l hl => by
        obtain ⟨q, hq, rfl⟩ := List.getElem_of_mem hl
        have := HOK.out q (by rw [← HLN.out]; exact hq)
        rwa [List.getD_eq_getElem?_getD, List.getElem?_eq_getElem hq] at this
      have HOL := Lib.hid hokL
      have hLS := HR.out.lists
      obtain ⟨ps, cs, hse, -⟩ := id hLS
      rw [setsTo_len (by rw [HLN.out]; exact Nat.le_refl _)] at hse
      subst hse
      have HLS := Lib.hid hLS
      clear hokL hLS HOK HR
      obtain ⟨ws, rfl⟩ : ∃ ws : World, ws = wr := ⟨_, rfl⟩
      go_wp2_with fail
      go_loopw [8, 9] (fun al i wr => ∃ i' : Nat, i' ≤ j ∧ i = .int .i64 i' ∧ (∀ q, q < i' → (L.getD q []).length ≤ 7) ∧ AllAt B (IsF (L.take i')) ws wr al) (fun _ i _ => j - (intOf i).toNat)
      case atStart => exact ⟨0, Nat.zero_le _, rfl, fun q h => absurd h (by omega), [], List.Pairwise.nil, fun g => by simp [IsF], by simp, Below.refl _ _, ListsIn.nil _ _, fun _ => rfl⟩
      case round =>
        obtain ⟨i, hi, rfl, h7, hA⟩ := hrel
        have H7 := Lib.hid h7
        have HA := Lib.hid hA
        clear h7 hA
        by_cases hij : i < j
        · have hiL : i < L.length := by rw [HLN.out]; exact hij
          obtain ⟨b, off, c, x, hse, -, hc0, hix0⟩ := HLS.out.at_ne i (by rw [setsTo_len (by rw [HLN.out]; exact Nat.le_refl _)]; exact hij)
          rw [setsTo_len (by rw [HLN.out]; exact Nat.le_refl _)] at hse
          obtain ⟨rfl, rfl⟩ : ps = some ⟨b, off, none⟩ ∧ cs = c := by cases hse; exact ⟨rfl, rfl⟩
          have e0 : (setsTo L j).getD i [] = sortI (L.getD i []) := by rw [← HLN.out]; exact setsTo_at hiL
          rw [e0] at hix0
          have hmem := getL_mem hiL
          have H8 := Lib.hid (fun h : 7 < (L.getD i []).length => errC_2 HOL.out (Or.inl ⟨_, hmem, h⟩))
          have H6 := Lib.hid (fun (A : List (List Int)) k (hk : k ≤ 2 ^ (sortI (L.getD i [])).length) (hs : SortedF A) (hm : ∀ g, g ∈ A ↔ IsB L i (sortI (L.getD i [])) k g) (h : 600 < A.length) => errC_2 HOL.out (Or.inr (Nat.lt_of_lt_of_le h (len_le_of_members hs.nodup (allF_sorted L).nodup fun g hg => mem_allF.2 (isB_F hiL hk ((hm g).1 hg))))))
          have HEND := Lib.hid (fun g => (isB_end (L := L) hiL (g := g)))
          have HST := Lib.hid (show ∀ g, IsF (L.take i) g ↔ IsB L i (sortI (L.getD i [])) 1 g from fun g => ⟨Or.inl, fun h => h.elim id fun ⟨b, h1, h2, _⟩ => by omega⟩)
          have HLEN := Lib.hid (show ∀ k g, IsB L i (sortI (L.getD i [])) k g → g.length ≤ 100000 from fun k g h => h.elim (fun h => isF_len (fun l hl => HL.out l (List.mem_of_mem_take hl)) h) (fun ⟨b, _, _, e⟩ => by
            rw [e]
            have h1 := (bitsR_sub (sortI (L.getD i [])) b).length_le
            rw [sortI_len] at h1
            exact Nat.le_trans h1 (HL.out _ hmem)))
          have hsl := sortI_len (L.getD i [])
          obtain ⟨ln, hln⟩ : ∃ ln, (L.getD i []).length = ln := ⟨_, rfl⟩
          rw [hln] at hsl H8
          have HLI := Lib.hid hln
          obtain ⟨sI, hsI⟩ : ∃ sI, sortI (L.getD i []) = sI := ⟨_, rfl⟩
          rw [hsI] at hix0 H6 HEND HST HLEN hsl
          obtain ⟨px, cx, hx⟩ := hix0.len
          rw [hsl] at hx H6 HEND
          subst hx
          have HSL := Lib.hid hsl
          have HC0 := Lib.hid hc0
          have HX0 := Lib.hid hix0
          have hAb : Below ws.heap.size ws wr := by obtain ⟨A, -, -, -, h, -⟩ := HA.out; exact h
          have HBW := Lib.hid hAb
          have hcx := (hAb.cell (p := ⟨b, off + i, none⟩) (mem_lt hc0)).trans hc0
          clear hmem hln hsI hse e0 hc0 hix0 hAb hsl
          by_cases h8 : 7 < ln
          · have H2 := Lib.hid (H8.out h8)
            have q1 : decide (7 < (ln : Int)) = true := decide_eq_true (by omega)
            have q2 : decide (7 < ln) = true := decide_eq_true h8
            have HBF := Lib.hid (HBR.out.trans (HBW.out.mono HBR.out.size))
            clear h8
            go_wp2_with fail
            go_ret2
            exact closed_bad H2.out (by decide) rfl HBF.out
          have h8' : ln ≤ 7 := by omega
          have q1 : decide (7 < (ln : Int)) = false := decide_eq_false (by omega)
          have q2 : decide (7 < ln) = false := decide_eq_false h8
          clear h8
          have hwp := wrap_pow h8'
          have hp7 := pow_7 h8'
          have HP2 := Lib.hid (show (2 : Nat) ^ ln = 2 ^ ln from rfl)
          obtain ⟨p2, hp2⟩ : ∃ p2, 2 ^ ln = p2 := ⟨_, rfl⟩
          rw [hp2] at hwp hp7 H6 HEND
          have hp1 : 1 ≤ p2 := by rw [← hp2]; exact Nat.two_pow_pos _
          clear hp2 HP2
          go_wp2_with fail
          obtain ⟨wu, rfl⟩ : ∃ wu : World, wu = wr := ⟨_, rfl⟩
          go_loopw [8, 10] (fun al bt wr => ∃ k : Nat, 1 ≤ k ∧ k ≤ p2 ∧ bt = .int .i64 k ∧ AllAt B (IsB L i sI k) ws wr al ∧ Below wu.heap.size wu wr) (fun _ bt _ => p2 - (intOf bt).toNat)
          case atStart => exact ⟨1, Nat.le_refl _, hp1, rfl, HA.out.iff HST.out, Below.refl _ _⟩
          case round =>
            obtain ⟨k, hk1, hk2, rfl, hA, hbu⟩ := hrel
            have HA := Lib.hid hA
            have hcx := (hbu.cell (p := ⟨b, off + i, none⟩) (mem_lt hcx)).trans hcx
            have HBU := Lib.hid hbu
            clear hA hbu
            by_cases hkp : k < p2
            · have hkd : decide ((k : Int) < (p2 : Int)) = true := decide_eq_true (by omega)
              have HX := Lib.hid (HX0.out.below (HBW.out.trans (HBU.out.mono HBW.out.size)) (Nat.le_refl _))
              have HSTEP := Lib.hid (fun g => (isB_step (L := L) (i := i) (s := sI) hk1 (g := g)))
              go_wp2_with fail
              obtain ⟨wo, rfl⟩ : ∃ wo : World, wo = wr := ⟨_, rfl⟩
              go_loopw [11, 12] (fun fv q wr => ∃ q' : Nat, q' ≤ ln ∧ q = .int .i64 q' ∧ Below wo.heap.size wo wr ∧ wr.ownsRow wo.heap.size 3 1 fv (bitsTo sI k q').length (intVs (bitsTo sI k q'))) (fun _ q _ => ln - (intOf q).toNat)
              case atStart => exact ⟨0, Nat.zero_le _, rfl, Below.refl _ _, by
                have : bitsTo sI k 0 = [] := by unfold bitsTo; rfl
                rw [this]; exact World.ownsRow_nil _ _ _ _⟩
              case round =>
                obtain ⟨q, hq, rfl, hbo, hown⟩ := hrel
                have HBO := Lib.hid hbo
                have HOWN := Lib.hid hown
                have hcx := (hbo.cell (p := ⟨b, off + i, none⟩) (mem_lt hcx)).trans hcx
                have hbos := hbo.size
                clear hbo hown
                by_cases hql : q < ln
                · obtain ⟨pp, cc, hpe, -, -, hxx⟩ := HX.out
                  obtain ⟨bx, ox, rfl, hcq0, -⟩ := hxx q (by rw [HSL.out]; exact hql)
                  rw [HSL.out] at hpe
                  obtain ⟨rfl, rfl⟩ : px = some ⟨bx, ox, none⟩ ∧ cx = cc := by cases hpe; exact ⟨rfl, rfl⟩
                  have hcq := (HBO.out.cell (p := ⟨bx, ox + q, none⟩) (mem_lt hcq0)).trans hcq0
                  have HQ := Lib.hid (bitsTo_step sI k q (by rw [HSL.out]; exact hql))
                  have hdv := div_pow k q
                  have hbl : (bitsTo sI k q).length ≤ 7 := Nat.le_trans (bitsTo_len sI k q) (by omega)
                  obtain ⟨y, hy⟩ : ∃ y, k / 2 ^ q = y := ⟨_, rfl⟩
                  rw [hy] at hdv HQ
                  obtain ⟨z, hz⟩ : ∃ z, sI.getD q 0 = z := ⟨_, rfl⟩
                  rw [hz] at hcq HQ
                  obtain ⟨F, hF⟩ : ∃ F, bitsTo sI k q = F := ⟨_, rfl⟩
                  rw [hF] at HQ HOWN hbl
                  clear hy hz hpe hxx hcq0 hF
                  rcases (show y % 2 = 1 ∨ y % 2 = 0 by omega) with h1 | h1
                  · have q3 : (((y : Nat) : Int) % 2 == 1) = true := beq_iff_eq.2 (by omega)
                    have q4 : (y % 2 == 1) = true := beq_iff_eq.2 h1
                    rw [if_pos h1] at HQ
                    clear h1
                    go_wp2_with (at_builtin; go_must (refine wpList_append_own _ rfl _ _ 23 rfl wo.heap.size 3 i3 (.int .i64 0) 1 8 Tryz.underlying23 hi3 hz30 hz31 hz32 rfl (by decide) _ F.length _ rfl (HOWN.out.alloc _) ⟨wr.heap.size, 0, none⟩ 1 1 [.int .i64 z] rfl rfl (cells_new _ _ _) (fun u hu => by simp at hu; subst hu; rfl) (by unfold maxLen; omega) (by omega) (by simp; omega) ?_); intro v2 w2 hown2 hgr2 _; have HO2 := Lib.hid hown2; have HG2 := Lib.hid hgr2; clear hown2 hgr2)
                    go_roundw
                    case rel => exact ⟨q + 1, by omega, by go_num, (HBO.out.alloc hbos _).grown HG2.out (by simp; omega) (fun i hi => (HOWN.out.lt i hi).1), by rw [HQ.out, List.length_append]; simpa [intVs] using HO2.out⟩
                    case measure => simp [intOf]; omega
                  · have q3 : (((y : Nat) : Int) % 2 == 1) = false := beq_eq_false_iff_ne.2 (by omega)
                    have q4 : (y % 2 == 1) = false := beq_eq_false_iff_ne.2 (by omega)
                    rw [if_neg (by omega), List.append_nil] at HQ
                    clear h1
                    go_wp2_with fail
                    go_roundw
                    case rel => exact ⟨q + 1, by omega, by go_num, HBO.out, by rw [HQ.out]; exact HOWN.out⟩
                    case measure => simp [intOf]; omega
                · obtain rfl : q = ln := by omega
                  have hfull : bitsTo sI k q = bitsR sI k := by rw [← HSL.out]; exact bitsTo_all sI k
                  rw [hfull] at HOWN
                  have hbl : (bitsR sI k).length ≤ 7 := by have := (bitsR_sub sI k).length_le; rw [HSL.out] at this; omega
                  have hif : IntsIn B wr u11 (bitsR sI k) := ints_owned HOWN.out rfl
                  obtain ⟨A, a1, a2, a3, a4, a5, a6⟩ := HA.out.below HBO.out
                  have hlA : ∀ g ∈ A, g.length ≤ 1000000 := fun g hg => Nat.le_trans (HLEN.out k g ((a2 g).1 hg)) (by decide)
                  have hsz : B ≤ wr.heap.size := Nat.le_trans HB.out (Nat.le_trans HBR.out.size (Nat.le_trans HBW.out.size (Nat.le_trans HBU.out.size hbos)))
                  have HPUT := Lib.hid (put_any B A (bitsR sI k) u8 u11 wr hsz a1 a5 a6 hif (by omega) hlA (by omega))
                  have HA1 := Lib.hid (sorted_putF a1 (bitsR sI k))
                  have HA2 := Lib.hid (show ∀ g, g ∈ putF A (bitsR sI k) ↔ IsB L i sI (k + 1) g from fun g => by rw [mem_putF, a2, HSTEP.out])
                  have HA4 := Lib.hid a4
                  have HNE := Lib.hid (show putF A (bitsR sI k) ≠ [] from fun e => by
                    have : bitsR sI k ∈ putF A (bitsR sI k) := mem_putF.2 (Or.inr rfl)
                    rw [e] at this; cases this)
                  obtain ⟨PA, hPA⟩ : ∃ PA, putF A (bitsR sI k) = PA := ⟨_, rfl⟩
                  unfold PutPost at HPUT
                  rw [hPA] at HPUT HA1 HA2 HNE
                  obtain ⟨pf, cf, hvf⟩ := hif.len
                  obtain ⟨nf, hnf⟩ : ∃ nf, (bitsR sI k).length = nf := ⟨_, rfl⟩
                  rw [hnf] at hvf hbl
                  subst hvf
                  clear hfull hif a1 a2 a3 a4 a5 a6 hlA hsz hPA HOWN hnf
                  go_wp2_with fail
                  refine HPUT.out.mono ?_
                  rintro e w4 ⟨v4, rfl, hb4, hl4⟩
                  have HB4 := Lib.hid (HA4.out.trans (hb4.mono HA4.out.size))
                  have HL4 := Lib.hid hl4
                  obtain ⟨p4, c4, hv4, -⟩ := hl4
                  obtain ⟨n4, hn4⟩ : ∃ n4, PA.length = n4 := ⟨_, rfl⟩
                  rw [hn4] at hv4
                  subst hv4
                  have HN4 := Lib.hid hn4
                  have HBX := Lib.hid (HBU.out.trans ((HBO.out.trans (hb4.mono HBO.out.size)).mono HBU.out.size))
                  clear hb4 hn4 HPUT
                  by_cases h6 : 600 < n4
                  · have H2 := Lib.hid (H6.out PA (k + 1) (by omega) HA1.out HA2.out (by rw [HN4.out]; exact h6))
                    have q3 : decide (600 < (n4 : Int)) = true := decide_eq_true (by omega)
                    have q4 : decide (600 < n4) = true := decide_eq_true h6
                    have HBF := Lib.hid (HBR.out.trans (HB4.out.mono HBR.out.size))
                    clear h6
                    go_wp2_with fail
                    go_ret2
                    exact closed_bad H2.out (by decide) rfl HBF.out
                  · have q3 : decide (600 < (n4 : Int)) = false := decide_eq_false (by omega)
                    have q4 : decide (600 < n4) = false := decide_eq_false h6
                    have HA6 : Hid (PA.length ≤ 600) := by unfold Hid; rw [HN4.out]; omega
                    clear h6
                    go_wp2_with fail
                    go_roundw
                    case rel =>
                      refine ⟨k + 1, by omega, by omega, by go_num, ⟨PA, HA1.out, HA2.out, HA6.out, HB4.out, HL4.out, fun h => absurd h HNE.out⟩, HBX.out⟩
                    case measure => simp [intOf]; omega
            · obtain rfl : k = p2 := by omega
              have hkd : decide ((k : Int) < (k : Int)) = false := decide_eq_false (by omega)
              have HAN := Lib.hid (HA.out.iff HEND.out)
              have H7N : Hid (∀ q, q < i + 1 → (L.getD q []).length ≤ 7) := fun q hq => by
                rcases (show q < i ∨ q = i by omega) with h | rfl
                · exact H7.out q h
                · rw [HLI.out]; exact h8'
              go_wp2_with fail
              go_roundw
              case rel => exact ⟨i + 1, by omega, by go_num, H7N.out, HAN.out⟩
              case measure => simp [intOf]; omega
        · obtain rfl : i = j := by omega
          obtain ⟨A, a1, a2, a3, a4, a5, -⟩ := HA.out
          have hA : A = allF L := allF_of a1 fun g => by rw [a2, List.take_of_length_le (by rw [HLN.out]; exact Nat.le_refl _)]
          subst hA
          have h7 : ∀ l ∈ L, l.length ≤ 7 := fun l hl => by
            obtain ⟨q, hq, rfl⟩ := List.getElem_of_mem hl
            have := H7.out q (by rw [← HLN.out]; exact hq)
            rwa [List.getD_eq_getElem?_getD, List.getElem?_eq_getElem hq] at this
          have HE := Lib.hid (errC_0 HOL.out h7 a3)
          have HA5 := Lib.hid a5
          have HBF := Lib.hid (HBR.out.trans (a4.mono HBR.out.size))
          clear a1 a2 a3 a4 a5 h7
          go_wp2_with fail
          go_ret2
          exact ⟨_, ret_vi (by rw [HE.out]; rfl), HBF.out, fun _ => HA5.out, fun h => absurd HE.out h⟩

/-- does a face lie in a greater one? -/
def inB (A : List (List Int)) (f : List Int) : Bool := A.any fun g => decide (f.length < g.length) && partB f g
theorem isTop_in (A : List (List Int)) (f : List Int) : isTop A f = !inB A f := rfl
theorem inB_snoc (A : List (List Int)) (g f : List Int) : inB (A ++ [g]) f = (inB A f || (decide (f.length < g.length) && partB f g)) := by unfold inB; rw [List.any_append]; simp
def facTo (A : List (List Int)) (j : Nat) : List (List Int) := (A.take j).filter (isTop A)
theorem facTo_step (A : List (List Int)) (j : Nat) (h : j < A.length) : facTo A (j + 1) = facTo A j ++ (if isTop A (A.getD j []) = true then [A.getD j []] else []) := by
  unfold facTo
  rw [take_snoc_getD [] A j h, List.filter_append]
  by_cases h : isTop A (A.getD j []) = true
  · rw [if_pos h, List.filter_cons_of_pos h]; rfl
  · rw [if_neg h, List.filter_cons_of_neg h]; rfl
theorem facTo_all (A : List (List Int)) : facTo A A.length = facetsF A := by unfold facTo; rw [List.take_length]; rfl
theorem facTo_len (A : List (List Int)) (j : Nat) : (facTo A j).length ≤ j := by
  unfold facTo
  have h1 := List.length_filter_le (isTop A) (A.take j)
  have h2 : (A.take j).length ≤ j := List.length_take_le _ _
  omega
theorem cells_at {B : Nat} {w : World} {b off n c : Nat} {L : List (List Int)} (h : ListsIn B w (.slice (some ⟨b, off, none⟩) n c) L) (i : Nat) (hi : i < L.length) :
    ∃ p cc, w.cell? ⟨b, off + i, none⟩ = some (.slice p (L.getD i []).length cc) ∧ IntsIn B w (.slice p (L.getD i []).length cc) (L.getD i []) := by
  obtain ⟨b', off', c', u, e, -, h1, h2⟩ := h.at_ne i hi
  cases e
  obtain ⟨p, cc, rfl⟩ := h2.len
  exact ⟨p, cc, h1, h2⟩
theorem ListsIn.form {B : Nat} {w : World} {v : Value} {L : List (List Int)} (h : ListsIn B w v L) (hp : 0 < L.length) : ∃ b off c, v = .slice (some ⟨b, off, none⟩) L.length c := by
  obtain ⟨b, off, c, u, e, -⟩ := h.at_ne 0 hp
  exact ⟨b, off, c, e⟩

def ListPost (B : Nat) (L : List (List Int)) (w : World) (e : Ending) (w' : World) : Prop := ∃ v, e = .returned v ∧ Below w.heap.size w w' ∧ RowsO w.heap.size B w' v L

set_option maxRecDepth 100000 in
set_option maxHeartbeats 8000000 in
theorem facets_any (B : Nat) (A : List (List Int)) (v : Value) (w : World) (hB : B ≤ w.heap.size) (hv : ListsIn B w v A) (hn : A.length ≤ 100000) (hl : ∀ l ∈ A, l.length ≤ 100000) :
    Calls Tryz.prog 97 #[v] w (ListPost B (facetsF A) w) := by
  obtain ⟨i39, hi39, hz0, hz1, hz2⟩ := info_parts Tryz.info23
  obtain ⟨pv, cv, hve, -⟩ := id hv
  obtain ⟨n, hLn⟩ : ∃ n, A.length = n := ⟨_, rfl⟩
  rw [hLn] at hve hn
  subst hve
  have HLN := Lib.hid hLn
  have HV := Lib.hid hv
  have HB := Lib.hid hB
  have HL := Lib.hid hl
  clear hLn hv hB hl
  go_enter Tryz.func97, Tryz.ntmps97
  go_wp2_with fail
  go_loopw [3, 4] (fun s i wr => ∃ j : Nat, j ≤ n ∧ i = .int .i64 j ∧ Below w.heap.size w wr ∧ RowsO w.heap.size B wr s (facTo A j)) (fun _ i _ => n - (intOf i).toNat)
  case atStart => exact ⟨0, Nat.zero_le _, rfl, Below.refl _ _, RowsO.nil _ _ _⟩
  case round =>
    obtain ⟨j, hj, rfl, hb, hR⟩ := hrel
    have HBR := Lib.hid hb
    have HR := Lib.hid hR
    clear hb hR
    by_cases hjn : j < n
    · obtain ⟨b, off, c, hve⟩ := HV.out.form (by rw [HLN.out]; omega)
      rw [HLN.out] at hve
      obtain ⟨rfl, rfl⟩ : pv = some ⟨b, off, none⟩ ∧ cv = c := by cases hve; exact ⟨rfl, rfl⟩
      have HVR := Lib.hid (HV.out.below HBR.out (Nat.le_refl _))
      have hjL : j < A.length := by rw [HLN.out]; exact hjn
      obtain ⟨pj, cj, hcj, hij⟩ := cells_at HVR.out j hjL
      have HIJ := Lib.hid hij
      have HCJ := Lib.hid hcj
      have HLJ := Lib.hid (HL.out _ (getL_mem hjL))
      have HST := Lib.hid (facTo_step A j hjL)
      have HTOP : Hid (isTop A (A.getD j []) = !inB A (A.getD j [])) := rfl
      obtain ⟨f, hf⟩ : ∃ f, A.getD j [] = f := ⟨_, rfl⟩
      rw [hf] at HIJ HLJ HST HTOP HCJ
      obtain ⟨nf, hnf⟩ : ∃ nf, f.length = nf := ⟨_, rfl⟩
      rw [hnf] at HIJ HLJ HCJ
      have HNF := Lib.hid hnf
      clear hve hij hcj hf hnf hjL
      go_wp2_with fail
      obtain ⟨wo, rfl⟩ : ∃ wo : World, wo = wr := ⟨_, rfl⟩
      go_loopw [5, 6] (fun s k wr => ∃ k' : Nat, k' ≤ n ∧ k = .int .i64 k' ∧ s = .bool (inB (A.take k') f) ∧ Below wo.heap.size wo wr) (fun _ k _ => n - (intOf k).toNat)
      case atStart => exact ⟨0, Nat.zero_le _, rfl, rfl, Below.refl _ _⟩
      case round =>
        obtain ⟨k, hk, rfl, rfl, hbo⟩ := hrel
        have HBO := Lib.hid hbo
        clear hbo
        cases hin : inB (A.take k) f with
        | true =>
          have HNX : Hid (facTo A (j + 1) = facTo A j) := by
            unfold Hid
            have : inB A f = true := by
              obtain ⟨g, h1, h2⟩ := List.any_eq_true.1 hin
              exact List.any_eq_true.2 ⟨g, List.mem_of_mem_take h1, h2⟩
            rw [HST.out, HTOP.out, this]; simp
          have HBF := Lib.hid (HBR.out.trans (HBO.out.mono HBR.out.size))
          have HRF := Lib.hid (HR.out.below HBO.out (Nat.le_refl _))
          clear hin
          by_cases hkn : k < n
          · have g1 : decide (k < n) = true := decide_eq_true hkn
            go_wp2_with fail
            go_roundw
            case rel => exact ⟨j + 1, by omega, by go_num, HBF.out, by rw [HNX.out]; exact HRF.out⟩
            case measure => simp [intOf]; omega
          · have g1 : decide (k < n) = false := decide_eq_false hkn
            go_wp2_with fail
            go_roundw
            case rel => exact ⟨j + 1, by omega, by go_num, HBF.out, by rw [HNX.out]; exact HRF.out⟩
            case measure => simp [intOf]; omega
        | false =>
          by_cases hkn : k < n
          · have hkL : k < A.length := by rw [HLN.out]; exact hkn
            have g1 : decide (k < n) = true := decide_eq_true hkn
            obtain ⟨pk, ck, hck, hik⟩ := cells_at (HVR.out.below HBO.out (Nat.le_refl _)) k hkL
            have hlk := HL.out _ (getL_mem hkL)
            have hst : inB (A.take (k + 1)) f = (decide (f.length < (A.getD k []).length) && partB f (A.getD k [])) := by rw [take_snoc_getD [] A k hkL, inB_snoc, hin]; rfl
            have hcj := (HBO.out.cell (p := ⟨b, off + j, none⟩) (mem_lt HCJ.out)).trans HCJ.out
            obtain ⟨g, hg⟩ : ∃ g, A.getD k [] = g := ⟨_, rfl⟩
            rw [hg] at hck hik hlk hst
            have HPT := Lib.hid (fun d : Nat => partOf_any f g _ _ (wr.drewN d) ((HIJ.out.below HBO.out (Nat.le_refl _)).below (Below.drewN wr d) (Nat.le_refl _)).at (hik.below (Below.drewN wr d) (Nat.le_refl _)).at (by rw [HNF.out]; exact Nat.le_trans HLJ.out (by decide)) (by omega))
            unfold Same at HPT
            obtain ⟨ng, hng⟩ : ∃ ng, g.length = ng := ⟨_, rfl⟩
            rw [HNF.out, hng] at hst
            rw [hng] at hck HPT
            have HST2 := Lib.hid hst
            clear hin hkL hik hlk hst hg hng
            by_cases hlt : nf < ng
            · have g2 : decide (nf < ng) = true := decide_eq_true hlt
              rw [g2, Bool.true_and] at HST2
              go_wp2_with fail
              go_quiet ((go_at_call 134; exact Calls.quiet_of_same (HPT.out _)))
              have hbq : Below wr.heap.size wr (wr.drewN nq) := Below.drewN _ _
              generalize wr.drewN nq = wq at hbq ⊢
              have HBQ := Lib.hid (HBO.out.trans (hbq.mono HBO.out.size))
              clear hbq HPT hcj hck
              go_wp2_with fail
              go_roundw
              case rel => exact ⟨k + 1, by omega, by go_num, by rw [HST2.out], HBQ.out⟩
              case measure => simp [intOf]; omega
            · have g2 : decide (nf < ng) = false := decide_eq_false hlt
              rw [g2, Bool.false_and] at HST2
              go_wp2_with fail
              go_quiet ((go_at_call 134; exact Calls.quiet_of_same (HPT.out _)))
              have hbq : Below wr.heap.size wr (wr.drewN nq) := Below.drewN _ _
              generalize wr.drewN nq = wq at hbq ⊢
              have HBQ := Lib.hid (HBO.out.trans (hbq.mono HBO.out.size))
              clear hbq HPT hcj hck
              go_wp2_with fail
              go_roundw
              case rel => exact ⟨k + 1, by omega, by go_num, by rw [HST2.out], HBQ.out⟩
              case measure => simp [intOf]; omega
          · obtain rfl : k = n := by omega
            have g1 : decide (k < k) = false := decide_eq_false (by omega)
            have HNX : Hid (facTo A (j + 1) = facTo A j ++ [f]) := by
              unfold Hid
              have : inB A f = false := by rwa [List.take_of_length_le (by rw [HLN.out]; exact Nat.le_refl _)] at hin
              rw [HST.out, HTOP.out, this]; simp
            have HBF := Lib.hid (HBR.out.trans (HBO.out.mono HBR.out.size))
            have HRF := Lib.hid (HR.out.below HBO.out (Nat.le_refl _))
            have HIF := Lib.hid (HIJ.out.below HBO.out (Nat.le_refl _))
            have hcj := (HBO.out.cell (p := ⟨b, off + j, none⟩) (mem_lt HCJ.out)).trans HCJ.out
            have hsz := HBF.out.size
            have hfl := facTo_len A j
            obtain ⟨m, hm⟩ : ∃ m, (facTo A j).length = m := ⟨_, rfl⟩
            rw [hm] at hfl
            have HM := Lib.hid hm
            obtain ⟨hs1, ho1, hl1, hi1⟩ := HRF.out
            rw [hm] at ho1
            have HO1 := Lib.hid ho1
            have HL1 := Lib.hid hl1
            have HI1 := Lib.hid hi1
            clear hin hm ho1 hl1 hi1
            go_wp2_with (at_builtin; go_must (refine wpList_append_own _ rfl _ _ 22 rfl w.heap.size 23 i39 (.slice none 0 0) 1 24 Tryz.underlying22 hi39 hz0 hz1 hz2 rfl (by decide) _ m _ rfl (HO1.out.alloc _) ⟨wr.heap.size, 0, none⟩ 1 1 [.slice pj nf cj] rfl rfl (cells_new _ _ _) (fun u hu => by simp at hu; subst hu; rfl) (by unfold maxLen; omega) (by omega) (by simp; omega) ?_); intro v2 w2 hown2 hgr2 _; have HO2 := Lib.hid hown2; have HG2 := Lib.hid hgr2; clear hown2 hgr2)
            go_roundw
            case rel =>
              have hbA : Below wr.heap.size wr (wr.alloc (.cells #[.slice pj nf cj] 23)) := (Below.refl _ _).alloc (Nat.le_refl _) _
              refine ⟨j + 1, by omega, by go_num, (HBF.out.alloc hsz _).grown HG2.out (by simp; omega) (fun i hi => (HO1.out.lt i hi).1), ?_⟩
              rw [HNX.out]
              exact rowsO_push (w := wr.alloc (.cells #[.slice pj nf cj] 23)) (hs := hs1) HB.out (by rw [HM.out]; exact HO1.out.alloc _) (HL1.out) (fun i hi => (HI1.out i hi).below hbA (Nat.le_refl _)) (HIF.out.below hbA (Nat.le_refl _)) (by rw [HM.out]; exact HO2.out) HG2.out
            case measure => simp [intOf]; omega
    · obtain rfl : j = n := by omega
      have HE : Hid (facTo A j = facetsF A) := by unfold Hid; rw [← HLN.out]; exact facTo_all A
      go_wp2_with fail
      go_ret
      refine ⟨_, rfl, HBR.out, ?_⟩
      rw [← HE.out]
      exact HR.out

set_option maxRecDepth 100000 in
set_option maxHeartbeats 8000000 in
theorem sameLists_any (r : Bool) (B B' : Nat) (L M : List (List Int)) (u v : Value) (w : World) (hr : r = decide (L = M)) (hu : ListsIn B w u L) (hv : ListsIn B' w v M) (hn : L.length ≤ 100000) (hm : M.length ≤ 100000) (hl : ∀ l ∈ L, l.length ≤ 100000) (hl2 : ∀ l ∈ M, l.length ≤ 100000) :
    Calls Tryz.prog 30 #[u, v] w (Drew (.bool r) w) := by
  obtain ⟨pu, cu, hue, -⟩ := id hu
  obtain ⟨pv, cv, hve, -⟩ := id hv
  obtain ⟨n, hLn⟩ : ∃ n, L.length = n := ⟨_, rfl⟩
  obtain ⟨m, hMm⟩ : ∃ m, M.length = m := ⟨_, rfl⟩
  rw [hLn] at hue hn
  rw [hMm] at hve hm
  subst hue
  subst hve
  have HR := Lib.hid hr
  have HN := Lib.hid hLn
  have HM := Lib.hid hMm
  have HU := Lib.hid hu
  have HV := Lib.hid hv
  have HL := Lib.hid hl
  have HL2 := Lib.hid hl2
  clear hr hLn hMm hu hv hl hl2
  by_cases hnm : n = m
  · subst hnm
    go_enter Tryz.func30, Tryz.ntmps30
    go_wp2_with fail
    go_loopw [5] (fun i wr => ∃ k z : Nat, k ≤ n ∧ i = .int .i64 k ∧ L.take k = M.take k ∧ wr = w.drewN z) (fun i _ => n - (intOf i).toNat)
    case atStart => exact ⟨0, 0, Nat.zero_le _, rfl, rfl, rfl⟩
    case round =>
      obtain ⟨k, z, hk, rfl, htk, hz⟩ := hrel
      have HT := Lib.hid htk
      have HZ := Lib.hid hz
      have HBW : Hid (Below w.heap.size w wr) := by unfold Hid; rw [hz]; exact Below.drewN w z
      clear htk hz
      by_cases hkn : k < n
      · have hkL : k < L.length := by rw [HN.out]; exact hkn
        have hkM : k < M.length := by rw [HM.out]; exact hkn
        obtain ⟨b1, o1, c1, e1⟩ := HU.out.form (by omega)
        obtain ⟨b2, o2, c2, e2⟩ := HV.out.form (by omega)
        obtain ⟨rfl, rfl⟩ : pu = some ⟨b1, o1, none⟩ ∧ cu = c1 := by cases e1; exact ⟨rfl, rfl⟩
        obtain ⟨rfl, rfl⟩ : pv = some ⟨b2, o2, none⟩ ∧ cv = c2 := by cases e2; exact ⟨rfl, rfl⟩
        obtain ⟨p1, d1, hc1, hi1⟩ := cells_at (HU.out.below HBW.out (Nat.le_refl _)) k hkL
        obtain ⟨p2, d2, hc2, hi2⟩ := cells_at (HV.out.below HBW.out (Nat.le_refl _)) k hkM
        have HS := Lib.hid (fun d : Nat => sameInts_any _ _ (L.getD k []) (M.getD k []) (wr.drewN d) (hi1.below (Below.drewN wr d) (Nat.le_refl _)).at (hi2.below (Below.drewN wr d) (Nat.le_refl _)).at (Nat.le_trans (HL.out _ (getL_mem hkL)) (by decide)) (Nat.le_trans (HL2.out _ (getL_mem hkM)) (by decide)))
        by_cases he : L.getD k [] = M.getD k []
        · have HNX : Hid (L.take (k + 1) = M.take (k + 1)) := by
            unfold Hid
            rw [take_snoc_getD [] L k hkL, take_snoc_getD [] M k hkM, HT.out, he]
          rw [decide_eq_true he] at HS
          generalize (L.getD k []).length = x1 at hc1 HS
          generalize (M.getD k []).length = x2 at hc2 HS
          clear he hkL hkM hi1 hi2 e1 e2
          go_wp2_with fail
          go_quiet ((go_at_call 20; exact Calls.quiet_of (HS.out _)))
          go_wp2_with fail
          go_roundw
          case rel => exact ⟨k + 1, z + nq, by omega, by go_num, HNX.out, by rw [HZ.out, World.drewN_drewN]⟩
          case measure => simp [intOf]; omega
        · have HNE : Hid (r = false) := HR.out.trans (decide_eq_false fun e => he (by rw [e]))
          rw [decide_eq_false he] at HS
          generalize (L.getD k []).length = x1 at hc1 HS
          generalize (M.getD k []).length = x2 at hc2 HS
          clear he hkL hkM hi1 hi2 e1 e2
          go_wp2_with fail
          go_quiet ((go_at_call 20; exact Calls.quiet_of (HS.out _)))
          go_wp2_with fail
          go_ret
          exact ⟨ret_bool HNE.out.symm, z + nq, by rw [HZ.out, World.drewN_drewN]⟩
      · obtain rfl : k = n := by omega
        have HEQ : Hid (r = true) := HR.out.trans (decide_eq_true (by
          have h := HT.out
          rwa [List.take_of_length_le (by rw [HN.out]; exact Nat.le_refl _), List.take_of_length_le (by rw [HM.out]; exact Nat.le_refl _)] at h))
        go_wp2_with fail
        go_ret
        exact ⟨ret_bool HEQ.out.symm, z, HZ.out⟩
  · have HNE : Hid (r = false) := HR.out.trans (decide_eq_false fun e => hnm (by rw [← HN.out, ← HM.out, e]))
    have q : ((n : Int) != (m : Int)) = true := by rw [bne_iff_ne]; omega
    have q' : (n != m) = true := by rw [bne_iff_ne]; exact hnm
    clear hnm
    go_enter Tryz.func30, Tryz.ntmps30
    go_wp2_with fail
    go_ret
    exact ⟨ret_bool HNE.out.symm, 0, rfl⟩

/-- the complex that sets make -/
def madeF (L : List (List Int)) : List (List Int) := facetsF (allF L)
theorem mem_facets {A : List (List Int)} {f : List Int} (h : f ∈ facetsF A) : f ∈ A := (List.mem_filter.1 h).1
theorem made_len {L : List (List Int)} (h : errC L = 0) : (madeF L).length ≤ 600 := Nat.le_trans (List.length_filter_le _ _) (errC_ok h).2.2
theorem allF_bd {L : List (List Int)} (h : errC L = 0) : ∀ g ∈ allF L, g.length ≤ 7 := fun _ hg => isF_len (errC_ok h).2.1 (mem_allF.1 hg)
theorem made_bd {L : List (List Int)} (h : errC L = 0) : ∀ g ∈ madeF L, g.length ≤ 7 := fun g hg => allF_bd h g (mem_facets hg)

def MadePost (B : Nat) (L : List (List Int)) (w : World) (e : Ending) (w' : World) : Prop :=
  ∃ v, e = .returned (.tuple #[v, .int .i64 (errC L : Int)]) ∧ Below w.heap.size w w' ∧ (errC L = 0 → ListsIn B w' v (madeF L)) ∧ (errC L ≠ 0 → v = .slice none 0 0)

set_option maxHeartbeats 4000000 in
theorem made_any (B : Nat) (L : List (List Int)) (v : Value) (w : World) (hB : B ≤ w.heap.size) (hv : ListsIn B w v L) (hn : L.length ≤ 100000) (hl : ∀ l ∈ L, l.length ≤ 100000) :
    Calls Tryz.prog 56 #[v] w (MadePost B L w) := by
  have HC := Lib.hid (closed_any B L v w hB hv hn hl)
  have HB := Lib.hid hB
  have HE := Lib.hid (errC_cases L)
  have HA := Lib.hid (fun h => (errC_ok (L := L) h).2.2)
  have HA2 := Lib.hid (fun h => allF_bd (L := L) h)
  clear hB hv hn hl
  unfold ClosedPost at HC
  obtain ⟨c, hc⟩ : ∃ c, errC L = c := ⟨_, rfl⟩
  have HEC := Lib.hid hc
  rw [hc] at HC HE
  clear hc
  rcases Nat.eq_zero_or_pos c with rfl | hp
  · go_enter Tryz.func56, Tryz.ntmps56
    go_wp2_with fail
    refine HC.out.mono ?_
    rintro e w1 ⟨v1, rfl, hb1, hl1, -⟩
    have HB1 := Lib.hid hb1
    have HF := Lib.hid (facets_any B (allF L) v1 w1 (Nat.le_trans HB.out hb1.size) (hl1 (by first | rfl | trivial)) (Nat.le_trans (HA.out HEC.out) (by decide)) (fun l h => Nat.le_trans (HA2.out HEC.out l h) (by decide)))
    clear hb1 hl1
    go_wp2_with fail
    refine HF.out.mono ?_
    rintro e w2 ⟨v2, rfl, hb2, hr2⟩
    have HB2 := Lib.hid (HB1.out.trans (hb2.mono HB1.out.size))
    have HR2 := Lib.hid hr2.lists
    clear hb2 hr2
    go_wp2_with fail
    go_ret2
    exact ⟨_, ret_vi (by rw [HEC.out]; rfl), HB2.out, fun _ => HR2.out, fun h => absurd HEC.out h⟩
  · have q : decide (0 < (c : Int)) = true := decide_eq_true (by omega)
    have q2 : decide (0 < c) = true := decide_eq_true hp
    go_enter Tryz.func56, Tryz.ntmps56
    go_wp2_with fail
    refine HC.out.mono ?_
    rintro e w1 ⟨v1, rfl, hb1, -, -⟩
    have HB1 := Lib.hid hb1
    clear hb1
    go_wp2_with fail
    go_ret2
    exact ⟨_, ret_vi (by rw [HEC.out]), HB1.out, fun h => absurd (HEC.out.symm.trans h) (by omega), fun _ => rfl⟩

/-- what is wrong with facets -/
noncomputable def errX (L : List (List Int)) : Nat := if errC L = 0 then (if L = madeF L then 0 else 3) else errC L
theorem errX_cases (L : List (List Int)) : errX L = 0 ∨ errX L = 2 ∨ errX L = 3 ∨ errX L = 4 := by
  unfold errX
  rcases errC_cases L with h | h | h <;> rw [h]
  · by_cases h2 : L = madeF L
    · exact Or.inl ((if_pos rfl).trans (if_pos h2))
    · exact Or.inr (Or.inr (Or.inl ((if_pos rfl).trans (if_neg h2))))
  · exact Or.inr (Or.inl (if_neg (by decide)))
  · exact Or.inr (Or.inr (Or.inr (if_neg (by decide))))
theorem errX_ok {L : List (List Int)} (h : errX L = 0) : errC L = 0 ∧ L = madeF L := by
  unfold errX at h
  by_cases h1 : errC L = 0
  · rw [if_pos h1] at h
    by_cases h2 : L = madeF L
    · exact ⟨h1, h2⟩
    · rw [if_neg h2] at h; cases h
  · rw [if_neg h1] at h; exact absurd h h1
theorem ret_i {a b : Int} (h : a = b) : Ending.returned (.int .i64 a) = .returned (.int .i64 b) := by rw [h]

set_option maxHeartbeats 4000000 in
theorem complexError_any (L : List (List Int)) (v : Value) (w : World) (hv : ListsIn w.heap.size w v L) (hn : L.length ≤ 100000) (hl : ∀ l ∈ L, l.length ≤ 100000) :
    Calls Tryz.prog 23 #[v] w (Gives (.int .i64 (errX L : Int)) w) := by
  have HC := Lib.hid (made_any w.heap.size L v w (Nat.le_refl _) hv hn hl)
  have HV := Lib.hid hv
  have HN := Lib.hid hn
  have HL := Lib.hid hl
  clear hv hn hl
  unfold MadePost at HC
  obtain ⟨c, hc⟩ : ∃ c, errC L = c := ⟨_, rfl⟩
  have HEC := Lib.hid hc
  rw [hc] at HC
  clear hc
  rcases Nat.eq_zero_or_pos c with rfl | hp
  · by_cases hs : L = madeF L
    · have HX : Hid (errX L = 0) := by unfold Hid errX; rw [if_pos HEC.out, if_pos hs]
      have HSL := Lib.hid (decide_eq_true hs)
      clear hs
      go_enter Tryz.func23, Tryz.ntmps23
      go_wp2_with fail
      refine HC.out.mono ?_
      rintro e w1 ⟨v1, rfl, hb1, hl1, -⟩
      have HB1 := Lib.hid hb1
      have HF := Lib.hid (sameLists_any true w.heap.size w.heap.size L (madeF L) v v1 w1 HSL.out.symm (HV.out.below hb1 (Nat.le_refl _)) (hl1 (by first | rfl | trivial)) HN.out (Nat.le_trans (made_len HEC.out) (by decide)) HL.out (fun l h => Nat.le_trans (made_bd HEC.out l h) (by decide)))
      clear hb1 hl1
      go_wp2_with fail
      refine HF.out.mono ?_
      rintro e w2 ⟨rfl, z, rfl⟩
      go_wp2_with fail
      go_ret
      exact ⟨ret_i (by rw [HX.out]; rfl), HB1.out.trans ((Below.drewN w1 z).mono HB1.out.size)⟩
    · have HX : Hid (errX L = 3) := by unfold Hid errX; rw [if_pos HEC.out, if_neg hs]
      have HSL := Lib.hid (decide_eq_false hs)
      clear hs
      go_enter Tryz.func23, Tryz.ntmps23
      go_wp2_with fail
      refine HC.out.mono ?_
      rintro e w1 ⟨v1, rfl, hb1, hl1, -⟩
      have HB1 := Lib.hid hb1
      have HF := Lib.hid (sameLists_any false w.heap.size w.heap.size L (madeF L) v v1 w1 HSL.out.symm (HV.out.below hb1 (Nat.le_refl _)) (hl1 (by first | rfl | trivial)) HN.out (Nat.le_trans (made_len HEC.out) (by decide)) HL.out (fun l h => Nat.le_trans (made_bd HEC.out l h) (by decide)))
      clear hb1 hl1
      go_wp2_with fail
      refine HF.out.mono ?_
      rintro e w2 ⟨rfl, z, rfl⟩
      go_wp2_with fail
      go_ret
      exact ⟨ret_i (by rw [HX.out]; rfl), HB1.out.trans ((Below.drewN w1 z).mono HB1.out.size)⟩
  · have HX : Hid (errX L = c) := by unfold Hid errX; rw [if_neg (by rw [HEC.out]; omega), HEC.out]
    have q : decide (0 < (c : Int)) = true := decide_eq_true (by omega)
    have q2 : decide (0 < c) = true := decide_eq_true hp
    go_enter Tryz.func23, Tryz.ntmps23
    go_wp2_with fail
    refine HC.out.mono ?_
    rintro e w1 ⟨v1, rfl, hb1, -, -⟩
    have HB1 := Lib.hid hb1
    clear hb1
    go_wp2_with fail
    go_ret
    exact ⟨ret_i (by rw [HX.out]), HB1.out⟩

/-- are sets those of which something is said? -/
def sumL (L : List (List Int)) : Nat := (L.map List.length).sum
def fewB (L : List (List Int)) : Bool := decide (L.length ≤ 40) && (L.all fun l => decide (l.length ≤ 12)) && decide (sumL L ≤ 160)
theorem sumL_snoc (L : List (List Int)) (l : List Int) : sumL (L ++ [l]) = sumL L + l.length := by unfold sumL; rw [List.map_append, List.sum_append]; simp
theorem fewB_ok {L : List (List Int)} (h : fewB L = true) : L.length ≤ 40 ∧ ∀ l ∈ L, l.length ≤ 12 := by
  unfold fewB at h
  simp only [Bool.and_eq_true, decide_eq_true_eq] at h
  exact ⟨h.1.1, fun l hl => by simpa using List.all_eq_true.1 h.1.2 l hl⟩

set_option maxHeartbeats 4000000 in
theorem few_any (B : Nat) (L : List (List Int)) (v : Value) (w : World) (hv : ListsIn B w v L) :
    Calls Tryz.prog 33 #[v] w (Same (.bool (fewB L)) w) := by
  obtain ⟨pv, cv, hve, -⟩ := id hv
  obtain ⟨n, hLn⟩ : ∃ n, L.length = n := ⟨_, rfl⟩
  rw [hLn] at hve
  subst hve
  obtain ⟨r, hr⟩ : ∃ r, fewB L = r := ⟨_, rfl⟩
  rw [hr]
  have HR := Lib.hid hr
  have HN := Lib.hid hLn
  have HV := Lib.hid hv
  clear hr hLn hv
  by_cases h40 : 40 < n
  · have HF : Hid (r = false) := by
      unfold Hid
      rw [← HR.out]; unfold fewB
      rw [decide_eq_false (by rw [HN.out]; omega)]; rfl
    have q1 : decide (40 < (n : Int)) = true := decide_eq_true (by omega)
    have q2 : decide (40 < n) = true := decide_eq_true h40
    clear h40
    go_enter Tryz.func33, Tryz.ntmps33
    go_wp2_with fail
    go_ret
    exact ⟨ret_bool HF.out.symm, rfl⟩
  · have hn40 : n ≤ 40 := by omega
    have q1 : decide (40 < (n : Int)) = false := decide_eq_false (by omega)
    have q2 : decide (40 < n) = false := decide_eq_false h40
    clear h40
    go_enter Tryz.func33, Tryz.ntmps33
    go_wp2_with fail
    go_loop [3, 4] (fun s i => ∃ k : Nat, k ≤ n ∧ i = .int .i64 k ∧ s = .int .i64 ((sumL (L.take k) : Nat) : Int) ∧ (∀ q, q < k → (L.getD q []).length ≤ 12) ∧ sumL (L.take k) ≤ 12 * k) (fun _ i => n - (intOf i).toNat)
    case atStart => exact ⟨0, Nat.zero_le _, rfl, rfl, fun q h => absurd h (by omega), Nat.le_refl _⟩
    case round =>
      obtain ⟨k, hk, rfl, rfl, h12, hsum⟩ := hrel
      have H12 := Lib.hid h12
      clear h12
      by_cases hkn : k < n
      · have hkL : k < L.length := by rw [HN.out]; exact hkn
        obtain ⟨b, off, c, e⟩ := HV.out.form (by omega)
        rw [HN.out] at e
        obtain ⟨rfl, rfl⟩ : pv = some ⟨b, off, none⟩ ∧ cv = c := by cases e; exact ⟨rfl, rfl⟩
        obtain ⟨p, d, hc, -⟩ := cells_at HV.out k hkL
        have HST := Lib.hid (show sumL (L.take (k + 1)) = sumL (L.take k) + (L.getD k []).length by rw [take_snoc_getD [] L k hkL, sumL_snoc])
        have HMEM := Lib.hid (getL_mem hkL)
        by_cases h13 : 12 < (L.getD k []).length
        · have HF : Hid (r = false) := by
            unfold Hid
            rw [← HR.out, Bool.eq_false_iff]
            intro h
            have := (fewB_ok h).2 _ HMEM.out
            omega
          obtain ⟨x, hx⟩ : ∃ x, (L.getD k []).length = x := ⟨_, rfl⟩
          rw [hx] at hc h13
          have q3 : decide (12 < (x : Int)) = true := decide_eq_true (by omega)
          have q4 : decide (12 < x) = true := decide_eq_true h13
          clear h13 hx hkL e
          go_wp2_with fail
          go_ret
          exact ⟨ret_bool HF.out.symm, rfl⟩
        · have H12' : Hid (∀ q, q < k + 1 → (L.getD q []).length ≤ 12) := fun q hq => by
            rcases (show q < k ∨ q = k by omega) with h | rfl
            · exact H12.out q h
            · omega
          obtain ⟨x, hx⟩ : ∃ x, (L.getD k []).length = x := ⟨_, rfl⟩
          rw [hx] at hc h13 HST
          have q3 : decide (12 < (x : Int)) = false := decide_eq_false (by omega)
          have q4 : decide (12 < x) = false := decide_eq_false h13
          have hx12 : x ≤ 12 := by omega
          obtain ⟨s, hs⟩ : ∃ s, sumL (L.take k) = s := ⟨_, rfl⟩
          rw [hs] at hsum HST ⊢
          clear h13 hx hkL e hs
          go_wp2_with fail
          go_round
          case rel => exact ⟨k + 1, by omega, by go_num, by rw [HST.out]; go_num, H12'.out, by rw [HST.out]; omega⟩
          case measure => simp [intOf]; omega
      · obtain rfl : k = n := by omega
        have hall : (L.all fun l => decide (l.length ≤ 12)) = true := List.all_eq_true.2 fun l hl => by
          obtain ⟨q, hq, rfl⟩ := List.getElem_of_mem hl
          have := H12.out q (by rw [← HN.out]; exact hq)
          rw [List.getD_eq_getElem?_getD, List.getElem?_eq_getElem hq] at this
          exact decide_eq_true this
        have HF : Hid (decide (sumL (L.take k) ≤ 160) = r) := by
          unfold Hid
          rw [← HR.out, List.take_of_length_le (by rw [HN.out]; exact Nat.le_refl _)]
          unfold fewB
          rw [hall, decide_eq_true (show L.length ≤ 40 by rw [HN.out]; exact hn40)]; rfl
        obtain ⟨s, hs⟩ : ∃ s, sumL (L.take k) = s := ⟨_, rfl⟩
        rw [hs] at HF hsum ⊢
        have HQ : Hid (decide ((s : Int) ≤ 160) = r) := by
          unfold Hid
          rw [← HF.out]
          by_cases h : s ≤ 160
          · rw [decide_eq_true h, decide_eq_true (by omega)]
          · rw [decide_eq_false h, decide_eq_false (by omega)]
        clear hall hs
        by_cases h160 : s ≤ 160
        · have q3 : decide ((s : Int) ≤ 160) = true := decide_eq_true (by omega)
          have q4 : decide (s ≤ 160) = true := decide_eq_true h160
          have HT : Hid (true = r) := by unfold Hid; rw [← HQ.out, q3]
          clear h160
          go_wp2_with fail
          go_ret
          exact ⟨ret_bool HT.out, rfl⟩
        · have q3 : decide ((s : Int) ≤ 160) = false := decide_eq_false (by omega)
          have q4 : decide (s ≤ 160) = false := decide_eq_false h160
          have HT : Hid (false = r) := by unfold Hid; rw [← HQ.out, q3]
          clear h160
          go_wp2_with fail
          go_ret
          exact ⟨ret_bool HT.out, rfl⟩

/-- have sets at most so many faces, or are they wrong? -/
noncomputable def littleB (L : List (List Int)) (most : Nat) : Bool := fewB L && (decide (0 < errC L) || decide ((allF L).length ≤ most))

set_option maxHeartbeats 4000000 in
theorem little_any (L : List (List Int)) (most : Nat) (v : Value) (w : World) (hv : ListsIn w.heap.size w v L) (hm : most ≤ 1000) :
    Calls Tryz.prog 7 #[v, .int .i64 (most : Int)] w (Gives (.bool (littleB L most)) w) := by
  have HF := Lib.hid (few_any w.heap.size L v w hv)
  obtain ⟨r, hr⟩ : ∃ r, littleB L most = r := ⟨_, rfl⟩
  rw [hr]
  unfold Same at HF
  cases hf : fewB L with
  | false =>
    have HR : Hid (false = r) := by unfold Hid; rw [← hr]; unfold littleB; rw [hf]; rfl
    rw [hf] at HF
    clear hr hf hv
    go_enter Tryz.func7, Tryz.ntmps7
    go_wp2_with fail
    refine HF.out.mono ?_
    rintro e w1 ⟨rfl, rfl⟩
    go_wp2_with fail
    go_ret
    exact ⟨ret_bool HR.out, Below.refl _ _⟩
  | true =>
    obtain ⟨h1, h2⟩ := fewB_ok hf
    have HC := Lib.hid (closed_any w.heap.size L v w (Nat.le_refl _) hv (by omega) (fun l hl => Nat.le_trans (h2 l hl) (by decide)))
    unfold ClosedPost at HC
    have hr2 : (decide (0 < errC L) || decide ((allF L).length ≤ most)) = r := by rw [← hr]; unfold littleB; rw [hf]; rfl
    have HR2 := Lib.hid hr2
    obtain ⟨c, hc⟩ : ∃ c, errC L = c := ⟨_, rfl⟩
    rw [hc] at HC HR2
    rw [hf] at HF
    clear hr hf hv h1 h2 hr2 hc
    rcases Nat.eq_zero_or_pos c with rfl | hp
    · go_enter Tryz.func7, Tryz.ntmps7
      go_wp2_with fail
      refine HF.out.mono ?_
      rintro e w1 ⟨rfl, rfl⟩
      go_wp2_with fail
      refine HC.out.mono ?_
      rintro e w1 ⟨v1, rfl, hb1, hl1, -⟩
      have HB1 := Lib.hid hb1
      obtain ⟨p, d, hv1, -⟩ := hl1 (by first | rfl | trivial)
      obtain ⟨x, hx⟩ : ∃ x, (allF L).length = x := ⟨_, rfl⟩
      rw [hx] at hv1 HR2
      subst hv1
      clear hb1 hl1 hx
      by_cases hxm : x ≤ most
      · have q1 : decide ((x : Int) ≤ (most : Int)) = true := decide_eq_true (by omega)
        have q2 : decide (x ≤ most) = true := decide_eq_true hxm
        have HR3 : Hid (true = r) := by unfold Hid; rw [← HR2.out, q2]; rfl
        clear hxm
        go_wp2_with fail
        go_ret
        exact ⟨ret_bool HR3.out, HB1.out⟩
      · have q1 : decide ((x : Int) ≤ (most : Int)) = false := decide_eq_false (by omega)
        have q2 : decide (x ≤ most) = false := decide_eq_false hxm
        have HR3 : Hid (false = r) := by unfold Hid; rw [← HR2.out, q2]; rfl
        clear hxm
        go_wp2_with fail
        go_ret
        exact ⟨ret_bool HR3.out, HB1.out⟩
    · have q : decide (0 < (c : Int)) = true := decide_eq_true (by omega)
      have q2 : decide (0 < c) = true := decide_eq_true hp
      have HR3 : Hid (true = r) := by unfold Hid; rw [← HR2.out, q2]; rfl
      go_enter Tryz.func7, Tryz.ntmps7
      go_wp2_with fail
      refine HF.out.mono ?_
      rintro e w1 ⟨rfl, rfl⟩
      go_wp2_with fail
      refine HC.out.mono ?_
      rintro e w1 ⟨v1, rfl, hb1, -, -⟩
      have HB1 := Lib.hid hb1
      clear hb1
      go_wp2_with fail
      go_ret
      exact ⟨ret_bool HR3.out, HB1.out⟩
end Go.Proofs.YtddnjimpdidpaaaGreatDoor
