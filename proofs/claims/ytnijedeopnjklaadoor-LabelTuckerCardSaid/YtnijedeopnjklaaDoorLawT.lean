/-
  The walk of the law LabelTucker.
-/
import Derived.Test.YtnijedeopnjklaaDoorJoin
import Derived.Test.YtnijedeopnjklaaDoorSmallE
import Derived.Test.YtnijedeopnjklaaDoorFaulted
import Derived.Laws.AppendOwnNone
namespace Go.Proofs.YtnijedeopnjklaaDoor
open Go Go.RowKit

set_option maxRecDepth 100000 in
set_option maxHeartbeats 4000000 in
theorem law_long (n : Int) (p : Option Addr) (len cap : Nat) (w : World) (h : 300 < len) : Calls Tryd.prog 4 #[.int .i64 n, .slice p len cap] w (TruePost w) := by
  have d1 : decide ((300 : Int) < (len : Int)) = true := decide_eq_true (by omega)
  have d2 : decide (300 < len) = true := decide_eq_true h
  clear h
  go_enter Tryd.func4, Tryd.ntmps4
  go_wp2_with fail
  refine (corner_any _).mono ?_
  rintro e w1 ⟨rfl, hb⟩
  go_wp2_with fail
  go_ret
  exact ⟨rfl, hb⟩

set_option maxRecDepth 100000 in
set_option maxHeartbeats 4000000 in
theorem law_nil (a : Nat → Addr) (n : Int) (c k : Int) (w : World) (hS : Sents w a) (hV : Verdict n [] c k) : Calls Tryd.prog 4 #[.int .i64 n, .slice none 0 0] w (TruePost w) := by
  go_enter Tryd.func4, Tryd.ntmps4
  go_wp2_with fail
  refine (corner_any _).mono ?_
  rintro e w1 ⟨rfl, hb⟩
  have hbt1 := hb.alloc hb.size (.cells #[] 3)
  have hS1 := hS.below hbt1 (Nat.le_refl _)
  have HV := Lib.hid hV
  clear hV hb
  go_wp2_with fail
  refine (opp_any a n [] _ c k _ hS1 (IntsAt.new w1 [] 3) HV.out).mono ?_
  rintro e w2 ⟨l, err, rfl, hb2, hE, hres⟩
  have hbt2 := hbt1.trans (hb2.mono hbt1.size)
  have hS2 := hS1.below hb2 (Nat.le_refl _)
  clear hbt1 hb2 hS1 hS
  go_wp2_with fail
  refine (sf_any n [] _ c k _ (IntsAt.nil _) (fun i => by simp) HV.out).mono ?_
  rintro e w3 ⟨rfl, hb3⟩
  rcases hres with ⟨hc0, rfl⟩ | ⟨rfl, m, -, -, -, hl, -⟩
  · have dc : decide (0 < c) = true := decide_eq_true (by have := hE.range; omega)
    have hE3 := hE.below hb3 (Nat.le_refl _)
    have hS3 := hS2.below hb3 (Nat.le_refl _)
    have hE4 := hE3.below ((Below.refl _ _).alloc (Nat.le_refl _) (.cells #[.int .i64 c, .int .i64 k] 43)) (Nat.le_refl _)
    have hS4 := hS3.below ((Below.refl _ _).alloc (Nat.le_refl _) (.cells #[.int .i64 c, .int .i64 k] 43)) (Nat.le_refl _)
    have HB3 := Lib.hid ((hbt2.trans (hb3.mono hbt2.size)).alloc (Nat.le_trans hbt2.size hb3.size) (.cells #[.int .i64 c, .int .i64 k] 43))
    clear hc0 hE hE3 hS3 hb3
    go_wp2_with fail
    refine (faulted_any a _ c k c k _ hS4 hE4).mono ?_
    rintro e w4 ⟨rfl, hb4⟩
    rw [show decide (c = c ∧ (c = 0 ∨ k = k)) = true from by simp]
    have HB4 := Lib.hid (HB3.out.trans (hb4.mono HB3.out.size))
    clear hb4 hE4 hS4
    go_wp2_with fail
    go_ret
    exact ⟨rfl, HB4.out⟩

  · exfalso
    have : 0 < (2 * m + 1) * (2 * m + 1) := Nat.mul_pos (by omega) (by omega)
    simp only [List.length_nil] at hl
    omega

/-- the cells of a pair in an owned row of pairs -/
theorem pair_cells {w : World} {D g cap : Nat} {L : List (Nat × Nat)} (h : w.ownsRow D 48 2 (.slice (some ⟨g, 0, none⟩) L.length cap) L.length (cells2 L)) (k : Nat) (hk : k < L.length) :
    w.cell? ⟨g, k * 2, none⟩ = some (.int .i64 ((L.getD k (0, 0)).1 : Int)) ∧ w.cell? ⟨g, k * 2 + 1, none⟩ = some (.int .i64 ((L.getD k (0, 0)).2 : Int)) := by
  have hadd : ∀ b j, (⟨b, 0, none⟩ : Addr).add j = ⟨b, j, none⟩ := fun b j => by unfold Addr.add; split <;> simp_all
  have hg : ∀ j, j < 2 → (cells2 L)[k * 2 + j]? = (enc2 (L.getD k (0, 0)))[j]? := fun j hj => by
    show (L.flatMap enc2)[k * 2 + j]? = _
    rw [flat_get enc2_len (by decide) L (k * 2 + j) (by omega)]
    rw [show (k * 2 + j) / 2 = k from by omega, show (k * 2 + j) % 2 = j from by omega]
    congr 2
    simp [hk, List.getD_eq_getElem?_getD]
  constructor
  · have := h.cells (g := g) rfl (k * 2 + 0) _ (hg 0 (by omega)); rwa [hadd] at this
  · have := h.cells (g := g) rfl (k * 2 + 1) _ (hg 1 (by omega)); rwa [hadd] at this

theorem want_cells {w : World} {B : Nat} {v : Value} {P : List (Nat × Nat)} (h : RowsAt 22 3 w B v (P.map pairI)) (i : Nat) (hi : i < P.length) :
    ∃ g cap gi ci, v = .slice (some ⟨g, 0, none⟩) P.length cap ∧ w.cell? ⟨g, i, none⟩ = some (.slice (some ⟨gi, 0, none⟩) 2 ci) ∧
      w.cell? ⟨gi, 0, none⟩ = some (.int .i64 ((P.getD i (0, 0)).1 : Int)) ∧ w.cell? ⟨gi, 1, none⟩ = some (.int .i64 ((P.getD i (0, 0)).2 : Int)) := by
  have e : (P.map pairI).getD i [] = pairI (P.getD i (0, 0)) := by simp [List.getD_eq_getElem?_getD, List.getElem?_eq_getElem hi]
  obtain ⟨g, cap, gi, ci, hv, h0, h1⟩ := h.at i (by simpa using hi) (by rw [e]; exact Nat.succ_pos _)
  rw [e] at h0 h1
  rw [List.length_map] at hv
  exact ⟨g, cap, gi, ci, hv, h0, h1 0 (Nat.succ_pos _), h1 1 (show 1 < 2 by omega)⟩

set_option maxRecDepth 100000 in
set_option maxHeartbeats 8000000 in
theorem law_some (a : Nat → Addr) (n : Int) (xs : List Int) (ad : Addr) (cap : Nat) (c k : Int) (w : World) (hS : Sents w a) (hv : IntsAt w (.slice (some ad) xs.length cap) xs) (hlen : xs.length ≤ 300)
    (hwf : ∀ i, -9223372036854775808 ≤ xs.getD i 0 ∧ xs.getD i 0 ≤ 9223372036854775807) (hV : Verdict n xs c k) : Calls Tryd.prog 4 #[.int .i64 n, .slice (some ad) xs.length cap] w (TruePost w) := by
  obtain ⟨i3, hi3, hz30, hz31, hz32⟩ := info_parts Tryd.info3
  have d1 : decide ((300 : Int) < (xs.length : Int)) = false := decide_eq_false (by omega)
  have d2 : decide (300 < xs.length) = false := decide_eq_false (by omega)
  have HV := Lib.hid hV
  have HW := Lib.hid hwf
  have HI := Lib.hid hv
  clear hV hwf
  have hnews : ∀ j u, (intVs xs)[j]? = some u → w.cell? (ad.add j) = some u := fun j u hu => by
    have hj : j < xs.length := by
      have := (List.getElem?_eq_some_iff.1 hu).1
      simpa [intVs] using this
    obtain ⟨p, cc, he, -, -, hcells⟩ := hv
    obtain ⟨b, off, e1, e2⟩ := hcells j hj
    cases he
    cases e1
    have e3 : (⟨b, off, none⟩ : Addr).add j = ⟨b, off + j, none⟩ := by unfold Addr.add; split <;> simp_all
    rw [e3, e2]
    simp [intVs, List.getElem?_eq_getElem hj] at hu
    rw [← hu]
    simp [List.getD_eq_getElem?_getD, List.getElem?_eq_getElem hj]
  clear hv
  go_enter Tryd.func4, Tryd.ntmps4
  go_wp2_with fail
  refine (corner_any _).mono ?_
  rintro e w1 ⟨rfl, hb⟩
  have hbt1 := hb.alloc hb.size (.cells #[] 3)
  have hnews1 : ∀ j u, (intVs xs)[j]? = some u → (w1.alloc (.cells #[] 3)).cell? (ad.add j) = some u := fun j u hu => by
    rw [hbt1.cell (mem_lt (hnews j u hu))]; exact hnews j u hu
  have HN := Lib.hid hnews1
  clear hnews hnews1
  go_wp2_with (
    at_builtin
    go_must (refine wpList_append_own _ rfl _ _ 22 rfl w.heap.size 3 i3 (.int .i64 0) 1 8 Tryd.underlying22 hi3 hz30 hz31 hz32 rfl (by decide) _ 0 [] rfl (World.ownsRow_made w1 #[] 0 hb.size (by decide) rfl) ad xs.length cap (intVs xs) rfl (by simp [intVs]) HN.out (fun u hu => by simp [intVs] at hu; obtain ⟨z, -, rfl⟩ := hu; rfl) (by unfold maxLen; omega) (by omega) hbt1.size ?_)
    intro v2 wc hown hgr _
    have hbtc := hbt1.grown hgr hbt1.size (fun j hj => by cases hj; exact hb.size)
    have hIc : IntsAt wc v2 xs := ints_of_owns (by simpa using hown)
    have hSc := hS.below hbtc (Nat.le_refl _)
    clear hown hgr hbt1 hb)
  refine (opp_any a n xs _ c k _ hSc hIc HV.out).mono ?_
  rintro e w2 ⟨l, err, rfl, hb2, hE, hres⟩
  have hbt2 := hbtc.trans (hb2.mono hbtc.size)
  have hS2 := hSc.below hb2 (Nat.le_refl _)
  have hbl2 := hbtc.size
  clear hbtc hb2 hSc hIc HN
  go_wp2_with fail
  refine (sf_any n xs _ c k _ (HI.out.below hbt2 (Nat.le_refl _)) HW.out HV.out).mono ?_
  rintro e w3 ⟨rfl, hb3⟩
  rcases hres with ⟨hc0, rfl⟩ | ⟨rfl, m, rfl, hm1, hm, hl, hf, hO⟩
  · have dc : decide (0 < c) = true := decide_eq_true (by have := hE.range; omega)
    have hE3 := hE.below hb3 (Nat.le_refl _)
    have hS3 := hS2.below hb3 (Nat.le_refl _)
    have hE4 := hE3.below ((Below.refl _ _).alloc (Nat.le_refl _) (.cells #[.int .i64 c, .int .i64 k] 43)) (Nat.le_refl _)
    have hS4 := hS3.below ((Below.refl _ _).alloc (Nat.le_refl _) (.cells #[.int .i64 c, .int .i64 k] 43)) (Nat.le_refl _)
    have HB3 := Lib.hid ((hbt2.trans (hb3.mono hbt2.size)).alloc (Nat.le_trans hbt2.size hb3.size) (.cells #[.int .i64 c, .int .i64 k] 43))
    clear hc0 hE hE3 hS3 hb3
    go_wp2_with fail
    refine (faulted_any a _ c k c k _ hS4 hE4).mono ?_
    rintro e w4 ⟨rfl, hb4⟩
    rw [show decide (c = c ∧ (c = 0 ∨ k = k)) = true from by simp]
    have HB4 := Lib.hid (HB3.out.trans (hb4.mono HB3.out.size))
    clear hb4 hE4 hS4
    go_wp2_with fail
    go_ret
    exact ⟨rfl, HB4.out⟩

  · obtain rfl := hE.zero rfl
    have HB3 := Lib.hid ((hbt2.trans (hb3.mono hbt2.size)).alloc (Nat.le_trans hbt2.size hb3.size) (.cells #[.int .i64 0, .int .i64 k] 43))
    have hI4 := HI.out.below HB3.out (Nat.le_refl _)
    have hP0 : 0 < (sort2 (outTo m xs ((2 * m + 1) * (2 * m + 1)))).length := by
      rw [show (sort2 (outTo m xs ((2 * m + 1) * (2 * m + 1)))).length = (outTo m xs ((2 * m + 1) * (2 * m + 1))).length from List.length_mergeSort _]
      exact List.length_pos_iff.2 (tuck_some m hm1 xs hf)
    have hP1 : (sort2 (outTo m xs ((2 * m + 1) * (2 * m + 1)))).length ≤ 1000 := by
      rw [show (sort2 (outTo m xs ((2 * m + 1) * (2 * m + 1)))).length = (outTo m xs ((2 * m + 1) * (2 * m + 1))).length from List.length_mergeSort _]
      have h1 := outTo_length m xs ((2 * m + 1) * (2 * m + 1))
      have h2 : (2 * m + 1) * (2 * m + 1) ≤ 13 * 13 := Nat.mul_le_mul (by omega) (by omega)
      omega
    have hRef := ref_any m hm1 hm xs (.slice (some ad) xs.length cap) _ hI4 hl hf
    generalize sort2 (outTo m xs ((2 * m + 1) * (2 * m + 1))) = P at hP0 hP1 hO hRef
    obtain ⟨g, cap1, rfl⟩ := Joins.ownsRow_form hO hP0
    have hO4 := owns_keep (w' := w3.alloc (.cells #[.int .i64 0, .int .i64 k] 43)) hO fun j hj => by
      have h1 := (hO.lt j hj).2
      rw [Below.heap_alloc _ _ _ (Nat.lt_of_lt_of_le h1 hb3.size)]
      exact hb3.block j h1
    have HRef := Lib.hid hRef
    have HL := Lib.hid hl
    clear hO hE hI4 hRef hf hl hS2 hb3 hbt2
    go_wp2_with fail
    refine HRef.out.mono ?_
    rintro e w4 ⟨want, rfl, hb4, hR⟩
    have hO5 := owns_keep (w' := w4) hO4 fun j hj => hb4.block j (hO4.lt j hj).2
    have HB4 := Lib.hid (HB3.out.trans (hb4.mono HB3.out.size))
    obtain ⟨g2, cap2, -, -, rfl, -⟩ := want_cells hR 0 hP0
    have HO5 := Lib.hid hO5
    have HR := Lib.hid hR
    have hp1 : ((P.length : Int) == 0) = false := beq_eq_false_iff_ne.2 (by omega)
    have hp2 : (P.length == 0) = false := beq_eq_false_iff_ne.2 (by omega)
    clear hO4 hO5 hR hb4 HRef
    go_wp2_with fail
    clear hp1 hp2
    go_loopw [10] (fun i wr => ∃ q : Nat, q ≤ P.length ∧ i = .int .i64 q ∧ ∃ z, wr = w4.drewN z) (fun i _ => P.length - (intOf i).toNat)
    case atStart => exact ⟨0, Nat.zero_le _, rfl, 0, rfl⟩
    case round =>
      obtain ⟨q, hq, rfl, z, rfl⟩ := hrel
      by_cases hqs : q < P.length
      · obtain ⟨c0, c1⟩ := pair_cells HO5.out q hqs
        obtain ⟨g', cap', gi, ci, hv, e0, e1, e2⟩ := want_cells HR.out q hqs
        cases hv
        generalize P.getD q (0, 0) = pp at c0 c1 e1 e2
        go_wp2_with fail
        go_quiet (fail)
        go_wp2_with fail
        go_roundw
        case rel => exact ⟨q + 1, by omega, by go_num, _, rfl⟩
        case measure => simp [intOf]; omega
      · obtain rfl : q = P.length := by omega
        go_wp2_with fail
        go_ret
        exact ⟨rfl, HB4.out.trans ⟨rfl, rfl, rfl, Nat.le_refl _, fun _ _ => rfl⟩⟩

theorem labelTucker_walk (a : Nat → Addr) (n : Int) (xs : List Int) (v : Value) (w : World) (hS : Sents w a) (hv : IntsAt w v xs)
    (hwf : ∀ i, -9223372036854775808 ≤ xs.getD i 0 ∧ xs.getD i 0 ≤ 9223372036854775807) : Calls Tryd.prog 4 #[.int .i64 n, v] w (TruePost w) := by
  have hv' := hv
  obtain ⟨p, cap, rfl, -, hnone, -⟩ := hv
  rcases (show 300 < xs.length ∨ xs.length ≤ 300 by omega) with h | h
  · exact law_long n p xs.length cap w h
  · obtain ⟨c, k, hV⟩ := verdict n xs
    cases p with
    | some ad => exact law_some a n xs ad cap c k w hS hv' h hwf hV
    | none =>
      obtain rfl := hnone rfl
      have hx : xs = [] := by
        rcases hv'.cases with ⟨h, -⟩ | ⟨-, b, off, cc, h, -⟩
        · exact h
        · cases h
      subst hx
      exact law_nil a n c k w hS hV
end Go.Proofs.YtnijedeopnjklaaDoor
