/-
  The walk of the law LabelSperner.
-/
import Derived.Test.YtnijedeopnjklaaGreatDoorSpM
import Derived.Laws.AppendOwnNone
namespace Go.Proofs.YtnijedeopnjklaaGreatDoor
open Go Go.RowKit Sper

theorem ints_of_owns {w : World} {B n : Nat} {v : Value} {xs : List Int} (h : w.ownsRow B 3 1 v n (intVs xs)) (hn : n = xs.length) : IntsAt w v xs := by
  subst hn
  rcases Joins.ownsRow_forms h with ⟨rfl, h0⟩ | ⟨g, cap, rfl⟩
  · obtain rfl : xs = [] := List.length_eq_zero_iff.1 h0
    exact IntsAt.nil w
  · have hadd : ∀ b j, (⟨b, 0, none⟩ : Addr).add j = ⟨b, j, none⟩ := fun b j => by unfold Addr.add; split <;> simp_all
    have hcap : xs.length ≤ cap := by
      rcases h.2 with ⟨he, _⟩ | ⟨g', cap', cur, he, _, _, hle, _⟩
      · cases he
      · cases he; exact hle
    refine ⟨_, cap, rfl, hcap, (fun e => by cases e), fun i hi => ⟨g, 0, rfl, ?_⟩⟩
    have := h.cells (g := g) rfl i (.int .i64 (xs.getD i 0)) (by simp [intVs, List.getElem?_eq_getElem hi, List.getD_eq_getElem?_getD])
    rw [hadd] at this
    rw [Nat.zero_add]; exact this
theorem blk_keep {w w' : World} {b : Nat} {o : Obj} (h : w.heap[b]? = some o) (hb : Below w.heap.size w w') : w'.heap[b]? = some o := by
  rw [hb.block b (Array.getElem?_eq_some_iff.1 h).1]; exact h
theorem src_cells {w : World} {ad : Addr} {cap : Nat} {xs : List Int} (hv : IntsAt w (.slice (some ad) xs.length cap) xs) : ∀ j u, (intVs xs)[j]? = some u → w.cell? (ad.add j) = some u := fun j u hu => by
  have hj : j < xs.length := by
    have := (List.getElem?_eq_some_iff.1 hu).1
    simpa [intVs] using this
  obtain ⟨p, cc, he, -, -, hcells⟩ := hv
  obtain ⟨b, off, e1, e2⟩ := hcells j hj
  cases he
  cases e1
  have e3 : (⟨b, off, none⟩ : Addr).add j = ⟨b, off + j, none⟩ := by unfold Addr.add; split <;> simp_all
  rw [e3, e2]
  simp [intVs, List.getElem?_eq_getElem hj] at hu
  rw [← hu]
  simp [List.getD_eq_getElem?_getD, List.getElem?_eq_getElem hj]
theorem src_below {w w' : World} {ad : Addr} {xs : List Int} {B : Nat} (h : ∀ j u, (intVs xs)[j]? = some u → w.cell? (ad.add j) = some u) (hb : Below B w w') (hB : w.heap.size ≤ B) :
    ∀ j u, (intVs xs)[j]? = some u → w'.cell? (ad.add j) = some u := fun j u hu => by
  rw [hb.cell (Nat.lt_of_lt_of_le (mem_lt (h j u hu)) hB)]; exact h j u hu
theorem sent_err {a : Nat → Addr} {w : World} : ErrAt a w (.iface 146 (.pointer (some (a 1)))) 2 (-1) := Or.inr (Or.inl ⟨1, by decide, rfl, rfl, rfl⟩)

set_option maxRecDepth 100000 in
set_option maxHeartbeats 4000000 in
theorem law_long (n : Int) (p : Option Addr) (len cap : Nat) (w : World) (h : 200 < len) : Calls Tryz.prog 3 #[.int .i64 n, .slice p len cap] w (TruePost w) := by
  have d1 : decide ((200 : Int) < (len : Int)) = true := decide_eq_true (by omega)
  have d2 : decide (200 < len) = true := decide_eq_true h
  clear h
  go_enter Tryz.func3, Tryz.ntmps3
  go_wp2_with fail
  refine (corner_any _).mono ?_
  rintro e w1 ⟨rfl, hb⟩
  go_wp2_with fail
  go_ret
  exact ⟨rfl, hb⟩


theorem fullTo_le (L : List (Nat × Nat × Nat)) (xs : List Int) (m : Nat) : (fullTo L xs m).length ≤ m := by
  unfold fullTo
  rw [List.length_map]
  have := List.length_filter_le (fun t => isFull (labF xs) (tri L t)) (List.range m)
  simpa using this
theorem walk_small {n : Nat} (hn1 : 1 ≤ n) (hn : n ≤ 12) {lab : Nat → Int} {T : Nat → Nat} {E : Nat → Nat × Nat} {K : Nat} (w : Walk (house (smallL n) (ptsL n) (rim n) lab (chk_all n hn1 hn)) T E K) : K + 1 ≤ 1000000000000 := by
  have h := w.short (N := (smallL n).length) (fun t e h => h.1)
  have := raw_len n hn
  omega


set_option maxRecDepth 100000 in
set_option maxHeartbeats 16000000 in
theorem law_out_nil (a : Nat → Addr) (n : Int) (c k : Int) (w : World) (hout : n < 1 ∨ 12 < n) (hv : IntsAt w (.slice none 0 0) ([] : List Int)) (xs : List Int) (hx : xs = []) (hV : LV n xs c k) (hc : c ≠ 0) (hpc : 0 < c) (hS : Sents w a) : Calls Tryz.prog 3 #[.int .i64 n, .slice none 0 0] w (TruePost w) := by
  subst hx
  have l1 : decide ((200 : Int) < (0 : Int)) = false := rfl
  have l2 : decide (200 < 0) = false := rfl
  have d3 : decide (n < 1) = true ∨ (decide (n < 1) = false ∧ decide (12 < n) = true) := by
    rcases (show n < 1 ∨ (1 ≤ n ∧ 12 < n) by omega) with h | ⟨h1, h2⟩
    · exact Or.inl (decide_eq_true h)
    · exact Or.inr ⟨decide_eq_false (by omega), decide_eq_true h2⟩
  have HOUT := Lib.hid hout
  have HV := Lib.hid hV
  have HZ := Lib.hid hc
  have HDC := Lib.hid (show decide (0 < c) = true from decide_eq_true hpc)
  have HI := Lib.hid hv
  clear hout hV hc hpc
  clear hv
  go_enter Tryz.func3, Tryz.ntmps3
  go_wp2_with fail
  refine (corner_any _).mono ?_
  rintro e w1 ⟨rfl, hb1⟩
  have HB1 := Lib.hid hb1
  have hS1 := hS.below hb1 (Nat.le_refl _)
  clear hb1
  go_wp2_with fail
  refine (points_bad a n _ hS1 HOUT.out).mono ?_
  rintro e w2 ⟨rfl, hb2⟩
  have HB2 := Lib.hid (HB1.out.trans (hb2.mono HB1.out.size))
  have hS2 := hS1.below hb2 (Nat.le_refl _)
  clear hb2 hS1
  go_wp2_with fail
  refine (small_bad a n _ hS2 HOUT.out).mono ?_
  rintro e w3 ⟨rfl, hb3⟩
  have HB3 := Lib.hid (HB2.out.trans (hb3.mono HB2.out.size))
  have hS3 := hS2.below hb3 (Nat.le_refl _)
  clear hb3 hS2
  rcases d3 with d3 | ⟨d3, d4⟩
  all_goals
    go_wp2_with fail
    refine (coded_yes a _ 2 (-1) 2 _ hS3 sent_err ⟨rfl, rfl⟩).mono ?_
    rintro e w4 ⟨rfl, hb4⟩
    have HB4 := Lib.hid (HB3.out.trans (hb4.mono HB3.out.size))
    have hS4 := hS3.below hb4 (Nat.le_refl _)
    clear hb4
    go_wp2_with fail
    refine (coded_yes a _ 2 (-1) 2 _ hS4 sent_err ⟨rfl, rfl⟩).mono ?_
    rintro e wt ⟨rfl, hb5⟩
    have HBT := Lib.hid (HB4.out.trans (hb5.mono HB4.out.size))
    have hST := hS4.below hb5 (Nat.le_refl _)
    clear hb5 hS4 hS3 d3
    go_wp2_with fail
    refine (lf_any _ [] _ c k _ (HI.out.below HBT.out (Nat.le_refl _)) HV.out).mono ?_
    rintro e w7 ⟨rfl, hb7⟩
    have HB7 := Lib.hid (HBT.out.trans (hb7.mono HBT.out.size))
    have hS7 := hST.below hb7 (Nat.le_refl _)
    clear hb7 hST
    go_upto_region 18 with (fail)
    obtain ⟨w8, hw8⟩ : ∃ w8, w8 = w7.alloc (.cells #[.int .i64 c, .int .i64 k] 38) := ⟨_, rfl⟩
    rw [← hw8]
    have hb8 : Below w7.heap.size w7 w8 := by rw [hw8]; exact (Below.refl _ _).alloc (Nat.le_refl _) _
    have HF8 := Lib.hid (show w8.heap[w7.heap.size]? = some (.cells #[.int .i64 c, .int .i64 k] 38 (0, 0)) by rw [hw8]; exact heap_alloc_new w7 _)
    have HB8 := Lib.hid (HB7.out.trans (hb8.mono HB7.out.size))
    have hS8 := hS7.below hb8 (Nat.le_refl _)
    clear hw8 hb8 hS7
    have hbc8 : Below w8.heap.size w8 (w8.alloc (.cells #[] 3)) := (Below.refl _ _).alloc (Nat.le_refl _) _
    have hSc8 := hS8.below hbc8 (Nat.le_refl _)
    have HBC8 := Lib.hid (HB8.out.trans (hbc8.mono HB8.out.size))
    have HFC8 := Lib.hid (blk_keep HF8.out hbc8)
    clear hbc8 hS8
    go_wp2_with fail
    refine (check_any a _ [] _ c k _ hSc8 (IntsAt.new w8 [] 3) HV.out).mono ?_
    rintro e w9 ⟨err, rfl, hb9, hE9⟩
    have HB9 := Lib.hid (HBC8.out.trans (hb9.mono HBC8.out.size))
    have hS9 := hSc8.below hb9 (Nat.le_refl _)
    have HF9 := Lib.hid (blk_keep HFC8.out hb9)
    clear hb9 hSc8
    have hbc9 : Below w9.heap.size w9 (w9.alloc (.cells #[] 3)) := (Below.refl _ _).alloc (Nat.le_refl _) _
    have hSc9 := hS9.below hbc9 (Nat.le_refl _)
    have HBC9 := Lib.hid (HB9.out.trans (hbc9.mono HB9.out.size))
    have HFC9 := Lib.hid (blk_keep HF9.out hbc9)
    clear hbc9 hS9
    go_wp2_with fail
    refine (full_bad a _ [] _ c k _ hSc9 (IntsAt.new w9 [] 3) HV.out HZ.out).mono ?_
    rintro e w10 ⟨bad, rfl, hb10, hE10⟩
    have HB10 := Lib.hid (HBC9.out.trans (hb10.mono HBC9.out.size))
    have hS10 := hSc9.below hb10 (Nat.le_refl _)
    have HF10 := Lib.hid (blk_keep HFC9.out hb10)
    have hE9b := (hE9.below ((Below.refl _ _).alloc (Nat.le_refl _) (.cells #[] 3)) (Nat.le_refl _)).below hb10 (Nat.le_refl _)
    clear hb10 hSc9 hE9
    have hbc10 : Below w10.heap.size w10 (w10.alloc (.cells #[] 3)) := (Below.refl _ _).alloc (Nat.le_refl _) _
    have hSc10 := hS10.below hbc10 (Nat.le_refl _)
    have HBC10 := Lib.hid (HB10.out.trans (hbc10.mono HB10.out.size))
    have HFC10 := Lib.hid (blk_keep HF10.out hbc10)
    clear hbc10 hS10
    go_wp2_with fail
    refine (walk_bad a _ [] _ c k _ hSc10 (IntsAt.new w10 [] 3) HV.out HZ.out).mono ?_
    rintro e w11 ⟨worse, rfl, hb11, hE11⟩
    have HB11 := Lib.hid (HBC10.out.trans (hb11.mono HBC10.out.size))
    have hS11 := hSc10.below hb11 (Nat.le_refl _)
    have HF11 := Lib.hid (blk_keep HFC10.out hb11)
    have hE9c := (hE9b.below ((Below.refl _ _).alloc (Nat.le_refl _) (.cells #[] 3)) (Nat.le_refl _)).below hb11 (Nat.le_refl _)
    have hE10c := (hE10.below ((Below.refl _ _).alloc (Nat.le_refl _) (.cells #[] 3)) (Nat.le_refl _)).below hb11 (Nat.le_refl _)
    clear hb11 hSc10 hE9b hE10
    have hf11 := two_at HF11.out
    obtain ⟨hfa11, hfb11, -, -⟩ := hf11
    go_wp2_with fail
    refine (faulted_any a _ c k c k _ hS11 hE9c).mono ?_
    rintro e w12 ⟨rfl, hb12⟩
    rw [show decide (c = c ∧ (c = 0 ∨ k = k)) = true from by simp]
    have HB12 := Lib.hid (HB11.out.trans (hb12.mono HB11.out.size))
    have hS12 := hS11.below hb12 (Nat.le_refl _)
    have HF12 := Lib.hid (blk_keep HF11.out hb12)
    have hE10d := hE10c.below hb12 (Nat.le_refl _)
    have hE11d := hE11.below hb12 (Nat.le_refl _)
    clear hb12 hS11 hE9c hE10c hE11 hfa11 hfb11
    have hf12 := two_at HF12.out
    obtain ⟨hfa12, hfb12, -, -⟩ := hf12
    go_wp2_with fail
    refine (faulted_any a _ c k c k _ hS12 hE10d).mono ?_
    rintro e w13 ⟨rfl, hb13⟩
    rw [show decide (c = c ∧ (c = 0 ∨ k = k)) = true from by simp]
    have HB13 := Lib.hid (HB12.out.trans (hb13.mono HB12.out.size))
    have hS13 := hS12.below hb13 (Nat.le_refl _)
    have HF13 := Lib.hid (blk_keep HF12.out hb13)
    have hE11e := hE11d.below hb13 (Nat.le_refl _)
    clear hb13 hS12 hE10d hE11d hfa12 hfb12
    have hf13 := two_at HF13.out
    obtain ⟨hfa13, hfb13, -, -⟩ := hf13
    go_wp2_with fail
    refine (faulted_any a _ c k c k _ hS13 hE11e).mono ?_
    rintro e w14 ⟨rfl, hb14⟩
    rw [show decide (c = c ∧ (c = 0 ∨ k = k)) = true from by simp]
    have HB14 := Lib.hid (HB13.out.trans (hb14.mono HB13.out.size))
    have hS14 := hS13.below hb14 (Nat.le_refl _)
    have HF14 := Lib.hid (blk_keep HF13.out hb14)
    clear hb14 hS13 hE11e hfa13 hfb13
    obtain ⟨hfa, hfb, -, -⟩ := two_at HF14.out
    have dc : decide (0 < c) = true := HDC.out
    go_wp2_with fail
    go_ret
    exact ⟨rfl, HB14.out⟩


set_option maxRecDepth 100000 in
set_option maxHeartbeats 16000000 in
theorem law_out_some (a : Nat → Addr) (n : Int) (xs : List Int) (ad : Addr) (cap : Nat) (c k : Int) (w : World) (hout : n < 1 ∨ 12 < n) (hv : IntsAt w (.slice (some ad) xs.length cap) xs) (hlen : xs.length ≤ 200) (hV : LV n xs c k) (hc : c ≠ 0) (hpc : 0 < c) (hS : Sents w a) : Calls Tryz.prog 3 #[.int .i64 n, .slice (some ad) xs.length cap] w (TruePost w) := by
  obtain ⟨i3, hi3, hz30, hz31, hz32⟩ := info_parts Tryz.info3
  have l1 : decide ((200 : Int) < (xs.length : Int)) = false := decide_eq_false (by omega)
  have l2 : decide (200 < xs.length) = false := decide_eq_false (by omega)
  have d3 : decide (n < 1) = true ∨ (decide (n < 1) = false ∧ decide (12 < n) = true) := by
    rcases (show n < 1 ∨ (1 ≤ n ∧ 12 < n) by omega) with h | ⟨h1, h2⟩
    · exact Or.inl (decide_eq_true h)
    · exact Or.inr ⟨decide_eq_false (by omega), decide_eq_true h2⟩
  have HOUT := Lib.hid hout
  have HV := Lib.hid hV
  have HZ := Lib.hid hc
  have HDC := Lib.hid (show decide (0 < c) = true from decide_eq_true hpc)
  have HI := Lib.hid hv
  clear hout hV hc hpc
  have HN := Lib.hid (src_cells hv)
  clear hv
  go_enter Tryz.func3, Tryz.ntmps3
  go_wp2_with fail
  refine (corner_any _).mono ?_
  rintro e w1 ⟨rfl, hb1⟩
  have HB1 := Lib.hid hb1
  have hS1 := hS.below hb1 (Nat.le_refl _)
  clear hb1
  go_wp2_with fail
  refine (points_bad a n _ hS1 HOUT.out).mono ?_
  rintro e w2 ⟨rfl, hb2⟩
  have HB2 := Lib.hid (HB1.out.trans (hb2.mono HB1.out.size))
  have hS2 := hS1.below hb2 (Nat.le_refl _)
  clear hb2 hS1
  go_wp2_with fail
  refine (small_bad a n _ hS2 HOUT.out).mono ?_
  rintro e w3 ⟨rfl, hb3⟩
  have HB3 := Lib.hid (HB2.out.trans (hb3.mono HB2.out.size))
  have hS3 := hS2.below hb3 (Nat.le_refl _)
  clear hb3 hS2
  rcases d3 with d3 | ⟨d3, d4⟩
  all_goals
    go_wp2_with fail
    refine (coded_yes a _ 2 (-1) 2 _ hS3 sent_err ⟨rfl, rfl⟩).mono ?_
    rintro e w4 ⟨rfl, hb4⟩
    have HB4 := Lib.hid (HB3.out.trans (hb4.mono HB3.out.size))
    have hS4 := hS3.below hb4 (Nat.le_refl _)
    clear hb4
    go_wp2_with fail
    refine (coded_yes a _ 2 (-1) 2 _ hS4 sent_err ⟨rfl, rfl⟩).mono ?_
    rintro e wt ⟨rfl, hb5⟩
    have HBT := Lib.hid (HB4.out.trans (hb5.mono HB4.out.size))
    have hST := hS4.below hb5 (Nat.le_refl _)
    clear hb5 hS4 hS3 d3
    go_wp2_with fail
    refine (lf_any _ xs _ c k _ (HI.out.below HBT.out (Nat.le_refl _)) HV.out).mono ?_
    rintro e w7 ⟨rfl, hb7⟩
    have HB7 := Lib.hid (HBT.out.trans (hb7.mono HBT.out.size))
    have hS7 := hST.below hb7 (Nat.le_refl _)
    clear hb7 hST
    go_upto_region 18 with (fail)
    obtain ⟨w8, hw8⟩ : ∃ w8, w8 = w7.alloc (.cells #[.int .i64 c, .int .i64 k] 38) := ⟨_, rfl⟩
    rw [← hw8]
    have hb8 : Below w7.heap.size w7 w8 := by rw [hw8]; exact (Below.refl _ _).alloc (Nat.le_refl _) _
    have HF8 := Lib.hid (show w8.heap[w7.heap.size]? = some (.cells #[.int .i64 c, .int .i64 k] 38 (0, 0)) by rw [hw8]; exact heap_alloc_new w7 _)
    have HB8 := Lib.hid (HB7.out.trans (hb8.mono HB7.out.size))
    have hS8 := hS7.below hb8 (Nat.le_refl _)
    clear hw8 hb8 hS7
    have hbn8 : Below w8.heap.size w8 (w8.alloc (.cells #[] 3)) := (Below.refl _ _).alloc (Nat.le_refl _) _
    have HN8 := Lib.hid (src_below HN.out (HB8.out.trans (hbn8.mono HB8.out.size)) (Nat.le_refl _))
    have hsz8 := HB8.out.size
    clear hbn8
    go_wp2_with (
      at_builtin
      go_must (refine wpList_append_own _ rfl _ _ 22 rfl w8.heap.size 3 i3 (.int .i64 0) 1 8 Tryz.underlying22 hi3 hz30 hz31 hz32 rfl (by decide) _ 0 [] rfl (World.ownsRow_made w8 #[] 0 (Nat.le_refl _) (by decide) rfl) ad xs.length cap (intVs xs) rfl (by simp [intVs]) HN8.out (fun u hu => by simp [intVs] at hu; obtain ⟨z, -, rfl⟩ := hu; rfl) (by unfold maxLen; omega) (by omega) (by simp) ?_)
      intro v8 wc8 hown8 hgr8 _
      have hbc8 : Below w8.heap.size w8 wc8 := ((Below.refl _ _).alloc (Nat.le_refl _) _).grown hgr8 (by simp) (fun j hj => by cases hj; exact Nat.le_refl _)
      have hown8' : wc8.ownsRow w8.heap.size 3 1 v8 xs.length (intVs xs) := by simpa using hown8
      have hIc8 : IntsAt wc8 v8 xs := ints_of_owns hown8' rfl
      have HOWN8 := Lib.hid hown8'
      have hSc8 := hS8.below hbc8 (Nat.le_refl _)
      have HBC8 := Lib.hid (HB8.out.trans (hbc8.mono HB8.out.size))
      have HFC8 := Lib.hid (blk_keep HF8.out hbc8)
      clear hown8 hown8' hgr8 hbc8 hS8 hsz8)
    refine (check_any a _ xs v8 c k _ hSc8 hIc8 HV.out).mono ?_
    rintro e w9 ⟨err, rfl, hb9, hE9⟩
    have HB9 := Lib.hid (HBC8.out.trans (hb9.mono HBC8.out.size))
    have hS9 := hSc8.below hb9 (Nat.le_refl _)
    have HF9 := Lib.hid (blk_keep HFC8.out hb9)
    clear hb9 hSc8
    have hbn9 : Below w9.heap.size w9 (w9.alloc (.cells #[] 3)) := (Below.refl _ _).alloc (Nat.le_refl _) _
    have HN9 := Lib.hid (src_below HN.out (HB9.out.trans (hbn9.mono HB9.out.size)) (Nat.le_refl _))
    have hsz9 := HB9.out.size
    clear hbn9
    go_wp2_with (
      at_builtin
      go_must (refine wpList_append_own _ rfl _ _ 22 rfl w9.heap.size 3 i3 (.int .i64 0) 1 8 Tryz.underlying22 hi3 hz30 hz31 hz32 rfl (by decide) _ 0 [] rfl (World.ownsRow_made w9 #[] 0 (Nat.le_refl _) (by decide) rfl) ad xs.length cap (intVs xs) rfl (by simp [intVs]) HN9.out (fun u hu => by simp [intVs] at hu; obtain ⟨z, -, rfl⟩ := hu; rfl) (by unfold maxLen; omega) (by omega) (by simp) ?_)
      intro v9 wc9 hown9 hgr9 _
      have hbc9 : Below w9.heap.size w9 wc9 := ((Below.refl _ _).alloc (Nat.le_refl _) _).grown hgr9 (by simp) (fun j hj => by cases hj; exact Nat.le_refl _)
      have hown9' : wc9.ownsRow w9.heap.size 3 1 v9 xs.length (intVs xs) := by simpa using hown9
      have hIc9 : IntsAt wc9 v9 xs := ints_of_owns hown9' rfl
      have HOWN9 := Lib.hid hown9'
      have hSc9 := hS9.below hbc9 (Nat.le_refl _)
      have HBC9 := Lib.hid (HB9.out.trans (hbc9.mono HB9.out.size))
      have HFC9 := Lib.hid (blk_keep HF9.out hbc9)
      have hbE9 := hbc9
      clear hown9 hown9' hgr9 hbc9 hS9 hsz9)
    refine (full_bad a _ xs v9 c k _ hSc9 hIc9 HV.out HZ.out).mono ?_
    rintro e w10 ⟨bad, rfl, hb10, hE10⟩
    have HB10 := Lib.hid (HBC9.out.trans (hb10.mono HBC9.out.size))
    have hS10 := hSc9.below hb10 (Nat.le_refl _)
    have HF10 := Lib.hid (blk_keep HFC9.out hb10)
    have hE9b := (hE9.below hbE9 (Nat.le_refl _)).below hb10 (Nat.le_refl _)
    clear hb10 hSc9 hE9 hbE9
    have hbn10 : Below w10.heap.size w10 (w10.alloc (.cells #[] 3)) := (Below.refl _ _).alloc (Nat.le_refl _) _
    have HN10 := Lib.hid (src_below HN.out (HB10.out.trans (hbn10.mono HB10.out.size)) (Nat.le_refl _))
    have hsz10 := HB10.out.size
    clear hbn10
    go_wp2_with (
      at_builtin
      go_must (refine wpList_append_own _ rfl _ _ 22 rfl w10.heap.size 3 i3 (.int .i64 0) 1 8 Tryz.underlying22 hi3 hz30 hz31 hz32 rfl (by decide) _ 0 [] rfl (World.ownsRow_made w10 #[] 0 (Nat.le_refl _) (by decide) rfl) ad xs.length cap (intVs xs) rfl (by simp [intVs]) HN10.out (fun u hu => by simp [intVs] at hu; obtain ⟨z, -, rfl⟩ := hu; rfl) (by unfold maxLen; omega) (by omega) (by simp) ?_)
      intro v10 wc10 hown10 hgr10 _
      have hbc10 : Below w10.heap.size w10 wc10 := ((Below.refl _ _).alloc (Nat.le_refl _) _).grown hgr10 (by simp) (fun j hj => by cases hj; exact Nat.le_refl _)
      have hown10' : wc10.ownsRow w10.heap.size 3 1 v10 xs.length (intVs xs) := by simpa using hown10
      have hIc10 : IntsAt wc10 v10 xs := ints_of_owns hown10' rfl
      have HOWN10 := Lib.hid hown10'
      have hSc10 := hS10.below hbc10 (Nat.le_refl _)
      have HBC10 := Lib.hid (HB10.out.trans (hbc10.mono HB10.out.size))
      have HFC10 := Lib.hid (blk_keep HF10.out hbc10)
      have hbE10 := hbc10
      clear hown10 hown10' hgr10 hbc10 hS10 hsz10)
    refine (walk_bad a _ xs v10 c k _ hSc10 hIc10 HV.out HZ.out).mono ?_
    rintro e w11 ⟨worse, rfl, hb11, hE11⟩
    have HB11 := Lib.hid (HBC10.out.trans (hb11.mono HBC10.out.size))
    have hS11 := hSc10.below hb11 (Nat.le_refl _)
    have HF11 := Lib.hid (blk_keep HFC10.out hb11)
    have hE9c := (hE9b.below hbE10 (Nat.le_refl _)).below hb11 (Nat.le_refl _)
    have hE10c := (hE10.below hbE10 (Nat.le_refl _)).below hb11 (Nat.le_refl _)
    clear hb11 hSc10 hE9b hE10 hbE10
    have hf11 := two_at HF11.out
    obtain ⟨hfa11, hfb11, -, -⟩ := hf11
    go_wp2_with fail
    refine (faulted_any a _ c k c k _ hS11 hE9c).mono ?_
    rintro e w12 ⟨rfl, hb12⟩
    rw [show decide (c = c ∧ (c = 0 ∨ k = k)) = true from by simp]
    have HB12 := Lib.hid (HB11.out.trans (hb12.mono HB11.out.size))
    have hS12 := hS11.below hb12 (Nat.le_refl _)
    have HF12 := Lib.hid (blk_keep HF11.out hb12)
    have hE10d := hE10c.below hb12 (Nat.le_refl _)
    have hE11d := hE11.below hb12 (Nat.le_refl _)
    clear hb12 hS11 hE9c hE10c hE11 hfa11 hfb11
    have hf12 := two_at HF12.out
    obtain ⟨hfa12, hfb12, -, -⟩ := hf12
    go_wp2_with fail
    refine (faulted_any a _ c k c k _ hS12 hE10d).mono ?_
    rintro e w13 ⟨rfl, hb13⟩
    rw [show decide (c = c ∧ (c = 0 ∨ k = k)) = true from by simp]
    have HB13 := Lib.hid (HB12.out.trans (hb13.mono HB12.out.size))
    have hS13 := hS12.below hb13 (Nat.le_refl _)
    have HF13 := Lib.hid (blk_keep HF12.out hb13)
    have hE11e := hE11d.below hb13 (Nat.le_refl _)
    clear hb13 hS12 hE10d hE11d hfa12 hfb12
    have hf13 := two_at HF13.out
    obtain ⟨hfa13, hfb13, -, -⟩ := hf13
    go_wp2_with fail
    refine (faulted_any a _ c k c k _ hS13 hE11e).mono ?_
    rintro e w14 ⟨rfl, hb14⟩
    rw [show decide (c = c ∧ (c = 0 ∨ k = k)) = true from by simp]
    have HB14 := Lib.hid (HB13.out.trans (hb14.mono HB13.out.size))
    have hS14 := hS13.below hb14 (Nat.le_refl _)
    have HF14 := Lib.hid (blk_keep HF13.out hb14)
    clear hb14 hS13 hE11e hfa13 hfb13
    obtain ⟨hfa, hfb, -, -⟩ := two_at HF14.out
    have dc : decide (0 < c) = true := HDC.out
    go_wp2_with fail
    go_ret
    exact ⟨rfl, HB14.out⟩


set_option maxRecDepth 100000 in
set_option maxHeartbeats 16000000 in
theorem law_in_nil (a : Nat → Addr) (n : Nat) (hn1 : 1 ≤ n) (hn : n ≤ 12) (c k : Int) (w : World) (hv : IntsAt w (.slice none 0 0) ([] : List Int)) (xs : List Int) (hx : xs = []) (hV : LV n xs c k) (hc : c ≠ 0) (hpc : 0 < c) (hS : Sents w a) : Calls Tryz.prog 3 #[.int .i64 (n : Int), .slice none 0 0] w (TruePost w) := by
  subst hx
  have l1 : decide ((200 : Int) < (0 : Int)) = false := rfl
  have l2 : decide (200 < 0) = false := rfl
  have d3 : decide ((n : Int) < 1) = false := decide_eq_false (by omega)
  have d4 : decide (12 < (n : Int)) = false := decide_eq_false (by omega)
  have hpos := small_pos n
  have hsl := raw_len n hn
  have HV := Lib.hid hV
  have HI := Lib.hid hv
  have HZ := Lib.hid hc
  have HDC := Lib.hid (show decide (0 < c) = true from decide_eq_true hpc)
  clear hV hc hpc
  clear hv
  go_enter Tryz.func3, Tryz.ntmps3
  go_wp2_with fail
  refine (corner_any _).mono ?_
  rintro e w1 ⟨rfl, hb1⟩
  have HB1 := Lib.hid hb1
  have hS1 := hS.below hb1 (Nat.le_refl _)
  clear hb1
  go_wp2_with fail
  refine (points_good n hn1 hn _).mono ?_
  rintro e w2 ⟨rfl, hb2⟩
  have HB2 := Lib.hid (HB1.out.trans (hb2.mono HB1.out.size))
  have hS2 := hS1.below hb2 (Nat.le_refl _)
  clear hb2 hS1
  go_wp2_with fail
  refine (small2_any n hn1 hn _).mono ?_
  rintro e w3 ⟨vs, rfl, hb3, ho⟩
  obtain ⟨g, cL, rfl⟩ := Joins.ownsRow_form ho hpos
  have HB3 := Lib.hid (HB2.out.trans (hb3.mono HB2.out.size))
  have hS3 := hS2.below hb3 (Nat.le_refl _)
  have HO := Lib.hid ho
  clear hb3 hS2 ho
  go_wp2_with fail
  refine (smallOf_any n hn1 hn _).mono ?_
  rintro e w4 ⟨va, rfl, hb4, hR⟩
  have HB4 := Lib.hid (HB3.out.trans (hb4.mono HB3.out.size))
  have hS4 := hS3.below hb4 (Nat.le_refl _)
  have HO4 := Lib.hid (owns_keep (w' := w4) HO.out fun j hj => hb4.block j (HO.out.lt j hj).2)
  obtain ⟨g2, c2, -, -, rfl, -⟩ := rows_tri hR 0 hpos
  have HR := Lib.hid hR
  clear hb4 hS3 hR HO
  go_wp2_with fail
  refine (spots_nat n hn _).mono ?_
  rintro e w5 ⟨vp, rfl, hb5, hp⟩
  obtain ⟨g3, c3, rfl⟩ := Joins.ownsRow_form hp (pts_pos n)
  have HB5 := Lib.hid (HB4.out.trans (hb5.mono HB4.out.size))
  have hS5 := hS4.below hb5 (Nat.le_refl _)
  have HO5 := Lib.hid (owns_keep (w' := w5) HO4.out fun j hj => hb5.block j (HO4.out.lt j hj).2)
  have HR5 := Lib.hid (HR.out.below hb5 (Nat.le_refl _))
  clear hb5 hS4 hp HO4 HR
  go_wp2_with fail
  go_loopw [11] (fun i wr => ∃ q : Nat, q ≤ (smallL n).length ∧ i = .int .i64 q ∧ ∃ z, wr = w5.drewN z) (fun i _ => (smallL n).length - (intOf i).toNat)
  case atStart => exact ⟨0, Nat.zero_le _, rfl, 0, rfl⟩
  case round =>
    obtain ⟨q, hq, rfl, z, rfl⟩ := hrel
    by_cases hqs : q < (smallL n).length
    · obtain ⟨c0, c1, c2⟩ := tri_cells HO5.out q hqs
      obtain ⟨g', cap', gi, ci, hv, e0, e3, e1, e2, e4⟩ := rows_tri HR5.out q hqs
      cases hv
      generalize tri (smallL n) q = pp at c0 c1 c2 e1 e2 e4
      go_wp2_with fail
      go_quiet (fail)
      go_wp2_with fail
      go_roundw
      case rel => exact ⟨q + 1, by omega, by go_num, _, rfl⟩
      case measure => simp [intOf]; omega
    · obtain rfl : q = (smallL n).length := by omega
      obtain ⟨wt, hwt⟩ : ∃ wt, wt = w5.drewN z := ⟨_, rfl⟩
      have hb6 : Below w5.heap.size w5 wt := by rw [hwt]; exact ⟨rfl, rfl, rfl, Nat.le_refl _, fun _ _ => rfl⟩
      rw [← hwt]
      have HBT := Lib.hid (HB5.out.trans (hb6.mono HB5.out.size))
      have hST := hS5.below hb6 (Nat.le_refl _)
      clear hwt hb6 hS5
      go_wp2_with fail
      refine (lf_any _ [] _ c k _ (HI.out.below HBT.out (Nat.le_refl _)) HV.out).mono ?_
      rintro e w7 ⟨rfl, hb7⟩
      have HB7 := Lib.hid (HBT.out.trans (hb7.mono HBT.out.size))
      have hS7 := hST.below hb7 (Nat.le_refl _)
      clear hb7 hST
      go_upto_region 18 with (fail)
      obtain ⟨w8, hw8⟩ : ∃ w8, w8 = w7.alloc (.cells #[.int .i64 c, .int .i64 k] 38) := ⟨_, rfl⟩
      rw [← hw8]
      have hb8 : Below w7.heap.size w7 w8 := by rw [hw8]; exact (Below.refl _ _).alloc (Nat.le_refl _) _
      have HF8 := Lib.hid (show w8.heap[w7.heap.size]? = some (.cells #[.int .i64 c, .int .i64 k] 38 (0, 0)) by rw [hw8]; exact heap_alloc_new w7 _)
      have HB8 := Lib.hid (HB7.out.trans (hb8.mono HB7.out.size))
      have hS8 := hS7.below hb8 (Nat.le_refl _)
      clear hw8 hb8 hS7
      have hbc8 : Below w8.heap.size w8 (w8.alloc (.cells #[] 3)) := (Below.refl _ _).alloc (Nat.le_refl _) _
      have hSc8 := hS8.below hbc8 (Nat.le_refl _)
      have HBC8 := Lib.hid (HB8.out.trans (hbc8.mono HB8.out.size))
      have HFC8 := Lib.hid (blk_keep HF8.out hbc8)
      clear hbc8 hS8
      go_wp2_with fail
      refine (check_any a _ [] _ c k _ hSc8 (IntsAt.new w8 [] 3) HV.out).mono ?_
      rintro e w9 ⟨err, rfl, hb9, hE9⟩
      have HB9 := Lib.hid (HBC8.out.trans (hb9.mono HBC8.out.size))
      have hS9 := hSc8.below hb9 (Nat.le_refl _)
      have HF9 := Lib.hid (blk_keep HFC8.out hb9)
      clear hb9 hSc8
      have hbc9 : Below w9.heap.size w9 (w9.alloc (.cells #[] 3)) := (Below.refl _ _).alloc (Nat.le_refl _) _
      have hSc9 := hS9.below hbc9 (Nat.le_refl _)
      have HBC9 := Lib.hid (HB9.out.trans (hbc9.mono HB9.out.size))
      have HFC9 := Lib.hid (blk_keep HF9.out hbc9)
      clear hbc9 hS9
      go_wp2_with fail
      refine (full_bad a _ [] _ c k _ hSc9 (IntsAt.new w9 [] 3) HV.out HZ.out).mono ?_
      rintro e w10 ⟨bad, rfl, hb10, hE10⟩
      have HB10 := Lib.hid (HBC9.out.trans (hb10.mono HBC9.out.size))
      have hS10 := hSc9.below hb10 (Nat.le_refl _)
      have HF10 := Lib.hid (blk_keep HFC9.out hb10)
      have hE9b := (hE9.below ((Below.refl _ _).alloc (Nat.le_refl _) (.cells #[] 3)) (Nat.le_refl _)).below hb10 (Nat.le_refl _)
      clear hb10 hSc9 hE9
      have hbc10 : Below w10.heap.size w10 (w10.alloc (.cells #[] 3)) := (Below.refl _ _).alloc (Nat.le_refl _) _
      have hSc10 := hS10.below hbc10 (Nat.le_refl _)
      have HBC10 := Lib.hid (HB10.out.trans (hbc10.mono HB10.out.size))
      have HFC10 := Lib.hid (blk_keep HF10.out hbc10)
      clear hbc10 hS10
      go_wp2_with fail
      refine (walk_bad a _ [] _ c k _ hSc10 (IntsAt.new w10 [] 3) HV.out HZ.out).mono ?_
      rintro e w11 ⟨worse, rfl, hb11, hE11⟩
      have HB11 := Lib.hid (HBC10.out.trans (hb11.mono HBC10.out.size))
      have hS11 := hSc10.below hb11 (Nat.le_refl _)
      have HF11 := Lib.hid (blk_keep HFC10.out hb11)
      have hE9c := (hE9b.below ((Below.refl _ _).alloc (Nat.le_refl _) (.cells #[] 3)) (Nat.le_refl _)).below hb11 (Nat.le_refl _)
      have hE10c := (hE10.below ((Below.refl _ _).alloc (Nat.le_refl _) (.cells #[] 3)) (Nat.le_refl _)).below hb11 (Nat.le_refl _)
      clear hb11 hSc10 hE9b hE10
      have hf11 := two_at HF11.out
      obtain ⟨hfa11, hfb11, -, -⟩ := hf11
      go_wp2_with fail
      refine (faulted_any a _ c k c k _ hS11 hE9c).mono ?_
      rintro e w12 ⟨rfl, hb12⟩
      rw [show decide (c = c ∧ (c = 0 ∨ k = k)) = true from by simp]
      have HB12 := Lib.hid (HB11.out.trans (hb12.mono HB11.out.size))
      have hS12 := hS11.below hb12 (Nat.le_refl _)
      have HF12 := Lib.hid (blk_keep HF11.out hb12)
      have hE10d := hE10c.below hb12 (Nat.le_refl _)
      have hE11d := hE11.below hb12 (Nat.le_refl _)
      clear hb12 hS11 hE9c hE10c hE11 hfa11 hfb11
      have hf12 := two_at HF12.out
      obtain ⟨hfa12, hfb12, -, -⟩ := hf12
      go_wp2_with fail
      refine (faulted_any a _ c k c k _ hS12 hE10d).mono ?_
      rintro e w13 ⟨rfl, hb13⟩
      rw [show decide (c = c ∧ (c = 0 ∨ k = k)) = true from by simp]
      have HB13 := Lib.hid (HB12.out.trans (hb13.mono HB12.out.size))
      have hS13 := hS12.below hb13 (Nat.le_refl _)
      have HF13 := Lib.hid (blk_keep HF12.out hb13)
      have hE11e := hE11d.below hb13 (Nat.le_refl _)
      clear hb13 hS12 hE10d hE11d hfa12 hfb12
      have hf13 := two_at HF13.out
      obtain ⟨hfa13, hfb13, -, -⟩ := hf13
      go_wp2_with fail
      refine (faulted_any a _ c k c k _ hS13 hE11e).mono ?_
      rintro e w14 ⟨rfl, hb14⟩
      rw [show decide (c = c ∧ (c = 0 ∨ k = k)) = true from by simp]
      have HB14 := Lib.hid (HB13.out.trans (hb14.mono HB13.out.size))
      have hS14 := hS13.below hb14 (Nat.le_refl _)
      have HF14 := Lib.hid (blk_keep HF13.out hb14)
      clear hb14 hS13 hE11e hfa13 hfb13
      obtain ⟨hfa, hfb, -, -⟩ := two_at HF14.out
      have dc : decide (0 < c) = true := HDC.out
      go_wp2_with fail
      go_ret
      exact ⟨rfl, HB14.out⟩


set_option maxRecDepth 100000 in
set_option maxHeartbeats 16000000 in
theorem law_in_some (a : Nat → Addr) (n : Nat) (hn1 : 1 ≤ n) (hn : n ≤ 12) (xs : List Int) (ad : Addr) (cap : Nat) (c k : Int) (w : World) (hv : IntsAt w (.slice (some ad) xs.length cap) xs) (hlen : xs.length ≤ 200) (hV : LV n xs c k) (hc : c ≠ 0) (hpc : 0 < c) (hS : Sents w a) : Calls Tryz.prog 3 #[.int .i64 (n : Int), .slice (some ad) xs.length cap] w (TruePost w) := by
  obtain ⟨i3, hi3, hz30, hz31, hz32⟩ := info_parts Tryz.info3
  have l1 : decide ((200 : Int) < (xs.length : Int)) = false := decide_eq_false (by omega)
  have l2 : decide (200 < xs.length) = false := decide_eq_false (by omega)
  have d3 : decide ((n : Int) < 1) = false := decide_eq_false (by omega)
  have d4 : decide (12 < (n : Int)) = false := decide_eq_false (by omega)
  have hpos := small_pos n
  have hsl := raw_len n hn
  have HV := Lib.hid hV
  have HI := Lib.hid hv
  have HZ := Lib.hid hc
  have HDC := Lib.hid (show decide (0 < c) = true from decide_eq_true hpc)
  clear hV hc hpc
  have HN := Lib.hid (src_cells hv)
  clear hv
  go_enter Tryz.func3, Tryz.ntmps3
  go_wp2_with fail
  refine (corner_any _).mono ?_
  rintro e w1 ⟨rfl, hb1⟩
  have HB1 := Lib.hid hb1
  have hS1 := hS.below hb1 (Nat.le_refl _)
  clear hb1
  go_wp2_with fail
  refine (points_good n hn1 hn _).mono ?_
  rintro e w2 ⟨rfl, hb2⟩
  have HB2 := Lib.hid (HB1.out.trans (hb2.mono HB1.out.size))
  have hS2 := hS1.below hb2 (Nat.le_refl _)
  clear hb2 hS1
  go_wp2_with fail
  refine (small2_any n hn1 hn _).mono ?_
  rintro e w3 ⟨vs, rfl, hb3, ho⟩
  obtain ⟨g, cL, rfl⟩ := Joins.ownsRow_form ho hpos
  have HB3 := Lib.hid (HB2.out.trans (hb3.mono HB2.out.size))
  have hS3 := hS2.below hb3 (Nat.le_refl _)
  have HO := Lib.hid ho
  clear hb3 hS2 ho
  go_wp2_with fail
  refine (smallOf_any n hn1 hn _).mono ?_
  rintro e w4 ⟨va, rfl, hb4, hR⟩
  have HB4 := Lib.hid (HB3.out.trans (hb4.mono HB3.out.size))
  have hS4 := hS3.below hb4 (Nat.le_refl _)
  have HO4 := Lib.hid (owns_keep (w' := w4) HO.out fun j hj => hb4.block j (HO.out.lt j hj).2)
  obtain ⟨g2, c2, -, -, rfl, -⟩ := rows_tri hR 0 hpos
  have HR := Lib.hid hR
  clear hb4 hS3 hR HO
  go_wp2_with fail
  refine (spots_nat n hn _).mono ?_
  rintro e w5 ⟨vp, rfl, hb5, hp⟩
  obtain ⟨g3, c3, rfl⟩ := Joins.ownsRow_form hp (pts_pos n)
  have HB5 := Lib.hid (HB4.out.trans (hb5.mono HB4.out.size))
  have hS5 := hS4.below hb5 (Nat.le_refl _)
  have HO5 := Lib.hid (owns_keep (w' := w5) HO4.out fun j hj => hb5.block j (HO4.out.lt j hj).2)
  have HR5 := Lib.hid (HR.out.below hb5 (Nat.le_refl _))
  clear hb5 hS4 hp HO4 HR
  go_wp2_with fail
  go_loopw [11] (fun i wr => ∃ q : Nat, q ≤ (smallL n).length ∧ i = .int .i64 q ∧ ∃ z, wr = w5.drewN z) (fun i _ => (smallL n).length - (intOf i).toNat)
  case atStart => exact ⟨0, Nat.zero_le _, rfl, 0, rfl⟩
  case round =>
    obtain ⟨q, hq, rfl, z, rfl⟩ := hrel
    by_cases hqs : q < (smallL n).length
    · obtain ⟨c0, c1, c2⟩ := tri_cells HO5.out q hqs
      obtain ⟨g', cap', gi, ci, hv, e0, e3, e1, e2, e4⟩ := rows_tri HR5.out q hqs
      cases hv
      generalize tri (smallL n) q = pp at c0 c1 c2 e1 e2 e4
      go_wp2_with fail
      go_quiet (fail)
      go_wp2_with fail
      go_roundw
      case rel => exact ⟨q + 1, by omega, by go_num, _, rfl⟩
      case measure => simp [intOf]; omega
    · obtain rfl : q = (smallL n).length := by omega
      obtain ⟨wt, hwt⟩ : ∃ wt, wt = w5.drewN z := ⟨_, rfl⟩
      have hb6 : Below w5.heap.size w5 wt := by rw [hwt]; exact ⟨rfl, rfl, rfl, Nat.le_refl _, fun _ _ => rfl⟩
      rw [← hwt]
      have HBT := Lib.hid (HB5.out.trans (hb6.mono HB5.out.size))
      have hST := hS5.below hb6 (Nat.le_refl _)
      clear hwt hb6 hS5
      go_wp2_with fail
      refine (lf_any _ xs _ c k _ (HI.out.below HBT.out (Nat.le_refl _)) HV.out).mono ?_
      rintro e w7 ⟨rfl, hb7⟩
      have HB7 := Lib.hid (HBT.out.trans (hb7.mono HBT.out.size))
      have hS7 := hST.below hb7 (Nat.le_refl _)
      clear hb7 hST
      go_upto_region 18 with (fail)
      obtain ⟨w8, hw8⟩ : ∃ w8, w8 = w7.alloc (.cells #[.int .i64 c, .int .i64 k] 38) := ⟨_, rfl⟩
      rw [← hw8]
      have hb8 : Below w7.heap.size w7 w8 := by rw [hw8]; exact (Below.refl _ _).alloc (Nat.le_refl _) _
      have HF8 := Lib.hid (show w8.heap[w7.heap.size]? = some (.cells #[.int .i64 c, .int .i64 k] 38 (0, 0)) by rw [hw8]; exact heap_alloc_new w7 _)
      have HB8 := Lib.hid (HB7.out.trans (hb8.mono HB7.out.size))
      have hS8 := hS7.below hb8 (Nat.le_refl _)
      clear hw8 hb8 hS7
      have hbn8 : Below w8.heap.size w8 (w8.alloc (.cells #[] 3)) := (Below.refl _ _).alloc (Nat.le_refl _) _
      have HN8 := Lib.hid (src_below HN.out (HB8.out.trans (hbn8.mono HB8.out.size)) (Nat.le_refl _))
      have hsz8 := HB8.out.size
      clear hbn8
      go_wp2_with (
        at_builtin
        go_must (refine wpList_append_own _ rfl _ _ 22 rfl w8.heap.size 3 i3 (.int .i64 0) 1 8 Tryz.underlying22 hi3 hz30 hz31 hz32 rfl (by decide) _ 0 [] rfl (World.ownsRow_made w8 #[] 0 (Nat.le_refl _) (by decide) rfl) ad xs.length cap (intVs xs) rfl (by simp [intVs]) HN8.out (fun u hu => by simp [intVs] at hu; obtain ⟨z, -, rfl⟩ := hu; rfl) (by unfold maxLen; omega) (by omega) (by simp) ?_)
        intro v8 wc8 hown8 hgr8 _
        have hbc8 : Below w8.heap.size w8 wc8 := ((Below.refl _ _).alloc (Nat.le_refl _) _).grown hgr8 (by simp) (fun j hj => by cases hj; exact Nat.le_refl _)
        have hown8' : wc8.ownsRow w8.heap.size 3 1 v8 xs.length (intVs xs) := by simpa using hown8
        have hIc8 : IntsAt wc8 v8 xs := ints_of_owns hown8' rfl
        have HOWN8 := Lib.hid hown8'
        have hSc8 := hS8.below hbc8 (Nat.le_refl _)
        have HBC8 := Lib.hid (HB8.out.trans (hbc8.mono HB8.out.size))
        have HFC8 := Lib.hid (blk_keep HF8.out hbc8)
        clear hown8 hown8' hgr8 hbc8 hS8 hsz8)
      refine (check_any a _ xs v8 c k _ hSc8 hIc8 HV.out).mono ?_
      rintro e w9 ⟨err, rfl, hb9, hE9⟩
      have HB9 := Lib.hid (HBC8.out.trans (hb9.mono HBC8.out.size))
      have hS9 := hSc8.below hb9 (Nat.le_refl _)
      have HF9 := Lib.hid (blk_keep HFC8.out hb9)
      clear hb9 hSc8
      have hbn9 : Below w9.heap.size w9 (w9.alloc (.cells #[] 3)) := (Below.refl _ _).alloc (Nat.le_refl _) _
      have HN9 := Lib.hid (src_below HN.out (HB9.out.trans (hbn9.mono HB9.out.size)) (Nat.le_refl _))
      have hsz9 := HB9.out.size
      clear hbn9
      go_wp2_with (
        at_builtin
        go_must (refine wpList_append_own _ rfl _ _ 22 rfl w9.heap.size 3 i3 (.int .i64 0) 1 8 Tryz.underlying22 hi3 hz30 hz31 hz32 rfl (by decide) _ 0 [] rfl (World.ownsRow_made w9 #[] 0 (Nat.le_refl _) (by decide) rfl) ad xs.length cap (intVs xs) rfl (by simp [intVs]) HN9.out (fun u hu => by simp [intVs] at hu; obtain ⟨z, -, rfl⟩ := hu; rfl) (by unfold maxLen; omega) (by omega) (by simp) ?_)
        intro v9 wc9 hown9 hgr9 _
        have hbc9 : Below w9.heap.size w9 wc9 := ((Below.refl _ _).alloc (Nat.le_refl _) _).grown hgr9 (by simp) (fun j hj => by cases hj; exact Nat.le_refl _)
        have hown9' : wc9.ownsRow w9.heap.size 3 1 v9 xs.length (intVs xs) := by simpa using hown9
        have hIc9 : IntsAt wc9 v9 xs := ints_of_owns hown9' rfl
        have HOWN9 := Lib.hid hown9'
        have hSc9 := hS9.below hbc9 (Nat.le_refl _)
        have HBC9 := Lib.hid (HB9.out.trans (hbc9.mono HB9.out.size))
        have HFC9 := Lib.hid (blk_keep HF9.out hbc9)
        have hbE9 := hbc9
        clear hown9 hown9' hgr9 hbc9 hS9 hsz9)
      refine (full_bad a _ xs v9 c k _ hSc9 hIc9 HV.out HZ.out).mono ?_
      rintro e w10 ⟨bad, rfl, hb10, hE10⟩
      have HB10 := Lib.hid (HBC9.out.trans (hb10.mono HBC9.out.size))
      have hS10 := hSc9.below hb10 (Nat.le_refl _)
      have HF10 := Lib.hid (blk_keep HFC9.out hb10)
      have hE9b := (hE9.below hbE9 (Nat.le_refl _)).below hb10 (Nat.le_refl _)
      clear hb10 hSc9 hE9 hbE9
      have hbn10 : Below w10.heap.size w10 (w10.alloc (.cells #[] 3)) := (Below.refl _ _).alloc (Nat.le_refl _) _
      have HN10 := Lib.hid (src_below HN.out (HB10.out.trans (hbn10.mono HB10.out.size)) (Nat.le_refl _))
      have hsz10 := HB10.out.size
      clear hbn10
      go_wp2_with (
        at_builtin
        go_must (refine wpList_append_own _ rfl _ _ 22 rfl w10.heap.size 3 i3 (.int .i64 0) 1 8 Tryz.underlying22 hi3 hz30 hz31 hz32 rfl (by decide) _ 0 [] rfl (World.ownsRow_made w10 #[] 0 (Nat.le_refl _) (by decide) rfl) ad xs.length cap (intVs xs) rfl (by simp [intVs]) HN10.out (fun u hu => by simp [intVs] at hu; obtain ⟨z, -, rfl⟩ := hu; rfl) (by unfold maxLen; omega) (by omega) (by simp) ?_)
        intro v10 wc10 hown10 hgr10 _
        have hbc10 : Below w10.heap.size w10 wc10 := ((Below.refl _ _).alloc (Nat.le_refl _) _).grown hgr10 (by simp) (fun j hj => by cases hj; exact Nat.le_refl _)
        have hown10' : wc10.ownsRow w10.heap.size 3 1 v10 xs.length (intVs xs) := by simpa using hown10
        have hIc10 : IntsAt wc10 v10 xs := ints_of_owns hown10' rfl
        have HOWN10 := Lib.hid hown10'
        have hSc10 := hS10.below hbc10 (Nat.le_refl _)
        have HBC10 := Lib.hid (HB10.out.trans (hbc10.mono HB10.out.size))
        have HFC10 := Lib.hid (blk_keep HF10.out hbc10)
        have hbE10 := hbc10
        clear hown10 hown10' hgr10 hbc10 hS10 hsz10)
      refine (walk_bad a _ xs v10 c k _ hSc10 hIc10 HV.out HZ.out).mono ?_
      rintro e w11 ⟨worse, rfl, hb11, hE11⟩
      have HB11 := Lib.hid (HBC10.out.trans (hb11.mono HBC10.out.size))
      have hS11 := hSc10.below hb11 (Nat.le_refl _)
      have HF11 := Lib.hid (blk_keep HFC10.out hb11)
      have hE9c := (hE9b.below hbE10 (Nat.le_refl _)).below hb11 (Nat.le_refl _)
      have hE10c := (hE10.below hbE10 (Nat.le_refl _)).below hb11 (Nat.le_refl _)
      clear hb11 hSc10 hE9b hE10 hbE10
      have hf11 := two_at HF11.out
      obtain ⟨hfa11, hfb11, -, -⟩ := hf11
      go_wp2_with fail
      refine (faulted_any a _ c k c k _ hS11 hE9c).mono ?_
      rintro e w12 ⟨rfl, hb12⟩
      rw [show decide (c = c ∧ (c = 0 ∨ k = k)) = true from by simp]
      have HB12 := Lib.hid (HB11.out.trans (hb12.mono HB11.out.size))
      have hS12 := hS11.below hb12 (Nat.le_refl _)
      have HF12 := Lib.hid (blk_keep HF11.out hb12)
      have hE10d := hE10c.below hb12 (Nat.le_refl _)
      have hE11d := hE11.below hb12 (Nat.le_refl _)
      clear hb12 hS11 hE9c hE10c hE11 hfa11 hfb11
      have hf12 := two_at HF12.out
      obtain ⟨hfa12, hfb12, -, -⟩ := hf12
      go_wp2_with fail
      refine (faulted_any a _ c k c k _ hS12 hE10d).mono ?_
      rintro e w13 ⟨rfl, hb13⟩
      rw [show decide (c = c ∧ (c = 0 ∨ k = k)) = true from by simp]
      have HB13 := Lib.hid (HB12.out.trans (hb13.mono HB12.out.size))
      have hS13 := hS12.below hb13 (Nat.le_refl _)
      have HF13 := Lib.hid (blk_keep HF12.out hb13)
      have hE11e := hE11d.below hb13 (Nat.le_refl _)
      clear hb13 hS12 hE10d hE11d hfa12 hfb12
      have hf13 := two_at HF13.out
      obtain ⟨hfa13, hfb13, -, -⟩ := hf13
      go_wp2_with fail
      refine (faulted_any a _ c k c k _ hS13 hE11e).mono ?_
      rintro e w14 ⟨rfl, hb14⟩
      rw [show decide (c = c ∧ (c = 0 ∨ k = k)) = true from by simp]
      have HB14 := Lib.hid (HB13.out.trans (hb14.mono HB13.out.size))
      have hS14 := hS13.below hb14 (Nat.le_refl _)
      have HF14 := Lib.hid (blk_keep HF13.out hb14)
      clear hb14 hS13 hE11e hfa13 hfb13
      obtain ⟨hfa, hfb, -, -⟩ := two_at HF14.out
      have dc : decide (0 < c) = true := HDC.out
      go_wp2_with fail
      go_ret
      exact ⟨rfl, HB14.out⟩


set_option maxRecDepth 100000 in
set_option maxHeartbeats 16000000 in
theorem law_in_good (a : Nat → Addr) (n : Nat) (hn1 : 1 ≤ n) (hn : n ≤ 12) (xs : List Int) (lb lo cap : Nat) (c k : Int) (w : World) (hv : IntsAt w (.slice (some ⟨lb, lo, none⟩) xs.length cap) xs) (hlen : xs.length ≤ 200) (hV : LV n xs c k) (hc : c = 0) (hck : ∀ wx, ErrAt a wx .nilIface c k) (hxl : xs.length = (ptsL n).length) (hf : FineL (ptsL n) xs (ptsL n).length) (hcl : ∀ i, i < xs.length → w.cell? ⟨lb, lo + i, none⟩ = some (.int .i64 (xs.getD i 0))) (hS : Sents w a) : Calls Tryz.prog 3 #[.int .i64 (n : Int), .slice (some ⟨lb, lo, none⟩) xs.length cap] w (TruePost w) := by
  obtain ⟨i3, hi3, hz30, hz31, hz32⟩ := info_parts Tryz.info3
  have l1 : decide ((200 : Int) < (xs.length : Int)) = false := decide_eq_false (by omega)
  have l2 : decide (200 < xs.length) = false := decide_eq_false (by omega)
  have d3 : decide ((n : Int) < 1) = false := decide_eq_false (by omega)
  have d4 : decide (12 < (n : Int)) = false := decide_eq_false (by omega)
  have hpos := small_pos n
  have hsl := raw_len n hn
  have HV := Lib.hid hV
  have HI := Lib.hid hv
  have HC0 := Lib.hid hc
  have HCK := Lib.hid hck
  have HDC := Lib.hid (show decide (0 < c) = false from decide_eq_false (by omega))
  have HXL := Lib.hid hxl
  have HXP := Lib.hid (show 0 < xs.length from by rw [hxl]; exact pts_pos n)
  have HLAB := Lib.hid (fine_labels hf)
  have HGOOD := Lib.hid (good_some hn1 hn (fine_labels hf))
  have HCL := Lib.hid hcl
  have HFL := Lib.hid (show (fullTo (smallL n) xs (smallL n).length).length ≤ 1000000000000 from Nat.le_trans (fullTo_le _ _ _) (by omega))
  clear hV hc hck hxl hf hcl
  have HN := Lib.hid (src_cells hv)
  clear hv
  go_enter Tryz.func3, Tryz.ntmps3
  go_wp2_with fail
  refine (corner_any _).mono ?_
  rintro e w1 ⟨rfl, hb1⟩
  have HB1 := Lib.hid hb1
  have hS1 := hS.below hb1 (Nat.le_refl _)
  clear hb1
  go_wp2_with fail
  refine (points_good n hn1 hn _).mono ?_
  rintro e w2 ⟨rfl, hb2⟩
  have HB2 := Lib.hid (HB1.out.trans (hb2.mono HB1.out.size))
  have hS2 := hS1.below hb2 (Nat.le_refl _)
  clear hb2 hS1
  go_wp2_with fail
  refine (small2_any n hn1 hn _).mono ?_
  rintro e w3 ⟨vs, rfl, hb3, ho⟩
  obtain ⟨g, cL, rfl⟩ := Joins.ownsRow_form ho hpos
  have HB3 := Lib.hid (HB2.out.trans (hb3.mono HB2.out.size))
  have hS3 := hS2.below hb3 (Nat.le_refl _)
  have HO := Lib.hid ho
  clear hb3 hS2 ho
  go_wp2_with fail
  refine (smallOf_any n hn1 hn _).mono ?_
  rintro e w4 ⟨va, rfl, hb4, hR⟩
  have HB4 := Lib.hid (HB3.out.trans (hb4.mono HB3.out.size))
  have hS4 := hS3.below hb4 (Nat.le_refl _)
  have HO4 := Lib.hid (owns_keep (w' := w4) HO.out fun j hj => hb4.block j (HO.out.lt j hj).2)
  obtain ⟨g2, c2, -, -, rfl, -⟩ := rows_tri hR 0 hpos
  have HR := Lib.hid hR
  clear hb4 hS3 hR HO
  go_wp2_with fail
  refine (spots_nat n hn _).mono ?_
  rintro e w5 ⟨vp, rfl, hb5, hp⟩
  obtain ⟨g3, c3, rfl⟩ := Joins.ownsRow_form hp (pts_pos n)
  have HB5 := Lib.hid (HB4.out.trans (hb5.mono HB4.out.size))
  have hS5 := hS4.below hb5 (Nat.le_refl _)
  have HO5 := Lib.hid (owns_keep (w' := w5) HO4.out fun j hj => hb5.block j (HO4.out.lt j hj).2)
  have HR5 := Lib.hid (HR.out.below hb5 (Nat.le_refl _))
  clear hb5 hS4 hp HO4 HR
  go_wp2_with fail
  go_loopw [11] (fun i wr => ∃ q : Nat, q ≤ (smallL n).length ∧ i = .int .i64 q ∧ ∃ z, wr = w5.drewN z) (fun i _ => (smallL n).length - (intOf i).toNat)
  case atStart => exact ⟨0, Nat.zero_le _, rfl, 0, rfl⟩
  case round =>
    obtain ⟨q, hq, rfl, z, rfl⟩ := hrel
    by_cases hqs : q < (smallL n).length
    · obtain ⟨c0, c1, c2⟩ := tri_cells HO5.out q hqs
      obtain ⟨g', cap', gi, ci, hv, e0, e3, e1, e2, e4⟩ := rows_tri HR5.out q hqs
      cases hv
      generalize tri (smallL n) q = pp at c0 c1 c2 e1 e2 e4
      go_wp2_with fail
      go_quiet (fail)
      go_wp2_with fail
      go_roundw
      case rel => exact ⟨q + 1, by omega, by go_num, _, rfl⟩
      case measure => simp [intOf]; omega
    · obtain rfl : q = (smallL n).length := by omega
      obtain ⟨wt, hwt⟩ : ∃ wt, wt = w5.drewN z := ⟨_, rfl⟩
      have hb6 : Below w5.heap.size w5 wt := by rw [hwt]; exact ⟨rfl, rfl, rfl, Nat.le_refl _, fun _ _ => rfl⟩
      rw [← hwt]
      have HBT := Lib.hid (HB5.out.trans (hb6.mono HB5.out.size))
      have hST := hS5.below hb6 (Nat.le_refl _)
      clear hwt hb6 hS5
      go_wp2_with fail
      refine (lf_any _ xs _ c k _ (HI.out.below HBT.out (Nat.le_refl _)) HV.out).mono ?_
      rintro e w7 ⟨rfl, hb7⟩
      have HB7 := Lib.hid (HBT.out.trans (hb7.mono HBT.out.size))
      have hS7 := hST.below hb7 (Nat.le_refl _)
      clear hb7 hST
      go_upto_region 18 with (fail)
      obtain ⟨w8, hw8⟩ : ∃ w8, w8 = w7.alloc (.cells #[.int .i64 c, .int .i64 k] 38) := ⟨_, rfl⟩
      rw [← hw8]
      have hb8 : Below w7.heap.size w7 w8 := by rw [hw8]; exact (Below.refl _ _).alloc (Nat.le_refl _) _
      have HF8 := Lib.hid (show w8.heap[w7.heap.size]? = some (.cells #[.int .i64 c, .int .i64 k] 38 (0, 0)) by rw [hw8]; exact heap_alloc_new w7 _)
      have HB8 := Lib.hid (HB7.out.trans (hb8.mono HB7.out.size))
      have hS8 := hS7.below hb8 (Nat.le_refl _)
      clear hw8 hb8 hS7
      have hbn8 : Below w8.heap.size w8 (w8.alloc (.cells #[] 3)) := (Below.refl _ _).alloc (Nat.le_refl _) _
      have HN8 := Lib.hid (src_below HN.out (HB8.out.trans (hbn8.mono HB8.out.size)) (Nat.le_refl _))
      have hsz8 := HB8.out.size
      clear hbn8
      go_wp2_with (
        at_builtin
        go_must (refine wpList_append_own _ rfl _ _ 22 rfl w8.heap.size 3 i3 (.int .i64 0) 1 8 Tryz.underlying22 hi3 hz30 hz31 hz32 rfl (by decide) _ 0 [] rfl (World.ownsRow_made w8 #[] 0 (Nat.le_refl _) (by decide) rfl) ⟨lb, lo, none⟩ xs.length cap (intVs xs) rfl (by simp [intVs]) HN8.out (fun u hu => by simp [intVs] at hu; obtain ⟨z, -, rfl⟩ := hu; rfl) (by unfold maxLen; omega) (by omega) (by simp) ?_)
        intro v8 wc8 hown8 hgr8 _
        have hbc8 : Below w8.heap.size w8 wc8 := ((Below.refl _ _).alloc (Nat.le_refl _) _).grown hgr8 (by simp) (fun j hj => by cases hj; exact Nat.le_refl _)
        have hown8' : wc8.ownsRow w8.heap.size 3 1 v8 xs.length (intVs xs) := by simpa using hown8
        have hIc8 : IntsAt wc8 v8 xs := ints_of_owns hown8' rfl
        have HOWN8 := Lib.hid hown8'
        have hSc8 := hS8.below hbc8 (Nat.le_refl _)
        have HBC8 := Lib.hid (HB8.out.trans (hbc8.mono HB8.out.size))
        have HFC8 := Lib.hid (blk_keep HF8.out hbc8)
        clear hown8 hown8' hgr8 hbc8 hS8 hsz8)
      refine (check_any a _ xs v8 c k _ hSc8 hIc8 HV.out).mono ?_
      rintro e w9 ⟨err, rfl, hb9, hE9⟩
      have HB9 := Lib.hid (HBC8.out.trans (hb9.mono HBC8.out.size))
      have hS9 := hSc8.below hb9 (Nat.le_refl _)
      have HF9 := Lib.hid (blk_keep HFC8.out hb9)
      obtain rfl := hE9.zero HC0.out
      clear hb9 hSc8 hE9
      have hbn9 : Below w9.heap.size w9 (w9.alloc (.cells #[] 3)) := (Below.refl _ _).alloc (Nat.le_refl _) _
      have HN9 := Lib.hid (src_below HN.out (HB9.out.trans (hbn9.mono HB9.out.size)) (Nat.le_refl _))
      have hsz9 := HB9.out.size
      clear hbn9
      go_wp2_with (
        at_builtin
        go_must (refine wpList_append_own _ rfl _ _ 22 rfl w9.heap.size 3 i3 (.int .i64 0) 1 8 Tryz.underlying22 hi3 hz30 hz31 hz32 rfl (by decide) _ 0 [] rfl (World.ownsRow_made w9 #[] 0 (Nat.le_refl _) (by decide) rfl) ⟨lb, lo, none⟩ xs.length cap (intVs xs) rfl (by simp [intVs]) HN9.out (fun u hu => by simp [intVs] at hu; obtain ⟨z, -, rfl⟩ := hu; rfl) (by unfold maxLen; omega) (by omega) (by simp) ?_)
        intro v9 wc9 hown9 hgr9 _
        have hbc9 : Below w9.heap.size w9 wc9 := ((Below.refl _ _).alloc (Nat.le_refl _) _).grown hgr9 (by simp) (fun j hj => by cases hj; exact Nat.le_refl _)
        have hown9' : wc9.ownsRow w9.heap.size 3 1 v9 xs.length (intVs xs) := by simpa using hown9
        have hIc9 : IntsAt wc9 v9 xs := ints_of_owns hown9' rfl
        have HOWN9 := Lib.hid hown9'
        have hSc9 := hS9.below hbc9 (Nat.le_refl _)
        have HBC9 := Lib.hid (HB9.out.trans (hbc9.mono HB9.out.size))
        have HFC9 := Lib.hid (blk_keep HF9.out hbc9)
        clear hown9 hown9' hgr9 hbc9 hS9 hsz9)
      obtain ⟨gf, cf, rfl⟩ := Joins.ownsRow_form HOWN9.out HXP.out
      refine (full_ok n hn1 hn xs gf 0 cf _ HXL.out HLAB.out (fun i hi => by rw [Nat.zero_add]; exact int_cells2 HOWN9.out i hi)).mono ?_
      rintro e w10 ⟨vf, rfl, hb10, ho10⟩
      have HB10 := Lib.hid (HBC9.out.trans (hb10.mono HBC9.out.size))
      have hS10 := hSc9.below hb10 (Nat.le_refl _)
      have HF10 := Lib.hid (blk_keep HFC9.out hb10)
      have HOF := Lib.hid ho10
      clear hb10 hSc9 ho10 hIc9
      have hbn10 : Below w10.heap.size w10 (w10.alloc (.cells #[] 3)) := (Below.refl _ _).alloc (Nat.le_refl _) _
      have HN10 := Lib.hid (src_below HN.out (HB10.out.trans (hbn10.mono HB10.out.size)) (Nat.le_refl _))
      have hsz10 := HB10.out.size
      clear hbn10
      go_wp2_with (
        at_builtin
        go_must (refine wpList_append_own _ rfl _ _ 22 rfl w10.heap.size 3 i3 (.int .i64 0) 1 8 Tryz.underlying22 hi3 hz30 hz31 hz32 rfl (by decide) _ 0 [] rfl (World.ownsRow_made w10 #[] 0 (Nat.le_refl _) (by decide) rfl) ⟨lb, lo, none⟩ xs.length cap (intVs xs) rfl (by simp [intVs]) HN10.out (fun u hu => by simp [intVs] at hu; obtain ⟨z, -, rfl⟩ := hu; rfl) (by unfold maxLen; omega) (by omega) (by simp) ?_)
        intro v10 wc10 hown10 hgr10 _
        have hbc10 : Below w10.heap.size w10 wc10 := ((Below.refl _ _).alloc (Nat.le_refl _) _).grown hgr10 (by simp) (fun j hj => by cases hj; exact Nat.le_refl _)
        have hown10' : wc10.ownsRow w10.heap.size 3 1 v10 xs.length (intVs xs) := by simpa using hown10
        have hIc10 : IntsAt wc10 v10 xs := ints_of_owns hown10' rfl
        have HOWN10 := Lib.hid hown10'
        have hSc10 := hS10.below hbc10 (Nat.le_refl _)
        have HBC10 := Lib.hid (HB10.out.trans (hbc10.mono HB10.out.size))
        have HFC10 := Lib.hid (blk_keep HF10.out hbc10)
        have hbE10 := hbc10
        clear hown10 hown10' hgr10 hbc10 hS10 hsz10)
      obtain ⟨gw, cw, rfl⟩ := Joins.ownsRow_form HOWN10.out HXP.out
      have HOF10 := Lib.hid (owns_keep (w' := wc10) HOF.out fun j hj => hbE10.block j (HOF.out.lt j hj).2)
      refine (walk_ok n hn1 hn xs gw 0 cw _ HXL.out HLAB.out (fun i hi => by rw [Nat.zero_add]; exact int_cells2 HOWN10.out i hi) HGOOD.out).mono ?_
      rintro e w11 ⟨vw, T, E, K, i, rfl, hb11, ho11, hi1, hin, hW, hE0, hod, hno⟩
      have HB11 := Lib.hid (HBC10.out.trans (hb11.mono HBC10.out.size))
      have hS11 := hSc10.below hb11 (Nat.le_refl _)
      have HF11 := Lib.hid (blk_keep HFC10.out hb11)
      have HOF11 := Lib.hid (owns_keep (w' := w11) HOF10.out fun j hj => hb11.block j (HOF10.out.lt j hj).2)
      have HOW := Lib.hid ho11
      have HW := Lib.hid hW
      have HE0 := Lib.hid hE0
      have HOD := Lib.hid hod
      have HNO := Lib.hid hno
      clear hb11 hSc10 hbE10 hIc10 ho11 hW hE0 hod hno HOF HOF10
      have hf11 := two_at HF11.out
      obtain ⟨hfa11, hfb11, -, -⟩ := hf11
      go_wp2_with fail
      refine (faulted_any a _ c k c k _ hS11 (HCK.out _)).mono ?_
      rintro e w12 ⟨rfl, hb12⟩
      rw [show decide (c = c ∧ (c = 0 ∨ k = k)) = true from by simp]
      have HB12 := Lib.hid (HB11.out.trans (hb12.mono HB11.out.size))
      have hS12 := hS11.below hb12 (Nat.le_refl _)
      have HF12 := Lib.hid (blk_keep HF11.out hb12)
      have HOF12 := Lib.hid (owns_keep (w' := w12) HOF11.out fun j hj => hb12.block j (HOF11.out.lt j hj).2)
      have HOW12 := Lib.hid (owns_keep (w' := w12) HOW.out fun j hj => hb12.block j (HOW.out.lt j hj).2)
      clear hb12 hS11 hfa11 hfb11 HOF11 HOW
      have hf12 := two_at HF12.out
      obtain ⟨hfa12, hfb12, -, -⟩ := hf12
      go_wp2_with fail
      refine (faulted_any a _ c k c k _ hS12 (HCK.out _)).mono ?_
      rintro e w13 ⟨rfl, hb13⟩
      rw [show decide (c = c ∧ (c = 0 ∨ k = k)) = true from by simp]
      have HB13 := Lib.hid (HB12.out.trans (hb13.mono HB12.out.size))
      have hS13 := hS12.below hb13 (Nat.le_refl _)
      have HF13 := Lib.hid (blk_keep HF12.out hb13)
      have HOF13 := Lib.hid (owns_keep (w' := w13) HOF12.out fun j hj => hb13.block j (HOF12.out.lt j hj).2)
      have HOW13 := Lib.hid (owns_keep (w' := w13) HOW12.out fun j hj => hb13.block j (HOW12.out.lt j hj).2)
      clear hb13 hS12 hfa12 hfb12 HOF12 HOW12
      have hf13 := two_at HF13.out
      obtain ⟨hfa13, hfb13, -, -⟩ := hf13
      go_wp2_with fail
      refine (faulted_any a _ c k c k _ hS13 (HCK.out _)).mono ?_
      rintro e w14 ⟨rfl, hb14⟩
      rw [show decide (c = c ∧ (c = 0 ∨ k = k)) = true from by simp]
      have HB14 := Lib.hid (HB13.out.trans (hb14.mono HB13.out.size))
      have hS14 := hS13.below hb14 (Nat.le_refl _)
      have HF14 := Lib.hid (blk_keep HF13.out hb14)
      have HOF14 := Lib.hid (owns_keep (w' := w14) HOF13.out fun j hj => hb14.block j (HOF13.out.lt j hj).2)
      have HOW14 := Lib.hid (owns_keep (w' := w14) HOW13.out fun j hj => hb14.block j (HOW13.out.lt j hj).2)
      clear hb14 hS13 hfa13 hfb13 HOF13 HOW13
      obtain ⟨hfa, hfb, -, -⟩ := two_at HF14.out
      have dc : decide (0 < c) = false := HDC.out
      go_wp2_with fail
      refine (fullOf_ok n hn1 hn xs lb lo cap _ HXL.out HLAB.out (fun i hi => (HB14.out.cell (p := ⟨lb, lo + i, none⟩) (mem_lt (HCL.out i hi))).trans (HCL.out i hi))).mono ?_
      rintro e w15 ⟨vg, rfl, hb15, ho15⟩
      have HB15 := Lib.hid (HB14.out.trans (hb15.mono HB14.out.size))
      have HOW15 := Lib.hid (owns_keep (w' := w15) HOW14.out fun j hj => hb15.block j (HOW14.out.lt j hj).2)
      have hi1a := ints_of_owns (owns_keep (w' := w15) HOF14.out fun j hj => hb15.block j (HOF14.out.lt j hj).2) rfl
      have hi2a := ints_of_owns ho15 rfl
      clear hb15 ho15 HOF14 HOW14 dc hfa hfb
      go_wp2_with fail
      refine (sameInts_any _ _ _ _ _ hi1a hi2a HFL.out HFL.out).mono ?_
      rintro e w16 ⟨rfl, z16, hz16⟩
      have hb16 : Below w15.heap.size w15 w16 := by rw [hz16]; exact ⟨rfl, rfl, rfl, Nat.le_refl _, fun _ _ => rfl⟩
      have HB16 := Lib.hid (HB15.out.trans (hb16.mono HB15.out.size))
      have HOW16 := Lib.hid (owns_keep (w' := w16) HOW15.out fun j hj => hb16.block j (HOW15.out.lt j hj).2)
      rw [show decide (fullTo (smallL n) xs (smallL n).length = fullTo (smallL n) xs (smallL n).length) = true from decide_eq_true rfl]
      clear hz16 hb16 hi1a hi2a HOW15
      go_wp2_with fail
      refine (walkOf_ok n hn1 hn xs lb lo cap _ HXL.out HLAB.out (fun i hi => (HB16.out.cell (p := ⟨lb, lo + i, none⟩) (mem_lt (HCL.out i hi))).trans (HCL.out i hi)) HGOOD.out).mono ?_
      rintro e w17 ⟨vr, T', E', K', i', rfl, hb17, ho17, hi1', hin', hW', hE0', hod', hno'⟩
      have HB17 := Lib.hid (HB16.out.trans (hb17.mono HB16.out.size))
      have hl : ((List.range (K + 1)).map fun q => (T q : Int)) = (List.range (K' + 1)).map fun q => (T' q : Int) := walks_one hin hin' HW.out hW' HE0.out hE0' HOD.out hod' HNO.out hno'
      have hj1 : IntsAt w17 vw ((List.range (K + 1)).map fun q => (T q : Int)) := ints_of_owns (owns_keep (w' := w17) HOW16.out fun j hj => hb17.block j (HOW16.out.lt j hj).2) (by simp)
      have hj2 : IntsAt w17 vr ((List.range (K + 1)).map fun q => (T q : Int)) := by rw [hl]; exact ints_of_owns ho17 (by simp)
      have hkl : ((List.range (K + 1)).map fun q => (T q : Int)).length ≤ 1000000000000 := by
        rw [List.length_map, List.length_range]
        exact walk_small hn1 hn HW.out
      generalize ((List.range (K + 1)).map fun q => (T q : Int)) = LW at hj1 hj2 hkl
      clear hb17 ho17 hW' hE0' hod' hno' HOW16 HW HE0 HOD HNO hl hi1' hin'
      go_wp2_with fail
      refine (sameInts_any _ _ LW LW _ hj1 hj2 hkl hkl).mono ?_
      rintro e w18 ⟨rfl, z18, hz18⟩
      have hb18 : Below w17.heap.size w17 w18 := by rw [hz18]; exact ⟨rfl, rfl, rfl, Nat.le_refl _, fun _ _ => rfl⟩
      have HB18 := Lib.hid (HB17.out.trans (hb18.mono HB17.out.size))
      rw [show decide (LW = LW) = true from decide_eq_true rfl]
      clear hz18 hb18 hj1 hj2
      go_wp2_with fail
      go_ret
      exact ⟨rfl, HB18.out⟩


theorem labelSperner_walk (a : Nat → Addr) (n : Int) (xs : List Int) (v : Value) (w : World) (hS : Sents w a) (hv : IntsAt w v xs) : Calls Tryz.prog 3 #[.int .i64 n, v] w (TruePost w) := by
  have hv' := hv
  obtain ⟨p, cap, rfl, -, hnone, hcl⟩ := hv
  rcases (show 200 < xs.length ∨ xs.length ≤ 200 by omega) with h | h
  · exact law_long n p xs.length cap w h
  · obtain ⟨c, k, hV⟩ := lv n xs
    have hV' := hV
    have hnil : p = none → xs = [] ∧ cap = 0 := fun e => by
      subst e
      refine ⟨?_, hnone rfl⟩
      rcases Nat.eq_zero_or_pos xs.length with h0 | h0
      · exact List.length_eq_zero_iff.1 h0
      · obtain ⟨b, off, e, -⟩ := hcl 0 h0
        cases e
    rcases hV with ⟨hout, rfl, rfl⟩ | ⟨m, rfl, hm1, hm, h2⟩
    · cases p with
      | none =>
        obtain ⟨rfl, rfl⟩ := hnil rfl
        exact law_out_nil a n _ _ w hout hv' [] rfl hV' (by decide) (by decide) hS
      | some ad => exact law_out_some a n xs ad cap _ _ w hout hv' h hV' (by decide) (by decide) hS
    · have hc : (0 < c) ∨ (c = 0 ∧ k = -1 ∧ xs.length = (ptsL m).length ∧ FineL (ptsL m) xs (ptsL m).length) := by
        rcases h2 with ⟨-, rfl, -⟩ | ⟨hl, ⟨j, -, -, -, rfl, -⟩ | ⟨hf, h1, h3⟩⟩
        · exact Or.inl (by decide)
        · exact Or.inl (by decide)
        · exact Or.inr ⟨h1, h3, hl, hf⟩
      rcases hc with hc | ⟨rfl, rfl, hl, hf⟩
      · cases p with
        | none =>
          obtain ⟨rfl, rfl⟩ := hnil rfl
          exact law_in_nil a m hm1 hm c k w hv' [] rfl hV' (by omega) hc hS
        | some ad => exact law_in_some a m hm1 hm xs ad cap c k w hv' h hV' (by omega) hc hS
      · have h0 : 0 < xs.length := by rw [hl]; exact pts_pos m
        obtain ⟨lb, lo, rfl, -⟩ := hcl 0 h0
        refine law_in_good a m hm1 hm xs lb lo cap 0 (-1) w hv' h hV' rfl (fun wx => ErrAt.nil a wx) hl hf (fun i hi => ?_) hS
        obtain ⟨b, off, e1, e2⟩ := hcl i hi
        cases e1
        exact e2

end Go.Proofs.YtnijedeopnjklaaGreatDoor
