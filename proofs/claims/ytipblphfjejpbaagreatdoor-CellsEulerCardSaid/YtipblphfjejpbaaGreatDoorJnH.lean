/-
  Cone and Suspend by contracts; the law's made with an error of its own.
-/
import Derived.Test.YtipblphfjejpbaaGreatDoorJnG
set_option linter.unusedSimpArgs false
set_option linter.unusedVariables false
namespace Go.Proofs.YtipblphfjejpbaaGreatDoor
open Go Go.RowKit Go.Maps

/-! ### points -/
theorem allF_pts {L : List (List Int)} (hs : SortedF L) (h1 : ∀ l ∈ L, ∃ x, l = [x]) : allF L = L := (allF_sorted L).ext hs fun g => by
  rw [mem_allF]
  have hr : ∀ l ∈ L, Rise l := fun l hl => by obtain ⟨x, rfl⟩ := h1 l hl; exact List.pairwise_singleton _ _
  rw [isF_of_rise hr]
  constructor
  · rintro ⟨hne, l, hl, hs⟩
    obtain ⟨x, rfl⟩ := h1 l hl
    have h3 := hs.length_le
    have h4 := List.length_pos_iff.2 hne
    rw [hs.eq_of_length (by simp at h3 ⊢; omega)]
    exact hl
  · intro hg
    obtain ⟨x, rfl⟩ := h1 g hg
    exact ⟨by simp, [x], hg, List.Sublist.refl _⟩
theorem pts_right {L : List (List Int)} (hs : SortedF L) (h1 : ∀ l ∈ L, ∃ x, l = [x] ∧ 0 ≤ x ∧ x ≤ 99) (hn : L.length ≤ 600) : errX L = 0 ∧ allF L = L := by
  have hp : allF L = L := allF_pts hs fun l hl => (h1 l hl).imp fun x h => h.1
  have hc : errC L = 0 := errC_0 (fun l hl => by
    obtain ⟨x, rfl, h2, h3⟩ := h1 l hl
    exact ⟨by simp, List.pairwise_singleton _ _, fun y hy => by obtain rfl := List.mem_singleton.1 hy; exact ⟨h2, h3⟩⟩) (fun l hl => by
    obtain ⟨x, rfl, -⟩ := h1 l hl
    simp) (by rw [hp]; exact hn)
  have hm : L = madeF L := by
    unfold madeF facetsF
    rw [hp]
    refine (List.filter_eq_self.2 fun f hf => ?_).symm
    unfold isTop
    rw [Bool.not_eq_true', List.any_eq_false]
    intro g hg
    obtain ⟨x, rfl, -⟩ := h1 f hf
    obtain ⟨y, rfl, -⟩ := h1 g hg
    simp
  refine ⟨?_, hp⟩
  unfold errX
  rw [if_pos hc, if_pos hm]
def pt1 : List (List Int) := [[0]]
def pt2 : List (List Int) := [[0], [1]]
theorem pt1_right : errX pt1 = 0 ∧ allF pt1 = pt1 := pts_right (List.pairwise_singleton _ _) (fun l hl => ⟨0, List.mem_singleton.1 hl, by decide, by decide⟩) (by decide)
theorem pt2_right : errX pt2 = 0 ∧ allF pt2 = pt2 := pts_right (List.pairwise_cons.2 ⟨fun g hg => by rw [List.mem_singleton.1 hg]; decide, List.pairwise_singleton _ _⟩) (fun l hl => by
  rcases List.mem_cons.1 hl with rfl | hl
  · exact ⟨0, rfl, by decide, by decide⟩
  · exact ⟨1, List.mem_singleton.1 hl, by decide, by decide⟩) (by decide)
theorem errJ_pts {L K : List (List Int)} (h : errX K = 0) : errJ L K = errX L := by
  unfold errJ
  by_cases h1 : errX L = 0
  · rw [if_pos h1, h, h1]
  · rw [if_neg h1]
theorem cone_G {L K : List (List Int)} (h : errX K = 0 ∧ allF K = K) : errG (errX L) (joinP L K) = errG (errX L) (joinR (allE L) K) := by
  unfold errG
  by_cases h1 : errX L = 0
  · rw [if_pos h1, if_pos h1, allE_ok h1, (join_right h1 h.1).1, h.2]
  · rw [if_neg h1, if_neg h1]
theorem cone_M {L K : List (List Int)} (h : errX K = 0 ∧ allF K = K) (h1 : errX L = 0) : madeF (joinP L K) = madeF (joinR (allE L) K) := by
  rw [allE_ok h1, (join_right h1 h.1).2, h.2]

/-! ### the law's made -/
set_option maxHeartbeats 4000000 in
theorem lmadeG_any (B f : Nat) (M : List (List Int)) (v : Value) (w : World) (hB : B ≤ w.heap.size) (hv : ListsIn B w v M) (hn : M.length ≤ 100000) (hl : ∀ l ∈ M, l.length ≤ 100000) :
    Calls Tryz.prog 42 #[v, .int .i64 (f : Int)] w (MadeU B (errG f M) M w) := by
  have HM := Lib.hid (made_any B M v w hB hv hn hl)
  unfold MadePost at HM
  unfold MadeU
  clear hB hv hn hl
  by_cases hz : f = 0
  · have HE : Hid (errG f M = errC M) := by unfold Hid errG; rw [if_pos hz]
    rw [HE.out]
    subst hz
    clear HE
    generalize errC M = c at HM ⊢
    go_enter Tryz.func42, Tryz.ntmps42
    go_wp2_with fail
    refine HM.out.mono ?_
    rintro e w1 ⟨v1, rfl, hb, hv1, -⟩
    have HB := Lib.hid hb
    have HV1 := Lib.hid hv1
    clear hb hv1
    go_wp2_with fail
    go_ret2
    exact ⟨v1, rfl, HB.out, HV1.out⟩
  · have hp : 0 < f := by omega
    have HE : Hid (errG f M = f) := by unfold Hid errG; rw [if_neg hz]
    rw [HE.out]
    have q1 : decide ((0 : Int) < (f : Int)) = true := decide_eq_true (by omega)
    have q2 : decide (0 < f) = true := decide_eq_true hp
    have HZ := Lib.hid hz
    clear hz HE HM
    go_enter Tryz.func42, Tryz.ntmps42
    go_wp2_with fail
    go_ret2
    exact ⟨_, rfl, Below.refl _ _, fun h => absurd h HZ.out⟩

theorem one_lit {B : Nat} (w : World) : ListsIn B ((w.alloc (.cells #[.int .i64 0] 3)).alloc (.cells #[.slice (some ⟨w.heap.size, 0, none⟩) 1 1] 26)) (.slice (some ⟨w.heap.size + 1, 0, none⟩) 1 1) pt1 := by
  have h1 := ints_lit B w [0]
  have h := lists_lit B _ pt1 [.slice (some ⟨w.heap.size, 0, none⟩) 1 1] rfl (fun i hi => by
    match i, hi with
    | 0, _ => exact h1
    | n + 1, hi => exact absurd hi (by simp [pt1]))
  rw [lit_size] at h
  exact h
theorem two_lit {B : Nat} (w : World) : ListsIn B (((w.alloc (.cells #[.int .i64 0] 3)).alloc (.cells #[.int .i64 1] 3)).alloc (.cells #[.slice (some ⟨w.heap.size, 0, none⟩) 1 1, .slice (some ⟨w.heap.size + 1, 0, none⟩) 1 1] 26)) (.slice (some ⟨w.heap.size + 1 + 1, 0, none⟩) 2 2) pt2 := by
  have h1 := (ints_lit B w [0]).below (lit_below _ (.cells (intVs [1]).toArray 3)) (Nat.le_refl _)
  have h2 := ints_lit B (w.alloc (.cells (intVs [0]).toArray 3)) [1]
  rw [lit_size] at h2
  have h := lists_lit B _ pt2 [.slice (some ⟨w.heap.size, 0, none⟩) 1 1, .slice (some ⟨w.heap.size + 1, 0, none⟩) 1 1] rfl (fun i hi => by
    match i, hi with
    | 0, _ => exact h1
    | 1, _ => exact h2
    | n + 2, hi => exact absurd hi (by simp [pt2]))
  rw [lit_size, lit_size] at h
  exact h

set_option maxRecDepth 100000 in
set_option maxHeartbeats 16000000 in
theorem cone_any (a : Nat → Addr) (B : Nat) (L : List (List Int)) (v : Value) (w : World) (hS : Sents w a) (hB : B ≤ w.heap.size) (hv : ListsIn B w v L) (hn : L.length ≤ 300) (hl : ∀ l ∈ L, l.length ≤ 100) :
    Calls Tryz.prog 27 #[.agg #[v]] w (SetsP a B (errG (errX L) (joinP L pt1)) (joinP L pt1) w) := by
  obtain ⟨pv, cv, hve, -⟩ := id hv
  obtain ⟨n, hLn⟩ : ∃ n, L.length = n := ⟨_, rfl⟩
  rw [hLn] at hve
  subst hve
  obtain ⟨w0, hw0⟩ : ∃ w0, w0 = (w.alloc (.cells #[.slice pv n cv] 34)).alloc (.cells #[.slice none 0 0] 34) := ⟨_, rfl⟩
  have hb0 : Below w.heap.size w w0 := by rw [hw0]; exact ((Below.refl _ _).alloc (Nat.le_refl _) _).alloc (by simp) _
  have hs0 : w0.heap.size = w.heap.size + 1 + 1 := by rw [hw0]; simp
  have hk1 : w0.heap[w.heap.size + 1]? = some (.cells #[.slice none 0 0] 34 (0, 0)) := by
    rw [hw0]
    have h := heap_alloc_new (w.alloc (.cells #[.slice pv n cv] 34)) (.cells #[.slice none 0 0] 34)
    rw [lit_size] at h
    exact h
  have hk : ListsIn B _ _ pt1 := one_lit w0
  rw [hs0] at hk
  obtain ⟨wj, hwj⟩ : ∃ wj, wj = (w0.alloc (.cells #[.int .i64 0] 3)).alloc (.cells #[.slice (some ⟨w.heap.size + 1 + 1, 0, none⟩) 1 1] 26) := ⟨_, rfl⟩
  have hb1 : Below w0.heap.size w0 wj := by rw [hwj]; exact ((Below.refl _ _).alloc (Nat.le_refl _) _).alloc (by simp) _
  have hkj : ListsIn B wj (.slice (some ⟨w.heap.size + 1 + 1 + 1, 0, none⟩) 1 1) pt1 := by rw [hwj]; exact hk
  have HBJ := Lib.hid (hb0.trans (hb1.mono hb0.size))
  have HKJ := Lib.hid ((hb1.block _ (Array.getElem?_eq_some_iff.1 hk1).1).trans hk1)
  have HJ := Lib.hid (join_any a B L pt1 (.slice pv n cv) (.slice (some ⟨w.heap.size + 1 + 1 + 1, 0, none⟩) 1 1) wj ((hS.below hb0 (Nat.le_refl _)).below hb1 (Nat.le_refl _)) (Nat.le_trans hB HBJ.out.size) ((hv.below hb0 (Nat.le_refl _)).below hb1 (Nat.le_refl _)) hkj hn hl (by decide) (by decide))
  rw [errJ_pts pt1_right.1] at HJ
  unfold SetsP at HJ
  rw [hw0] at hwj
  have HWJ := Lib.hid hwj
  have HBB := Lib.hid hB
  have hltj := (Array.getElem?_eq_some_iff.1 HKJ.out).1
  unfold SetsP
  obtain ⟨er, her⟩ : ∃ er, errG (errX L) (joinP L pt1) = er := ⟨_, rfl⟩
  obtain ⟨M, hM⟩ : ∃ M, joinP L pt1 = M := ⟨_, rfl⟩
  rw [her] at HJ ⊢
  rw [hM] at HJ ⊢
  clear hS hB hv hn hl hb0 hs0 hk1 hk hb1 hkj hw0 hwj her hM hLn
  go_enter Tryz.func27, Tryz.ntmps27
  go_wp2_with fail
  rw [← HWJ.out]
  refine HJ.out.mono ?_
  rintro e w5 ⟨hb5, ⟨h0, p5, c5, rfl, hR5⟩ | ⟨k, hk, hek, rfl⟩⟩
  · have hk5 := (hb5.block _ hltj).trans HKJ.out
    obtain ⟨s5, hs5⟩ : ∃ s5, (madeF M).length = s5 := ⟨_, rfl⟩
    rw [hs5] at hR5 ⊢
    have HS5 := Lib.hid hs5
    have HE := Lib.hid h0
    have HB5 := Lib.hid (HBJ.out.trans (hb5.mono HBJ.out.size))
    have d0 := (one_at hk5).1
    have f0 := (one_at hk5).2
    have R0 := Lib.hid (one_set (v := .slice p5 s5 c5) hk5)
    have HBF := Lib.hid (show Below w.heap.size w (w5.setCell ⟨w.heap.size + 1, 0, none⟩ (.slice p5 s5 c5)) from HB5.out.setCell (Nat.le_succ _) _)
    have HLF : Hid (RowsO w.heap.size B (w5.setCell ⟨w.heap.size + 1, 0, none⟩ (.slice p5 s5 c5)) (.slice p5 s5 c5) (madeF M)) := by
      have hro := hR5.grown (c := w.heap.size + 1) (grown_cell w5 (w.heap.size + 1) (.slice p5 s5 c5)) hltj (Nat.le_trans HBB.out (by omega)) (fun x e => by rw [hk5] at e; cases e)
      exact hro.le HBJ.out.size
    clear hb5 hR5 hk5 hs5 h0
    go_wp2_with fail
    refine bodyPost_ret (v := .tuple #[.agg #[.slice p5 s5 c5], .nilIface]) (by simp [results, Tryz.results27, go_sem, R0.out]) rfl ?_
    refine ⟨HBF.out, Or.inl ⟨HE.out, p5, c5, ?_, ?_⟩⟩
    · rw [HS5.out]
    · rw [HS5.out]; exact HLF.out
  · have HB5 := Lib.hid (HBJ.out.trans (hb5.mono HBJ.out.size))
    have hk5 := (hb5.block _ hltj).trans HKJ.out
    have d0 := (one_at hk5).1
    have f0 := (one_at hk5).2
    have R0 := Lib.hid (one_set (v := .slice none 0 0) hk5)
    have HBF := Lib.hid (show Below w.heap.size w (w5.setCell ⟨w.heap.size + 1, 0, none⟩ (.slice none 0 0)) from HB5.out.setCell (Nat.le_succ _) _)
    have HER := Lib.hid hek
    unfold errE
    clear hb5 hk5 hek
    go_wp2_with fail
    refine bodyPost_ret (v := .tuple #[.agg #[.slice none 0 0], .iface 225 (.pointer (some (a k)))]) (by simp [results, Tryz.results27, go_sem, R0.out]) rfl ?_
    exact ⟨HBF.out, Or.inr ⟨k, hk, HER.out, rfl⟩⟩

set_option maxRecDepth 100000 in
set_option maxHeartbeats 16000000 in
theorem suspend_any (a : Nat → Addr) (B : Nat) (L : List (List Int)) (v : Value) (w : World) (hS : Sents w a) (hB : B ≤ w.heap.size) (hv : ListsIn B w v L) (hn : L.length ≤ 300) (hl : ∀ l ∈ L, l.length ≤ 100) :
    Calls Tryz.prog 47 #[.agg #[v]] w (SetsP a B (errG (errX L) (joinP L pt2)) (joinP L pt2) w) := by
  obtain ⟨pv, cv, hve, -⟩ := id hv
  obtain ⟨n, hLn⟩ : ∃ n, L.length = n := ⟨_, rfl⟩
  rw [hLn] at hve
  subst hve
  obtain ⟨w0, hw0⟩ : ∃ w0, w0 = (w.alloc (.cells #[.slice pv n cv] 34)).alloc (.cells #[.slice none 0 0] 34) := ⟨_, rfl⟩
  have hb0 : Below w.heap.size w w0 := by rw [hw0]; exact ((Below.refl _ _).alloc (Nat.le_refl _) _).alloc (by simp) _
  have hs0 : w0.heap.size = w.heap.size + 1 + 1 := by rw [hw0]; simp
  have hk1 : w0.heap[w.heap.size + 1]? = some (.cells #[.slice none 0 0] 34 (0, 0)) := by
    rw [hw0]
    have h := heap_alloc_new (w.alloc (.cells #[.slice pv n cv] 34)) (.cells #[.slice none 0 0] 34)
    rw [lit_size] at h
    exact h
  have hk : ListsIn B _ _ pt2 := two_lit w0
  rw [hs0] at hk
  obtain ⟨wj, hwj⟩ : ∃ wj, wj = ((w0.alloc (.cells #[.int .i64 0] 3)).alloc (.cells #[.int .i64 1] 3)).alloc (.cells #[.slice (some ⟨w.heap.size + 1 + 1, 0, none⟩) 1 1, .slice (some ⟨w.heap.size + 1 + 1 + 1, 0, none⟩) 1 1] 26) := ⟨_, rfl⟩
  have hb1 : Below w0.heap.size w0 wj := by rw [hwj]; exact (((Below.refl _ _).alloc (Nat.le_refl _) _).alloc (by simp) _).alloc (by simp; omega) _
  have hkj : ListsIn B wj (.slice (some ⟨w.heap.size + 1 + 1 + 1 + 1, 0, none⟩) 2 2) pt2 := by rw [hwj]; exact hk
  have HBJ := Lib.hid (hb0.trans (hb1.mono hb0.size))
  have HKJ := Lib.hid ((hb1.block _ (Array.getElem?_eq_some_iff.1 hk1).1).trans hk1)
  have HJ := Lib.hid (join_any a B L pt2 (.slice pv n cv) (.slice (some ⟨w.heap.size + 1 + 1 + 1 + 1, 0, none⟩) 2 2) wj ((hS.below hb0 (Nat.le_refl _)).below hb1 (Nat.le_refl _)) (Nat.le_trans hB HBJ.out.size) ((hv.below hb0 (Nat.le_refl _)).below hb1 (Nat.le_refl _)) hkj hn hl (by decide) (by decide))
  rw [errJ_pts pt2_right.1] at HJ
  unfold SetsP at HJ
  rw [hw0] at hwj
  have HWJ := Lib.hid hwj
  have HBB := Lib.hid hB
  have hltj := (Array.getElem?_eq_some_iff.1 HKJ.out).1
  unfold SetsP
  obtain ⟨er, her⟩ : ∃ er, errG (errX L) (joinP L pt2) = er := ⟨_, rfl⟩
  obtain ⟨M, hM⟩ : ∃ M, joinP L pt2 = M := ⟨_, rfl⟩
  rw [her] at HJ ⊢
  rw [hM] at HJ ⊢
  clear hS hB hv hn hl hb0 hs0 hk1 hk hb1 hkj hw0 hwj her hM hLn
  go_enter Tryz.func47, Tryz.ntmps47
  go_wp2_with fail
  rw [← HWJ.out]
  refine HJ.out.mono ?_
  rintro e w5 ⟨hb5, ⟨h0, p5, c5, rfl, hR5⟩ | ⟨k, hk, hek, rfl⟩⟩
  · have hk5 := (hb5.block _ hltj).trans HKJ.out
    obtain ⟨s5, hs5⟩ : ∃ s5, (madeF M).length = s5 := ⟨_, rfl⟩
    rw [hs5] at hR5 ⊢
    have HS5 := Lib.hid hs5
    have HE := Lib.hid h0
    have HB5 := Lib.hid (HBJ.out.trans (hb5.mono HBJ.out.size))
    have d0 := (one_at hk5).1
    have f0 := (one_at hk5).2
    have R0 := Lib.hid (one_set (v := .slice p5 s5 c5) hk5)
    have HBF := Lib.hid (show Below w.heap.size w (w5.setCell ⟨w.heap.size + 1, 0, none⟩ (.slice p5 s5 c5)) from HB5.out.setCell (Nat.le_succ _) _)
    have HLF : Hid (RowsO w.heap.size B (w5.setCell ⟨w.heap.size + 1, 0, none⟩ (.slice p5 s5 c5)) (.slice p5 s5 c5) (madeF M)) := by
      have hro := hR5.grown (c := w.heap.size + 1) (grown_cell w5 (w.heap.size + 1) (.slice p5 s5 c5)) hltj (Nat.le_trans HBB.out (by omega)) (fun x e => by rw [hk5] at e; cases e)
      exact hro.le HBJ.out.size
    clear hb5 hR5 hk5 hs5 h0
    go_wp2_with fail
    refine bodyPost_ret (v := .tuple #[.agg #[.slice p5 s5 c5], .nilIface]) (by simp [results, Tryz.results47, go_sem, R0.out]) rfl ?_
    refine ⟨HBF.out, Or.inl ⟨HE.out, p5, c5, ?_, ?_⟩⟩
    · rw [HS5.out]
    · rw [HS5.out]; exact HLF.out
  · have HB5 := Lib.hid (HBJ.out.trans (hb5.mono HBJ.out.size))
    have hk5 := (hb5.block _ hltj).trans HKJ.out
    have d0 := (one_at hk5).1
    have f0 := (one_at hk5).2
    have R0 := Lib.hid (one_set (v := .slice none 0 0) hk5)
    have HBF := Lib.hid (show Below w.heap.size w (w5.setCell ⟨w.heap.size + 1, 0, none⟩ (.slice none 0 0)) from HB5.out.setCell (Nat.le_succ _) _)
    have HER := Lib.hid hek
    unfold errE
    clear hb5 hk5 hek
    go_wp2_with fail
    refine bodyPost_ret (v := .tuple #[.agg #[.slice none 0 0], .iface 225 (.pointer (some (a k)))]) (by simp [results, Tryz.results47, go_sem, R0.out]) rfl ?_
    exact ⟨HBF.out, Or.inr ⟨k, hk, HER.out, rfl⟩⟩

end Go.Proofs.YtipblphfjejpbaaGreatDoor
