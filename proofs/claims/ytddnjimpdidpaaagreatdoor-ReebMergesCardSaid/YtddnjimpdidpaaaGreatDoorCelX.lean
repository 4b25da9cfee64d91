import Derived.Test.YtddnjimpdidpaaaGreatDoorCelQ
import Derived.Test.YtddnjimpdidpaaaGreatDoorApp
set_option linter.unusedSimpArgs false
set_option linter.unusedVariables false
/-! The law's Cx: a complex of copies of the sets. -/
namespace Go.Proofs.YtddnjimpdidpaaaGreatDoor
open Go Go.RowKit Go.Maps

theorem IntsAt.news {w : World} {p : Option Addr} {n c : Nat} {xs : List Int} (h : IntsAt w (.slice p n c) xs) : ∀ ad, p = some ad → ∀ j u, (intVs xs)[j]? = some u → w.cell? (ad.add j) = some u := by
  rintro ad rfl
  exact h.src
theorem IntsAt.noneE {w : World} {p : Option Addr} {n c : Nat} {xs : List Int} (h : IntsAt w (.slice p n c) xs) : p = none → c = 0 ∧ n = 0 := fun e => by
  obtain ⟨p', c', hv, h1, h2, -⟩ := h
  cases hv
  have := h2 e
  omega
theorem IntsAt.lenE {w : World} {p : Option Addr} {n c : Nat} {xs : List Int} (h : IntsAt w (.slice p n c) xs) : (intVs xs).length = n := by
  obtain ⟨p', c', hv, -⟩ := h
  cases hv
  simp [intVs]

set_option maxRecDepth 100000 in
set_option maxHeartbeats 4000000 in
theorem cx_any (B : Nat) (L : List (List Int)) (v : Value) (w : World) (hB : B ≤ w.heap.size) (hv : ListsIn B w v L) (hn : L.length ≤ 100000) (hl : ∀ l ∈ L, l.length ≤ 100000) :
    Calls Tryz.prog 10 #[v] w (fun e w' => ∃ u, e = .returned (.agg #[u]) ∧ Below w.heap.size w w' ∧ RowsO w.heap.size B w' u L) := by
  obtain ⟨i39, hi39, hz0, hz1, hz2⟩ := info_parts Tryz.info23
  obtain ⟨i3, hi3, hy0, hy1, hy2⟩ := info_parts Tryz.info3
  obtain ⟨pv, cv, hve, -⟩ := id hv
  obtain ⟨n, hLn⟩ : ∃ n, L.length = n := ⟨_, rfl⟩
  rw [hLn] at hve hn
  subst hve
  have HLN := Lib.hid hLn
  have HV := Lib.hid hv
  have HB := Lib.hid hB
  have HL := Lib.hid hl
  clear hLn hv hB hl
  go_enter Tryz.func10, Tryz.ntmps10
  go_wp2_with fail
  go_loopw [4] (fun i wr => ∃ (j : Nat) (u : Value), j ≤ n ∧ i = .int .i64 j ∧ Below w.heap.size w wr ∧ wr.heap[w.heap.size]? = some (.cells #[.slice none 0 0] 34 (0, 0)) ∧ wr.heap[w.heap.size + 1]? = some (.cells #[u] 34 (0, 0)) ∧ RowsO (w.heap.size + 2) B wr u (L.take j)) (fun i _ => n - (intOf i).toNat)
  case atStart =>
    have hb1 := lit_below w (.cells #[.slice none 0 0] 34)
    have hb2 := lit_below (w.alloc (.cells #[.slice none 0 0] 34)) (.cells #[.slice none 0 0] 34)
    refine ⟨0, .slice none 0 0, Nat.zero_le _, rfl, hb1.trans (hb2.mono hb1.size), (hb2.block _ (by simp)).trans (heap_alloc_new w _), ?_, RowsO.nil _ _ _⟩
    have h := heap_alloc_new (w.alloc (.cells #[.slice none 0 0] 34)) (.cells #[.slice none 0 0] 34)
    rw [lit_size] at h
    exact h
  case round =>
    obtain ⟨j, u, hj, rfl, hbl, hkr, hko, hro⟩ := hrel
    have HBL := Lib.hid hbl
    have HKR := Lib.hid hkr
    have HKO := Lib.hid hko
    have HRO := Lib.hid hro
    have hcr := (one_at hkr).1
    have hfr := (one_at hkr).2
    have hco := (one_at hko).1
    have hfo := (one_at hko).2
    by_cases hjn : j < n
    · have hjL : j < L.length := by rw [HLN.out]; exact hjn
      obtain ⟨b, off, c, hve⟩ := HV.out.form (by omega)
      rw [HLN.out] at hve
      obtain ⟨rfl, rfl⟩ : pv = some ⟨b, off, none⟩ ∧ cv = c := by cases hve; exact ⟨rfl, rfl⟩
      obtain ⟨px, cx, hcx, hix⟩ := cells_at (HV.out.below HBL.out (Nat.le_refl _)) j hjL
      have hlj := HL.out _ (getL_mem hjL)
      have HTK := Lib.hid (take_snoc_getD [] L j hjL)
      have HTL := Lib.hid (show (L.take j).length = j by rw [List.length_take]; omega)
      obtain ⟨nx, hnx⟩ : ∃ nx, (L.getD j []).length = nx := ⟨_, rfl⟩
      rw [hnx] at hcx hlj hix
      have HNX := Lib.hid hnx
      have HIX := Lib.hid hix
      obtain ⟨pu, cu, hue, -⟩ := hro.lists
      rw [HTL.out] at hue
      subst hue
      have HB2 := Lib.hid (show B ≤ w.heap.size + 2 by have := HB.out; omega)
      have hwr : w.heap.size + 2 ≤ wr.heap.size := by
        have := (Array.getElem?_eq_some_iff.1 hko).1
        omega
      have HBLD := Lib.hid (HBL.out.trans (((Below.refl wr.heap.size wr).drew).mono HBL.out.size))
      have HROD := Lib.hid (HRO.out.below (w' := wr.drew) ((Below.refl _ _).drew) (Nat.le_refl _))
      clear hve hix hnx hbl hkr hko hro
      go_wp2_with fail
      go_region_law (first
        | (refine step_app_any _ (by rfl) (.tmp 15) (.tmp 19) 23 (by rfl) (w.heap.size + 2) 3 i3 (.int .i64 0) 8 Tryz.underlying23 hi3 hy0 hy1 hy2 (by rfl) (.slice none 0 0) 0 [] (by rfl) (World.ownsRow_nil _ _ _ _) px nx cx (intVs (L.getD j [])) (by rfl) HIX.out.at.lenE HIX.out.at.noneE HIX.out.at.news (intVs_one _) (by unfold maxLen; omega) (by omega) (by simp; omega) _ (by rfl) ?_
           intro p5 cap5 w5 ho5 hg5 hat5
           simp only [Nat.zero_add, List.nil_append] at ho5 ⊢
           have hb5 : Below wr.drew.heap.size wr.drew w5 := (Below.refl _ _).grown hg5 (Nat.le_refl _) (fun k e => by cases e)
           have hif5 := ints_owned (B := B) ho5 HNX.out.symm
           have hro5 := HROD.out.below hb5 (Nat.le_refl _)
           have hkr5 : w5.heap[w.heap.size]? = some (.cells #[.slice none 0 0] 34 (0, 0)) := (hb5.block _ (Array.getElem?_eq_some_iff.1 HKR.out).1).trans HKR.out
           have hko5 : w5.heap[w.heap.size + 1]? = some (.cells #[.slice pu j cu] 34 (0, 0)) := (hb5.block _ (Array.getElem?_eq_some_iff.1 HKO.out).1).trans HKO.out
           have hb5a : Below w5.heap.size w5 (w5.alloc (.cells #[.slice p5 nx cap5] 23)) := (Below.refl _ _).alloc (Nat.le_refl _) _
           have hko5a := (hb5a.block _ (Array.getElem?_eq_some_iff.1 hko5).1).trans hko5
           have hkr5a := (hb5a.block _ (Array.getElem?_eq_some_iff.1 hkr5).1).trans hkr5
           have hcell5a := (one_at hko5a).1
           have hcell5 := (one_at hko5).1
           have hfrz5 := (one_at hko5).2
           have hsz5 : w.heap.size + 2 ≤ w5.heap.size := Nat.le_trans hwr hb5.size
           have HBL5 := Lib.hid (HBLD.out.trans (hb5.mono HBLD.out.size))
           obtain ⟨hs, h1o, h2, h3⟩ := hro5
           have h1 := h1o
           rw [HTL.out] at h1)
        | (refine step_append_lies _ (by rfl) (.tmp 14) (.tmp 21) 22 (by rfl) (w.heap.size + 2) 23 i39 (.slice none 0 0) 1 24 Tryz.underlying22 hi39 hz0 hz1 hz2 rfl (by decide) (.slice pu j cu) j hs (by rfl) (h1.alloc _) ⟨w5.heap.size, 0, none⟩ 1 1 [.slice p5 nx cap5] (by rfl) (by rfl) (World.news_of_block (cs := #[.slice p5 nx cap5]) (t := 23) (fr := (0, 0)) (heap_alloc_new w5 _)) (by simp [Value.oneCell']) (by decide) (by unfold maxLen; omega) (by omega) (by simp; omega) (w5.heap.size + 1) (by simp) ?_
           intro g2 c2 w9 hown2 hgr2 hat2 hlt2
           have hpush := rowsO_push (O := w.heap.size + 2) (xs := L.getD j []) HB2.out (h1o.alloc _) h2 (fun i hi => (h3 i hi).below hb5a (Nat.le_refl _)) (hif5.below hb5a (Nat.le_refl _)) (by rw [HTL.out]; exact hown2) hgr2
           have hkr9 : w9.heap[w.heap.size]? = some (.cells #[.slice none 0 0] 34 (0, 0)) := (hgr2.block _ (by simp; omega) (fun e => by have h5 := (h1.lt _ e.symm).1; omega)).trans hkr5a
           have hko9 : w9.heap[w.heap.size + 1]? = some (.cells #[.slice pu j cu] 34 (0, 0)) := (hgr2.block _ (by simp; omega) (fun e => by have h5 := (h1.lt _ e.symm).1; omega)).trans hko5a
           have hcell9 := (one_at hko9).1
           have hfrz9 := (one_at hko9).2
           have hoc9 : ∀ x, w9.heap[w.heap.size + 1]? ≠ some (.cells x 3 (0, 0)) := fun x e => by rw [hko9] at e; cases e
           have HPU := Lib.hid (hpush.grown (grown_cell w9 (w.heap.size + 1) (.slice (some ⟨g2, 0, none⟩) (j + 1) c2)) (by omega) (by have := HB.out; omega) hoc9)
           have hbl9 := (HBL5.out.trans (hb5a.mono HBL5.out.size)).grown hgr2 (HBL5.out.trans (hb5a.mono HBL5.out.size)).size (fun k e => by have h5 := (h1.lt k e).1; omega)
           have HBL9 : Hid (Below w.heap.size w (w9.setCell ⟨w.heap.size + 1, 0, none⟩ (.slice (some ⟨g2, 0, none⟩) (j + 1) c2))) := hbl9.setCell (Nat.le_succ w.heap.size) _
           have HKR9 := Lib.hid (show (w9.setCell ⟨w.heap.size + 1, 0, none⟩ (.slice (some ⟨g2, 0, none⟩) (j + 1) c2)).heap[w.heap.size]? = _ from ((grown_cell w9 (w.heap.size + 1) (.slice (some ⟨g2, 0, none⟩) (j + 1) c2)).block w.heap.size (Array.getElem?_eq_some_iff.1 hkr9).1 (fun e => by have := Option.some.inj e; omega)).trans hkr9)
           have HKO9 := Lib.hid (one_blk (v := .slice (some ⟨g2, 0, none⟩) (j + 1) c2) hko9)
           clear hoc9 hpush hbl9))
      all_goals
        go_wp2
        go_roundw
        case rel => exact ⟨j + 1, _, by omega, by go_num, HBL9.out, HKR9.out, HKO9.out, by rw [HTK.out]; exact HPU.out⟩
        case measure => simp [intOf]; omega
    · obtain rfl : j = n := by omega
      have HFULL : Hid (L.take j = L) := by unfold Hid; rw [← HLN.out, List.take_length]
      obtain ⟨pu, cu, hue, -⟩ := hro.lists
      generalize (L.take j).length = m at hue
      subst hue
      have HCS := Lib.hid (one_set (v := .slice pu m cu) hkr)
      have HFIN := Lib.hid (show RowsO w.heap.size B (wr.setCell ⟨w.heap.size, 0, none⟩ (.slice pu m cu)) (.slice pu m cu) L from by
        have h := (hro.grown (grown_cell wr w.heap.size (.slice pu m cu)) (by omega) HB.out (fun x e => by rw [hkr] at e; cases e)).le (O' := w.heap.size) (by omega)
        rwa [HFULL.out] at h)
      clear hbl hkr hko hro
      go_wp2_with fail
      refine bodyPost_ret (v := .agg #[.slice pu m cu]) (by simp [results, Tryz.results10, go_sem, HCS.out]) rfl ?_
      exact ⟨_, rfl, HBL.out.setCell (Nat.le_refl _) _, HFIN.out⟩
end Go.Proofs.YtddnjimpdidpaaaGreatDoor
