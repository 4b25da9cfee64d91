/-
  The law's program (a group of copies) by a contract.
-/
import Derived.Test.YtedehmknijlgpaaDoorDocD
set_option linter.unusedSimpArgs false
set_option linter.unusedVariables false
namespace Go.Proofs.YtedehmknijlgpaaDoor
open Go Go.RowKit Go.Maps

theorem two_at {w : World} {b : Nat} {x y : Value} {t : TypeId} (h : w.heap[b]? = some (.cells #[x, y] t (0, 0))) : w.cell? ⟨b, 0, none⟩ = some x ∧ w.cell? ⟨b, 1, none⟩ = some y ∧ w.frozen? ⟨b, 0, none⟩ = false ∧ w.frozen? ⟨b, 1, none⟩ = false := by simp [World.cell?, World.frozen?, h]
theorem two_set {w : World} {b : Nat} {x y u : Value} {t : TypeId} (h : w.heap[b]? = some (.cells #[x, y] t (0, 0))) :
    (w.setCell ⟨b, 0, none⟩ u).heap[b]? = some (.cells #[u, y] t (0, 0)) ∧ (w.setCell ⟨b, 1, none⟩ u).heap[b]? = some (.cells #[x, u] t (0, 0)) := by
  have hb := (Array.getElem?_eq_some_iff.1 h).1
  have he := (Array.getElem?_eq_some_iff.1 h).2
  refine ⟨?_, ?_⟩ <;> simp [World.setCell, Array.getElem_modify, hb, he]
theorem RowsO.grown {O B c : Nat} {w w' : World} {v : Value} {L : List (List Int)} (h : RowsO O B w v L) (hg : w.grownBy w' (some c)) (hc : c < O) (hB : B ≤ c) (ho : ∀ x, w.heap[c]? ≠ some (.cells x 3 (0, 0))) : RowsO O B w' v L := by
  obtain ⟨hs, h1, h2, h3⟩ := h
  have hne : ∀ k, v.ownBlock = some k → c ≠ k := fun k hk => by
    rcases h1.2 with ⟨rfl, _⟩ | ⟨g, cap, cur, rfl, hb, -⟩
    · cases hk
    · have : g = k := Option.some.inj hk
      omega
  exact ⟨hs, owns_keep h1 fun k hk => hg.block k (h1.lt k hk).2 (fun e => hne k hk (by cases e; rfl)), h2, fun i hi => (h3 i hi).grown hg fun k e => by cases e; exact ⟨hB, ho⟩⟩
def ProgP (B : Nat) (G : Int) (L : List (List Int)) (w : World) (e : Ending) (w' : World) : Prop := ∃ u, e = .returned (.agg #[.int .i64 G, u]) ∧ Below w.heap.size w w' ∧ RowsO w.heap.size B w' u L
set_option maxRecDepth 100000 in
set_option maxHeartbeats 8000000 in
theorem program_any (B : Nat) (G : Int) (L : List (List Int)) (v : Value) (w : World) (hB : B ≤ w.heap.size) (hv : ListsIn B w v L) (hn : L.length ≤ 100000) (hl : ∀ l ∈ L, l.length ≤ 100000) :
    Calls Tryd.prog 10 #[.agg #[.int .i64 G, v]] w (ProgP B G L w) := by
  obtain ⟨i39, hi39, hz0, hz1, hz2⟩ := info_parts Tryd.info27
  obtain ⟨i3, hi3, hy0, hy1, hy2⟩ := info_parts Tryd.info3
  obtain ⟨pv, cv, hve, -⟩ := id hv
  obtain ⟨n, hLn⟩ : ∃ n, L.length = n := ⟨_, rfl⟩
  rw [hLn] at hve hn
  subst hve
  have HLN := Lib.hid hLn
  have HV := Lib.hid hv
  have HB := Lib.hid hB
  have HL := Lib.hid hl
  unfold ProgP
  clear hLn hv hB hl
  go_enter Tryd.func10, Tryd.ntmps10
  go_wp2_with fail
  go_loopw [4] (fun i wr => ∃ (j : Nat) (u : Value), j ≤ n ∧ i = .int .i64 j ∧ Below w.heap.size w wr ∧ wr.heap[w.heap.size]? = some (.cells #[.int .i64 G, .slice pv n cv] 24 (0, 0)) ∧ wr.heap[w.heap.size + 1]? = some (.cells #[.int .i64 0, .slice none 0 0] 33 (0, 0)) ∧ wr.heap[w.heap.size + 1 + 1]? = some (.cells #[.int .i64 G, u] 33 (0, 0)) ∧ RowsO (w.heap.size + 3) B wr u (L.take j)) (fun i _ => n - (intOf i).toNat)
  case atStart =>
    have hb1 : Below w.heap.size w (w.alloc (.cells #[.int .i64 G, .slice pv n cv] 24)) := (Below.refl _ _).alloc (Nat.le_refl _) _
    have g1 := heap_alloc_new w (.cells #[.int .i64 G, .slice pv n cv] 24)
    obtain ⟨w1, hw1⟩ : ∃ w1, w.alloc (.cells #[.int .i64 G, .slice pv n cv] 24) = w1 := ⟨_, rfl⟩
    have hs1 : w1.heap.size = w.heap.size + 1 := by rw [← hw1]; simp
    rw [hw1] at hb1 g1 ⊢
    have hb2 : Below w1.heap.size w1 (w1.alloc (.cells #[.int .i64 0, .slice none 0 0] 33)) := (Below.refl _ _).alloc (Nat.le_refl _) _
    have g2 := heap_alloc_new w1 (.cells #[.int .i64 0, .slice none 0 0] 33)
    obtain ⟨w2, hw2⟩ : ∃ w2, w1.alloc (.cells #[.int .i64 0, .slice none 0 0] 33) = w2 := ⟨_, rfl⟩
    have hs2 : w2.heap.size = w.heap.size + 1 + 1 := by rw [← hw2]; simp [hs1]
    rw [hw2] at hb2 g2 ⊢
    have hb3 : Below w2.heap.size w2 (w2.alloc (.cells #[.int .i64 G, .slice none 0 0] 33)) := (Below.refl _ _).alloc (Nat.le_refl _) _
    have g3 := heap_alloc_new w2 (.cells #[.int .i64 G, .slice none 0 0] 33)
    rw [hs1] at g2
    rw [hs2] at g3
    exact ⟨0, .slice none 0 0, Nat.zero_le _, rfl, hb1.trans ((hb2.trans (hb3.mono hb2.size)).mono hb1.size), (hb3.block _ (by omega)).trans ((hb2.block _ (by omega)).trans g1), (hb3.block _ (by omega)).trans g2, g3, RowsO.nil _ _ _⟩
  case round =>
    obtain ⟨j, u, hj, rfl, hbl, hkg, hkr, hko, hro⟩ := hrel
    have HBL := Lib.hid hbl
    have HKG := Lib.hid hkg
    have HKR := Lib.hid hkr
    have HKO := Lib.hid hko
    have HRO := Lib.hid hro
    obtain ⟨-, cg1, -, -⟩ := two_at hkg
    obtain ⟨-, co1, -, fo1⟩ := two_at hko
    by_cases hjn : j < n
    · have hjL : j < L.length := by rw [HLN.out]; exact hjn
      obtain ⟨b, off, c, hve⟩ := HV.out.form (by omega)
      rw [HLN.out] at hve
      obtain ⟨rfl, rfl⟩ : pv = some ⟨b, off, none⟩ ∧ cv = c := by cases hve; exact ⟨rfl, rfl⟩
      obtain ⟨px, cx, hcx, hix⟩ := cells_at (HV.out.below HBL.out (Nat.le_refl _)) j hjL
      have hlj := HL.out _ (getL_mem hjL)
      have HTK := Lib.hid (take_snoc_getD [] L j hjL)
      have HTL := Lib.hid (show (L.take j).length = j by rw [List.length_take]; omega)
      obtain ⟨nx, hnx⟩ : ∃ nx, (L.getD j []).length = nx := ⟨_, rfl⟩
      rw [hnx] at hcx hlj hix
      have HNX := Lib.hid hnx
      have HIX := Lib.hid hix
      obtain ⟨pu, cu, hue, -⟩ := hro.lists
      rw [HTL.out] at hue
      subst hue
      have HB2 := Lib.hid (show B ≤ w.heap.size + 3 by have := HB.out; omega)
      have hwr : w.heap.size + 3 ≤ wr.heap.size := by
        have := (Array.getElem?_eq_some_iff.1 hko).1
        omega
      have HBLD := Lib.hid (HBL.out.trans (((Below.refl wr.heap.size wr).drew).mono HBL.out.size))
      have HROD := Lib.hid (HRO.out.below (w' := wr.drew) ((Below.refl _ _).drew) (Nat.le_refl _))
      clear hve hix hnx hbl hkg hkr hko hro
      go_wp2_with fail
      go_region_law (first
        | (refine step_app_any _ (by rfl) (.tmp 18) (.tmp 23) 27 (by rfl) (w.heap.size + 3) 3 i3 (.int .i64 0) 8 Tryd.underlying27 hi3 hy0 hy1 hy2 (by rfl) (.slice none 0 0) 0 [] (by rfl) (World.ownsRow_nil _ _ _ _) px nx cx (intVs (L.getD j [])) (by rfl) HIX.out.at.lenE HIX.out.at.noneE HIX.out.at.news (intVs_one _) (by unfold maxLen; omega) (by omega) (by simp; omega) _ (by rfl) ?_
           intro p5 cap5 w5 ho5 hg5 hat5
           simp only [Nat.zero_add, List.nil_append] at ho5 ⊢
           have hb5 : Below wr.drew.heap.size wr.drew w5 := (Below.refl _ _).grown hg5 (Nat.le_refl _) (fun k e => by cases e)
           have hif5 := ints_owned (B := B) ho5 HNX.out.symm
           have hro5 := HROD.out.below hb5 (Nat.le_refl _)
           have hkg5 := (hb5.block _ (Array.getElem?_eq_some_iff.1 HKG.out).1).trans HKG.out
           have hkr5 := (hb5.block _ (Array.getElem?_eq_some_iff.1 HKR.out).1).trans HKR.out
           have hko5 := (hb5.block _ (Array.getElem?_eq_some_iff.1 HKO.out).1).trans HKO.out
           have hb5a : Below w5.heap.size w5 (w5.alloc (.cells #[.slice p5 nx cap5] 27)) := (Below.refl _ _).alloc (Nat.le_refl _) _
           have hkg5a := (hb5a.block _ (Array.getElem?_eq_some_iff.1 hkg5).1).trans hkg5
           have hko5a := (hb5a.block _ (Array.getElem?_eq_some_iff.1 hko5).1).trans hko5
           have hkr5a := (hb5a.block _ (Array.getElem?_eq_some_iff.1 hkr5).1).trans hkr5
           have hcell5a := (two_at hko5a).2.1
           have hcell5 := (two_at hko5).2.1
           have hfrz5 := (two_at hko5).2.2.2
           have hsz5 : w.heap.size + 3 ≤ w5.heap.size := Nat.le_trans hwr hb5.size
           have HBL5 := Lib.hid (HBLD.out.trans (hb5.mono HBLD.out.size))
           obtain ⟨hs, h1o, h2, h3⟩ := hro5
           have h1 := h1o
           rw [HTL.out] at h1)
        | (refine step_append_lies _ (by rfl) (.tmp 17) (.tmp 25) 22 (by rfl) (w.heap.size + 3) 27 i39 (.slice none 0 0) 1 24 Tryd.underlying22 hi39 hz0 hz1 hz2 rfl (by decide) (.slice pu j cu) j hs (by rfl) (h1.alloc _) ⟨w5.heap.size, 0, none⟩ 1 1 [.slice p5 nx cap5] (by rfl) (by rfl) (World.news_of_block (cs := #[.slice p5 nx cap5]) (t := 27) (fr := (0, 0)) (heap_alloc_new w5 _)) (by simp [Value.oneCell']) (by decide) (by unfold maxLen; omega) (by omega) (by simp; omega) (w5.heap.size + 1) (by simp) ?_
           intro g2 c2 w9 hown2 hgr2 hat2 hlt2
           have hpush := rowsO_push (O := w.heap.size + 3) (xs := L.getD j []) HB2.out (h1o.alloc _) h2 (fun i hi => (h3 i hi).below hb5a (Nat.le_refl _)) (hif5.below hb5a (Nat.le_refl _)) (by rw [HTL.out]; exact hown2) hgr2
           have hkg9 := (hgr2.block w.heap.size (by simp; omega) (fun e => by have h5 := (h1.lt _ e.symm).1; omega)).trans hkg5a
           have hkr9 := (hgr2.block (w.heap.size + 1) (by simp; omega) (fun e => by have h5 := (h1.lt _ e.symm).1; omega)).trans hkr5a
           have hko9 := (hgr2.block (w.heap.size + 1 + 1) (by simp; omega) (fun e => by have h5 := (h1.lt _ e.symm).1; omega)).trans hko5a
           have hcell9 := (two_at hko9).2.1
           have hfrz9 := (two_at hko9).2.2.2
           have hoc9 : ∀ x, w9.heap[w.heap.size + 1 + 1]? ≠ some (.cells x 3 (0, 0)) := fun x e => by rw [hko9] at e; cases e
           have HPU := Lib.hid (hpush.grown (grown_cell w9 (w.heap.size + 1 + 1) 1 (.slice (some ⟨g2, 0, none⟩) (j + 1) c2)) (by omega) (by have := HB.out; omega) hoc9)
           have hbl9 := (HBL5.out.trans (hb5a.mono HBL5.out.size)).grown hgr2 (HBL5.out.trans (hb5a.mono HBL5.out.size)).size (fun k e => by have h5 := (h1.lt k e).1; omega)
           have HBL9 : Hid (Below w.heap.size w (w9.setCell ⟨w.heap.size + 1 + 1, 1, none⟩ (.slice (some ⟨g2, 0, none⟩) (j + 1) c2))) := hbl9.setCell (by show w.heap.size ≤ w.heap.size + 1 + 1; omega) _
           have HKG9 := Lib.hid (((grown_cell w9 (w.heap.size + 1 + 1) 1 (.slice (some ⟨g2, 0, none⟩) (j + 1) c2)).block w.heap.size (Array.getElem?_eq_some_iff.1 hkg9).1 (fun e => by have := Option.some.inj e; omega)).trans hkg9)
           have HKR9 := Lib.hid (((grown_cell w9 (w.heap.size + 1 + 1) 1 (.slice (some ⟨g2, 0, none⟩) (j + 1) c2)).block (w.heap.size + 1) (Array.getElem?_eq_some_iff.1 hkr9).1 (fun e => by have := Option.some.inj e; omega)).trans hkr9)
           have HKO9 := Lib.hid (two_set (u := .slice (some ⟨g2, 0, none⟩) (j + 1) c2) hko9).2
           clear hoc9 hpush hbl9))
      all_goals
        go_wp2
        go_roundw
        case rel => exact ⟨j + 1, _, by omega, by go_num, HBL9.out, HKG9.out, HKR9.out, HKO9.out, by rw [HTK.out]; exact HPU.out⟩
        case measure => simp [intOf]; omega
    · obtain rfl : j = n := by omega
      have HFULL : Hid (L.take j = L) := by unfold Hid; rw [← HLN.out, List.take_length]
      obtain ⟨pu, cu, hue, -⟩ := hro.lists
      generalize (L.take j).length = m at hue
      subst hue
      obtain ⟨co0, -, -, -⟩ := two_at hko
      obtain ⟨cr0, cr1, fr0, fr1⟩ := two_at hkr
      have hk1 := (two_set (u := .int .i64 G) hkr).1
      have hk2 := (two_set (u := .slice pu m cu) hk1).2
      obtain ⟨cz0, cz1, fz0, fz1⟩ := two_at hk1
      have HCS := Lib.hid (two_at hk2)
      have hg := (hro.grown (grown_cell wr (w.heap.size + 1) 0 (.int .i64 G)) (by omega) (by have := HB.out; omega) (fun x e => by rw [hkr] at e; cases e)).grown (grown_cell _ (w.heap.size + 1) 1 (.slice pu m cu)) (by omega) (by have := HB.out; omega) (fun x e => by rw [hk1] at e; cases e)
      have HFIN := Lib.hid (show RowsO w.heap.size B _ (.slice pu m cu) L from by
        have h := hg.le (O' := w.heap.size) (by omega)
        rwa [HFULL.out] at h)
      have HBF := Lib.hid ((HBL.out.setCell (p := ⟨w.heap.size + 1, 0, none⟩) (Nat.le_succ _) (.int .i64 G)).setCell (p := ⟨w.heap.size + 1, 1, none⟩) (Nat.le_succ _) (.slice pu m cu))
      clear hbl hkg hkr hko hro hk1 hk2 hg
      go_wp2_with fail
      refine bodyPost_ret (v := .agg #[.int .i64 G, .slice pu m cu]) (by simp [results, Tryd.results10, go_sem, HCS.out.1, HCS.out.2.1]) rfl ?_
      exact ⟨_, rfl, HBF.out, HFIN.out⟩
end Go.Proofs.YtedehmknijlgpaaDoor
