/-
  cells.some with the closure handlebody/cells.Link$1, by a contract.
  handlebody/cells.Link by a contract.
-/
import Derived.Test.YtipblphfjejpbaaGreatDoorMrA
set_option linter.unusedSimpArgs false
set_option linter.unusedVariables false
namespace Go.Proofs.YtipblphfjejpbaaGreatDoor
open Go Go.RowKit Go.Maps

set_option maxRecDepth 100000 in
set_option maxHeartbeats 16000000 in
theorem someL_bad (a : Nat → Addr) (B : Nat) (L M : List (List Int)) (v cap : Value) (w : World) (hS : Sents w a) (hB : B ≤ w.heap.size) (hv : ListsIn B w v L) (hn : L.length ≤ 100000) (hl : ∀ l ∈ L, l.length ≤ 100000) (he : errX L ≠ 0) :
    Calls Tryz.prog 75 #[.agg #[v], .func (.func 79) #[] #[cap]] w (SomeP a B L M w) := by
  obtain ⟨pv, cv, hve, -⟩ := id hv
  generalize hLn : L.length = n at hve
  subst hve
  obtain ⟨w0, hw0⟩ : ∃ w0, w0 = (w.alloc (.cells #[.slice pv n cv] 34)).alloc (.cells #[.slice none 0 0] 34) := ⟨_, rfl⟩
  have hb0 : Below w.heap.size w w0 := by rw [hw0]; exact ((Below.refl _ _).alloc (Nat.le_refl _) _).alloc (by simp) _
  have hk2 : w0.heap[w.heap.size + 1]? = some (.cells #[.slice none 0 0] 34 (0, 0)) := by
    rw [hw0]
    have h := heap_alloc_new (w.alloc (.cells #[.slice pv n cv] 34)) (.cells #[.slice none 0 0] 34)
    rw [lit_size] at h
    exact h
  have HB0 := Lib.hid hb0
  have HW0 := Lib.hid hw0
  have HK2 := Lib.hid hk2
  have HC := Lib.hid (table_any a B L (.slice pv n cv) w0 (hS.below hb0 (Nat.le_refl _)) (Nat.le_trans hB hb0.size) (hv.below hb0 (Nat.le_refl _)) hn hl)
  have HE := Lib.hid he
  unfold TabPost at HC
  unfold SomeP
  clear hS hB hv hn hl hb0 he hLn hw0 hk2
  go_enter Tryz.func75, Tryz.ntmps75
  go_wp2_with fail
  rw [← HW0.out]
  refine HC.out.mono ?_
  rintro e w1 ⟨hb1, ⟨h0, -⟩ | ⟨k, hk, hek, rfl⟩⟩
  · exact absurd h0 HE.out
  · have HB1 := Lib.hid (HB0.out.trans (hb1.mono HB0.out.size))
    have hk1 := (hb1.block _ (Array.getElem?_eq_some_iff.1 HK2.out).1).trans HK2.out
    have HEK := Lib.hid hek
    have d0 := (one_at hk1).1
    have f0 := (one_at hk1).2
    have R0 := Lib.hid (one_set (v := .slice none 0 0) hk1)
    have HBF := Lib.hid (show Below w.heap.size w (w1.setCell ⟨w.heap.size + 1, 0, none⟩ (.slice none 0 0)) from HB1.out.setCell (Nat.le_succ _) _)
    unfold errE
    clear hb1 hk1 hek
    go_wp2_with fail
    refine bodyPost_ret (v := .tuple #[.agg #[.slice none 0 0], .iface 225 (.pointer (some (a k)))]) (by simp [results, Tryz.results75, go_sem, R0.out]) rfl ?_
    exact ⟨HBF.out, Or.inr ⟨k, hk, HEK.out, rfl⟩⟩

set_option maxRecDepth 100000 in
set_option maxHeartbeats 16000000 in
theorem someL_ok (a : Nat → Addr) (B : Nat) (L : List (List Int)) (pf : List Int → List Int) (v cap : Value) (w : World) (hS : Sents w a) (hB : B ≤ w.heap.size) (hv : ListsIn B w v L) (hn : L.length ≤ 100000) (hl : ∀ l ∈ L, l.length ≤ 100000) (he : errX L = 0)
    (hcl : ∀ w', Below w.heap.size w w' → ∀ u x, x ∈ allF L → IntsIn B w' u x → Calls Tryz.prog 79 #[u, cap] w' (AnsP B (pf x) w')) (hpf : ∀ x ∈ allF L, pf x ≠ [] → IsF L (pf x)) :
    Calls Tryz.prog 75 #[.agg #[v], .func (.func 79) #[] #[cap]] w (SomeP a B L (coll pf (tableF (allF L)).flatten) w) := by
  obtain ⟨i26, hi26, hy0, hy1, hy2⟩ := info_parts Tryz.info26
  obtain ⟨pv, cv, hve, -⟩ := id hv
  generalize hLn : L.length = n at hve
  subst hve
  obtain ⟨w0, hw0⟩ : ∃ w0, w0 = (w.alloc (.cells #[.slice pv n cv] 34)).alloc (.cells #[.slice none 0 0] 34) := ⟨_, rfl⟩
  have hb0 : Below w.heap.size w w0 := by rw [hw0]; exact ((Below.refl _ _).alloc (Nat.le_refl _) _).alloc (by simp) _
  have hk2 : w0.heap[w.heap.size + 1]? = some (.cells #[.slice none 0 0] 34 (0, 0)) := by
    rw [hw0]
    have h := heap_alloc_new (w.alloc (.cells #[.slice pv n cv] 34)) (.cells #[.slice none 0 0] 34)
    rw [lit_size] at h
    exact h
  have HB0 := Lib.hid hb0
  have HW0 := Lib.hid hw0
  have HK2 := Lib.hid hk2
  have HBB := Lib.hid hB
  have HS := Lib.hid hS
  have HCLO := Lib.hid hcl
  have HPF := Lib.hid hpf
  have HC := Lib.hid (table_any a B L (.slice pv n cv) w0 (hS.below hb0 (Nat.le_refl _)) (Nat.le_trans hB hb0.size) (hv.below hb0 (Nat.le_refl _)) hn hl)
  have HE := Lib.hid he
  have HE0 := Lib.hid (errX_ok he).1
  have HOK := Lib.hid (errC_ok (errX_ok he).1)
  unfold TabPost at HC
  unfold AnsP at HCLO
  unfold SomeP
  have hm7 := topN_7 HE0.out
  have hTl := tableF_len (allF L)
  have HROW := Lib.hid (fun d (hd : d < topN (allF L)) => tableF_at (A := allF L) hd)
  obtain ⟨T, hTT⟩ : ∃ T, tableF (allF L) = T := ⟨_, rfl⟩
  rw [hTT] at hTl HROW HC ⊢
  obtain ⟨m, hm⟩ : ∃ m, topN (allF L) = m := ⟨_, rfl⟩
  rw [hm] at hm7 hTl HROW
  have HTL := Lib.hid hTl
  have HTT := Lib.hid hTT
  obtain ⟨M, hMM⟩ : ∃ M, coll pf T.flatten = M := ⟨_, rfl⟩
  rw [hMM]
  have HMM := Lib.hid hMM
  clear hTl hTT hm hMM
  clear hS hB hv hn hl hb0 he hLn hw0 hk2 hcl hpf
  go_enter Tryz.func75, Tryz.ntmps75
  go_wp2_with fail
  rw [← HW0.out]
  refine HC.out.mono ?_
  rintro e w1 ⟨hb1, ⟨h0, tv, rfl, hT⟩ | ⟨k, hk, hek, rfl⟩⟩
  rotate_left
  · exact absurd HE.out (by omega)
  have HB1 := Lib.hid (HB0.out.trans (hb1.mono HB0.out.size))
  have HK1 := Lib.hid ((hb1.block _ (Array.getElem?_eq_some_iff.1 HK2.out).1).trans HK2.out)
  have htab := hT.tab
  obtain ⟨pt, ct, hte, -⟩ := id htab
  rw [HTL.out] at hte
  subst hte
  have HTAB := Lib.hid htab
  have hs1 := HB1.out.size
  have hlt1 : w.heap.size + 1 < w1.heap.size := (Array.getElem?_eq_some_iff.1 HK1.out).1
  clear hb1 h0 hT htab HC
  go_wp2_with fail
  go_loopw [8, 10, 12, 13, 25, 31] (fun u _ _ _ i _ wr => ∃ j : Nat, j ≤ m ∧ i = .int .i64 j ∧ Below w1.heap.size w1 wr ∧ RowsO w1.heap.size B wr u (coll pf (T.take j).flatten)) (fun _ _ _ _ i _ _ => m - (intOf i).toNat)
  case atStart => exact ⟨0, Nat.zero_le _, rfl, Below.refl _ _, RowsO.nil _ _ _⟩
  case round =>
    obtain ⟨j, hj, rfl, hb, hR⟩ := hrel
    obtain ⟨wo, rfl⟩ : ∃ wo : World, wo = wr := ⟨_, rfl⟩
    have HBJ := Lib.hid hb
    have HRJ := Lib.hid hR
    by_cases hjm : j < m
    · obtain ⟨p', c', hv', hle, hnn, hx⟩ := id (HTAB.out.below hb (Nat.le_refl _))
      obtain ⟨b, off, ur, e1, e2, e3⟩ := hx j (by rw [HTL.out]; exact hjm)
      obtain ⟨rfl, rfl⟩ : pt = p' ∧ ct = c' := by cases hv'; exact ⟨rfl, rfl⟩
      subst e1
      have hrow := HROW.out j hjm
      have hrl : (rowF (allF L) j).length ≤ 600 := Nat.le_trans (rowF_len _ _) HOK.out.2.2
      have HMR : Hid (∀ x ∈ T.getD j [], x ∈ allF L) := fun x hx => by rw [hrow] at hx; exact (mem_rowF.1 hx).1
      rw [← hrow] at hrl
      have HTK : Hid ((T.take (j + 1)).flatten = (T.take j).flatten ++ T.getD j []) := by
        unfold Hid
        rw [take_snoc_getD [] T j (by rw [HTL.out]; exact hjm), List.flatten_append]
        simp
      obtain ⟨pr, cr, hre, -⟩ := id e3
      obtain ⟨X, hX⟩ : ∃ X, T.getD j [] = X := ⟨_, rfl⟩
      rw [hX] at e3 hre hrl HMR HTK
      obtain ⟨nr, hnr⟩ : ∃ nr, X.length = nr := ⟨_, rfl⟩
      rw [hnr] at hre hrl
      subst hre
      have HX3 := Lib.hid e3
      have HNR := Lib.hid hnr
      have hcl0 : (coll pf (T.take j).flatten).length ≤ 5000 := by
        have h1 := coll_len pf (T.take j).flatten
        have h2 : (T.take j).flatten.length ≤ 5000 := by
          have h3 : ∀ i, i ≤ j → (T.take i).flatten.length ≤ 600 * i := fun i => by
            induction i with
            | zero => intro _; simp
            | succ i ih =>
              intro hi
              rw [take_snoc_getD [] T i (by rw [HTL.out]; omega), List.flatten_append, List.length_append]
              have h4 := ih (by omega)
              have h5 : (T.getD i []).length ≤ 600 := by
                rw [HROW.out i (by omega)]; exact Nat.le_trans (rowF_len _ _) HOK.out.2.2
              simp only [List.flatten_cons, List.flatten_nil, List.append_nil]
              omega
          have := h3 j (Nat.le_refl _)
          omega
        omega
      have HCL0 := Lib.hid hcl0
      clear hx hle hnn hv' e3 hX hnr hrow hb hR hcl0
      go_wp2_with fail
      go_loopw [8, 12, 13, 31] (fun u _ _ i wr => ∃ q : Nat, q ≤ nr ∧ i = .int .i64 q ∧ Below w1.heap.size w1 wr ∧ RowsO w1.heap.size B wr u (coll pf (T.take j).flatten ++ coll pf (X.take q))) (fun _ _ _ i _ => nr - (intOf i).toNat)
      case atStart => exact ⟨0, Nat.zero_le _, rfl, HBJ.out, by simpa [coll] using HRJ.out⟩
      case round =>
        obtain ⟨q, hq, rfl, hb, hR⟩ := hrel
        have HBQ := Lib.hid hb
        have HRQ := Lib.hid hR
        by_cases hqn : q < nr
        · have hqX : q < X.length := by rw [HNR.out]; exact hqn
          have hxr := HTAB.out.below hb (Nat.le_refl _)
          obtain ⟨p', c', hv', hle, hnn, hx⟩ := id hxr
          obtain ⟨b', off', ur', e1', e2', e3'⟩ := hx j (by rw [HTL.out]; exact hjm)
          have HXR : Hid (ListsIn B wr (.slice pr nr cr) X) := by
            obtain ⟨p2, c2, hv2, -, -, hx2⟩ := id HTAB.out
            obtain ⟨b2, off2, ur2, f1, f2, f3⟩ := hx2 j (by rw [HTL.out]; exact hjm)
            obtain ⟨rfl, rfl⟩ : p2 = some ⟨b, off, none⟩ ∧ ct = c2 := by cases hv2; exact ⟨rfl, rfl⟩
            cases f1
            have g1 := (HBJ.out.cell (p := ⟨b, off + j, none⟩) (mem_lt f2)).trans f2
            rw [e2] at g1
            have g2 := Option.some.inj g1
            subst g2
            have g3 := f3.below hb (Nat.le_refl _)
            rwa [show T.getD j [] = X from by
              have := HTK.out
              rw [take_snoc_getD [] T j (by rw [HTL.out]; exact hjm), List.flatten_append] at this
              simpa using this] at g3
          obtain ⟨bx, ox, cx, hxe⟩ := HXR.out.form (by omega)
          rw [HNR.out] at hxe
          obtain ⟨rfl, rfl⟩ : pr = some ⟨bx, ox, none⟩ ∧ cr = cx := by cases hxe; exact ⟨rfl, rfl⟩
          obtain ⟨pj, cj, hcj, hij⟩ := cells_at HXR.out q hqX
          have hmem := HMR.out _ (getL_mem hqX)
          have HTQ := Lib.hid (take_snoc_getD [] X q hqX)
          have hbw : Below w.heap.size w wr := HB1.out.trans (hb.mono HB1.out.size)
          have HCO := Lib.hid (HCLO.out wr hbw _ (X.getD q []) hmem hij)
          have hx7 := allF_bd HE0.out _ hmem
          obtain ⟨x, hxx⟩ : ∃ x, X.getD q [] = x := ⟨_, rfl⟩
          rw [hxx] at hcj HCO HTQ
          have hpl : (pf x).length ≤ 7 := by
            by_cases h0 : pf x = []
            · rw [h0]; exact Nat.zero_le _
            · rw [← hxx] at h0 ⊢; exact isF_len HOK.out.2.1 (HPF.out _ hmem h0)
          generalize x.length = nx at hcj HCO
          obtain ⟨y, hy⟩ : ∃ y, pf x = y := ⟨_, rfl⟩
          rw [hy] at HCO hpl
          have HSTEP : Hid (coll pf (X.take (q + 1)) = coll pf (X.take q) ++ (if y ≠ [] then [y] else [])) := by unfold Hid; rw [HTQ.out, coll_app, coll_one, hy]
          obtain ⟨ny, hny⟩ : ∃ ny, y.length = ny := ⟨_, rfl⟩
          rw [hny] at HCO hpl
          have HNY := Lib.hid hny
          have hln : (coll pf (T.take j).flatten ++ coll pf (X.take q)).length ≤ 10000 := by
            rw [List.length_append]
            have h1 := HCL0.out
            have h2 := coll_len pf (X.take q)
            rw [List.length_take] at h2
            omega
          have HLN := Lib.hid hln
          clear hxe hxr hx hle hnn hv' hij hmem hxx hx7 hy hny hbw hb hR hln e1' e2' e3' hqX
          go_wp2_with fail
          refine HCO.out.mono ?_
          rintro e w2 ⟨py, cy, rfl, hb2, hi2⟩
          have hbr := HBQ.out.trans (hb2.mono HBQ.out.size)
          obtain ⟨hs, h1, h2, h3⟩ := HRQ.out.below hb2 (Nat.le_refl _)
          obtain ⟨k, hk⟩ : ∃ k, (coll pf (T.take j).flatten ++ coll pf (X.take q)).length = k := ⟨_, rfl⟩
          have hkn : k ≤ 10000 := by rw [← hk]; exact HLN.out
          rw [hk] at h1
          have HK := Lib.hid hk
          have H1 := Lib.hid h1
          have H2 := Lib.hid h2
          have H3 := Lib.hid h3
          have HB2 := Lib.hid hbr
          have hws := hbr.size
          have HI2 := Lib.hid hi2
          clear hb2 hi2 hbr h1 h2 h3 hk
          by_cases hyp : 0 < ny
          · have hyn : y ≠ [] := List.length_pos_iff.1 (by rw [HNY.out]; exact hyp)
            have HYN := Lib.hid hyn
            clear hyn
            go_wp2_with (at_builtin; refine wpList_append_lies _ rfl (.tmp 41) (.tmp 43) 22 rfl w1.heap.size 26 i26 (.slice none 0 0) 1 24 Tryz.underlying22 hi26 hy0 hy1 hy2 rfl (by decide) _ k hs rfl (H1.out.alloc _) ⟨w2.heap.size, 0, none⟩ 1 1 [.slice py ny cy] rfl rfl (World.news_of_block (cs := #[.slice py ny cy]) (t := 26) (fr := (0, 0)) (heap_alloc_new w2 _)) (by simp [Value.oneCell']) (by decide) (by unfold maxLen; omega) (by omega) (by simp; omega) (w2.heap.size + 1) (by simp) ?_; intro g2 c2 w9 hown2 hgr2 hat2 hlt2; have HO2 := Lib.hid hown2; have HG2 := Lib.hid hgr2; clear hown2 hgr2 hat2 hlt2)
            go_roundw
            case rel =>
              have hbA : Below w2.heap.size w2 (w2.alloc (.cells #[.slice py ny cy] 26)) := (Below.refl _ _).alloc (Nat.le_refl _) _
              refine ⟨q + 1, by omega, by go_num, (HB2.out.alloc hws _).grown HG2.out (by simp; omega) (fun i hi => (H1.out.lt i hi).1), ?_⟩
              rw [HSTEP.out, if_pos HYN.out, ← List.append_assoc]
              exact rowsO_push (w := w2.alloc (.cells #[.slice py ny cy] 26)) (hs := hs) (Nat.le_trans HBB.out hs1) (by rw [HK.out]; exact H1.out.alloc _) H2.out (fun i hi => (H3.out i hi).below hbA (Nat.le_refl _)) (HI2.out.below hbA (Nat.le_refl _)) (by rw [HK.out]; exact HO2.out) HG2.out
            case measure => simp [intOf]; omega
          · have hyn : y = [] := List.length_eq_zero_iff.1 (by rw [HNY.out]; omega)
            have HYN := Lib.hid hyn
            have hny0 : ny ≤ 0 := by omega
            clear hyn
            go_wp2_with fail
            go_roundw
            case rel =>
              refine ⟨q + 1, by omega, by go_num, HB2.out, ?_⟩
              rw [HSTEP.out, if_neg (fun h => h HYN.out), List.append_nil]
              exact ⟨hs, by rw [HK.out]; exact H1.out, H2.out, H3.out⟩
            case measure => simp [intOf]; omega
        · obtain rfl : nr = q := by omega
          have HFULL : Hid (coll pf (T.take j).flatten ++ coll pf (X.take nr) = coll pf (T.take (j + 1)).flatten) := by
            unfold Hid
            have hXX : X.take nr = X := List.take_of_length_le (by rw [HNR.out]; exact Nat.le_refl _)
            rw [HTK.out, coll_app, hXX]
          rw [HFULL.out] at HRQ
          clear hb hR
          go_wp2_with fail
          go_roundw
          case rel => exact ⟨j + 1, by omega, by go_num, HBQ.out, HRQ.out⟩
          case measure => simp [intOf]; omega
    · obtain rfl : m = j := by omega
      have hTf : (T.take m) = T := List.take_of_length_le (by rw [HTL.out]; exact Nat.le_refl _)
      rw [hTf] at hR
      have hMm : ∀ g ∈ coll pf T.flatten, IsF L g := fun g hg => by
        obtain ⟨h1, x, hx, rfl⟩ := mem_coll.1 hg
        rw [← HTT.out] at hx
        exact HPF.out x ((mem_flat (fun g hg => (mem_allF.1 hg).1)).1 hx) h1
      have hM0 := errC_sub HE0.out hMm
      have hMl : (coll pf T.flatten).length ≤ 100000 := by
        have h1 := coll_len pf T.flatten
        have h3 : ∀ i, i ≤ m → (T.take i).flatten.length ≤ 600 * i := fun i => by
          induction i with
          | zero => intro _; simp
          | succ i ih =>
            intro hi
            rw [take_snoc_getD [] T i (by rw [HTL.out]; omega), List.flatten_append, List.length_append]
            have h4 := ih (by omega)
            have h5 : (T.getD i []).length ≤ 600 := by
              rw [HROW.out i (by omega)]; exact Nat.le_trans (rowF_len _ _) HOK.out.2.2
            simp only [List.flatten_cons, List.flatten_nil, List.append_nil]
            omega
        have h6 := h3 m (Nat.le_refl _)
        rw [hTf] at h6
        omega
      have hbw : Below w.heap.size w wo := HB1.out.trans (hb.mono HB1.out.size)
      obtain ⟨pm, cm, hme, -⟩ := hR.lists
      rw [HMM.out] at hR hMm hM0 hMl hme
      have HMK := Lib.hid (make_any a B M _ wo (HS.out.below hbw (Nat.le_refl _)) (Nat.le_trans HBB.out hbw.size) hR.lists hMl (fun l h => by have := isF_len HOK.out.2.1 (hMm l h); omega))
      unfold MakeC at HMK
      generalize M.length = nm at hme
      subst hme
      have HM0 := Lib.hid hM0
      have HBW := Lib.hid hbw
      have HKO := Lib.hid ((hb.block _ hlt1).trans HK1.out)
      have hlto : w.heap.size + 1 < wo.heap.size := (Array.getElem?_eq_some_iff.1 HKO.out).1
      clear hTf hMm hM0 hMl hbw hR hb
      go_wp2_with fail
      refine HMK.out.mono ?_
      rintro e w5 ⟨hb5, ⟨-, u5, rfl, hR5⟩ | ⟨h0, -⟩⟩
      rotate_left
      · exact absurd HM0.out h0
      obtain ⟨p5, c5, hu5, -⟩ := hR5.lists
      have hk5 := (hb5.block _ hlto).trans HKO.out
      have HL5 := Lib.hid hR5.lists
      obtain ⟨s5, hs5⟩ : ∃ s5, (madeF M).length = s5 := ⟨_, rfl⟩
      rw [hs5] at hu5
      subst hu5
      have HS5 := Lib.hid hs5
      have HB5 := Lib.hid (HBW.out.trans (hb5.mono HBW.out.size))
      have d0 := (one_at hk5).1
      have f0 := (one_at hk5).2
      have R0 := Lib.hid (one_set (v := .slice p5 s5 c5) hk5)
      have HBF := Lib.hid (show Below w.heap.size w (w5.setCell ⟨w.heap.size + 1, 0, none⟩ (.slice p5 s5 c5)) from HB5.out.setCell (Nat.le_succ _) _)
      have HLF : Hid (RowsO w.heap.size B (w5.setCell ⟨w.heap.size + 1, 0, none⟩ (.slice p5 s5 c5)) (.slice p5 s5 c5) (madeF M)) := by
        have hro := hR5.grown (c := w.heap.size + 1) (grown_cell w5 (w.heap.size + 1) (.slice p5 s5 c5)) hlto (Nat.le_succ_of_le HBB.out) (fun x e => by rw [hk5] at e; cases e)
        exact hro.le HBW.out.size
      clear hb5 hR5 hk5 hs5
      go_wp2_with fail
      refine bodyPost_ret (v := .tuple #[.agg #[.slice p5 s5 c5], .nilIface]) (by simp [results, Tryz.results75, go_sem, R0.out]) rfl ?_
      refine ⟨HBF.out, Or.inl ⟨HE.out, p5, c5, ?_, ?_⟩⟩
      · rw [HS5.out]
      · rw [HS5.out]; exact HLF.out
theorem someL_any (a : Nat → Addr) (B : Nat) (L : List (List Int)) (pf : List Int → List Int) (v cap : Value) (w : World) (hS : Sents w a) (hB : B ≤ w.heap.size) (hv : ListsIn B w v L) (hn : L.length ≤ 100000) (hl : ∀ l ∈ L, l.length ≤ 100000)
    (hcl : errX L = 0 → ∀ w', Below w.heap.size w w' → ∀ u x, x ∈ allF L → IntsIn B w' u x → Calls Tryz.prog 79 #[u, cap] w' (AnsP B (pf x) w')) (hpf : errX L = 0 → ∀ x ∈ allF L, pf x ≠ [] → IsF L (pf x)) :
    Calls Tryz.prog 75 #[.agg #[v], .func (.func 79) #[] #[cap]] w (SomeP a B L (coll pf (tableF (allF L)).flatten) w) := by
  by_cases he : errX L = 0
  · exact someL_ok a B L pf v cap w hS hB hv hn hl he (hcl he) (hpf he)
  · exact someL_bad a B L _ v cap w hS hB hv hn hl he

set_option maxRecDepth 100000 in
set_option maxHeartbeats 16000000 in
theorem slL_any (a : Nat → Addr) (B : Nat) (L : List (List Int)) (f : List Int) (v u : Value) (w : World) (hS : Sents w a) (hB : B ≤ w.heap.size) (hv : ListsIn B w v L) (hu : IntsAt w u f) (hn : L.length ≤ 100000) (hl : ∀ l ∈ L, l.length ≤ 100000) (hf : f.length ≤ 1000) :
    Calls Tryz.prog 28 #[.agg #[v], u] w (SetsP a B (errS L f) (coll (fun x => if partB f x then minF x f else []) (tableF (allF L)).flatten) w) := by
  obtain ⟨pv, cv, hve, -⟩ := id hv
  generalize hLn : L.length = n at hve
  subst hve
  obtain ⟨pu, cu, hue, -⟩ := id hu
  obtain ⟨nu, hnu⟩ : ∃ nu, f.length = nu := ⟨_, rfl⟩
  rw [hnu] at hue
  subst hue
  obtain ⟨w0, hw0⟩ : ∃ w0, w0 = ((w.alloc (.cells #[.slice pv n cv] 34)).alloc (.cells #[.slice pu nu cu] 26)).alloc (.cells #[.slice none 0 0] 34) := ⟨_, rfl⟩
  have hb0 : Below w.heap.size w w0 := by rw [hw0]; exact (((Below.refl _ _).alloc (Nat.le_refl _) _).alloc (by simp) _).alloc (by simp; omega) _
  have hk0 : w0.heap[w.heap.size]? = some (.cells #[.slice pv n cv] 34 (0, 0)) := by
    rw [hw0]; exact ((lit_below _ _).block _ (by simp; omega)).trans (((lit_below _ _).block _ (by simp)).trans (heap_alloc_new w _))
  have hk1 : w0.heap[w.heap.size + 1]? = some (.cells #[.slice pu nu cu] 26 (0, 0)) := by
    rw [hw0]
    have h := heap_alloc_new (w.alloc (.cells #[.slice pv n cv] 34)) (.cells #[.slice pu nu cu] 26)
    rw [lit_size] at h
    exact ((lit_below _ _).block _ (by simp)).trans h
  have hk2 : w0.heap[w.heap.size + 1 + 1]? = some (.cells #[.slice none 0 0] 34 (0, 0)) := by
    rw [hw0]
    have h := heap_alloc_new ((w.alloc (.cells #[.slice pv n cv] 34)).alloc (.cells #[.slice pu nu cu] 26)) (.cells #[.slice none 0 0] 34)
    rw [lit_size, lit_size] at h
    exact h
  have HB0 := Lib.hid hb0
  have HW0 := Lib.hid hw0
  have HK0 := Lib.hid hk0
  have HK1 := Lib.hid hk1
  have HK2 := Lib.hid hk2
  have HS := Lib.hid hS
  have HBB := Lib.hid hB
  have hlt2 : w.heap.size + 1 + 1 < w0.heap.size := (Array.getElem?_eq_some_iff.1 hk2).1
  have HH := Lib.hid (Has_any a B L f (.slice pv n cv) (.slice pu nu cu) w0 (hS.below hb0 (Nat.le_refl _)) (Nat.le_trans hB hb0.size) (hv.below hb0 (Nat.le_refl _)) (hu.below hb0 (Nat.le_refl _)) hn hl (by omega))
  have HSM := Lib.hid (fun (wx : World) (hbx : Below w0.heap.size w0 wx) => someL_any a B L (fun x => if partB f x then minF x f else []) (.slice pv n cv) (.pointer (some ⟨w.heap.size + 1, 0, none⟩)) wx ((hS.below hb0 (Nat.le_refl _)).below hbx (Nat.le_refl _)) (Nat.le_trans (Nat.le_trans hB hb0.size) hbx.size) ((hv.below hb0 (Nat.le_refl _)).below hbx (Nat.le_refl _)) hn hl
    (fun he0 w' hb' ux x hx hix => by
      have hb2 := hbx.trans (hb'.mono hbx.size)
      have hc := (one_at ((hb2.block _ (Array.getElem?_eq_some_iff.1 hk1).1).trans hk1)).1
      exact link1_any B (w.heap.size + 1) f x ux (.slice pu nu cu) w' hc ((hu.below hb0 (Nat.le_refl _)).below hb2 (Nat.le_refl _)) hix (by omega) (List.length_pos_iff.2 (mem_allF.1 hx).1) (by have := allF_bd (errX_ok he0).1 x hx; omega))
    (fun he0 x hx hne => by
      by_cases hp : partB f x = true
      · simp only [hp, if_true] at hne ⊢; exact isF_sub (mem_allF.1 hx) List.filter_sublist hne
      · simp only [hp] at hne; exact absurd rfl hne))
  unfold FacPost at HH
  unfold SomeP at HSM
  have HD := Lib.hid (fun (h : errX L = 0) => hasB_iff h f)
  unfold SetsP
  clear hS hB hv hu hn hl hb0 hLn hw0 hk0 hk1 hk2 hf hnu
  obtain ⟨M, hM⟩ : ∃ M, coll (fun x => if partB f x then minF x f else []) (tableF (allF L)).flatten = M := ⟨_, rfl⟩
  rw [hM] at HSM ⊢
  clear hM
  go_enter Tryz.func28, Tryz.ntmps28
  go_wp2_with fail
  rw [← HW0.out]
  refine HH.out.mono ?_
  rintro e w1 ⟨hb1, ⟨he, vb, rfl, hvb⟩ | ⟨k, hk, hek, rfl⟩⟩
  · have HB1 := Lib.hid (HB0.out.trans (hb1.mono HB0.out.size))
    have hk0' := (hb1.block _ (Array.getElem?_eq_some_iff.1 HK0.out).1).trans HK0.out
    have hk2' := (hb1.block _ hlt2).trans HK2.out
    have HE := Lib.hid he
    subst hvb
    obtain ⟨r, hr⟩ : ∃ r, hasB L f = r := ⟨_, rfl⟩
    rw [hr]
    have HR := Lib.hid hr
    cases r with
    | true =>
      have HES : Hid (errS L f = 0) := by unfold Hid errS; rw [if_neg (by rw [HE.out]; decide), if_pos ((HD.out HE.out).1 HR.out)]
      have HSM1 := Lib.hid (HSM.out w1 hb1)
      have c0 := (one_at hk0').1
      have HK2' := Lib.hid hk2'
      have hlt3 : w.heap.size + 1 + 1 < w1.heap.size := (Array.getElem?_eq_some_iff.1 hk2').1
      clear hb1 he hk0' hk2' hr
      go_wp2_with fail
      refine HSM1.out.mono ?_
      rintro e w2 ⟨hb2, ⟨-, p, c, rfl, hM⟩ | ⟨k, hk, hek, rfl⟩⟩
      · have HB2 := Lib.hid (HB1.out.trans (hb2.mono HB1.out.size))
        have hk3 := (hb2.block _ hlt3).trans HK2'.out
        obtain ⟨s, hs⟩ : ∃ s, (madeF M).length = s := ⟨_, rfl⟩
        rw [hs] at hM ⊢
        have HS5 := Lib.hid hs
        have d0 := (one_at hk3).1
        have f0 := (one_at hk3).2
        have R0 := Lib.hid (one_set (v := .slice p s c) hk3)
        have HBF := Lib.hid (show Below w.heap.size w (w2.setCell ⟨w.heap.size + 1 + 1, 0, none⟩ (.slice p s c)) from HB2.out.setCell (by show w.heap.size ≤ w.heap.size + 1 + 1; omega) _)
        have HLF : Hid (RowsO w.heap.size B (w2.setCell ⟨w.heap.size + 1 + 1, 0, none⟩ (.slice p s c)) (.slice p s c) (madeF M)) := (hM.grown (c := w.heap.size + 1 + 1) (grown_cell w2 (w.heap.size + 1 + 1) (.slice p s c)) hlt3 (Nat.le_trans HBB.out (by omega)) (fun x e => by rw [hk3] at e; cases e)).le HB1.out.size
        clear hb2 hk3 hM hs
        go_wp2_with fail
        refine bodyPost_ret (v := .tuple #[.agg #[.slice p s c], .nilIface]) (by simp [results, Tryz.results28, go_sem, R0.out]) rfl ?_
        refine ⟨HBF.out, Or.inl ⟨HES.out, p, c, ?_, ?_⟩⟩
        · rw [HS5.out]
        · rw [HS5.out]; exact HLF.out
      · exact absurd HE.out (by omega)
    | false =>
      have HES : Hid (errS L f = 3 + 1) := by unfold Hid errS; rw [if_neg (by rw [HE.out]; decide), if_neg (fun h => by have := (HD.out HE.out).2 h; rw [HR.out] at this; cases this)]
      have hg := (HS.out.below HB1.out (Nat.le_refl _)).g 3 (by decide)
      simp only [gnum] at hg
      have d0 := (one_at hk2').1
      have f0 := (one_at hk2').2
      have R0 := Lib.hid (one_set (v := .slice none 0 0) hk2')
      have HBF := Lib.hid (show Below w.heap.size w (w1.setCell ⟨w.heap.size + 1 + 1, 0, none⟩ (.slice none 0 0)) from HB1.out.setCell (by show w.heap.size ≤ w.heap.size + 1 + 1; omega) _)
      have HCM := Lib.hid (cmpErr_nil (.iface 225 (.pointer (some (a 3)))) w1)
      clear hb1 he hk0' hk2' hr
      go_wp2_with fail
      refine HCM.out.mono ?_
      rintro e w2 ⟨rfl, rfl⟩
      go_wp2_with fail
      refine bodyPost_ret (v := .tuple #[.agg #[.slice none 0 0], .iface 225 (.pointer (some (a 3)))]) (by simp [results, Tryz.results28, go_sem, R0.out]) rfl ?_
      exact ⟨HBF.out, Or.inr ⟨3, by decide, HES.out, rfl⟩⟩
  · have HB1 := Lib.hid (HB0.out.trans (hb1.mono HB0.out.size))
    have hk2' := (hb1.block _ hlt2).trans HK2.out
    have HES : Hid (errS L f = k + 1) := by unfold Hid errS; rw [if_pos (by omega)]; exact hek
    have hg := (HS.out.below HB1.out (Nat.le_refl _)).g 3 (by decide)
    simp only [gnum] at hg
    have d0 := (one_at hk2').1
    have f0 := (one_at hk2').2
    have R0 := Lib.hid (one_set (v := .slice none 0 0) hk2')
    have HBF := Lib.hid (show Below w.heap.size w (w1.setCell ⟨w.heap.size + 1 + 1, 0, none⟩ (.slice none 0 0)) from HB1.out.setCell (by show w.heap.size ≤ w.heap.size + 1 + 1; omega) _)
    have HCM := Lib.hid (cmpErr_some 225 (.pointer (some (a k))) (.iface 225 (.pointer (some (a 3)))) w1)
    unfold errE
    clear hb1 hek hk2'
    go_wp2_with fail
    refine HCM.out.mono ?_
    rintro e w2 ⟨rfl, rfl⟩
    go_wp2_with fail
    refine bodyPost_ret (v := .tuple #[.agg #[.slice none 0 0], .iface 225 (.pointer (some (a k)))]) (by simp [results, Tryz.results28, go_sem, R0.out]) rfl ?_
    exact ⟨HBF.out, Or.inr ⟨k, hk, HES.out, rfl⟩⟩
end Go.Proofs.YtipblphfjejpbaaGreatDoor
