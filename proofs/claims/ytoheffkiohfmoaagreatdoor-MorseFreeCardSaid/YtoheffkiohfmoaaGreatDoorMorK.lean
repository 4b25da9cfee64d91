/-
  The document's Numbered and AllLeft by contracts.
  The document's greater by a contract: the last greater face that is left, and how many.
  The document's FreePairs by a contract.
-/
import Derived.Test.YtoheffkiohfmoaaGreatDoorMorG
set_option linter.unusedSimpArgs false
set_option linter.unusedVariables false
namespace Go.Proofs.YtoheffkiohfmoaaGreatDoor
open Go Go.RowKit Go.Maps

theorem under_bools : Tryz.prog.underlying 43 = some (.slice 4) := by kernel_rfl
theorem info_bool : (Tryz.prog.info? 4).map (fun i => (i.zero, i.size, i.bytes)) = some (some (.bool false), 1, 1) := by kernel_rfl
theorem boolVs_snoc (l : List Bool) (x : Bool) : boolVs (l ++ [x]) = boolVs l ++ [.bool x] := by unfold boolVs; rw [List.map_append]; rfl
set_option maxRecDepth 100000 in
set_option maxHeartbeats 8000000 in
theorem allLeft_any (n : Nat) (w : World) (hn : n ≤ 1000) : Calls Tryz.prog 18 #[.int .i64 (n : Int)] w (fun e w' => ∃ v, e = .returned v ∧ Below w.heap.size w w' ∧ BoolO w.heap.size w' v (List.replicate n true)) := by
  obtain ⟨i4, hi4, hy0, hy1, hy2⟩ := info_parts info_bool
  go_enter Tryz.func18, Tryz.ntmps18
  go_wp2_with fail
  go_loopw [3, 4] (fun s i wr => ∃ k : Nat, k ≤ n ∧ i = .int .i64 (k : Int) ∧ Below w.heap.size w wr ∧ BoolO w.heap.size wr s (List.replicate k true)) (fun _ i _ => n - (intOf i).toNat)
  case atStart => exact ⟨0, Nat.zero_le _, rfl, Below.refl _ _, BoolO.nil _ _⟩
  case round =>
    obtain ⟨k, hk, rfl, hb, hO⟩ := hrel
    have HB := Lib.hid hb
    have hws := hb.size
    have HO := Lib.hid hO
    by_cases hkl : k < n
    · have h1 := hO
      unfold BoolO at h1
      rw [List.length_replicate] at h1
      obtain ⟨p1, c1, hve⟩ := hO.sliceOf
      rw [List.length_replicate] at hve
      subst hve
      have H1 := Lib.hid h1
      clear hb hO h1
      go_wp2_with (at_builtin; refine wpList_append_lies _ rfl (.tmp 10) (.tmp 11) 43 rfl w.heap.size 4 i4 (.bool false) 1 1 under_bools hi4 hy0 hy1 hy2 rfl (by decide) _ k (boolVs (List.replicate k true)) rfl (H1.out.alloc _) ⟨wr.heap.size, 0, none⟩ 1 1 [.bool true] rfl rfl (World.news_of_block (cs := #[.bool true]) (t := 4) (fr := (0, 0)) (heap_alloc_new wr _)) (by simp [Value.oneCell']) (by decide) (by unfold maxLen; omega) (by omega) (by simp; omega) (wr.heap.size + 1) (by simp) ?_; intro g2 c2 w9 hown2 hgr2 hat2 hlt2; have HO2 := Lib.hid hown2; have HG2 := Lib.hid hgr2; clear hown2 hgr2 hat2 hlt2)
      go_roundw
      case rel =>
        refine ⟨k + 1, hkl, by go_num, (HB.out.alloc hws _).grown HG2.out (by simp; omega) (fun i hi => (H1.out.lt i hi).1), ?_⟩
        unfold BoolO
        rw [List.length_replicate, List.replicate_succ', boolVs_snoc]
        exact HO2.out
      case measure => simp [intOf]; omega
    · obtain rfl : k = n := by omega
      clear hb hO
      go_wp2_with fail
      go_ret
      exact ⟨_, rfl, HB.out, HO.out⟩

set_option maxRecDepth 100000 in
set_option maxHeartbeats 8000000 in
theorem numbered_any (B : Nat) (A : List (List Int)) (v : Value) (w : World) (hB : B ≤ w.heap.size) (hv : ListsIn B w v A) (hn : A.length ≤ 100000) (hl : ∀ l ∈ A, l.length ≤ 100000) (hf : (faceN A).length ≤ 100000) :
    Calls Tryz.prog 15 #[v] w (ListPost B (faceN A) w) := by
  obtain ⟨i39, hi39, hz0, hz1, hz2⟩ := info_parts Tryz.info51
  have HV := Lib.hid hv
  have HBB := Lib.hid hB
  have HL := Lib.hid hl
  obtain ⟨T, hT⟩ : ∃ T, tableF A = T := ⟨_, rfl⟩
  have hTA : T.length = topN A := by rw [← hT, tableF_len]
  obtain ⟨n, hLn⟩ : ∃ n, topN A = n := ⟨_, rfl⟩
  have hn1 : n ≤ 100000 := by
    rw [← hLn]
    rcases topN_mem A with h | ⟨f, hf, e⟩
    · omega
    · rw [← e]; exact hl f hf
  rw [hLn] at hTA
  have HTA := Lib.hid hTA
  have HAT : Hid (∀ d, d < n → T.getD d [] = dimF A (d : Int)) := fun d hd => by rw [dimF_nat, ← hT]; exact tableF_at (by rw [hLn]; exact hd)
  have hfe : faceN A = T.flatten := by rw [← hT]; rfl
  rw [hfe] at hf
  rw [hfe]
  have HTO := Lib.hid (fun wr (hr : Below w.heap.size w wr) => topOf_any B A v wr (HV.out.below hr (Nat.le_refl _)) hn hl)
  have HOD := Lib.hid (fun wr (hr : Below w.heap.size w wr) (d : Nat) => ofDim_any B A (d : Int) v wr (Nat.le_trans hB hr.size) (HV.out.below hr (Nat.le_refl _)) hn hl)
  unfold Same at HTO
  rw [hLn] at HTO
  clear hv hB hl hT hTA hLn hfe
  unfold ListPost
  go_enter Tryz.func15, Tryz.ntmps15
  go_wp2_with fail
  go_loopw [3, 4] (fun s i wr => ∃ j : Nat, j ≤ n ∧ i = .int .i64 (j : Int) ∧ Below w.heap.size w wr ∧ RowsO w.heap.size B wr s (T.take j).flatten) (fun _ i _ => n - (intOf i).toNat)
  case atStart => exact ⟨0, Nat.zero_le _, rfl, Below.refl _ _, RowsO.nil _ _ _⟩
  case round =>
    obtain ⟨j, hj, rfl, hb, hR⟩ := hrel
    have HB := Lib.hid hb
    have hsr := hb.size
    have HT1 := Lib.hid (HTO.out wr hb)
    by_cases hjn : j < n
    · have q1 : decide ((j : Int) ≤ (n : Int) - 1) = true := decide_eq_true (by omega)
      have hjL : j < T.length := by rw [HTA.out]; exact hjn
      have hsc := flat_succ hjL
      have HST := Lib.hid (flat_step hjL)
      have hfd := HAT.out j hjn
      have HOD1 := HOD.out wr hb j
      rw [← hfd] at HOD1
      unfold ListPost at HOD1
      have HD1 := Lib.hid HOD1
      obtain ⟨nj, hnj⟩ : ∃ nj, (T.getD j []).length = nj := ⟨_, rfl⟩
      rw [hnj] at hsc
      have HNJ := Lib.hid hnj
      have HR := Lib.hid hR
      clear hb hR HOD1 hfd hnj
      go_wp2_with fail
      refine HT1.out.mono ?_
      rintro e wx ⟨rfl, rfl⟩
      go_wp2_with fail
      refine HD1.out.mono ?_
      rintro e w5 ⟨v5, rfl, hb5, hR5⟩
      obtain ⟨pj, cj, hue, -⟩ := id hR5.lists
      rw [HNJ.out] at hue
      subst hue
      have HB5 := Lib.hid (HB.out.trans (hb5.mono hsr))
      have hs5 := HB5.out.size
      obtain ⟨news, d1, d2, d3, d4, d5, -⟩ := hR5.lists.heads
      obtain ⟨hs', h1, h2, h3⟩ := HR.out.below hb5 (Nat.le_refl _)
      obtain ⟨q, hq⟩ : ∃ q, (T.take j).flatten.length = q := ⟨_, rfl⟩
      have hqs : q + nj ≤ 100000 := by rw [← hq]; omega
      rw [hq] at h1
      have HQ := Lib.hid hq
      have H1 := Lib.hid h1
      have H2 := Lib.hid h2
      have H3 := Lib.hid h3
      have D1 := Lib.hid d1
      have D2 := Lib.hid d2
      have D3 := Lib.hid d3
      have D4 := Lib.hid d4
      have D5 := Lib.hid d5
      clear hb5 hR5 h1 h2 h3 d1 d2 d3 d4 d5 hq hsc
      go_wp2_with (at_builtin; refine wpList_app_any w5 rfl (.tmp 11) (.tmp 14) 22 rfl w.heap.size 51 i39 (.slice none 0 0) 24 Tryz.underlying22 hi39 hz0 hz1 hz2 rfl _ q hs' rfl H1.out pj nj cj news rfl D1.out D2.out D3.out D5.out (by unfold maxLen; omega) (by omega) hs5 _ rfl ?_; intro p2 c2 w2 ho2 hg2 hat2; have HO2 := Lib.hid ho2; have HG2 := Lib.hid hg2; have HB2 := Lib.hid (HB5.out.grown hg2 hs5 (fun k e => (H1.out.lt k e).1)); clear ho2 hg2 hat2)
      go_roundw
      case rel =>
        refine ⟨j + 1, by omega, by go_num, HB2.out, ?_⟩
        rw [HST.out]
        exact rowsO_app HBB.out (by rw [HQ.out]; exact H1.out) H2.out H3.out (by rw [D1.out, HNJ.out]) D4.out (by rw [HQ.out, HNJ.out]; exact HO2.out) HG2.out
      case measure => simp [intOf]; omega
    · obtain rfl : j = n := by omega
      have q1 : decide ((j : Int) ≤ (j : Int) - 1) = false := decide_eq_false (by omega)
      have HF : Hid ((T.take j) = T) := by unfold Hid; rw [← HTA.out, List.take_length]
      rw [HF.out] at hR
      have HR := Lib.hid hR
      clear hb hR
      go_wp2_with fail
      refine HT1.out.mono ?_
      rintro e wx ⟨rfl, rfl⟩
      go_wp2_with fail
      go_ret
      exact ⟨_, rfl, HB.out, HR.out⟩

def GrtP (l : List Nat) (w : World) (e : Ending) (w' : World) : Prop := e = .returned (.tuple #[.int .i64 (lastO l), .int .i64 (l.length : Int)]) ∧ Below w.heap.size w w'
set_option maxRecDepth 100000 in
set_option maxHeartbeats 8000000 in
theorem greater_any (B : Nat) (F : List (List Int)) (f vl : Value) (lf : List Bool) (a : Nat) (w : World) (hF : ListsIn B w f F) (hl : BoolsAt w vl lf) (hll : lf.length = F.length) (ha : a < F.length) (hn : F.length ≤ 600) (hf : ∀ x ∈ F, x.length ≤ 1000) (hup : LenUp F) :
    Calls Tryz.prog 51 #[f, vl, .int .i64 (a : Int)] w (GrtP (abvF F lf a) w) := by
  obtain ⟨pf, cf, hfe, -⟩ := id hF
  obtain ⟨pl, cl, hle, -⟩ := id hl
  obtain ⟨n, hnn⟩ : ∃ n, F.length = n := ⟨_, rfl⟩
  have hlow := abvTo_low hup (lf := lf) ha (a + 1) (Nat.le_refl _)
  rw [hnn] at hfe hn ha
  rw [hll, hnn] at hle
  subst hfe hle
  have haF : a < F.length := by rw [hnn]; exact ha
  obtain ⟨bf, off, cf', hve⟩ := hF.form (by rw [hnn]; omega)
  rw [hnn] at hve
  obtain ⟨rfl, rfl⟩ : pf = some ⟨bf, off, none⟩ ∧ cf = cf' := by cases hve; exact ⟨rfl, rfl⟩
  obtain ⟨pa, ca, hca1, hia1⟩ := cells_at hF a haF
  have hna := hf _ (getL_mem haF)
  obtain ⟨na, hna'⟩ : ∃ na, (F.getD a []).length = na := ⟨_, rfl⟩
  rw [hna'] at hca1 hia1 hna
  have HNA := Lib.hid hna'
  have HCA := Lib.hid hca1
  have HIA := Lib.hid hia1
  have HN := Lib.hid hnn
  have HF := Lib.hid hF
  have HL := Lib.hid hl
  have HFL := Lib.hid hf
  have HLL : Hid (lf.length = n) := by unfold Hid; rw [hll]; exact hnn
  have HAL : Hid (abvTo F lf a n = abvF F lf a) := by unfold Hid; rw [← hnn]; exact abvTo_all F lf a
  have HTL := Lib.hid (fun k => abvTo_len F lf a k)
  have HST := Lib.hid (fun k => abvTo_step F lf a k)
  have HLO := Lib.hid hlow
  unfold GrtP
  clear hF hl hll hnn hf haF hca1 hia1 hna' hlow hup hve
  go_enter Tryz.func51, Tryz.ntmps51
  go_wp2_with fail
  go_loopw [8, 9, 10] (fun s m i wr => ∃ k : Nat, a + 1 ≤ k ∧ k ≤ n ∧ i = .int .i64 (k : Int) ∧ s = .int .i64 (lastO (abvTo F lf a k)) ∧ m = .int .i64 ((abvTo F lf a k).length : Int) ∧ Below w.heap.size w wr) (fun _ _ i _ => n - (intOf i).toNat)
  case atStart => exact ⟨a + 1, Nat.le_refl _, ha, by go_num, by rw [HLO.out]; rfl, by rw [HLO.out]; rfl, Below.refl _ _⟩
  case round =>
    obtain ⟨k, hak, hkn, rfl, hse, hme, hb⟩ := hrel
    obtain ⟨s, hs⟩ : ∃ s, lastO (abvTo F lf a k) = s := ⟨_, rfl⟩
    obtain ⟨m, hm⟩ : ∃ m, (abvTo F lf a k).length = m := ⟨_, rfl⟩
    rw [hs] at hse
    rw [hm] at hme
    subst hse hme
    have HS := Lib.hid hs
    have HM := Lib.hid hm
    have hmk : m ≤ k := by rw [← hm]; exact HTL.out k
    have HB := Lib.hid hb
    have hst := HST.out k
    clear hs hm
    by_cases hkl : k < n
    · have hkF : k < F.length := by rw [HN.out]; exact hkl
      obtain ⟨pg, cg, hcg1, hig1⟩ := cells_at (HF.out.below hb (Nat.le_refl _)) k hkF
      have hca := (hb.cell (p := ⟨bf, off + a, none⟩) (mem_lt HCA.out)).trans HCA.out
      have hgb := HFL.out _ (getL_mem hkF)
      obtain ⟨bl, ol, hpe, hcl1⟩ := HL.out.at (i := k) (by rw [HLL.out]; exact hkl)
      subst hpe
      have hcl := (hb.cell (p := ⟨bl, ol + k, none⟩) (mem_lt hcl1)).trans hcl1
      obtain ⟨ng, hng⟩ : ∃ ng, (F.getD k []).length = ng := ⟨_, rfl⟩
      rw [hng] at hcg1 hig1 hgb
      have HNG := Lib.hid hng
      have HIG := Lib.hid hig1
      have HIA2 := Lib.hid (HIA.out.below hb (Nat.le_refl _))
      have HPT := Lib.hid (fun d : Nat => partOf_any (F.getD a []) (F.getD k []) (.slice pa na ca) (.slice pg ng cg) (wr.drewN d) (HIA2.out.below (Below.drewN wr d) (Nat.le_refl _)).at (HIG.out.below (Below.drewN wr d) (Nat.le_refl _)).at (by rw [HNA.out]; omega) (by rw [HNG.out]; omega))
      unfold Same at HPT
      have HNO : Hid (abvB F lf a k = false → abvTo F lf a (k + 1) = abvTo F lf a k) := fun h => by rw [hst, h]; exact List.append_nil _
      have HYES : Hid (abvB F lf a k = true → abvTo F lf a (k + 1) = abvTo F lf a k ++ [k]) := fun h => by rw [hst, h]; rfl
      have HAB : Hid (abvB F lf a k = (lf.getD k false && decide (na < ng) && partB (F.getD a []) (F.getD k []))) := by unfold Hid abvB; rw [HNA.out, HNG.out]
      obtain ⟨r, hr⟩ : ∃ r, partB (F.getD a []) (F.getD k []) = r := ⟨_, rfl⟩
      rw [hr] at HPT HAB
      clear hb hcl1 hng hkF hst hr hig1
      cases hlb : lf.getD k false with
      | false =>
        rw [hlb] at hcl HAB
        have HE := Lib.hid (HNO.out (by rw [HAB.out]; rfl))
        clear hlb
        go_wp2_with fail
        go_quiet ((go_at_call 82; exact Calls.quiet_of_same (HPT.out _)))
        have hbq : Below wr.heap.size wr (wr.drewN nq) := Below.drewN _ _
        generalize wr.drewN nq = wq at hbq ⊢
        have HBQ := Lib.hid (HB.out.trans (hbq.mono HB.out.size))
        clear hbq HPT hca hcg1 hcl
        go_wp2_with fail
        go_roundw
        case rel => exact ⟨k + 1, by omega, hkl, by go_num, by rw [HE.out, HS.out], by rw [HE.out, HM.out], HBQ.out⟩
        case measure => simp [intOf]; omega
      | true =>
        rw [hlb] at hcl HAB
        by_cases hlt : na < ng
        · have g1 : decide (na < ng) = true := decide_eq_true hlt
          have g2 : decide ((na : Int) < (ng : Int)) = true := decide_eq_true (by omega)
          rw [g1] at HAB
          cases r with
          | false =>
            have HE := Lib.hid (HNO.out (by rw [HAB.out]; rfl))
            clear hlb
            go_wp2_with fail
            go_quiet ((go_at_call 82; exact Calls.quiet_of_same (HPT.out _)))
            have hbq : Below wr.heap.size wr (wr.drewN nq) := Below.drewN _ _
            generalize wr.drewN nq = wq at hbq ⊢
            have HBQ := Lib.hid (HB.out.trans (hbq.mono HB.out.size))
            clear hbq HPT hca hcg1 hcl
            go_wp2_with fail
            go_roundw
            case rel => exact ⟨k + 1, by omega, hkl, by go_num, by rw [HE.out, HS.out], by rw [HE.out, HM.out], HBQ.out⟩
            case measure => simp [intOf]; omega
          | true =>
            have HE := Lib.hid (HYES.out (by rw [HAB.out]; rfl))
            clear hlb
            go_wp2_with fail
            go_quiet ((go_at_call 82; exact Calls.quiet_of_same (HPT.out _)))
            have hbq : Below wr.heap.size wr (wr.drewN nq) := Below.drewN _ _
            generalize wr.drewN nq = wq at hbq ⊢
            have HBQ := Lib.hid (HB.out.trans (hbq.mono HB.out.size))
            clear hbq HPT hca hcg1 hcl
            go_wp2_with fail
            go_roundw
            case rel => exact ⟨k + 1, by omega, hkl, by go_num, by rw [HE.out, lastO_snoc], by rw [HE.out, List.length_append, HM.out]; go_num, HBQ.out⟩
            case measure => simp [intOf]; omega
        · have g1 : decide (na < ng) = false := decide_eq_false hlt
          have g2 : decide ((na : Int) < (ng : Int)) = false := decide_eq_false (by omega)
          rw [g1] at HAB
          have HE := Lib.hid (HNO.out (by rw [HAB.out]; rfl))
          clear hlb
          go_wp2_with fail
          go_quiet ((go_at_call 82; exact Calls.quiet_of_same (HPT.out _)))
          have hbq : Below wr.heap.size wr (wr.drewN nq) := Below.drewN _ _
          generalize wr.drewN nq = wq at hbq ⊢
          have HBQ := Lib.hid (HB.out.trans (hbq.mono HB.out.size))
          clear hbq HPT hca hcg1 hcl
          go_wp2_with fail
          go_roundw
          case rel => exact ⟨k + 1, by omega, hkl, by go_num, by rw [HE.out, HS.out], by rw [HE.out, HM.out], HBQ.out⟩
          case measure => simp [intOf]; omega
    · obtain rfl : k = n := by omega
      have HSE : Hid (lastO (abvF F lf a) = s) := by unfold Hid; rw [← HAL.out]; exact HS.out
      have HME : Hid ((abvF F lf a).length = m) := by unfold Hid; rw [← HAL.out]; exact HM.out
      clear hb hst
      go_wp2_with fail
      go_ret2
      exact ⟨by rw [HSE.out, HME.out]; rfl, HB.out⟩

set_option maxRecDepth 100000 in
set_option maxHeartbeats 8000000 in
theorem freePairs_any (B : Nat) (F : List (List Int)) (f vl : Value) (lf : List Bool) (w : World) (hF : ListsIn B w f F) (hl : BoolsAt w vl lf) (hll : lf.length = F.length) (hn : F.length ≤ 600) (hf : ∀ x ∈ F, x.length ≤ 1000) (hup : LenUp F) :
    Calls Tryz.prog 17 #[f, vl] w (FreeP (freeF F lf) w) := by
  obtain ⟨i2, hi2, hx0, hx1, hx2⟩ := info_parts infoPair
  obtain ⟨pf, cf, hfe, -⟩ := id hF
  obtain ⟨pl, cl, hle, -⟩ := id hl
  obtain ⟨n, hnn⟩ : ∃ n, F.length = n := ⟨_, rfl⟩
  rw [hnn] at hfe hn
  rw [hll, hnn] at hle
  subst hfe hle
  have HN := Lib.hid hnn
  have HF := Lib.hid hF
  have HL := Lib.hid hl
  have HFL := Lib.hid hf
  have HUP := Lib.hid hup
  have HLL : Hid (lf.length = n) := by unfold Hid; rw [hll]; exact hnn
  have HAL : Hid (freeTo F lf n = freeF F lf) := by unfold Hid; rw [← hnn]; rfl
  have HTL := Lib.hid (fun k => freeTo_len F lf k)
  have HST := Lib.hid (fun k => freeTo_step F lf k)
  unfold FreeP
  clear hF hl hll hnn hf hup
  go_enter Tryz.func17, Tryz.ntmps17
  go_wp2_with fail
  go_loopw [5, 6, 7, 8] (fun s i _ _ wr => ∃ a : Nat, a ≤ n ∧ i = .int .i64 (a : Int) ∧ Below w.heap.size w wr ∧ QueH w.heap.size wr s (freeTo F lf a)) (fun _ i _ _ _ => n - (intOf i).toNat)
  case atStart => exact ⟨0, Nat.zero_le _, rfl, Below.refl _ _, by rw [freeTo_zero]; exact QueH.empty none⟩
  case round =>
    obtain ⟨a, han, rfl, hb, hQ⟩ := hrel
    have HB := Lib.hid hb
    have HQ := Lib.hid hQ
    have hst := HST.out a
    by_cases hal : a < n
    · have HG := Lib.hid (greater_any B F (.slice pf n cf) (.slice pl n cl) lf a wr (HF.out.below hb (Nat.le_refl _)) (HL.out.below hb (Nat.le_refl _)) (by rw [HLL.out, HN.out]) (by rw [HN.out]; exact hal) (by rw [HN.out]; exact hn) HFL.out HUP.out)
      unfold GrtP at HG
      obtain ⟨bl, ol, hpe, hcl1⟩ := HL.out.at (i := a) (by rw [HLL.out]; exact hal)
      subst hpe
      have HNO : Hid (¬ (lf.getD a false = true ∧ (abvF F lf a).length = 1) → freeTo F lf (a + 1) = freeTo F lf a) := fun h => by rw [hst, if_neg h]; exact List.append_nil _
      have HYES : Hid ((lf.getD a false = true ∧ (abvF F lf a).length = 1) → freeTo F lf (a + 1) = freeTo F lf a ++ [(a, (abvF F lf a).getD 0 0)]) := fun h => by rw [hst, if_pos h]
      have HLO := Lib.hid (lastO_one (l := abvF F lf a))
      obtain ⟨l, hlE⟩ : ∃ l, abvF F lf a = l := ⟨_, rfl⟩
      rw [hlE] at HG HNO HYES HLO
      obtain ⟨s, hs⟩ : ∃ s, lastO l = s := ⟨_, rfl⟩
      rw [hs] at HG HLO
      obtain ⟨m, hm⟩ : ∃ m, l.length = m := ⟨_, rfl⟩
      rw [hm] at HG HNO HYES HLO
      have HM := Lib.hid hm
      clear hst hlE hs hm hb hQ
      go_wp2_with fail
      refine HG.out.mono ?_
      rintro e w5 ⟨rfl, hb5⟩
      have HB5 := Lib.hid (HB.out.trans (hb5.mono HB.out.size))
      have hcl := (HB5.out.cell (p := ⟨bl, ol + a, none⟩) (mem_lt hcl1)).trans hcl1
      have hQ5 := HQ.out.below hb5 (Nat.le_refl _)
      have HQ5 := Lib.hid hQ5
      clear hb5 hcl1
      cases hla : lf.getD a false with
      | false =>
        rw [hla] at hcl
        have HE := Lib.hid (HNO.out (by rw [hla]; simp))
        clear hla hQ5
        go_wp2_with fail
        go_roundw
        case rel => exact ⟨a + 1, hal, by go_num, HB5.out, by rw [HE.out]; exact HQ5.out⟩
        case measure => simp [intOf]; omega
      | true =>
        rw [hla] at hcl
        by_cases hm1 : m = 1
        · subst hm1
          have HE := Lib.hid (HYES.out ⟨hla, rfl⟩)
          obtain ⟨x, hx⟩ : ∃ x, l.getD 0 0 = x := ⟨_, rfl⟩
          rw [hx] at HE HLO
          obtain rfl : s = (x : Int) := HLO.out rfl
          have hQL := HTL.out a
          have hsz5 := HB5.out.size
          obtain ⟨pq, cq, hve⟩ := hQ5.sliceOf
          subst hve
          have hba : Below w5.heap.size w5 (w5.alloc (.cells #[.int .i64 (a : Int), .int .i64 (x : Int)] 78)) := (Below.refl _ _).alloc (Nat.le_refl _) _
          have HQA := Lib.hid (hQ5.below hba (Nat.le_refl _))
          have HK0 : Hid ((w5.alloc (.cells #[.int .i64 (a : Int), .int .i64 (x : Int)] 78)).cell? ((⟨w5.heap.size, 0, none⟩ : Addr).add 0) = some (.int .i64 (a : Int))) := by unfold Hid; rw [add_zero, World.cell?_alloc_at _ _ _ _ rfl]; rfl
          have HK1 : Hid ((w5.alloc (.cells #[.int .i64 (a : Int), .int .i64 (x : Int)] 78)).cell? ((⟨w5.heap.size, 0, none⟩ : Addr).add 1) = some (.int .i64 (x : Int))) := by unfold Hid; rw [add_zero, World.cell?_alloc_at _ _ _ _ rfl]; rfl
          have HBA := Lib.hid (HB5.out.alloc hsz5 (.cells #[.int .i64 (a : Int), .int .i64 (x : Int)] 78))
          clear hx hQ5 hba hla
          go_wp2_with (at_builtin; refine wpList_append_queue _ rfl (.tmp 30) (.tmp 34) rfl i2 (.agg #[.int .i64 0, .int .i64 0]) underPairs hi2 hx0 hx1 hx2 rfl w.heap.size _ (freeTo F lf a) HQA.out rfl ⟨w5.heap.size, 0, none⟩ 1 a x rfl HK0.out HK1.out (by omega) (by simp; omega) ?_; intro v9 w9 hq9 hs9 ho9 ht9 hp9 hk9; have HQ9 := Lib.hid hq9; have HB9 : Hid (Below w.heap.size (w5.alloc (.cells #[.int .i64 (a : Int), .int .i64 (x : Int)] 78)) w9) := ⟨ho9, ht9, hp9, hs9, fun k hk => hk9 k (by simp; omega) (fun _ => Or.inr hk)⟩; clear hq9 hs9 ho9 ht9 hp9 hk9)
          go_roundw
          case rel => exact ⟨a + 1, hal, by go_num, HBA.out.trans HB9.out, by rw [HE.out]; exact HQ9.out⟩
          case measure => simp [intOf]; omega
        · have q1 : ((m : Int) == 1) = false := beq_eq_false_iff_ne.2 (by omega)
          have q2 : (m == 1) = false := beq_eq_false_iff_ne.2 hm1
          have HE := Lib.hid (HNO.out (fun h => hm1 h.2))
          clear hm1 hQ5 hla
          go_wp2_with fail
          go_roundw
          case rel => exact ⟨a + 1, hal, by go_num, HB5.out, by rw [HE.out]; exact HQ5.out⟩
          case measure => simp [intOf]; omega
    · obtain rfl : a = n := by omega
      have h := hQ
      rw [HAL.out] at h
      have HR := Lib.hid h
      clear hb hQ h hst
      go_wp2_with fail
      go_ret
      exact ⟨_, rfl, HB.out, HR.out⟩
end Go.Proofs.YtoheffkiohfmoaaGreatDoor
