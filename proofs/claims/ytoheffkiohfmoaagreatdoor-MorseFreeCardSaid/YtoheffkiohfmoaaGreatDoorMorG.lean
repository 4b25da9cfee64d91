/-
  Slices of bools: owned rows that are written in place; readings; owned rows of pairs as readings.
  The program's above by a contract: the greater faces of a face that are left.
  A queue of pairs: a slice that is eaten from its head and appended to.
  The program's free pairs by a contract.
  The program's Free by a contract.
-/
import Derived.Test.YtoheffkiohfmoaaGreatDoorRowH
import Derived.Test.YtoheffkiohfmoaaGreatDoorRepB
import Derived.Test.YtoheffkiohfmoaaGreatDoorMorD
import Derived.ArgAppend
set_option linter.unusedVariables false
set_option linter.unusedSimpArgs false
namespace Go.Proofs.YtoheffkiohfmoaaGreatDoor
open Go Go.RowKit Go.Maps

def boolVs (l : List Bool) : List Value := l.map Value.bool
/-- an owned row of bools -/
def BoolO (O : Nat) (w : World) (v : Value) (xs : List Bool) : Prop := w.ownsRow O 4 1 v xs.length (boolVs xs)
theorem BoolO.nil (O : Nat) (w : World) : BoolO O w (.slice none 0 0) [] := World.ownsRow_nil _ _ _ _
theorem BoolO.below {O C : Nat} {w w' : World} {v : Value} {xs : List Bool} (h : BoolO O w v xs) (hb : Below C w w') (hC : w.heap.size ≤ C) : BoolO O w' v xs :=
  owns_keep h fun k hk => hb.block k (Nat.lt_of_lt_of_le (h.lt k hk).2 hC)
theorem BoolO.le {O O' : Nat} {w : World} {v : Value} {xs : List Bool} (h : BoolO O w v xs) (hO : O' ≤ O) : BoolO O' w v xs := Joins.ownsRow_le h hO
theorem BoolO.sliceOf {O : Nat} {w : World} {v : Value} {xs : List Bool} (h : BoolO O w v xs) : ∃ p c, v = .slice p xs.length c := by
  rcases Joins.ownsRow_forms h with ⟨rfl, h0⟩ | ⟨g, cap, rfl⟩
  · exact ⟨none, 0, by rw [h0]⟩
  · exact ⟨_, cap, rfl⟩
theorem BoolO.form {O : Nat} {w : World} {v : Value} {xs : List Bool} (h : BoolO O w v xs) (hp : 0 < xs.length) : ∃ g c, v = .slice (some ⟨g, 0, none⟩) xs.length c ∧ O ≤ g ∧ ∃ cur : Array Value, w.heap[g]? = some (.cells cur 4 (0, 0)) := by
  rcases h.2 with ⟨rfl, h0⟩ | ⟨g, cap, cur, rfl, hb, hk, -⟩
  · omega
  · exact ⟨g, cap, rfl, hb, cur, hk⟩
theorem BoolO.cellsAt {O : Nat} {w : World} {g n c : Nat} {xs : List Bool} (h : BoolO O w (.slice (some ⟨g, 0, none⟩) n c) xs) (k : Nat) (hk : k < xs.length) : w.cell? ⟨g, k, none⟩ = some (.bool (xs.getD k false)) ∧ w.frozen? ⟨g, k, none⟩ = false := by
  have h1 := h.cells (g := g) rfl k (.bool (xs.getD k false)) (by unfold boolVs; simp [List.getD_eq_getElem?_getD, hk])
  rw [add_zero] at h1
  refine ⟨h1, ?_⟩
  rcases h.2 with ⟨e2, _⟩ | ⟨g', cap', cur, e2, -, e3, -⟩
  · cases e2
  · obtain rfl : g = g' := Option.some.inj (congrArg Value.ownBlock e2 : some g = some g')
    simp [World.frozen?, e3]
theorem BoolO.store {O : Nat} {w : World} {g n c : Nat} {xs : List Bool} (h : BoolO O w (.slice (some ⟨g, 0, none⟩) n c) xs) (k : Nat) (x : Bool) : BoolO O (w.setCell ⟨g, k, none⟩ (.bool x)) (.slice (some ⟨g, 0, none⟩) n c) (xs.set k x) ∧ w.grownBy (w.setCell ⟨g, k, none⟩ (.bool x)) (some g) := by
  have hn : n = xs.length := by
    rcases h.2 with ⟨e, _⟩ | ⟨g', cap', cur, e, _⟩
    · cases e
    · cases e; rfl
  subst hn
  obtain ⟨h1, h2⟩ := World.ownsRow.stored h k (.bool x)
  refine ⟨?_, h2⟩
  unfold BoolO boolVs at *
  rw [List.length_set, List.map_set]
  exact h1
/-- slice v of bools reads as xs -/
def BoolsAt (w : World) (v : Value) (xs : List Bool) : Prop := ∃ (p : Option Addr) (c : Nat), v = .slice p xs.length c ∧ ∀ i, i < xs.length → ∃ b off, p = some ⟨b, off, none⟩ ∧ w.cell? ⟨b, off + i, none⟩ = some (.bool (xs.getD i false))
theorem BoolsAt.below {C : Nat} {w w' : World} {v : Value} {xs : List Bool} (h : BoolsAt w v xs) (hb : Below C w w') (hC : w.heap.size ≤ C) : BoolsAt w' v xs := by
  obtain ⟨p, c, hv, hx⟩ := h
  refine ⟨p, c, hv, fun i hi => ?_⟩
  obtain ⟨b, off, e1, e2⟩ := hx i hi
  exact ⟨b, off, e1, (hb.cell (p := ⟨b, off + i, none⟩) (Nat.lt_of_lt_of_le (mem_lt e2) hC)).trans e2⟩
theorem BoolsAt.at {w : World} {p : Option Addr} {n c : Nat} {xs : List Bool} (h : BoolsAt w (.slice p n c) xs) {i : Nat} (hi : i < xs.length) : ∃ b off, p = some ⟨b, off, none⟩ ∧ w.cell? ⟨b, off + i, none⟩ = some (.bool (xs.getD i false)) := by
  obtain ⟨p', c', hv, hx⟩ := h
  obtain ⟨b, off, e1, e2⟩ := hx i hi
  cases hv
  exact ⟨b, off, e1, e2⟩
theorem BoolO.reads {O : Nat} {w : World} {v : Value} {xs : List Bool} (h : BoolO O w v xs) : BoolsAt w v xs := by
  rcases Joins.ownsRow_forms h with ⟨rfl, h0⟩ | ⟨g, cap, rfl⟩
  · exact ⟨none, 0, by rw [h0], fun i hi => absurd hi (by omega)⟩
  · exact ⟨_, cap, rfl, fun i hi => ⟨g, 0, rfl, by rw [Nat.zero_add]; exact (h.cellsAt i hi).1⟩⟩
/-- what slices.Repeat hands back -/
theorem RepB.own {W : Nat} {w w' : World} {e : Ending} {x : Bool} {O : Nat} (hO : O ≤ w.heap.size) (hW : W ≤ 1000) (h : RepB (.bool x) W w e w') : ∃ v, e = .returned v ∧ Below w.heap.size w w' ∧ BoolO O w' v (List.replicate W x) := by
  obtain ⟨g, hg, rfl, hk, hb⟩ := h
  refine ⟨_, rfl, hb, ⟨by simp [boolVs], Or.inr ⟨g, W, _, by rw [List.length_replicate], Nat.le_trans hO hg, hk, by simp, by unfold maxLen; omega, by simp, by simp [boolVs]⟩⟩⟩

theorem natI_intVs (l : List Nat) (x : Nat) : intVs (natI (l ++ [x])) = intVs (natI l) ++ [.int .i64 (x : Int)] := by rw [natI_snoc]; unfold intVs; rw [List.map_append]; rfl
theorem IntO.snocN {O : Nat} {w : World} {v : Value} {l : List Nat} {x m : Nat} (hm : l.length = m) (h : w.ownsRow O 3 1 v (m + 1) (intVs (natI l) ++ [.int .i64 (x : Int)])) : IntO O w v (natI (l ++ [x])) := by
  unfold IntO
  rw [natI_len, List.length_append, List.length_singleton, hm, natI_intVs]
  exact h
theorem IntO.sliceF {O : Nat} {w : World} {v : Value} {xs : List Int} (h : IntO O w v xs) : ∃ p c, v = .slice p xs.length c := by
  rcases Joins.ownsRow_forms h with ⟨rfl, h0⟩ | ⟨g, cap, rfl⟩
  · exact ⟨none, 0, by rw [h0]⟩
  · exact ⟨_, cap, rfl⟩
def AbvP (l : List Nat) (w : World) (e : Ending) (w' : World) : Prop := ∃ p c, e = .returned (.slice p l.length c) ∧ Below w.heap.size w w' ∧ IntO w.heap.size w' (.slice p l.length c) (natI l)
set_option maxRecDepth 100000 in
set_option maxHeartbeats 8000000 in
theorem above_any (B : Nat) (F : List (List Int)) (f d u vl : Value) (lf : List Bool) (a : Nat) (w : World) (hD : DiaR B w f d u F) (hl : BoolsAt w vl lf) (hll : lf.length = F.length) (ha : a < F.length) (hn : F.length ≤ 600) (hf : ∀ x ∈ F, x.length ≤ 1000) :
    Calls Tryz.prog 44 #[.agg #[f, d, u], .int .i64 (a : Int), vl] w (AbvP (abvF F lf a) w) := by
  obtain ⟨i3, hi3, hy0, hy1, hy2⟩ := info_parts Tryz.info3
  obtain ⟨pf, cf, hfe, -⟩ := id hD.1
  obtain ⟨pd, cd, hde, -⟩ := id hD.2.1
  obtain ⟨pu, cu, hue, -⟩ := id hD.2.2
  obtain ⟨pl, cl, hle, -⟩ := id hl
  obtain ⟨n, hnn⟩ : ∃ n, F.length = n := ⟨_, rfl⟩
  obtain ⟨nd, hnd⟩ : ∃ nd, (dnF F).length = nd := ⟨_, rfl⟩
  obtain ⟨nu, hnu⟩ : ∃ nu, (upF F).length = nu := ⟨_, rfl⟩
  rw [hnn] at hfe hn ha
  rw [hnd] at hde
  rw [hnu] at hue
  rw [hll, hnn] at hle
  subst hfe hde hue hle
  have hb0 : Below w.heap.size w (w.alloc (.cells #[.slice pf n cf, .slice pd nd cd, .slice pu nu cu] 81)) := (Below.refl _ _).alloc (Nat.le_refl _) _
  obtain ⟨w1, hw1⟩ : ∃ w1, w.alloc (.cells #[.slice pf n cf, .slice pd nd cd, .slice pu nu cu] 81) = w1 := ⟨_, rfl⟩
  have hg1 := heap_alloc_new w (.cells #[.slice pf n cf, .slice pd nd cd, .slice pu nu cu] 81)
  have hs1 : w1.heap.size = w.heap.size + 1 := by rw [← hw1]; simp
  rw [hw1] at hb0 hg1
  have HG1 := Lib.hid hg1
  have HB0 := Lib.hid hb0
  have HW1 := Lib.hid hw1
  have HN := Lib.hid hnn
  have HF := Lib.hid (hD.1.below hb0 (Nat.le_refl _))
  have HL := Lib.hid (hl.below hb0 (Nat.le_refl _))
  have HFL := Lib.hid hf
  have HLL : Hid (lf.length = n) := by unfold Hid; rw [hll]; exact hnn
  have haF : a < F.length := by rw [hnn]; exact ha
  obtain ⟨pa, ca, hca1, hia1⟩ : ∃ pa ca, (∃ b off, pf = some ⟨b, off, none⟩ ∧ w1.cell? ⟨b, off + a, none⟩ = some (.slice pa (F.getD a []).length ca)) ∧ IntsIn B w1 (.slice pa (F.getD a []).length ca) (F.getD a []) := by
    obtain ⟨b, off, c', hve⟩ := HF.out.form (by rw [hnn]; omega)
    obtain ⟨rfl, -⟩ : pf = some ⟨b, off, none⟩ ∧ cf = c' := by cases hve; exact ⟨rfl, rfl⟩
    obtain ⟨pa, ca, h1, h2⟩ := cells_at HF.out a haF
    exact ⟨pa, ca, ⟨b, off, rfl, h1⟩, h2⟩
  obtain ⟨bf, off, rfl, hca1⟩ := hca1
  have hna := hf _ (getL_mem haF)
  obtain ⟨na, hna'⟩ : ∃ na, (F.getD a []).length = na := ⟨_, rfl⟩
  rw [hna'] at hca1 hia1 hna
  have HNA := Lib.hid hna'
  have HCA := Lib.hid hca1
  have HIA := Lib.hid hia1
  have HAL : Hid (abvTo F lf a n = abvF F lf a) := by unfold Hid; rw [← hnn]; exact abvTo_all F lf a
  have HTL := Lib.hid (fun k => abvTo_len F lf a k)
  have HST := Lib.hid (fun k => abvTo_step F lf a k)
  unfold AbvP
  have c0 := (three_of hg1).1
  clear hD hl hll hb0 hw1 hnn hf haF hca1 hia1 hna' hg1 hnd hnu
  go_enter Tryz.func44, Tryz.ntmps44
  go_upto_region 1 with fail
  rw [HW1.out]
  go_wp2_with fail
  clear c0
  go_loopw [7, 13] (fun s i wr => ∃ b : Nat, b ≤ n ∧ i = .int .i64 (b : Int) ∧ Below w1.heap.size w1 wr ∧ IntO w1.heap.size wr s (natI (abvTo F lf a b))) (fun _ i _ => n - (intOf i).toNat)
  case atStart => exact ⟨0, Nat.zero_le _, rfl, Below.refl _ _, by rw [abvTo_zero]; exact IntO.nil _ _⟩
  case round =>
    obtain ⟨b, hbn, rfl, hb, hI⟩ := hrel
    have HB := Lib.hid hb
    have HI := Lib.hid hI
    obtain ⟨ps, cs, hve⟩ := hI.sliceF
    obtain ⟨m, hm⟩ : ∃ m, (abvTo F lf a b).length = m := ⟨_, rfl⟩
    rw [natI_len, hm] at hve
    rename_i sv _
    subst hve
    have hml : m ≤ b := by rw [← hm]; exact HTL.out b
    have HM := Lib.hid hm
    have hst := HST.out b
    by_cases hbl : b < n
    · have c0 := (three_of ((hb.block w.heap.size (by omega)).trans HG1.out)).1
      have hbF : b < F.length := by rw [HN.out]; exact hbl
      obtain ⟨pg, cg, hcg1, hig1⟩ := cells_at HF.out b hbF
      have hcg := (hb.cell (p := ⟨bf, off + b, none⟩) (mem_lt hcg1)).trans hcg1
      have hca := (hb.cell (p := ⟨bf, off + a, none⟩) (mem_lt HCA.out)).trans HCA.out
      have hgb := HFL.out _ (getL_mem hbF)
      obtain ⟨bl, ol, hpe, hcl1⟩ := HL.out.at (i := b) (by rw [HLL.out]; exact hbl)
      subst hpe
      have hcl := (hb.cell (p := ⟨bl, ol + b, none⟩) (mem_lt hcl1)).trans hcl1
      obtain ⟨ng, hng⟩ : ∃ ng, (F.getD b []).length = ng := ⟨_, rfl⟩
      rw [hng] at hcg hig1 hgb
      have HNG := Lib.hid hng
      have HIG := Lib.hid (hig1.below hb (Nat.le_refl _))
      have HIA2 := Lib.hid (HIA.out.below hb (Nat.le_refl _))
      have HNO : Hid (abvB F lf a b = false → abvTo F lf a (b + 1) = abvTo F lf a b) := fun h => by rw [hst, h]; exact List.append_nil _
      have HYES : Hid (abvB F lf a b = true → abvTo F lf a (b + 1) = abvTo F lf a b ++ [b]) := fun h => by rw [hst, h]; rfl
      have HAB : Hid (abvB F lf a b = (lf.getD b false && decide (na < ng) && partB (F.getD a []) (F.getD b []))) := by unfold Hid abvB; rw [HNA.out, HNG.out]
      clear hb hI hcg1 hig1 hcl1 hng hbF hst hm
      by_cases hba : b = a
      · subst hba
        have q1 : ((b : Int) != (b : Int)) = false := by simp
        have hns : abvB F lf b b = false := by unfold abvB; rw [decide_eq_false (Nat.lt_irrefl _)]; simp
        have HE := Lib.hid (HNO.out hns)
        clear hns
        go_wp2_with fail
        go_roundw
        case rel => exact ⟨b + 1, hbl, by go_num, HB.out, by rw [HE.out]; exact HI.out⟩
        case measure => simp [intOf]; omega
      · have q1 : ((b : Int) != (a : Int)) = true := bne_iff_ne.2 (by omega)
        clear hba
        cases hlb : lf.getD b false with
        | false =>
          rw [hlb] at hcl
          have HE := Lib.hid (HNO.out (by rw [HAB.out, hlb]; rfl))
          clear hlb
          go_wp2_with fail
          go_roundw
          case rel => exact ⟨b + 1, hbl, by go_num, HB.out, by rw [HE.out]; exact HI.out⟩
          case measure => simp [intOf]; omega
        | true =>
          rw [hlb] at hcl
          by_cases hlt : na < ng
          · have HWI := Lib.hid (within_any (F.getD a []) (F.getD b []) (.slice pa na ca) (.slice pg ng cg) wr HIA2.out.at HIG.out.at (by rw [HNA.out]; omega) (by rw [HNG.out]; omega))
            unfold Gives at HWI
            have HAB2 : Hid (abvB F lf a b = partB (F.getD a []) (F.getD b [])) := by unfold Hid; rw [HAB.out, hlb, decide_eq_true hlt]; rfl
            clear hlb
            cases hpb : partB (F.getD a []) (F.getD b []) with
            | false =>
              rw [hpb] at HWI HAB2
              have HE := Lib.hid (HNO.out HAB2.out)
              clear hpb
              go_wp2_with fail
              refine HWI.out.mono ?_
              rintro e w5 ⟨rfl, hb5⟩
              have HB5 := Lib.hid (HB.out.trans (hb5.mono HB.out.size))
              have HI5 := Lib.hid (HI.out.below hb5 (Nat.le_refl _))
              clear hb5
              go_wp2_with fail
              go_roundw
              case rel => exact ⟨b + 1, hbl, by go_num, HB5.out, by rw [HE.out]; exact HI5.out⟩
              case measure => simp [intOf]; omega
            | true =>
              rw [hpb] at HWI HAB2
              have HE := Lib.hid (HYES.out HAB2.out)
              clear hpb
              go_wp2_with fail
              refine HWI.out.mono ?_
              rintro e w5 ⟨rfl, hb5⟩
              have HB5 := Lib.hid (HB.out.trans (hb5.mono HB.out.size))
              have h5 := HI.out.below hb5 (Nat.le_refl _)
              have hs5 := HB5.out.size
              unfold IntO at h5
              rw [natI_len, HM.out] at h5
              have H5 := Lib.hid h5
              clear hb5 h5
              go_wp2_with (at_builtin; refine wpList_append_lies _ rfl (.tmp 47) (.tmp 49) 51 rfl w1.heap.size 3 i3 (.int .i64 0) 1 8 Tryz.underlying51 hi3 hy0 hy1 hy2 rfl (by decide) _ m (intVs (natI (abvTo F lf a b))) rfl (H5.out.alloc _) ⟨w5.heap.size, 0, none⟩ 1 1 [.int .i64 (b : Int)] rfl rfl (World.news_of_block (cs := #[.int .i64 (b : Int)]) (t := 3) (fr := (0, 0)) (heap_alloc_new w5 _)) (by simp [Value.oneCell']) (by decide) (by unfold maxLen; omega) (by omega) (by simp; omega) (w5.heap.size + 1) (by simp) ?_; intro g2 c2 w9 hown2 hgr2 hat2 hlt2; have HO2 := Lib.hid hown2; have HG2 := Lib.hid hgr2; clear hown2 hgr2 hat2 hlt2)
              go_roundw
              case rel =>
                refine ⟨b + 1, hbl, by go_num, (HB5.out.alloc hs5 _).grown HG2.out (by simp; omega) (fun i hi => (H5.out.lt i hi).1), ?_⟩
                rw [HE.out]
                exact IntO.snocN HM.out HO2.out
              case measure => simp [intOf]; omega
          · have HE := Lib.hid (HNO.out (by rw [HAB.out, decide_eq_false hlt]; simp))
            clear hlb
            go_wp2_with fail
            go_roundw
            case rel => exact ⟨b + 1, hbl, by go_num, HB.out, by rw [HE.out]; exact HI.out⟩
            case measure => simp [intOf]; omega
    · obtain rfl : b = n := by omega
      have h := hI
      rw [HAL.out] at h
      have HR := Lib.hid h
      have HME : Hid ((abvF F lf a).length = m) := by unfold Hid; rw [← HAL.out]; exact HM.out
      clear hb hI h hm hst
      go_wp2_with fail
      go_ret
      rw [HME.out]
      refine ⟨_, _, rfl, HB0.out.trans (HB.out.mono (by omega)), Joins.ownsRow_le HR.out (by omega)⟩

/-- a queue: where it has room it lies in a block of its own -/
def QueH (O : Nat) (w : World) (v : Value) (Q : List (Nat × Nat)) : Prop :=
  ∃ (ao : Option Addr) (cap : Nat), v = .slice ao Q.length cap ∧ Q.length ≤ cap ∧ cap ≤ maxLen ∧ (ao = none → cap = 0) ∧
    (0 < cap → ∃ g off cur, ao = some ⟨g, off, none⟩ ∧ O ≤ g ∧ w.heap[g]? = some (.cells cur 78 (0, 0)) ∧ off + cap * 2 ≤ cur.size ∧
      ∀ i, i < Q.length → cur[off + i * 2]? = some (.int .i64 (((Q.getD i (0, 0)).1 : Nat) : Int)) ∧ cur[off + i * 2 + 1]? = some (.int .i64 (((Q.getD i (0, 0)).2 : Nat) : Int)))
theorem QueH.keep {O : Nat} {w w' : World} {v : Value} {Q : List (Nat × Nat)} (h : QueH O w v Q) (hk : ∀ g cur, O ≤ g → w.heap[g]? = some (.cells cur 78 (0, 0)) → w'.heap[g]? = some (.cells cur 78 (0, 0))) : QueH O w' v Q := by
  obtain ⟨ao, cap, h1, h2, h3, h4, h5⟩ := h
  refine ⟨ao, cap, h1, h2, h3, h4, fun hp => ?_⟩
  obtain ⟨g, off, cur, g1, g2, g3, g4, g5⟩ := h5 hp
  exact ⟨g, off, cur, g1, g2, hk g cur g2 g3, g4, g5⟩
/-- the head in memory -/
theorem QueH.head {O : Nat} {w : World} {v : Value} {p : Nat × Nat} {Q : List (Nat × Nat)} (h : QueH O w v (p :: Q)) :
    ∃ g off cap, v = .slice (some ⟨g, off, none⟩) (Q.length + 1) cap ∧ Q.length + 1 ≤ cap ∧ cap ≤ maxLen ∧ w.cell? ⟨g, off, none⟩ = some (.int .i64 (p.1 : Int)) ∧ w.cell? ⟨g, off + 1, none⟩ = some (.int .i64 (p.2 : Int)) := by
  obtain ⟨ao, cap, h1, h2, h3, h4, h5⟩ := h
  simp only [List.length_cons] at h1 h2
  obtain ⟨g, off, cur, rfl, g2, g3, g4, g5⟩ := h5 (by omega)
  obtain ⟨e1, e2⟩ := g5 0 (by simp)
  refine ⟨g, off, cap, h1, h2, h3, ?_, ?_⟩
  · simp only [World.cell?, g3]
    simpa using e1
  · simp only [World.cell?, g3]
    simpa using e2
/-- the rest of a queue, where it has room -/
theorem QueH.tail {O : Nat} {w : World} {g off cap : Nat} {p : Nat × Nat} {Q : List (Nat × Nat)} (h : QueH O w (.slice (some ⟨g, off, none⟩) (Q.length + 1) cap) (p :: Q)) : QueH O w (.slice (some ⟨g, off + 2, none⟩) Q.length (cap - 1)) Q := by
  obtain ⟨ao, cap', h1, h2, h3, h4, h5⟩ := h
  simp only [List.length_cons] at h1 h2
  obtain ⟨rfl, rfl⟩ : ao = some ⟨g, off, none⟩ ∧ cap' = cap := by cases h1; exact ⟨rfl, rfl⟩
  obtain ⟨g', off', cur, e1, g2, g3, g4, g5⟩ := h5 (by omega)
  obtain ⟨rfl, rfl⟩ : g = g' ∧ off = off' := by cases e1; exact ⟨rfl, rfl⟩
  refine ⟨_, cap' - 1, rfl, by omega, by omega, (fun e => by cases e), fun hp => ⟨g, off + 2, cur, rfl, g2, g3, by omega, fun i hi => ?_⟩⟩
  have := g5 (i + 1) (by simp; omega)
  rw [show off + (i + 1) * 2 = off + 2 + i * 2 by omega, show (i + 1) = i + 1 from rfl] at this
  simpa using this
theorem QueH.empty {O : Nat} {w : World} (ao : Option Addr) : QueH O w (.slice ao 0 0) [] := ⟨ao, 0, rfl, Nat.le_refl _, Nat.zero_le _, fun _ => rfl, fun h => absurd h (by omega)⟩
/-- a queue of one pair, as it is made -/
theorem QueH.one {O : Nat} {w : World} (a b : Nat) (hO : O ≤ w.heap.size) : QueH O (w.alloc (.cells #[.int .i64 (a : Int), .int .i64 (b : Int)] 78)) (.slice (some ⟨w.heap.size, 0, none⟩) 1 1) [(a, b)] :=
  ⟨_, 1, rfl, Nat.le_refl _, by unfold maxLen; decide, (fun e => by cases e), fun _ => ⟨w.heap.size, 0, _, rfl, hO, heap_alloc_new w _, by simp, fun i hi => by
    obtain rfl : i = 0 := by simp at hi; omega
    simp⟩⟩

theorem setCell_at {w : World} {g o : Nat} {cur : Array Value} {t : TypeId} {fr : Nat × Nat} {v : Value} (h : w.heap[g]? = some (.cells cur t fr)) : (w.setCell ⟨g, o, none⟩ v).heap[g]? = some (.cells (cur.setIfInBounds o v) t fr) := by
  simp [World.setCell, Array.getElem?_modify, h]
theorem setCell_off {w : World} {g o k : Nat} {v : Value} (h : k ≠ g) : (w.setCell ⟨g, o, none⟩ v).heap[k]? = w.heap[k]? := by
  simp only [World.setCell, Array.getElem?_modify]
  rw [if_neg (fun e => h e.symm)]
/-- one pair more -/
theorem wpList_append_queue {P : Program} (w : World) {ops : Array Oper} {rest : List Oper} {o : Oper} {a : Act} {Qx : Exit → Act → World → Prop}
    (hgd : o.guard = none) (s x : Operand) (hop : o.op = Op.call { callee := Callee.builtin Builtin.append, args := #[s, x], argTypes := #[23, 23] })
    (i : TypeInfo) (z : Value) (h1 : P.underlying 23 = some (.slice 78)) (h2 : P.info? 78 = some i) (h3 : i.zero = some z) (h4 : i.size = 2) (h5 : i.bytes = 16) (h6 : z.cells.size = 2)
    (O : Nat) (v : Value) (Q : List (Nat × Nat)) (hq : QueH O w v Q) (hs : a.eval s = v)
    (ad : Addr) (c : Nat) (p q : Nat) (hx : a.eval x = .slice (some ad) 1 c) (hn0 : w.cell? (ad.add 0) = some (.int .i64 (p : Int))) (hn1 : w.cell? (ad.add 1) = some (.int .i64 (q : Int)))
    (hlen : Q.length ≤ 1000000) (hO : O ≤ w.heap.size)
    (hK : ∀ v' w', QueH O w' v' (Q ++ [(p, q)]) → w.heap.size ≤ w'.heap.size → w'.os = w.os → w'.tape = w.tape → w'.output = w.output → (∀ k, k < w.heap.size → (∀ cur, w.heap[k]? ≠ some (.cells cur 78 (0, 0)) ∨ k < O) → w'.heap[k]? = w.heap[k]?) → wpList P ops Qx rest (a.put o.dst v') w') :
    wpList P ops Qx (o :: rest) a w := by
  obtain ⟨ao, cap, rfl, g2, g3, g4, g5⟩ := hq
  have hnews : ∀ j u, [Value.int .i64 (p : Int), .int .i64 (q : Int)][j]? = some u → w.cell? (ad.add j) = some u := fun j u hj => by
    match j, hj with
    | 0, hj => simp at hj; rw [← hj]; exact hn0
    | 1, hj => simp at hj; rw [← hj]; exact hn1
    | j + 2, hj => simp at hj
  have hone : ∀ u ∈ [Value.int .i64 (p : Int), .int .i64 (q : Int)], u.oneCell' = true := fun u hu => by
    simp at hu
    rcases hu with rfl | rfl <;> rfl
  have hml : Q.length + 1 ≤ maxLen := by unfold maxLen; omega
  -- what a new row holds
  have fresh : ∀ (olds : List Value), olds.length = Q.length * 2 → (∀ i, i < Q.length → olds[i * 2]? = some (.int .i64 (((Q.getD i (0, 0)).1 : Nat) : Int)) ∧ olds[i * 2 + 1]? = some (.int .i64 (((Q.getD i (0, 0)).2 : Nat) : Int))) →
      ∀ v' w', w'.ownsRow w.heap.size 78 2 v' (Q.length + 1) (olds ++ [Value.int .i64 (p : Int), .int .i64 (q : Int)]) → w.grownBy w' none → wpList P ops Qx rest (a.put o.dst v') w' := by
    intro olds ho he v' w' hown hgr
    refine hK v' w' ?_ hgr.size hgr.os hgr.tape hgr.output (fun k hk _ => hgr.block k hk (by simp))
    rcases hown.2 with ⟨rfl, h0⟩ | ⟨g, cap', cur, rfl, hb, hk, hle, hmx, hsz, htk⟩
    · omega
    · refine ⟨_, cap', by simp, by simp; omega, hmx, (fun e => by cases e), fun _ => ⟨g, 0, cur, rfl, Nat.le_trans hO hb, hk, by omega, fun i hi => ?_⟩⟩
      simp only [List.length_append, List.length_cons, List.length_nil] at hi
      have hcur : ∀ j, j < (Q.length + 1) * 2 → cur[j]? = (olds ++ [Value.int .i64 (p : Int), .int .i64 (q : Int)])[j]? := fun j hj => by
        rw [← htk, List.getElem?_take, if_pos hj]
        simp
      rw [Nat.zero_add, hcur _ (by omega), hcur _ (by omega)]
      rcases Nat.lt_or_ge i Q.length with hlt | hge
      · have e0 : (Q ++ [(p, q)]).getD i (0, 0) = Q.getD i (0, 0) := by rw [List.getD_eq_getElem?_getD, List.getD_eq_getElem?_getD, List.getElem?_append_left hlt]
        rw [e0, List.getElem?_append_left (by omega), List.getElem?_append_left (by omega)]
        exact he i hlt
      · obtain rfl : i = Q.length := by omega
        have e0 : (Q ++ [(p, q)]).getD Q.length (0, 0) = (p, q) := by simp [List.getD_eq_getElem?_getD]
        rw [e0, List.getElem?_append_right (by omega), List.getElem?_append_right (by omega), ho]
        simp
  by_cases hcp : 0 < cap
  · obtain ⟨g, off, cur, rfl, e2, e3, e4, e5⟩ := g5 hcp
    have holds : ∀ j u, ((cur.toList.drop off).take (Q.length * 2))[j]? = some u → w.cell? ⟨g, off + j, none⟩ = some u := fun j u hj => by
      rw [List.getElem?_take] at hj
      split at hj
      · rw [List.getElem?_drop] at hj
        simp only [World.cell?, e3]
        simpa using hj
      · cases hj
    have hlo : ((cur.toList.drop off).take (Q.length * 2)).length = Q.length * 2 := by simp; omega
    refine wpList_append_arg w hgd s x 23 hop 78 i z 2 16 h1 h2 h3 h4 h5 h6 (by decide) g off Q.length cap _ hs hlo holds ad 1 c [.int .i64 (p : Int), .int .i64 (q : Int)] hx rfl hnews hone ?_ hml (by omega) ?_ ?_
    · intro hr j hj
      simp only [List.length_cons, List.length_nil] at hj
      have hin : off + Q.length * 2 + j < cur.size := by omega
      refine ⟨?_, by simp [World.frozen?, e3]⟩
      simp only [World.cell?, e3]
      simp [hin]
    · intro hr
      have hg : g < w.heap.size := (Array.getElem?_eq_some_iff.1 e3).1
      have hset : w.setCells g (off + Q.length * 2) [.int .i64 (p : Int), .int .i64 (q : Int)] = (w.setCell ⟨g, off + Q.length * 2, none⟩ (.int .i64 (p : Int))).setCell ⟨g, off + Q.length * 2 + 1, none⟩ (.int .i64 (q : Int)) := rfl
      rw [hset]
      have hb1 : ((w.setCell ⟨g, off + Q.length * 2, none⟩ (.int .i64 (p : Int))).setCell ⟨g, off + Q.length * 2 + 1, none⟩ (.int .i64 (q : Int))).heap[g]? = some (.cells ((cur.setIfInBounds (off + Q.length * 2) (.int .i64 (p : Int))).setIfInBounds (off + Q.length * 2 + 1) (.int .i64 (q : Int))) 78 (0, 0)) := by
        exact setCell_at (setCell_at e3)
      have hq' : QueH O ((w.setCell ⟨g, off + Q.length * 2, none⟩ (.int .i64 (p : Int))).setCell ⟨g, off + Q.length * 2 + 1, none⟩ (.int .i64 (q : Int))) (.slice (some ⟨g, off, none⟩) (Q.length + 1) cap) (Q ++ [(p, q)]) := by
        refine ⟨_, cap, by simp, by simp; omega, g3, (fun e => by cases e), fun _ => ⟨g, off, _, rfl, e2, hb1, by simp; omega, fun i hi => ?_⟩⟩
        simp only [List.length_append, List.length_cons, List.length_nil] at hi
        rcases Nat.lt_or_ge i Q.length with hlt | hge
        · have e0 : (Q ++ [(p, q)]).getD i (0, 0) = Q.getD i (0, 0) := by rw [List.getD_eq_getElem?_getD, List.getD_eq_getElem?_getD, List.getElem?_append_left hlt]
          rw [e0, Array.getElem?_setIfInBounds_ne (by omega), Array.getElem?_setIfInBounds_ne (by omega), Array.getElem?_setIfInBounds_ne (by omega), Array.getElem?_setIfInBounds_ne (by omega)]
          exact e5 i hlt
        · obtain rfl : i = Q.length := by omega
          have e0 : (Q ++ [(p, q)]).getD Q.length (0, 0) = (p, q) := by simp [List.getD_eq_getElem?_getD]
          rw [e0, Array.getElem?_setIfInBounds_ne (by omega), Array.getElem?_setIfInBounds_self_of_lt (by omega), Array.getElem?_setIfInBounds_self_of_lt (by simp; omega)]
          exact ⟨rfl, rfl⟩
      refine hK _ _ hq' (by simp) rfl rfl rfl fun k hk ho => ?_
      have hkg : k ≠ g := fun e => by
        subst e
        rcases ho cur with h7 | h7
        · exact h7 e3
        · omega
      rw [setCell_off hkg, setCell_off hkg]
    · intro _ v' w' hown hgr
      refine fresh _ hlo (fun i hi => ?_) v' w' hown hgr
      obtain ⟨f1, f2⟩ := e5 i hi
      rw [List.getElem?_take, List.getElem?_take, if_pos (by omega), if_pos (by omega), List.getElem?_drop, List.getElem?_drop]
      exact ⟨by simpa using f1, by rw [← Nat.add_assoc]; simpa using f2⟩
  · obtain rfl : cap = 0 := by omega
    obtain rfl : Q = [] := List.length_eq_zero_iff.1 (by omega)
    refine wpList_append_grows w hgd s x 23 hop 78 i z 2 16 h1 h2 h3 h4 h5 h6 (by decide) ao 0 0 [] hs (fun _ => ⟨rfl, rfl⟩) rfl (fun b _ j u hj => by simp at hj) ad 1 c [.int .i64 (p : Int), .int .i64 (q : Int)] hx rfl hnews hone (by omega) (by unfold maxLen; decide) (by decide) ?_
    intro v' w' hown hgr
    exact fresh [] rfl (fun i hi => absurd hi (by simp)) v' w' hown hgr

theorem infoPair : (Tryz.prog.info? 78).map (fun i => (i.zero, i.size, i.bytes)) = some (some (.agg #[.int .i64 0, .int .i64 0]), 2, 16) := by kernel_rfl
theorem underPairs : Tryz.prog.underlying 23 = some (.slice 78) := by kernel_rfl
theorem IntO.row1 {O : Nat} {w : World} {p : Option Addr} {c : Nat} {l : List Nat} (h : IntO O w (.slice p 1 c) (natI l)) (hl : l.length = 1) : ∃ g c', (Value.slice p 1 c) = .slice (some ⟨g, 0, none⟩) 1 c' ∧ w.cell? ⟨g, 0, none⟩ = some (.int .i64 ((l.getD 0 0 : Nat) : Int)) := by
  have hn : (natI l).length = 1 := by rw [natI_len]; exact hl
  rcases h.2 with ⟨e, h0⟩ | ⟨g, cap, cur, e, hb, hk, -⟩
  · cases e
  · rw [hn] at e
    have e2 : p = some ⟨g, 0, none⟩ := by cases e; rfl
    subst e2
    refine ⟨g, c, rfl, ?_⟩
    have h1 := h.cells (g := g) rfl 0 (.int .i64 ((natI l).getD 0 0)) (by unfold intVs; rw [List.getElem?_map, List.getD_eq_getElem?_getD, List.getElem?_eq_getElem (by omega)]; rfl)
    rw [add_zero] at h1
    rw [h1]
    obtain ⟨y, rfl⟩ := List.length_eq_one_iff.1 hl
    rfl
theorem IntO.cell1 {O g : Nat} {w : World} {c : Nat} {l : List Nat} (h : IntO O w (.slice (some ⟨g, 0, none⟩) 1 c) (natI l)) (hl : l.length = 1) : w.cell? ⟨g, 0, none⟩ = some (.int .i64 ((l.getD 0 0 : Nat) : Int)) := by
  obtain ⟨g', c', e, h1⟩ := h.row1 hl
  cases e
  exact h1
def FreeP (Q : List (Nat × Nat)) (w : World) (e : Ending) (w' : World) : Prop := ∃ v, e = .returned v ∧ Below w.heap.size w w' ∧ QueH w.heap.size w' v Q
theorem QueH.below {O C : Nat} {w w' : World} {v : Value} {Q : List (Nat × Nat)} (h : QueH O w v Q) (hb : Below C w w') (hC : w.heap.size ≤ C) : QueH O w' v Q :=
  h.keep fun g cur _ e => (hb.block g (Nat.lt_of_lt_of_le (Array.getElem?_eq_some_iff.1 e).1 hC)).trans e
theorem QueH.le {O O' : Nat} {w : World} {v : Value} {Q : List (Nat × Nat)} (h : QueH O w v Q) (hO : O' ≤ O) : QueH O' w v Q := by
  obtain ⟨ao, cap, h1, h2, h3, h4, h5⟩ := h
  refine ⟨ao, cap, h1, h2, h3, h4, fun hp => ?_⟩
  obtain ⟨g, off, cur, g1, g2, g3⟩ := h5 hp
  exact ⟨g, off, cur, g1, Nat.le_trans hO g2, g3⟩
theorem QueH.sliceOf {O : Nat} {w : World} {v : Value} {Q : List (Nat × Nat)} (h : QueH O w v Q) : ∃ p c, v = .slice p Q.length c := by
  obtain ⟨ao, cap, h1, -⟩ := h
  exact ⟨ao, cap, h1⟩
set_option maxRecDepth 100000 in
set_option maxHeartbeats 8000000 in
theorem free_any (B : Nat) (F : List (List Int)) (f d u vl : Value) (lf : List Bool) (w : World) (hD : DiaR B w f d u F) (hl : BoolsAt w vl lf) (hll : lf.length = F.length) (hn : F.length ≤ 600) (hf : ∀ x ∈ F, x.length ≤ 1000) :
    Calls Tryz.prog 43 #[.agg #[f, d, u], vl] w (FreeP (freeF F lf) w) := by
  obtain ⟨i2, hi2, hx0, hx1, hx2⟩ := info_parts infoPair
  obtain ⟨pf, cf, hfe, -⟩ := id hD.1
  obtain ⟨pd, cd, hde, -⟩ := id hD.2.1
  obtain ⟨pu, cu, hue, -⟩ := id hD.2.2
  obtain ⟨pl, cl, hle, -⟩ := id hl
  obtain ⟨n, hnn⟩ : ∃ n, F.length = n := ⟨_, rfl⟩
  obtain ⟨nd, hnd⟩ : ∃ nd, (dnF F).length = nd := ⟨_, rfl⟩
  obtain ⟨nu, hnu⟩ : ∃ nu, (upF F).length = nu := ⟨_, rfl⟩
  rw [hnn] at hfe hn
  rw [hnd] at hde
  rw [hnu] at hue
  rw [hll, hnn] at hle
  subst hfe hde hue hle
  have hb0 : Below w.heap.size w (w.alloc (.cells #[.slice pf n cf, .slice pd nd cd, .slice pu nu cu] 81)) := (Below.refl _ _).alloc (Nat.le_refl _) _
  obtain ⟨w1, hw1⟩ : ∃ w1, w.alloc (.cells #[.slice pf n cf, .slice pd nd cd, .slice pu nu cu] 81) = w1 := ⟨_, rfl⟩
  have hg1 := heap_alloc_new w (.cells #[.slice pf n cf, .slice pd nd cd, .slice pu nu cu] 81)
  have hs1 : w1.heap.size = w.heap.size + 1 := by rw [← hw1]; simp
  rw [hw1] at hb0 hg1
  have HG1 := Lib.hid hg1
  have HB0 := Lib.hid hb0
  have HW1 := Lib.hid hw1
  have HN := Lib.hid hnn
  have HD := Lib.hid (hD.below hb0 (Nat.le_refl _))
  have HL := Lib.hid (hl.below hb0 (Nat.le_refl _))
  have HFL := Lib.hid hf
  have HLL : Hid (lf.length = n) := by unfold Hid; rw [hll]; exact hnn
  have HAL : Hid (freeTo F lf n = freeF F lf) := by unfold Hid; rw [← hnn]; rfl
  have HTL := Lib.hid (fun k => freeTo_len F lf k)
  have HST := Lib.hid (fun k => freeTo_step F lf k)
  unfold FreeP
  obtain ⟨c0, c1, c2, -⟩ := three_of hg1
  clear hD hl hll hb0 hw1 hnn hf hg1 hnd hnu
  go_enter Tryz.func43, Tryz.ntmps43
  go_upto_region 1 with fail
  rw [HW1.out]
  go_wp2_with fail
  clear c0 c1 c2
  go_loopw [5, 11] (fun s i wr => ∃ a : Nat, a ≤ n ∧ i = .int .i64 (a : Int) ∧ Below w1.heap.size w1 wr ∧ QueH w1.heap.size wr s (freeTo F lf a)) (fun _ i _ => n - (intOf i).toNat)
  case atStart => exact ⟨0, Nat.zero_le _, rfl, Below.refl _ _, by rw [freeTo_zero]; exact QueH.empty none⟩
  case round =>
    obtain ⟨a, han, rfl, hb, hQ⟩ := hrel
    rename_i sv _
    have HB := Lib.hid hb
    have HQ := Lib.hid hQ
    have hst := HST.out a
    by_cases hal : a < n
    · obtain ⟨c0, c1, c2, -⟩ := three_of ((hb.block w.heap.size (by omega)).trans HG1.out)
      obtain ⟨bl, ol, hpe, hcl1⟩ := HL.out.at (i := a) (by rw [HLL.out]; exact hal)
      subst hpe
      have hcl := (hb.cell (p := ⟨bl, ol + a, none⟩) (mem_lt hcl1)).trans hcl1
      have HNO : Hid (¬ (lf.getD a false = true ∧ (abvF F lf a).length = 1) → freeTo F lf (a + 1) = freeTo F lf a) := fun h => by rw [hst, if_neg h]; exact List.append_nil _
      have HYES : Hid ((lf.getD a false = true ∧ (abvF F lf a).length = 1) → freeTo F lf (a + 1) = freeTo F lf a ++ [(a, (abvF F lf a).getD 0 0)]) := fun h => by rw [hst, if_pos h]
      clear hcl1 hst
      cases hla : lf.getD a false with
      | false =>
        rw [hla] at hcl
        have HE := Lib.hid (HNO.out (by rw [hla]; simp))
        clear hb hQ hla
        go_wp2_with fail
        go_roundw
        case rel => exact ⟨a + 1, hal, by go_num, HB.out, by rw [HE.out]; exact HQ.out⟩
        case measure => simp [intOf]; omega
      | true =>
        rw [hla] at hcl
        have HAV := Lib.hid (above_any B F (.slice pf n cf) (.slice pd nd cd) (.slice pu nu cu) (.slice (some ⟨bl, ol, none⟩) n cl) lf a wr (HD.out.below hb (Nat.le_refl _)) (HL.out.below hb (Nat.le_refl _)) (by rw [HLL.out, HN.out]) (by rw [HN.out]; exact hal) (by rw [HN.out]; exact hn) HFL.out)
        unfold AbvP at HAV
        have HLA := Lib.hid hla
        obtain ⟨l, hlE⟩ : ∃ l, abvF F lf a = l := ⟨_, rfl⟩
        rw [hlE] at HAV HNO HYES
        obtain ⟨m, hm⟩ : ∃ m, l.length = m := ⟨_, rfl⟩
        rw [hm] at HAV HNO HYES
        have HM := Lib.hid hm
        clear hb hQ hla hlE hm
        go_wp2_with fail
        refine HAV.out.mono ?_
        rintro e w5 ⟨p5, c5, rfl, hb5, hI5⟩
        have HB5 := Lib.hid (HB.out.trans (hb5.mono HB.out.size))
        have hQ5 := HQ.out.below hb5 (Nat.le_refl _)
        have HQ5 := Lib.hid hQ5
        by_cases hm1 : m = 1
        · subst hm1
          have HE := Lib.hid (HYES.out ⟨HLA.out, rfl⟩)
          obtain ⟨x, hx⟩ : ∃ x, l.getD 0 0 = x := ⟨_, rfl⟩
          rw [hx] at HE
          obtain ⟨g5, c5', hf5, -⟩ := hI5.row1 HM.out
          obtain ⟨rfl, rfl⟩ : p5 = some ⟨g5, 0, none⟩ ∧ c5 = c5' := by cases hf5; exact ⟨rfl, rfl⟩
          have hx5 := hI5.cell1 HM.out
          rw [hx] at hx5
          have hQL := HTL.out a
          have hsz5 := HB5.out.size
          obtain ⟨pq, cq, hve⟩ := hQ5.sliceOf
          subst hve
          have hba : Below w5.heap.size w5 (w5.alloc (.cells #[.int .i64 (a : Int), .int .i64 (x : Int)] 78)) := (Below.refl _ _).alloc (Nat.le_refl _) _
          have HQA := Lib.hid (hQ5.below hba (Nat.le_refl _))
          have hk5 := heap_alloc_new w5 (.cells #[.int .i64 (a : Int), .int .i64 (x : Int)] 78)
          have HK0 : Hid ((w5.alloc (.cells #[.int .i64 (a : Int), .int .i64 (x : Int)] 78)).cell? ((⟨w5.heap.size, 0, none⟩ : Addr).add 0) = some (.int .i64 (a : Int))) := by unfold Hid; rw [add_zero, World.cell?_alloc_at _ _ _ _ rfl]; rfl
          have HK1 : Hid ((w5.alloc (.cells #[.int .i64 (a : Int), .int .i64 (x : Int)] 78)).cell? ((⟨w5.heap.size, 0, none⟩ : Addr).add 1) = some (.int .i64 (x : Int))) := by unfold Hid; rw [add_zero, World.cell?_alloc_at _ _ _ _ rfl]; rfl
          have HBA := Lib.hid (HB5.out.alloc hsz5 (.cells #[.int .i64 (a : Int), .int .i64 (x : Int)] 78))
          clear hb5 hI5 hf5 hx hQ5 hba hk5 c0 c1 c2 hcl
          go_wp2_with (at_builtin; refine wpList_append_queue _ rfl (.tmp 25) (.tmp 31) rfl i2 (.agg #[.int .i64 0, .int .i64 0]) underPairs hi2 hx0 hx1 hx2 rfl w1.heap.size _ (freeTo F lf a) HQA.out rfl ⟨w5.heap.size, 0, none⟩ 1 a x rfl HK0.out HK1.out (by omega) (by simp; omega) ?_; intro v9 w9 hq9 hs9 ho9 ht9 hp9 hk9; have HQ9 := Lib.hid hq9; have HB9 : Hid (Below w1.heap.size (w5.alloc (.cells #[.int .i64 (a : Int), .int .i64 (x : Int)] 78)) w9) := ⟨ho9, ht9, hp9, hs9, fun k hk => hk9 k (by simp; omega) (fun _ => Or.inr hk)⟩; clear hq9 hs9 ho9 ht9 hp9 hk9)
          go_roundw
          case rel => exact ⟨a + 1, hal, by go_num, HBA.out.trans HB9.out, by rw [HE.out]; exact HQ9.out⟩
          case measure => simp [intOf]; omega
        · have q1 : ((m : Int) == 1) = false := beq_eq_false_iff_ne.2 (by omega)
          have q2 : (m == 1) = false := beq_eq_false_iff_ne.2 hm1
          have HE := Lib.hid (HNO.out (fun h => hm1 h.2))
          clear hb5 hI5 hm1 hQ5 c0 c1 c2 hcl
          go_wp2_with fail
          go_roundw
          case rel => exact ⟨a + 1, hal, by go_num, HB5.out, by rw [HE.out]; exact HQ5.out⟩
          case measure => simp [intOf]; omega
    · obtain rfl : a = n := by omega
      have h := hQ
      rw [HAL.out] at h
      have HR := Lib.hid h
      clear hb hQ h hst
      go_wp2_with fail
      go_ret
      exact ⟨_, rfl, HB0.out.trans (HB.out.mono (by omega)), HR.out.le (by omega)⟩

def allT (F : List (List Int)) : List Bool := List.replicate F.length true
theorem faceN_bd {L : List (List Int)} (h : errX L = 0) : (faceN (allF L)).length ≤ 600 ∧ ∀ f ∈ faceN (allF L), f.length ≤ 7 := by
  have hc := (errX_ok h).1
  refine ⟨?_, fun f hf => allF_bd hc f ((mem_flat allF_ne).1 hf)⟩
  have h1 := faceN_len (L := L)
  have h2 := (errC_ok hc).2.2
  omega
def FreeU (a : Nat → Addr) (L : List (List Int)) (w : World) (e : Ending) (w' : World) : Prop :=
  Below w.heap.size w w' ∧
  ((errX L = 0 ∧ ∃ v, e = .returned (.tuple #[v, .nilIface]) ∧ QueH w.heap.size w' v (freeF (faceN (allF L)) (allT (faceN (allF L))))) ∨
   (∃ k, k < 8 ∧ errX L = k + 1 ∧ e = .returned (.tuple #[.slice none 0 0, errE (a k)])))
theorem freeF_len (F : List (List Int)) (lf : List Bool) : (freeF F lf).length ≤ F.length := freeTo_len F lf F.length
set_option maxRecDepth 100000 in
set_option maxHeartbeats 8000000 in
theorem mfree_any (a : Nat → Addr) (B : Nat) (L : List (List Int)) (v : Value) (w : World) (hS : Sents w a) (hB : B ≤ w.heap.size) (hv : ListsIn B w v L) (hn : L.length ≤ 100000) (hl : ∀ l ∈ L, l.length ≤ 100000) :
    Calls Tryz.prog 9 #[.agg #[v]] w (FreeU a L w) := by
  obtain ⟨pv, cv, hve, -⟩ := id hv
  obtain ⟨n0, hLn⟩ : ∃ n, L.length = n := ⟨_, rfl⟩
  rw [hLn] at hve
  subst hve
  have hb0 : Below w.heap.size w (w.alloc (.cells #[.slice pv n0 cv] 32)) := (Below.refl _ _).alloc (Nat.le_refl _) _
  obtain ⟨w1, hw1⟩ : ∃ w1, w.alloc (.cells #[.slice pv n0 cv] 32) = w1 := ⟨_, rfl⟩
  have hg1 := heap_alloc_new w (.cells #[.slice pv n0 cv] 32)
  have hs1 : w1.heap.size = w.heap.size + 1 := by rw [← hw1]; simp
  rw [hw1] at hb0 hg1
  have HB0 := Lib.hid hb0
  have HW1 := Lib.hid hw1
  have HDA := Lib.hid (diagram_any a B L (.slice pv n0 cv) w1 (hS.below hb0 (Nat.le_refl _)) (by omega) (hv.below hb0 (Nat.le_refl _)) hn hl)
  have c0 : w1.cell? ⟨w.heap.size, 0, none⟩ = some (.slice pv n0 cv) := by simp [World.cell?, hg1]
  unfold DiaP errE at HDA
  unfold FreeU errE
  clear hS hB hv hn hl hb0 hg1 hw1 hLn
  go_enter Tryz.func9, Tryz.ntmps9
  go_upto_region 1 with fail
  rw [HW1.out]
  go_wp2_with fail
  refine HDA.out.mono ?_
  rintro e w2 ⟨hb2, ⟨h0, f, d, u, rfl, hD⟩ | ⟨k, hk, hek, rfl⟩⟩
  rotate_left
  · have HB2 := Lib.hid (HB0.out.trans (hb2.mono HB0.out.size))
    have HEK := Lib.hid hek
    have HBA : Hid (Below w.heap.size w (w2.alloc (.cells #[.slice none 0 0, .slice none 0 0, .slice none 0 0] 81))) := HB2.out.alloc HB2.out.size _
    clear hb2 hek c0
    go_wp2_with fail
    go_ret2
    exact ⟨HBA.out, Or.inr ⟨k, hk, HEK.out, rfl⟩⟩
  · have HE := Lib.hid h0
    obtain ⟨hn6, hf7⟩ := faceN_bd h0
    obtain ⟨F, hF⟩ : ∃ F, faceN (allF L) = F := ⟨_, rfl⟩
    have HFE := Lib.hid hF
    rw [hF] at hD hn6 hf7
    obtain ⟨pf, cf, hfe, -⟩ := id hD.1
    obtain ⟨pd, cd, hde, -⟩ := id hD.2.1
    obtain ⟨pu, cu, hue, -⟩ := id hD.2.2
    obtain ⟨n, hnn⟩ : ∃ n, F.length = n := ⟨_, rfl⟩
    obtain ⟨nd, hnd⟩ : ∃ nd, (dnF F).length = nd := ⟨_, rfl⟩
    obtain ⟨nu, hnu⟩ : ∃ nu, (upF F).length = nu := ⟨_, rfl⟩
    rw [hnn] at hfe hn6
    rw [hnd] at hde
    rw [hnu] at hue
    subst hfe hde hue
    have HN := Lib.hid hnn
    have HB2 := Lib.hid (HB0.out.trans (hb2.mono HB0.out.size))
    have hbA : Below w2.heap.size w2 (w2.alloc (.cells #[.slice pf n cf, .slice pd nd cd, .slice pu nu cu] 81)) := (Below.refl _ _).alloc (Nat.le_refl _) _
    obtain ⟨w3, hw3⟩ : ∃ w3, w2.alloc (.cells #[.slice pf n cf, .slice pd nd cd, .slice pu nu cu] 81) = w3 := ⟨_, rfl⟩
    have hk3 := heap_alloc_new w2 (.cells #[.slice pf n cf, .slice pd nd cd, .slice pu nu cu] 81)
    rw [hw3] at hbA hk3
    have hlt3 := (Array.getElem?_eq_some_iff.1 hk3).1
    have hbC : Below w3.heap.size w3 (w3.alloc (.cells #[.bool true] 4)) := (Below.refl _ _).alloc (Nat.le_refl _) _
    have hk4 := heap_alloc_new w3 (.cells #[.bool true] 4)
    have hlt4 := (Array.getElem?_eq_some_iff.1 hk4).1
    obtain ⟨c3, c4, c5, -⟩ := three_of hk3
    have hk34 := (hbC.block w2.heap.size hlt3).trans hk3
    obtain ⟨d3, d4, d5, -⟩ := three_of hk34
    have HRP := Lib.hid (repB_any (.bool true) rfl n (by omega) (w3.alloc (.cells #[.bool true] 4)) ⟨w3.heap.size, 0, none⟩ 1 (by rw [World.cell?_alloc_at _ _ _ _ rfl]; rfl) hlt4)
    have HK3 := Lib.hid hk34
    have HB4 := Lib.hid ((HB2.out.trans (hbA.mono HB2.out.size)).trans (hbC.mono (Nat.le_trans HB2.out.size hbA.size)))
    have HD2 := Lib.hid ((hD.below hbA (Nat.le_refl _)).below hbC (Nat.le_refl _))
    have HW3 := Lib.hid hw3
    have hlt34 : w2.heap.size < (w3.alloc (.cells #[.bool true] 4)).heap.size := (Array.getElem?_eq_some_iff.1 hk34).1
    clear hb2 h0 hF hD hnn hnd hnu hbA hw3 hk3 hbC hk4 c0 hk34
    go_upto_region 4 with fail
    rw [HW3.out]
    go_wp2_with fail
    refine HRP.out.mono ?_
    intro e w5 hrep
    obtain ⟨vb, rfl, hb5, hbo⟩ := RepB.own (O := (w3.alloc (.cells #[.bool true] 4)).heap.size) (Nat.le_refl _) (by omega) hrep
    obtain ⟨pb, cb, hve⟩ := hbo.sliceOf
    rw [List.length_replicate] at hve
    subst hve
    obtain ⟨e3, e4, e5, -⟩ := three_of ((hb5.block w2.heap.size hlt34).trans HK3.out)
    have HB5 := Lib.hid (HB4.out.trans (hb5.mono HB4.out.size))
    have HFR := Lib.hid (free_any B F (.slice pf n cf) (.slice pd nd cd) (.slice pu nu cu) (.slice pb n cb) (List.replicate n true) w5 (HD2.out.below hb5 (Nat.le_refl _)) hbo.reads (by rw [List.length_replicate, HN.out]) (by rw [HN.out]; exact hn6) (fun x hx => by have := hf7 x hx; omega))
    unfold FreeP at HFR
    clear hb5 hbo hrep c3 c4 c5 d3 d4 d5
    go_wp2_with fail
    refine HFR.out.mono ?_
    rintro e w6 ⟨v6, rfl, hb6, hq6⟩
    have HB6 := Lib.hid (HB5.out.trans (hb6.mono HB5.out.size))
    have HQ6 := Lib.hid (hq6.le HB5.out.size)
    clear hb6 hq6
    go_wp2_with fail
    go_ret2
    refine ⟨HB6.out, Or.inl ⟨HE.out, _, rfl, ?_⟩⟩
    unfold allT
    rw [HFE.out, HN.out]
    exact HQ6.out
end Go.Proofs.YtoheffkiohfmoaaGreatDoor
