/-
  The document's ImageOf and Turns by contracts.
  The document's MapFault by a contract: the first fault of a map of complexes.
  The document's Turns by a contract: neighbours change places until the numbers rise: the sign of the number of pairs in the wrong order.
  The document's FixedOf and LefschetzOf by contracts.
-/
import Derived.Test.YtddnjimpdidpaaaGreatDoorIyA
import Derived.Test.YtddnjimpdidpaaaGreatDoorIyG
import Derived.Test.YtddnjimpdidpaaaGreatDoorIxO
import Derived.Test.YtddnjimpdidpaaaGreatDoorNum
import Derived.Deep.DeepCutAuto
import Derived.Deep.CutBlock
import Derived.WalkSmall
import Derived.Test.YtddnjimpdidpaaaGreatDoorCoded
set_option linter.unusedSimpArgs false
set_option linter.unusedVariables false
namespace Go.Proofs.YtddnjimpdidpaaaGreatDoor
open Go Go.RowKit Go.Maps

/-- the image so far: all of the first, and one more perhaps -/
def imgT (V f x : List Int) (j t : Nat) : List Int := (x.take j).map (hiF V f) ++ (if x.getD j 0 ∈ V.take t then [hiF V f (x.getD j 0)] else [])
theorem imgT_0 (V f x : List Int) (j : Nat) : imgT V f x j 0 = (x.take j).map (hiF V f) := by unfold imgT; simp
theorem imgT_all {V f x : List Int} {j : Nat} (hj : j < x.length) (h : x.getD j 0 ∈ V) : imgT V f x j V.length = (x.take (j + 1)).map (hiF V f) := by
  unfold imgT
  rw [List.take_length, if_pos h, take_snoc_getD 0 x j hj, List.map_append, List.map_singleton]
theorem imgT_no {V f x : List Int} {j t : Nat} (ht : t < V.length) (h : V.getD t 0 ≠ x.getD j 0) : imgT V f x j (t + 1) = imgT V f x j t := by
  unfold imgT
  rw [take_snoc_getD 0 V t ht]
  by_cases hm : x.getD j 0 ∈ V.take t
  · rw [if_pos (List.mem_append_left _ hm), if_pos hm]
  · rw [if_neg (fun hh => by
      rcases List.mem_append.1 hh with h1 | h1
      · exact hm h1
      · exact h (List.mem_singleton.1 h1).symm), if_neg hm]
theorem imgT_yes {V f x : List Int} {j t : Nat} (ht : t < V.length) (hnd : V.Nodup) (h : V.getD t 0 = x.getD j 0) : imgT V f x j t = (x.take j).map (hiF V f) ∧ imgT V f x j (t + 1) = (x.take j).map (hiF V f) ++ [f.getD t 0] := by
  have hm : x.getD j 0 ∉ V.take t := fun hm => by
    rw [← h] at hm
    obtain ⟨k, hk, e⟩ := List.getElem_of_mem hm
    rw [List.length_take] at hk
    rw [List.getElem_take] at e
    have hk2 : k < V.length := by omega
    have e3 : V.getD k 0 = V.getD t 0 := by rw [getD_elem hk2]; exact e
    have := nod_inj' hnd hk2 ht e3
    omega
  refine ⟨by unfold imgT; rw [if_neg hm, List.append_nil], ?_⟩
  have h2 : x.getD j 0 ∈ V.take (t + 1) := by rw [take_snoc_getD 0 V t ht]; exact List.mem_append_right _ (List.mem_singleton.2 h.symm)
  unfold imgT
  rw [if_pos h2]
  congr 2
  refine hi_first ht h fun k hk e => hm ?_
  rw [← e, getD_elem (by omega)]
  exact List.mem_take_iff_getElem.2 ⟨k, by omega, rfl⟩

set_option maxRecDepth 100000 in
set_option maxHeartbeats 16000000 in
theorem imageOf_any (B : Nat) (A : List (List Int)) (f x : List Int) (va vf vx : Value) (w : World) (hva : ListsIn B w va A) (hn : A.length ≤ 100000) (hl : ∀ l ∈ A, l.length ≤ 100000) (hf : IntsAt w vf f) (hx : IntsAt w vx x)
    (hlen : f.length = (vertR A).length) (hnd : (vertR A).Nodup) (hin : ∀ y ∈ x, y ∈ vertR A) (hxn : x.length ≤ 1000) :
    Calls Tryz.prog 61 #[va, vf, vx] w (NumsP B (imgF (vertR A) f x) w) := by
  obtain ⟨i3, hi3, hy0, hy1, hy2⟩ := info_parts Tryz.info3
  have HVO := Lib.hid (verticesOf_any B A va w hva hn hl)
  unfold NumsP at HVO
  have hA := Nat.le_trans (vertR_len A) hn
  obtain ⟨px, cx, hxe⟩ := hx.in.len
  obtain ⟨pf, cf, hfe⟩ := hf.in.len
  obtain ⟨pa, ca, hae, -⟩ := id hva
  obtain ⟨nA, hnA⟩ : ∃ n, A.length = n := ⟨_, rfl⟩
  rw [hnA] at hae
  obtain ⟨V, hV⟩ : ∃ V, vertR A = V := ⟨_, rfl⟩
  rw [hV] at HVO hlen hnd hin hA ⊢
  obtain ⟨m, hm⟩ : ∃ m, x.length = m := ⟨_, rfl⟩
  obtain ⟨n, hnn⟩ : ∃ n, V.length = n := ⟨_, rfl⟩
  rw [hm] at hxe hxn
  rw [hnn] at HVO hlen hA
  rw [hlen] at hfe
  subst hxe
  subst hfe
  subst hae
  have HX := Lib.hid hx.in
  have HF := Lib.hid hf.in
  have HM := Lib.hid hm
  have HN := Lib.hid hnn
  have HL := Lib.hid hlen
  have HI := Lib.hid hin
  have HND := Lib.hid hnd
  unfold NumsP imgF
  clear hva hn hl hf hx hlen hnd hin hV hm hnn hnA
  go_enter Tryz.func61, Tryz.ntmps61
  go_wp2_with fail
  refine HVO.out.mono ?_
  rintro e w1 ⟨pV, cV, rfl, hb1, hi1⟩
  have HB1 := Lib.hid hb1
  have HV := Lib.hid hi1
  clear hb1 hi1 HVO
  go_wp2_with fail
  go_loopw [8, 9] (fun s i wr => ∃ j : Nat, j ≤ m ∧ i = .int .i64 j ∧ Below w1.heap.size w1 wr ∧ wr.ownsRow w1.heap.size 3 1 s j (intVs ((x.take j).map (hiF V f)))) (fun _ i _ => m - (intOf i).toNat)
  case atStart => exact ⟨0, Nat.zero_le _, rfl, Below.refl _ _, World.ownsRow_nil _ _ _ _⟩
  case round =>
    obtain ⟨j, hj, rfl, hb, hO⟩ := hrel
    have HB := Lib.hid hb
    have HO := Lib.hid hO
    by_cases hjn : j < m
    · have hxl : j < x.length := by rw [HM.out]; exact hjn
      have hmem : x.getD j 0 ∈ V := HI.out _ (by rw [getD_elem hxl]; exact List.getElem_mem _)
      have HMEM := Lib.hid hmem
      have HXL := Lib.hid hxl
      have HWR : Hid (∀ wx, Below w1.heap.size w1 wx → ∃ bx ox, px = some ⟨bx, ox, none⟩ ∧ wx.cell? ⟨bx, ox + j, none⟩ = some (.int .i64 (x.getD j 0))) := fun wx hwx => by
        obtain ⟨bx, ox, c', e1, e2⟩ := ints_cell (HX.out.below (HB1.out.trans (hwx.mono HB1.out.size)) (Nat.le_refl _)) j hxl
        cases e1
        exact ⟨bx, ox, rfl, e2⟩
      have h0 : wr.ownsRow w1.heap.size 3 1 u8 (imgT V f x j 0).length (intVs (imgT V f x j 0)) := by
        rw [imgT_0, List.length_map, List.length_take, Nat.min_eq_left (by omega)]; exact hO
      have HO0 := Lib.hid h0
      clear hxl hmem hb hO h0
      go_wp2_with fail
      go_loopw [8, 10] (fun s k wr2 => ∃ t : Nat, t ≤ n ∧ k = .int .i64 t ∧ Below w1.heap.size w1 wr2 ∧ wr2.ownsRow w1.heap.size 3 1 s (imgT V f x j t).length (intVs (imgT V f x j t))) (fun _ k _ => n - (intOf k).toNat)
      case atStart => exact ⟨0, Nat.zero_le _, rfl, HB.out, HO0.out⟩
      case round =>
        obtain ⟨t, ht, rfl, hb, hO⟩ := hrel
        have HB2 := Lib.hid hb
        have HO2 := Lib.hid hO
        by_cases htn : t < n
        · have htV : t < V.length := by rw [HN.out]; exact htn
          obtain ⟨bv, ov, cV', e1, e2⟩ := ints_cell (HV.out.below hb (Nat.le_refl _)) t htV
          rw [HN.out] at e1
          obtain ⟨rfl, rfl⟩ : pV = some ⟨bv, ov, none⟩ ∧ cV = cV' := by cases e1; exact ⟨rfl, rfl⟩
          obtain ⟨bx, ox, rfl, e4⟩ := HWR.out _ hb
          by_cases hvx : V.getD t 0 = x.getD j 0
          · obtain ⟨g1, g2⟩ := imgT_yes (f := f) htV HND.out hvx
            rw [g1] at hO
            have hlj : ((x.take j).map (hiF V f)).length = j := by rw [List.length_map, List.length_take, HM.out]; omega
            rw [hlj] at hO
            rw [hvx] at e2
            obtain ⟨z, hz⟩ : ∃ z, x.getD j 0 = z := ⟨_, rfl⟩
            rw [hz] at e2 e4
            have HG2 := Lib.hid g2
            have HLJ := Lib.hid hlj
            have q1 : (z == z) = true := by simp
            clear e1 g1 g2 hlj hvx hz
            go_wp2_with fail
            go_quiet (fail)
            have hb3 := Below.drewN wr nq
            obtain ⟨w4, hw4⟩ : ∃ x, wr.drewN nq = x := ⟨_, rfl⟩
            rw [hw4] at hb3 ⊢
            have hb4 := HB2.out.trans (hb3.mono HB2.out.size)
            obtain ⟨bf, of, c5, e5, e6⟩ := ints_cell (HF.out.below (HB1.out.trans (hb4.mono HB1.out.size)) (Nat.le_refl _)) t (by rw [HL.out]; exact htn)
            rw [HL.out] at e5
            obtain ⟨rfl, rfl⟩ : pf = some ⟨bf, of, none⟩ ∧ cf = c5 := by cases e5; exact ⟨rfl, rfl⟩
            obtain ⟨y, hy⟩ : ∃ y, f.getD t 0 = y := ⟨_, rfl⟩
            rw [hy] at e6
            have HY := Lib.hid hy
            have hws : w1.heap.size ≤ w4.heap.size := hb4.size
            have HB4 := Lib.hid hb4
            have HO4 := Lib.hid (owns_keep hO fun k hk => hb3.block k (hO.lt k hk).2)
            clear hb3 hw4 hb4 e5 hy hO hb e2 e4 q1
            go_wp2_with (at_builtin; refine wpList_append_lies _ rfl (.tmp 34) (.tmp 39) 23 rfl w1.heap.size 3 i3 (.int .i64 0) 1 8 Tryz.underlying23 hi3 hy0 hy1 hy2 rfl (by decide) _ j (intVs ((x.take j).map (hiF V f))) rfl (HO4.out.alloc _) ⟨w4.heap.size, 0, none⟩ 1 1 [.int .i64 y] rfl rfl (World.news_of_block (cs := #[.int .i64 y]) (t := 3) (fr := (0, 0)) (heap_alloc_new w4 _)) (by simp [Value.oneCell']) (by decide) (by unfold maxLen; omega) (by omega) (by simp; omega) (w4.heap.size + 1) (by simp) ?_; intro g2 c2 w10 hown2 hgr2 hat2 hlt2; have HO5 := Lib.hid hown2; have HG5 := Lib.hid hgr2; clear hown2 hgr2 hat2 hlt2)
            go_roundw
            case rel =>
              refine ⟨t + 1, htn, by go_num, (HB4.out.alloc hws _).grown HG5.out (by simp; omega) (fun i hi => (HO4.out.lt i hi).1), ?_⟩
              rw [HG2.out, HY.out, List.length_append, HLJ.out, intVs_snoc]
              exact HO5.out
            case measure => simp [intOf]; omega
          · have g1 := imgT_no (f := f) htV hvx
            have q1 : (V.getD t 0 == x.getD j 0) = false := beq_eq_false_iff_ne.2 hvx
            obtain ⟨z, hz⟩ : ∃ z, x.getD j 0 = z := ⟨_, rfl⟩
            obtain ⟨y, hy⟩ : ∃ y, V.getD t 0 = y := ⟨_, rfl⟩
            rw [hz] at e4 q1
            rw [hy] at e2 q1
            have HG1 := Lib.hid g1
            clear e1 g1 hvx hz hy hb hO
            go_wp2_with fail
            go_quiet (fail)
            go_wp2_with fail
            go_roundw
            case rel =>
              refine ⟨t + 1, htn, by go_num, HB2.out.trans ((Below.drewN _ _).mono HB2.out.size), ?_⟩
              rw [HG1.out]
              exact owns_keep HO2.out fun k hk => (Below.drewN _ _).block k (HO2.out.lt k hk).2
            case measure => simp [intOf]; omega
        · obtain rfl : n = t := by omega
          have hfin := imgT_all (f := f) HXL.out HMEM.out
          rw [HN.out] at hfin
          rw [hfin] at hO
          rw [List.length_map, List.length_take, HM.out, Nat.min_eq_left (by omega)] at hO
          have HO3 := Lib.hid hO
          clear hfin hO hb
          go_wp2_with fail
          go_roundw
          case rel => exact ⟨j + 1, hjn, by go_num, HB2.out, HO3.out⟩
          case measure => simp [intOf]; omega
    · obtain rfl : m = j := by omega
      have hT : x.take m = x := by rw [← HM.out, List.take_length]
      rw [hT] at hO
      have hl0 : (x.map (hiF V f)).length = m := by rw [List.length_map]; exact HM.out
      obtain ⟨po, co, hso⟩ : ∃ p c, u8 = .slice p m c := by
        rcases Joins.ownsRow_forms hO with ⟨e, h0⟩ | ⟨g, cap, e⟩
        · exact ⟨none, 0, by rw [e, h0]⟩
        · exact ⟨_, cap, e⟩
      subst hso
      have HBF := Lib.hid (HB1.out.trans (hb.mono HB1.out.size))
      have HI2 := Lib.hid (ints_owned (B := B) hO hl0.symm)
      clear hb hO hT
      go_wp2_with fail
      go_ret
      rw [hl0]
      exact ⟨po, co, rfl, HBF.out, HI2.out⟩

theorem two_all {w : World} {b : Nat} {x y : Value} {t : TypeId} (h : w.heap[b]? = some (.cells #[x, y] t (0, 0))) : w.cell? ⟨b, 0, none⟩ = some x ∧ w.cell? ⟨b, 1, none⟩ = some y ∧ w.frozen? ⟨b, 0, none⟩ = false ∧ w.frozen? ⟨b, 1, none⟩ = false := by
  simp [World.cell?, World.frozen?, h]
theorem set2all {w : World} {b : Nat} {x y : Value} {t : TypeId} (h : w.heap[b]? = some (.cells #[x, y] t (0, 0))) (x' y' : Value) :
    ((w.setCell ⟨b, 0, none⟩ x').setCell ⟨b, 1, none⟩ y').heap[b]? = some (.cells #[x', y'] t (0, 0)) := by
  simp [World.setCell, Array.getElem?_modify, h]

set_option maxRecDepth 100000 in
set_option maxHeartbeats 64000000 in
theorem mapFault_any (B : Nat) (A G : List (List Int)) (f : List Int) (va vb vf : Value) (w : World) (hB : B ≤ w.heap.size) (hva : ListsIn B w va A) (hvb : ListsIn B w vb G) (hn : A.length ≤ 100000) (hl : ∀ l ∈ A, l.length ≤ 1000)
    (hm : G.length ≤ 100000) (hk : ∀ l ∈ G, l.length ≤ 1000) (hf : IntsIn B w vf f) (hfl : f.length ≤ 100000) (hnd : (vertR A).Nodup) (hin : ∀ x ∈ faceN A, ∀ y ∈ x, y ∈ vertR A) (hF7 : ∀ x ∈ faceN A, x.length ≤ 1000) (hFn : (faceN A).length ≤ 100000) :
    Calls Tryz.prog 25 #[va, vb, vf] w (fun e w' => e = .returned (.agg #[.int .i64 ((mapE (vertR A) (vertR G) f (faceN A) G).1 : Int), .int .i64 (mapE (vertR A) (vertR G) f (faceN A) G).2]) ∧ Below w.heap.size w w') := by
  obtain ⟨pa, ca, hae, -⟩ := id hva
  obtain ⟨pb, cb, hbe, -⟩ := id hvb
  obtain ⟨pf, cf, hfe, hcf, -⟩ := id hf
  obtain ⟨nA, hnA⟩ : ∃ n, A.length = n := ⟨_, rfl⟩
  obtain ⟨nG, hnG⟩ : ∃ n, G.length = n := ⟨_, rfl⟩
  obtain ⟨nf, hnf⟩ : ∃ n, f.length = n := ⟨_, rfl⟩
  rw [hnA] at hae
  rw [hnG] at hbe
  rw [hnf] at hfe hfl hcf
  subst hae
  subst hbe
  subst hfe
  have hl1 : ∀ l ∈ A, l.length ≤ 100000 := fun l h => by have := hl l h; omega
  have hk1 : ∀ l ∈ G, l.length ≤ 100000 := fun l h => by have := hk l h; omega
  have hA := Nat.le_trans (vertR_len A) hn
  have HVO := Lib.hid (fun wx (hx : Below w.heap.size w wx) => verticesOf_any B A (.slice pa nA ca) wx (hva.below hx (Nat.le_refl _)) hn hl1)
  have HIX := Lib.hid (fun wx (hx : Below w.heap.size w wx) (z : List Int) u (hu : IntsAt wx u z) (hz : z.length ≤ 100000) => indexOf_any B G z (.slice pb nG cb) u wx (hvb.below hx (Nat.le_refl _)) hu hm hk1 hz)
  have HNU := Lib.hid (fun wx (hx : Below w.heap.size w wx) => numbered_any B A (.slice pa nA ca) wx (Nat.le_trans hB hx.size) (hva.below hx (Nat.le_refl _)) hn hl1 hFn)
  have HIM := Lib.hid (fun wx (hx : Below w.heap.size w wx) (x : List Int) u (hu : IntsAt wx u x) (hlen : f.length = (vertR A).length) (hi : ∀ y ∈ x, y ∈ vertR A) (hxn : x.length ≤ 1000) => imageOf_any B A f x (.slice pa nA ca) (.slice pf nf cf) u wx (hva.below hx (Nat.le_refl _)) hn hl1 (hf.below hx (Nat.le_refl _)).at hu hlen hnd hi hxn)
  have HSO := Lib.hid (fun wx (xs : List Int) u (hu : IntsAt wx u xs) (hxn : xs.length ≤ 1000000) => sorted_any xs u wx hu hxn)
  unfold NumsP at HVO HIM
  unfold IdxPost at HIX
  unfold ListPost at HNU
  unfold SortedPost at HSO
  have HF := Lib.hid (fun wx (hx : Below w.heap.size w wx) => hf.below hx (Nat.le_refl _))
  have HNF := Lib.hid hnf
  have HFL := Lib.hid hfl
  have HCF := Lib.hid hcf
  have hb0 : Below w.heap.size w (w.alloc (.cells #[.int .i64 0, .int .i64 0] 57)) := lit_below' w _
  have hk0 := heap_alloc_new w (.cells #[.int .i64 0, .int .i64 0] 57)
  obtain ⟨w0, hw0⟩ : ∃ w0, w.alloc (.cells #[.int .i64 0, .int .i64 0] 57) = w0 := ⟨_, rfl⟩
  rw [hw0] at hb0 hk0
  have HB0 := Lib.hid hb0
  have HT : Hid (∀ wx, Below w0.heap.size w0 wx → Below w.heap.size w wx) := fun wx hx => hb0.trans (hx.mono hb0.size)
  have HKX : Hid (∀ wx, Below w0.heap.size w0 wx → wx.heap[w.heap.size]? = some (.cells #[.int .i64 0, .int .i64 0] 57 (0, 0))) := fun wx hx => (hx.block _ (Array.getElem?_eq_some_iff.1 hk0).1).trans hk0
  have HW0 := Lib.hid hw0
  have HMV := Lib.hid (fun x => mem_vertR (A := G) (x := x))
  obtain ⟨V, hV⟩ : ∃ V, vertR A = V := ⟨_, rfl⟩
  obtain ⟨VB, hVB⟩ : ∃ V, vertR G = V := ⟨_, rfl⟩
  obtain ⟨F, hF⟩ : ∃ F, faceN A = F := ⟨_, rfl⟩
  obtain ⟨nV, hnV⟩ : ∃ n, V.length = n := ⟨_, rfl⟩
  obtain ⟨nF, hnF⟩ : ∃ n, F.length = n := ⟨_, rfl⟩
  rw [hV] at HVO HIM hin hA ⊢
  rw [hVB] at HMV ⊢
  rw [hF] at HNU hin hFn hF7 ⊢
  rw [hnV] at HVO HIM hA
  rw [hnF] at hFn
  have HNV := Lib.hid hnV
  have HNFF := Lib.hid hnF
  have HIN := Lib.hid hin
  have HF7 := Lib.hid hF7
  have HFN := Lib.hid hFn
  obtain ⟨r, hr⟩ : ∃ r, mapE V VB f F G = r := ⟨_, rfl⟩
  have HR := Lib.hid hr
  rw [hr]
  clear hva hvb hB hn hl hm hk hf hfl hcf hnd hin hF7 hFn hb0 hk0 hw0 hV hVB hF hnV hnF hnA hnG hnf hl1 hk1 hr
  go_enter Tryz.func25, Tryz.ntmps25
  go_upto_region 1 with fail
  rw [HW0.out]
  have HVO0 := Lib.hid (HVO.out w0 HB0.out)
  go_wp2_with fail
  refine HVO0.out.mono ?_
  rintro e w1 ⟨pV, cV, rfl, hb1, hi1⟩
  have HZ1 := Lib.hid hb1
  clear hb1 hi1 HVO0 HVO
  by_cases hlen : nV = nf
  rotate_left
  · have q1 : ((nV : Int) != (nf : Int)) = true := by rw [bne_iff_ne]; omega
    have hE := mapE_len (V := V) (VB := VB) (f := f) (F := F) (G := G) (by rw [HNV.out, HNF.out]; exact hlen)
    obtain rfl := HR.out.symm.trans hE
    have hk1 := HKX.out w1 HZ1.out
    obtain ⟨d0, d1, f0, f1⟩ := two_all hk1
    obtain ⟨wf, hwf⟩ : ∃ wf, wf = (w1.setCell ⟨w.heap.size, 0, none⟩ (.int .i64 3)).setCell ⟨w.heap.size, 1, none⟩ (.int .i64 (-1)) := ⟨_, rfl⟩
    obtain ⟨r0, r1, -, -⟩ := two_all (by rw [hwf]; exact set2all hk1 _ _ : wf.heap[w.heap.size]? = some (.cells #[.int .i64 3, .int .i64 (-1)] 57 (0, 0)))
    have HBF : Hid (Below w.heap.size w wf) := by unfold Hid; rw [hwf]; exact ((HT.out _ HZ1.out).setCell (Nat.le_refl _) _).setCell (Nat.le_refl _) _
    have HWF := Lib.hid hwf
    have R0 := Lib.hid r0
    have R1 := Lib.hid r1
    clear hlen hE hk1 hwf r0 r1
    go_wp2_with fail
    rw [← HWF.out]
    refine bodyPost_ret (v := .agg #[.int .i64 3, .int .i64 (-1)]) (by simp [results, Tryz.results25, go_sem, R0.out, R1.out]) rfl ?_
    exact ⟨rfl, HBF.out⟩
  · have q1 : ((nV : Int) != (nf : Int)) = false := by rw [bne_eq_false_iff_eq]; omega
    have HLE := Lib.hid hlen
    have hfl := HFL.out
    clear hlen
    go_wp2_with fail
    go_loopw [7] (fun i wr => ∃ j : Nat, j ≤ nf ∧ i = .int .i64 (j : Int) ∧ Below w1.heap.size w1 wr ∧ ∀ t, t < j → f.getD t 0 ∈ VB) (fun i _ => nf - (intOf i).toNat)
    case atStart => exact ⟨0, Nat.zero_le _, rfl, Below.refl _ _, fun t ht => absurd ht (Nat.not_lt_zero t)⟩
    case round =>
      obtain ⟨j, hj, rfl, hb, hgd⟩ := hrel
      have HGD := Lib.hid hgd
      have HB := Lib.hid hb
      have HZR := Lib.hid (HZ1.out.trans (hb.mono HZ1.out.size))
      by_cases hjn : j < nf
      · have hjf : j < f.length := by rw [HNF.out]; exact hjn
        obtain ⟨b, off, c', e1, -⟩ := ints_cell (HF.out _ (HT.out _ HZR.out)) j hjf
        rw [HNF.out] at e1
        obtain ⟨rfl, rfl⟩ : pf = some ⟨b, off, none⟩ ∧ cf = c' := by cases e1; exact ⟨rfl, rfl⟩
        have hcap := HCF.out
        have hpart := (HF.out _ (HT.out _ HZR.out)).part j 1 (cf - j) (by omega) (by omega)
        rw [show (f.drop j).take 1 = [f.getD j 0] by rw [List.drop_eq_getElem_cons hjf, getD_elem hjf]; rfl] at hpart
        obtain ⟨z, hz⟩ : ∃ z, f.getD j 0 = z := ⟨_, rfl⟩
        rw [hz] at hpart
        have HZZ := Lib.hid hz
        have HIZ := Lib.hid (HIX.out wr (HT.out _ HZR.out) [z] _ hpart.at (by simp))
        clear hpart hz e1 hjf hgd hb
        go_wp2_with fail
        refine HIZ.out.mono ?_
        rintro e w2 ⟨ri, rfl, ⟨nd, hw2⟩, hri, hrm⟩
        rw [hw2]
        clear hw2 w2
        have hb3 := Below.drewN wr nd
        obtain ⟨w3, hw3⟩ : ∃ x, wr.drewN nd = x := ⟨_, rfl⟩
        rw [hw3] at hb3 ⊢
        have HB3 := Lib.hid (HB.out.trans (hb3.mono HB.out.size))
        have HZ3 := Lib.hid (HZR.out.trans (hb3.mono HZR.out.size))
        have HRI := Lib.hid hri
        clear hb3 hw3 hri HIZ
        by_cases h0 : ri < 0
        · have q2 : decide (ri < 0) = true := decide_eq_true h0
          have hnm : z ∉ VB := fun h => by
            have := HRI.out.2 ((HMV.out z).1 h)
            omega
          have hE := mapE_face (V := V) (VB := VB) (f := f) (F := F) (G := G) (i := j) (by rw [HNV.out, HNF.out]; exact HLE.out) (by rw [HNF.out]; exact hjn) HGD.out (by rw [HZZ.out]; exact hnm)
          obtain rfl := HR.out.symm.trans hE
          have hk1 := HKX.out w3 HZ3.out
          obtain ⟨d0, d1, f0, f1⟩ := two_all hk1
          obtain ⟨wf, hwf⟩ : ∃ wf, wf = (w3.setCell ⟨w.heap.size, 0, none⟩ (.int .i64 4)).setCell ⟨w.heap.size, 1, none⟩ (.int .i64 (j : Int)) := ⟨_, rfl⟩
          obtain ⟨r0, r1, -, -⟩ := two_all (by rw [hwf]; exact set2all hk1 _ _ : wf.heap[w.heap.size]? = some (.cells #[.int .i64 4, .int .i64 (j : Int)] 57 (0, 0)))
          have HBF : Hid (Below w.heap.size w wf) := by unfold Hid; rw [hwf]; exact ((HT.out _ HZ3.out).setCell (Nat.le_refl _) _).setCell (Nat.le_refl _) _
          have HWF := Lib.hid hwf
          have R0 := Lib.hid r0
          have R1 := Lib.hid r1
          clear h0 hnm hE hk1 hwf r0 r1 hrm
          go_wp2_with fail
          rw [← HWF.out]
          refine bodyPost_ret (v := .agg #[.int .i64 4, .int .i64 (j : Int)]) (by simp [results, Tryz.results25, go_sem, R0.out, R1.out]) rfl ?_
          exact ⟨rfl, HBF.out⟩
        · have q2 : decide (ri < 0) = false := decide_eq_false h0
          have hme : z ∈ VB := (HMV.out z).2 (HRI.out.1 (by omega))
          have HME := Lib.hid hme
          clear h0 hme hrm
          go_wp2_with fail
          go_roundw
          case rel =>
            refine ⟨j + 1, hjn, by go_num, HB3.out, ?_⟩
            intro t ht
            rcases (show t < j ∨ t = j by omega) with h | rfl
            · exact HGD.out t h
            · rw [HZZ.out]; exact HME.out
          case measure => simp [intOf]; omega
      · obtain rfl : nf = j := by omega
        have hall : ∀ x ∈ f, x ∈ VB := fun x hx => by
          obtain ⟨t, ht, rfl⟩ := List.getElem_of_mem hx
          rw [← getD_elem ht]
          exact HGD.out t (by rw [← HNF.out]; exact ht)
        have HALL := Lib.hid hall
        have HNU1 := Lib.hid (HNU.out wr (HT.out _ HZR.out))
        clear hall hgd hb HNU
        go_wp2_with fail
        refine HNU1.out.mono ?_
        rintro e w4 ⟨v4, rfl, hb4, hR4⟩
        have HZ4 := Lib.hid (HZR.out.trans (hb4.mono HZR.out.size))
        have HL4 := Lib.hid (hR4.lists (B := B))
        obtain ⟨p4, c4, hve, -⟩ := id hR4.lists
        rw [HNFF.out] at hve
        subst hve
        have hfn := HFN.out
        clear hb4 hR4 HNU1
        go_wp2_with fail
        go_loopw [9] (fun i wr => ∃ j : Nat, j ≤ nF ∧ i = .int .i64 (j : Int) ∧ Below w4.heap.size w4 wr ∧ ∀ t, t < j → setL (imgF V f (F.getD t [])) ∈ G) (fun i _ => nF - (intOf i).toNat)
        case atStart => exact ⟨0, Nat.zero_le _, rfl, Below.refl _ _, fun t ht => absurd ht (Nat.not_lt_zero t)⟩
        case round =>
          obtain ⟨j, hj, rfl, hb, hgd⟩ := hrel
          have HGD := Lib.hid hgd
          have HB := Lib.hid hb
          have HZJ := Lib.hid (HZ4.out.trans (hb.mono HZ4.out.size))
          by_cases hjn : j < nF
          · have hjl : j < F.length := by rw [HNFF.out]; exact hjn
            obtain ⟨bF, oF, cF', hve⟩ := (HL4.out.below hb (Nat.le_refl _)).form (by omega)
            rw [HNFF.out] at hve
            obtain ⟨rfl, rfl⟩ : p4 = some ⟨bF, oF, none⟩ ∧ c4 = cF' := by cases hve; exact ⟨rfl, rfl⟩
            obtain ⟨px, cx, hcx, hix⟩ := cells_at (HL4.out.below hb (Nat.le_refl _)) j hjl
            have hxm := getL_mem hjl
            have hVx := HIN.out _ hxm
            have h7 := HF7.out _ hxm
            obtain ⟨x, hx⟩ : ∃ x, F.getD j [] = x := ⟨_, rfl⟩
            rw [hx] at hcx hix hVx h7
            have HXX := Lib.hid hx
            have HI1 := Lib.hid (HIM.out wr (HT.out _ HZJ.out) x _ hix.at (by rw [HNF.out, ← HLE.out]) hVx h7)
            have hil : (imgF V f x).length = x.length := imgF_len V f x
            have hsl := setL_len (imgF V f x)
            rw [hil] at HI1
            obtain ⟨im, him⟩ : ∃ im, imgF V f x = im := ⟨_, rfl⟩
            rw [him] at HI1 hil hsl
            have HIMM := Lib.hid him
            obtain ⟨nx, hnx⟩ : ∃ n, x.length = n := ⟨_, rfl⟩
            rw [hnx] at hcx HI1 hil h7
            obtain ⟨s, hs⟩ : ∃ s, setL im = s := ⟨_, rfl⟩
            have HSS := Lib.hid hs
            rw [hs] at hsl
            obtain ⟨on, hon⟩ : ∃ b, onceB im = b := ⟨_, rfl⟩
            have HS1 := Lib.hid (fun wx u (hu : IntsIn B wx u im) => HSO.out wx im u hu.at (by omega))
            rw [hs, hon] at HS1
            have HSLN : Hid (s.length ≤ 100000) := by unfold Hid; omega
            clear hve hix hxm hVx hx him hil hsl hnx hs hon hgd hb hjl h7
            go_wp2_with fail
            refine HI1.out.mono ?_
            rintro e w5 ⟨p5, c5, rfl, hb5, hi5⟩
            have HS5 := Lib.hid (HS1.out w5 _ hi5)
            have HB5 := Lib.hid (HB.out.trans (hb5.mono HB.out.size))
            have HZ5 := Lib.hid (HZJ.out.trans (hb5.mono HZJ.out.size))
            clear hb5 hi5 HI1 HS1
            go_wp2_with fail
            refine HS5.out.mono ?_
            rintro e w6 ⟨v6, rfl, hb6, ho6⟩
            have hI6 := (ints_owned (B := B) ho6 rfl).at
            have HB6 := Lib.hid (HB5.out.trans (hb6.mono HB5.out.size))
            have HZ6 := Lib.hid (HZ5.out.trans (hb6.mono HZ5.out.size))
            have HIZ := Lib.hid (HIX.out w6 (HT.out _ HZ6.out) s v6 hI6 HSLN.out)
            clear hb6 ho6 hI6 HS5
            go_wp2_with fail
            refine HIZ.out.mono ?_
            rintro e w2 ⟨ri, rfl, ⟨nd, hw2⟩, hri, hrm⟩
            rw [hw2]
            clear hw2 w2
            have hb3 := Below.drewN w6 nd
            obtain ⟨w3, hw3⟩ : ∃ x, w6.drewN nd = x := ⟨_, rfl⟩
            rw [hw3] at hb3 ⊢
            have HB3 := Lib.hid (HB6.out.trans (hb3.mono HB6.out.size))
            have HZ3 := Lib.hid (HZ6.out.trans (hb3.mono HZ6.out.size))
            have HRI := Lib.hid hri
            clear hb3 hw3 hri HIZ
            by_cases h0 : ri < 0
            · have q2 : decide (ri < 0) = true := decide_eq_true h0
              have hnm : s ∉ G := fun h => by
                have := HRI.out.2 h
                omega
              have hE := mapE_ord (V := V) (VB := VB) (f := f) (F := F) (G := G) (i := j) (by rw [HNV.out, HNF.out]; exact HLE.out) HALL.out (by rw [HNFF.out]; exact hjn) HGD.out (by rw [HXX.out, HIMM.out, HSS.out]; exact hnm)
              obtain rfl := HR.out.symm.trans hE
              have hk1 := HKX.out w3 HZ3.out
              obtain ⟨d0, d1, f0, f1⟩ := two_all hk1
              obtain ⟨wf, hwf⟩ : ∃ wf, wf = (w3.setCell ⟨w.heap.size, 0, none⟩ (.int .i64 7)).setCell ⟨w.heap.size, 1, none⟩ (.int .i64 (j : Int)) := ⟨_, rfl⟩
              obtain ⟨r0, r1, -, -⟩ := two_all (by rw [hwf]; exact set2all hk1 _ _ : wf.heap[w.heap.size]? = some (.cells #[.int .i64 7, .int .i64 (j : Int)] 57 (0, 0)))
              have HBF : Hid (Below w.heap.size w wf) := by unfold Hid; rw [hwf]; exact ((HT.out _ HZ3.out).setCell (Nat.le_refl _) _).setCell (Nat.le_refl _) _
              have HWF := Lib.hid hwf
              have R0 := Lib.hid r0
              have R1 := Lib.hid r1
              clear h0 hnm hE hk1 hwf r0 r1 hrm
              go_wp2_with fail
              rw [← HWF.out]
              refine bodyPost_ret (v := .agg #[.int .i64 7, .int .i64 (j : Int)]) (by simp [results, Tryz.results25, go_sem, R0.out, R1.out]) rfl ?_
              exact ⟨rfl, HBF.out⟩
            · have q2 : decide (ri < 0) = false := decide_eq_false h0
              have hme : s ∈ G := HRI.out.1 (by omega)
              have HME := Lib.hid hme
              clear h0 hme hrm
              go_wp2_with fail
              go_roundw
              case rel =>
                refine ⟨j + 1, hjn, by go_num, HB3.out, ?_⟩
                intro t ht
                rcases (show t < j ∨ t = j by omega) with h | rfl
                · exact HGD.out t h
                · rw [HXX.out, HIMM.out, HSS.out]; exact HME.out
              case measure => simp [intOf]; omega
          · obtain rfl : nF = j := by omega
            have hE := mapE_ok (V := V) (VB := VB) (f := f) (F := F) (G := G) (by rw [HNV.out, HNF.out]; exact HLE.out) HALL.out (fun x hx => by
              obtain ⟨t, ht, rfl⟩ := List.getElem_of_mem hx
              have h := HGD.out t (by rw [← HNFF.out]; exact ht)
              rwa [List.getD_eq_getElem?_getD, List.getElem?_eq_getElem ht] at h)
            obtain rfl := HR.out.symm.trans hE
            have hk1 := HKX.out wr HZJ.out
            obtain ⟨d0, d1, f0, f1⟩ := two_all hk1
            obtain ⟨wf, hwf⟩ : ∃ wf, wf = (wr.setCell ⟨w.heap.size, 0, none⟩ (.int .i64 0)).setCell ⟨w.heap.size, 1, none⟩ (.int .i64 (-1)) := ⟨_, rfl⟩
            obtain ⟨r0, r1, -, -⟩ := two_all (by rw [hwf]; exact set2all hk1 _ _ : wf.heap[w.heap.size]? = some (.cells #[.int .i64 0, .int .i64 (-1)] 57 (0, 0)))
            have HBF : Hid (Below w.heap.size w wf) := by unfold Hid; rw [hwf]; exact ((HT.out _ HZJ.out).setCell (Nat.le_refl _) _).setCell (Nat.le_refl _) _
            have HWF := Lib.hid hwf
            have R0 := Lib.hid r0
            have R1 := Lib.hid r1
            clear hE hk1 hwf r0 r1 hgd hb
            go_wp2_with fail
            rw [← HWF.out]
            refine bodyPost_ret (v := .agg #[.int .i64 0, .int .i64 (-1)]) (by simp [results, Tryz.results25, go_sem, R0.out, R1.out]) rfl ?_
            exact ⟨rfl, HBF.out⟩

/-- what a block of ints holds -/
def readI (w : World) (g n : Nat) : List Int := (List.range n).map fun t => intOf ((w.cell? ⟨g, t, none⟩).getD .nilIface)
theorem readI_of {w : World} {O g n cap : Nat} {l : List Int} (h : w.ownsRow O 3 1 (.slice (some ⟨g, 0, none⟩) n cap) n (intVs l)) (hl : l.length = n) : readI w g n = l := by
  unfold readI
  refine List.ext_getElem (by simp [hl]) fun i h1 h2 => ?_
  have hi : i < n := by simpa using h1
  obtain ⟨b, off, c, e1, e2⟩ := ints_cell (ints_owned (B := 0) h hl.symm) i (by omega)
  rw [hl] at e1
  cases e1
  rw [Nat.zero_add] at e2
  simp only [List.getElem_map, List.getElem_range, e2, Option.getD_some]
  show l.getD i 0 = l[i]
  exact getD_elem h2
theorem sg_keep {s : Int} {a b c : Nat} (h : s * sgN a = sgN c) (hab : a = b + 1) : (-s) * sgN b = sgN c := by
  rw [hab, sgN_succ] at h
  rw [← h, Int.mul_neg, Int.neg_mul]
theorem swapL_len (l : List Int) (i : Nat) : (swapL l i).length = l.length := by unfold swapL; rw [List.length_set, List.length_set]
def agM (v : Value) (k : Nat) : Nat := match v with | .bool true => k + 1 | _ => 0
/-- a pass over the list so far: from a to b, i steps -/
def PassS (a b : List Int) (ag : Bool) (i : Nat) : Prop := (ag = false → b = a ∧ ∀ u, u < i → u + 1 < a.length → a.getD u 0 ≤ a.getD (u + 1) 0) ∧ (ag = true → invN b < invN a)

set_option maxRecDepth 100000 in
set_option maxHeartbeats 16000000 in
theorem turns_any (l : List Int) (u : Value) (w : World) (hu : IntsAt w u l) (hln : l.length ≤ 1000) :
    Calls Tryz.prog 71 #[u] w (fun e w' => e = .returned (.int .i64 (sgN (invN l))) ∧ Below w.heap.size w w') := by
  obtain ⟨i3, hi3, hy0, hy1, hy2⟩ := info_parts Tryz.info3
  obtain ⟨p, c, hve, hc, hp, hx⟩ := id hu
  obtain ⟨n, hnn⟩ : ∃ n, l.length = n := ⟨_, rfl⟩
  rw [hnn] at hve hln
  subst hve
  have hnews : ∀ ad, p = some ad → ∀ j v, (intVs l)[j]? = some v → w.cell? (ad.add j) = some v := fun ad he j v hj => by
    have hj2 : j < l.length := by
      have := (List.getElem?_eq_some_iff.1 hj).1
      simpa [intVs] using this
    obtain ⟨b, off, e1, e2⟩ := hx j hj2
    rw [he] at e1
    obtain rfl := Option.some.inj e1
    have hu : v = .int .i64 (l.getD j 0) := by
      unfold intVs at hj
      rw [List.getElem?_map, List.getElem?_eq_getElem hj2] at hj
      rw [List.getD_eq_getElem?_getD, List.getElem?_eq_getElem hj2]
      exact (Option.some.inj hj).symm
    rw [hu]
    have ha : (⟨b, off, none⟩ : Addr).add j = ⟨b, off + j, none⟩ := by
      unfold Addr.add
      split
      · rename_i h0; rw [h0]; rfl
      · rfl
    rw [ha]
    exact e2
  have hlen : (intVs l).length = n := by simp [intVs, hnn]
  have hone : ∀ u ∈ intVs l, u.oneCell' = true := fun u hu => by
    unfold intVs at hu
    obtain ⟨x, -, rfl⟩ := List.mem_map.1 hu
    rfl
  have hp2 : p = none → c = 0 ∧ n = 0 := fun e => by
    have h1 := hp e
    rw [hnn] at hc
    exact ⟨h1, by omega⟩
  have HNW := Lib.hid hnews
  have HLEN := Lib.hid hlen
  have HONE := Lib.hid hone
  have HP2 := Lib.hid hp2
  have HNN := Lib.hid hnn
  clear hnews hlen hone hp2 hu hc hp hx hnn
  go_enter Tryz.func71, Tryz.ntmps71
  go_wp2_with (at_builtin; refine wpList_app_any _ rfl (.tmp 7) (.tmp 8) 23 rfl w.heap.size 3 i3 (.int .i64 0) 8 Tryz.underlying23 hi3 hy0 hy1 hy2 rfl _ 0 [] rfl (World.ownsRow_nil _ _ _ _) p n c (intVs l) rfl HLEN.out HP2.out HNW.out HONE.out (by unfold maxLen; omega) (by omega) (Nat.le_refl _) _ rfl ?_; intro p' cap w1 hown hgr hat; rw [Nat.zero_add] at hown ⊢; have HOW := Lib.hid hown; have HGR := Lib.hid hgr; clear hown hgr hat)
  have HB1 : Hid (Below w.heap.size w w1) := (Below.refl _ _).grown (row := none) HGR.out (Nat.le_refl _) (fun k e => by cases e)
  have hO1 := HOW.out
  rw [List.nil_append] at hO1
  rcases Nat.eq_zero_or_pos n with h0 | h0
  · subst h0
    obtain rfl : l = [] := List.length_eq_zero_iff.1 HNN.out
    clear hO1 HNW HONE
    go_wp2_with fail
    refine wp_loop_rounds 2 ?_
    rw [rounds_succ]
    go_wp2_with fail
    refine wp_loop_rounds 1 ?_
    rw [rounds_succ]
    go_wp2_with fail
    rw [rounds_succ]
    go_wp2_with fail
    go_ret
    exact ⟨rfl, HB1.out⟩
  · obtain ⟨g, cap', he⟩ := Joins.ownsRow_form hO1 h0
    cases he
    have HO1 := Lib.hid hO1
    have hgO := (hO1.lt g rfl).1
    have HST : Hid ((1 : Int) * sgN (invN l) = sgN (invN l)) := by unfold Hid; omega
    clear hO1 HNW HONE HP2 HLEN HGR HOW
    go_wp2_with fail
    go_loopw [4, 5] (fun s ag wr => ∃ (sv : Int) (b : Bool) (a : List Int), s = .int .i64 sv ∧ ag = .bool b ∧ (sv = 1 ∨ sv = -1) ∧ sv * sgN (invN a) = sgN (invN l) ∧ a.length = n ∧ Below w.heap.size w wr ∧ wr.ownsRow w.heap.size 3 1 (.slice (some ⟨g, 0, none⟩) n cap) n (intVs a) ∧ (b = false → invN a = 0)) (fun _ ag wr => agM ag (invN (readI wr g n)))
    case atStart => exact ⟨1, true, l, rfl, rfl, Or.inl rfl, HST.out, HNN.out, HB1.out, HO1.out, fun h => by cases h⟩
    case round =>
      obtain ⟨sv, b, a, rfl, rfl, hs1, hsg, hal, hb, hO, hz⟩ := hrel
      have HSG := Lib.hid hsg
      have HAL := Lib.hid hal
      have HB := Lib.hid hb
      have HO := Lib.hid hO
      have HZ := Lib.hid hz
      have HS1 := Lib.hid hs1
      cases b with
      | false =>
        have hfin : sv = sgN (invN l) := by
          have h := hsg
          rw [hz rfl] at h
          simpa [sgN] using h
        subst hfin
        clear hs1 hsg hal hb hO hz
        go_wp2_with fail
        go_ret
        exact ⟨rfl, HB.out⟩
      | true =>
        have HRD : Hid (readI wr g n = a) := readI_of hO hal
        clear hs1 hsg hal hb hO hz
        go_wp2_with fail
        go_loopw [4, 5, 6] (fun s ag i wr2 => ∃ (sv : Int) (b : Bool) (a2 : List Int) (t : Nat), s = .int .i64 sv ∧ ag = .bool b ∧ i = .int .i64 (t : Int) ∧ t ≤ n ∧ (sv = 1 ∨ sv = -1) ∧ sv * sgN (invN a2) = sgN (invN l) ∧ a2.length = n ∧ Below w.heap.size w wr2 ∧ wr2.ownsRow w.heap.size 3 1 (.slice (some ⟨g, 0, none⟩) n cap) n (intVs a2) ∧ PassS a a2 b t) (fun _ _ i _ => n - (intOf i).toNat)
        case atStart => exact ⟨sv, false, a, 0, rfl, rfl, rfl, Nat.zero_le _, HS1.out, HSG.out, HAL.out, HB.out, HO.out, fun _ => ⟨rfl, fun u hu => absurd hu (Nat.not_lt_zero u)⟩, fun h => by cases h⟩
        case round =>
          obtain ⟨sv2, b2, a2, t, rfl, rfl, rfl, ht, hs2, hsg2, hal2, hb2, hO2, hp2⟩ := hrel
          have HSG2 := Lib.hid hsg2
          have HAL2 := Lib.hid hal2
          have HB2 := Lib.hid hb2
          have HO2 := Lib.hid hO2
          have HP2 := Lib.hid hp2
          have HS2 := Lib.hid hs2
          by_cases htn : t + 1 < n
          · have m1 : IntKind.i64.wrap ((t : Int) + 1) = (t : Int) + 1 := IntWalk.i64_in _ (by omega)
            have q1 : decide ((t : Int) + 1 < (n : Int)) = true := decide_eq_true (by omega)
            have hI := ints_owned (B := 0) hO2 hal2.symm
            obtain ⟨b3, o3, c3, e1, e2⟩ := ints_cell hI t (by omega)
            rw [hal2] at e1
            cases e1
            obtain ⟨b4, o4, c4, e3, e4⟩ := ints_cell hI (t + 1) (by omega)
            rw [hal2] at e3
            cases e3
            rw [Nat.zero_add] at e2 e4
            obtain ⟨x, hx⟩ : ∃ x, a2.getD t 0 = x := ⟨_, rfl⟩
            obtain ⟨y, hy⟩ : ∃ y, a2.getD (t + 1) 0 = y := ⟨_, rfl⟩
            rw [hx] at e2
            rw [hy] at e4
            have HX := Lib.hid hx
            have HY := Lib.hid hy
            have r1 : (0 : Int) ≤ (t : Int) + 1 := by omega
            have r2 : ((t : Int) + 1).toNat = t + 1 := by omega
            by_cases hxy : y < x
            · have q2 : decide (x > y) = true := decide_eq_true hxy
              have q3 : decide (y < x) = true := decide_eq_true hxy
              have HXY := Lib.hid hxy
              clear hs2 hsg2 hal2 hb2 hO2 hp2 hI hx hy hxy
              go_wp2_with fail
              go_quiet (fail)
              have hb5 := Below.drewN wr nq
              obtain ⟨w5, hw5⟩ : ∃ x, wr.drewN nq = x := ⟨_, rfl⟩
              rw [hw5] at hb5 ⊢
              have hO5 := owns_keep HO2.out fun k hk => hb5.block k (HO2.out.lt k hk).2
              have hblk : ∃ cur, w5.heap[g]? = some (.cells cur 3 (0, 0)) := by
                rcases hO5.2 with ⟨e, _⟩ | ⟨g', cap', cur, e, _, hh, _⟩
                · cases e
                · cases e; exact ⟨cur, hh⟩
              obtain ⟨cur, hcur⟩ := hblk
              have k1 := (hb5.cell (p := ⟨g, t, none⟩) (lt_of_cell e2)).trans e2
              have k2 := (hb5.cell (p := ⟨g, t + 1, none⟩) (lt_of_cell e4)).trans e4
              have f1 : w5.frozen? ⟨g, t, none⟩ = false := frozen_of_row w5 g t cur _ hcur
              have f2 : w5.frozen? ⟨g, t + 1, none⟩ = false := frozen_of_row w5 g (t + 1) cur _ hcur
              have HB5 := Lib.hid (HB2.out.trans (hb5.mono HB2.out.size))
              have HO5 := Lib.hid hO5
              clear hb5 hw5 hO5 hcur e2 e4
              go_upto_region 11 with fail
              go_cut [] (fun wx => wx = ((w5.setCell ⟨g, t, none⟩ (.int .i64 y)).setCell ⟨g, t + 1, none⟩ (.int .i64 x)).drew)
              case first =>
                go_region_with (fail)
                all_goals
                  go_wp2
                  go_meet
                  rfl
              case rest =>
              have hO6 : wc.ownsRow w.heap.size 3 1 (.slice (some ⟨g, 0, none⟩) n cap) n (intVs (swapL a2 t)) := by
                have h1 := (HO5.out.stored t (.int .i64 y)).1
                have h2 := (h1.stored (t + 1) (.int .i64 x)).1
                have e : ((intVs a2).set t (.int .i64 y)).set (t + 1) (.int .i64 x) = intVs (swapL a2 t) := by
                  unfold swapL
                  rw [HX.out, HY.out]
                  simp [intVs, List.map_set]
                rw [e] at h2
                rw [hcut]
                exact owns_keep h2 fun k hk => (Below.refl _ _).drew.block k (h2.lt k hk).2
              have hb6 : Below w.heap.size w wc := by
                rw [hcut]
                exact ((HB5.out.setCell (p := ⟨g, t, none⟩) hgO _).setCell (p := ⟨g, t + 1, none⟩) hgO _).drew
              have hinv := invN_swapL (l := a2) (i := t) (by rw [HAL2.out]; exact htn) (by rw [HX.out, HY.out]; exact HXY.out)
              have hsg3 := sg_keep HSG2.out hinv
              have m2 : IntKind.i64.wrap (-sv2) = -sv2 := IntWalk.i64_in _ (by rcases HS2.out with h | h <;> omega)
              have HO6 := Lib.hid hO6
              have HB6 := Lib.hid hb6
              have HINV := Lib.hid hinv
              have HSG3 := Lib.hid hsg3
              clear hO6 hb6 hcut hinv hsg3 k1 k2 f1 f2
              go_wp2_with fail
              go_roundw
              case rel =>
                refine ⟨-sv2, true, swapL a2 t, t + 1, rfl, rfl, by go_num, by omega, by rcases HS2.out with h | h <;> omega, HSG3.out, by rw [swapL_len]; exact HAL2.out, HB6.out, HO6.out, (fun h => by cases h), fun _ => ?_⟩
                have h1 := HINV.out
                cases b2 with
                | false => rw [(HP2.out.1 rfl).1] at h1 ⊢; omega
                | true => have := HP2.out.2 rfl; omega
              case measure => simp [intOf]; omega
            · have q2 : decide (x > y) = false := decide_eq_false (by omega)
              have q3 : decide (y < x) = false := decide_eq_false hxy
              have HXY := Lib.hid hxy
              clear hs2 hsg2 hal2 hb2 hO2 hp2 hI hx hy hxy
              go_wp2_with fail
              go_quiet (fail)
              have hb5 := Below.drewN wr nq
              obtain ⟨w5, hw5⟩ : ∃ x, wr.drewN nq = x := ⟨_, rfl⟩
              rw [hw5] at hb5 ⊢
              have HO5 := Lib.hid (owns_keep HO2.out fun k hk => hb5.block k (HO2.out.lt k hk).2)
              have HB5 := Lib.hid (HB2.out.trans (hb5.mono HB2.out.size))
              clear hb5 hw5 e2 e4
              go_wp2_with fail
              go_roundw
              case rel =>
                refine ⟨sv2, b2, a2, t + 1, rfl, rfl, by go_num, by omega, HS2.out, HSG2.out, HAL2.out, HB5.out, HO5.out, (fun h => ?_), HP2.out.2⟩
                obtain ⟨h1, h2⟩ := HP2.out.1 h
                refine ⟨h1, fun u hu hu2 => ?_⟩
                rcases (show u < t ∨ u = t by omega) with h3 | rfl
                · exact h2 u h3 hu2
                · rw [← h1, HX.out, HY.out]; have := HXY.out; omega
              case measure => simp [intOf]; omega
          · have m1 : IntKind.i64.wrap ((t : Int) + 1) = (t : Int) + 1 := IntWalk.i64_in _ (by omega)
            have q1 : decide ((t : Int) + 1 < (n : Int)) = false := decide_eq_false (by omega)
            have hrd2 := readI_of hO2 hal2
            have HRD2 := Lib.hid hrd2
            clear hs2 hsg2 hal2 hb2 hO2 hp2 hrd2
            go_wp2_with fail
            go_roundw
            case rel =>
              refine ⟨sv2, b2, a2, rfl, rfl, HS2.out, HSG2.out, HAL2.out, HB2.out, HO2.out, fun h => ?_⟩
              obtain ⟨h1, h2⟩ := HP2.out.1 h
              rw [h1]
              exact invN_zero fun i hi => h2 i (by rw [HAL.out] at hi; omega) hi
            case measure =>
              have h1 := HRD.out
              have h2 := HRD2.out
              cases b2 with
              | false => simp [agM]
              | true =>
                have h3 := HP2.out.2 rfl
                simp [agM, h1, h2]
                omega

theorem fixF_step {V f : List Int} {F : List (List Int)} {j : Nat} (h : j < F.length) : fixF V f (F.take (j + 1)) = fixF V f (F.take j) ++ (if setL (imgF V f (F.getD j [])) = F.getD j [] then [F.getD j []] else []) := by
  unfold fixF
  rw [take_snoc_getD [] F j h, List.filter_append, List.filter_cons, List.filter_nil]
  by_cases hc : setL (imgF V f (F.getD j [])) = F.getD j []
  · rw [if_pos hc, if_pos (decide_eq_true hc)]
  · rw [if_neg hc, if_neg (by simpa using hc)]

set_option maxRecDepth 100000 in
set_option maxHeartbeats 64000000 in
theorem fixedOf_any (B : Nat) (A : List (List Int)) (f : List Int) (va vf : Value) (w : World) (hB : B ≤ w.heap.size) (hva : ListsIn B w va A) (hn : A.length ≤ 100000) (hl : ∀ l ∈ A, l.length ≤ 1000)
    (hf : IntsIn B w vf f) (hfl : f.length = (vertR A).length) (hnd : (vertR A).Nodup) (hin : ∀ x ∈ faceN A, ∀ y ∈ x, y ∈ vertR A) (hF7 : ∀ x ∈ faceN A, x.length ≤ 1000) (hFn : (faceN A).length ≤ 1000) :
    Calls Tryz.prog 31 #[va, vf] w (ListPost B (fixF (vertR A) f (faceN A)) w) := by
  obtain ⟨i39, hi39, hz0, hz1, hz2⟩ := info_parts Tryz.info23
  obtain ⟨pa, ca, hae, -⟩ := id hva
  obtain ⟨pf, cf, hfe, hcf, -⟩ := id hf
  obtain ⟨nA, hnA⟩ : ∃ n, A.length = n := ⟨_, rfl⟩
  obtain ⟨nf, hnf⟩ : ∃ n, f.length = n := ⟨_, rfl⟩
  rw [hnA] at hae
  rw [hnf] at hfe
  subst hae
  subst hfe
  have hl1 : ∀ l ∈ A, l.length ≤ 100000 := fun l h => by have := hl l h; omega
  have HNU := Lib.hid (numbered_any B A (.slice pa nA ca) w hB hva hn hl1 (by omega))
  have HIM := Lib.hid (fun wx (hx : Below w.heap.size w wx) (x : List Int) u (hu : IntsAt wx u x) (hi : ∀ y ∈ x, y ∈ vertR A) (hxn : x.length ≤ 1000) => imageOf_any B A f x (.slice pa nA ca) (.slice pf nf cf) u wx (hva.below hx (Nat.le_refl _)) hn hl1 (hf.below hx (Nat.le_refl _)).at hu hfl hnd hi hxn)
  have HSO := Lib.hid (fun wx (xs : List Int) u (hu : IntsAt wx u xs) (hxn : xs.length ≤ 1000000) => sorted_any xs u wx hu hxn)
  unfold NumsP at HIM
  unfold ListPost at HNU
  unfold SortedPost at HSO
  have HBB := Lib.hid hB
  obtain ⟨V, hV⟩ : ∃ V, vertR A = V := ⟨_, rfl⟩
  obtain ⟨F, hF⟩ : ∃ F, faceN A = F := ⟨_, rfl⟩
  obtain ⟨nF, hnF⟩ : ∃ n, F.length = n := ⟨_, rfl⟩
  rw [hV] at HIM hin ⊢
  rw [hF] at HNU hin hFn hF7 ⊢
  rw [hnF] at hFn
  have HNFF := Lib.hid hnF
  have HIN := Lib.hid hin
  have HF7 := Lib.hid hF7
  have HFN := Lib.hid hFn
  clear hva hB hn hl hf hfl hcf hnd hin hF7 hFn hV hF hnF hnA hnf hl1
  unfold ListPost
  go_enter Tryz.func31, Tryz.ntmps31
  go_wp2_with fail
  refine HNU.out.mono ?_
  rintro e w1 ⟨v1, rfl, hb1, hR1⟩
  have HB1 := Lib.hid hb1
  have HL1 := Lib.hid (hR1.lists (B := B))
  obtain ⟨p1, c1, hve, -⟩ := id hR1.lists
  rw [HNFF.out] at hve
  subst hve
  have hfn := HFN.out
  have HBO : Hid (B ≤ w1.heap.size) := Nat.le_trans HBB.out hb1.size
  clear hb1 hR1 HNU
  go_wp2_with fail
  go_loopw [6, 7] (fun s i wr => ∃ j : Nat, j ≤ nF ∧ i = .int .i64 (j : Int) ∧ Below w1.heap.size w1 wr ∧ RowsO w1.heap.size B wr s (fixF V f (F.take j))) (fun _ i _ => nF - (intOf i).toNat)
  case atStart => exact ⟨0, Nat.zero_le _, rfl, Below.refl _ _, RowsO.nil _ _ _⟩
  case round =>
    obtain ⟨j, hj, rfl, hb, hR⟩ := hrel
    have HB := Lib.hid hb
    have HR := Lib.hid hR
    by_cases hjn : j < nF
    · have hjl : j < F.length := by rw [HNFF.out]; exact hjn
      obtain ⟨bF, oF, cF', hve⟩ := (HL1.out.below hb (Nat.le_refl _)).form (by omega)
      rw [HNFF.out] at hve
      obtain ⟨rfl, rfl⟩ : p1 = some ⟨bF, oF, none⟩ ∧ c1 = cF' := by cases hve; exact ⟨rfl, rfl⟩
      obtain ⟨px, cx, hcx, hix⟩ := cells_at (HL1.out.below hb (Nat.le_refl _)) j hjl
      have hxm := getL_mem hjl
      have hVx := HIN.out _ hxm
      have h7 := HF7.out _ hxm
      have hst := fixF_step (V := V) (f := f) hjl
      obtain ⟨x, hx⟩ : ∃ x, F.getD j [] = x := ⟨_, rfl⟩
      rw [hx] at hcx hix hVx h7 hst
      have HST := Lib.hid hst
      have HBW := Lib.hid (HB1.out.trans (hb.mono HB1.out.size))
      have HI1 := Lib.hid (HIM.out wr HBW.out x _ hix.at hVx h7)
      have hil : (imgF V f x).length = x.length := imgF_len V f x
      have hsl := setL_len (imgF V f x)
      rw [hil] at HI1
      have hon1 := @fix_once V f x
      obtain ⟨im, him⟩ : ∃ im, imgF V f x = im := ⟨_, rfl⟩
      rw [him] at HI1 hil hsl hon1
      have HIMM := Lib.hid him
      have HLX : Hid (x.length ≤ 1000) := h7
      have HIX := Lib.hid (fun wx (hw : Below wr.heap.size wr wx) => hix.below hw (Nat.le_refl _))
      obtain ⟨nx, hnx⟩ : ∃ n, x.length = n := ⟨_, rfl⟩
      rw [hnx] at hcx HI1 hil h7 HIX
      obtain ⟨s, hs⟩ : ∃ s, setL im = s := ⟨_, rfl⟩
      have HSS := Lib.hid hs
      rw [hs] at hsl hon1
      obtain ⟨on, hon⟩ : ∃ b, onceB im = b := ⟨_, rfl⟩
      rw [hon] at hon1
      have HON := Lib.hid hon1
      have HS1 := Lib.hid (fun wx u (hu : IntsIn B wx u im) => HSO.out wx im u hu.at (by omega))
      rw [hs, hon] at HS1
      have HSLN : Hid (s.length ≤ 100000) := by unfold Hid; omega
      have HCX := Lib.hid (fun wx (hw : Below wr.heap.size wr wx) => (hw.cell (p := ⟨bF, oF + j, none⟩) (lt_of_cell hcx)).trans hcx)
      clear hve hix hxm hVx hx him hil hsl hnx hs hon hon1 hst hb hR hjl h7
      go_wp2_with fail
      refine HI1.out.mono ?_
      rintro e w5 ⟨p5, c5, rfl, hb5, hi5⟩
      have HS5 := Lib.hid (HS1.out w5 _ hi5)
      have HB5 := Lib.hid hb5
      clear hb5 hi5 HI1 HS1 hcx
      go_wp2_with fail
      refine HS5.out.mono ?_
      rintro e w6 ⟨v6, rfl, hb6, ho6⟩
      have hI6 := (ints_owned (B := B) ho6 rfl).at
      have HB6 := Lib.hid (HB5.out.trans (hb6.mono HB5.out.size))
      have HSA := Lib.hid (sameInts_any v6 (.slice px nx cx) s x w6 hI6 (HIX.out w6 HB6.out).at (by have := HSLN.out; omega) (by have := HLX.out; omega))
      have hc6 := HCX.out w6 HB6.out
      clear hb6 ho6 hI6 HS5
      go_wp2_with fail
      refine HSA.out.mono ?_
      rintro e w7 ⟨rfl, nd, hw7⟩
      rw [hw7]
      clear hw7 w7
      have hb8 := Below.drewN w6 nd
      obtain ⟨w8, hw8⟩ : ∃ y, w6.drewN nd = y := ⟨_, rfl⟩
      rw [hw8] at hb8 ⊢
      have hbr8 := HB6.out.trans (hb8.mono HB6.out.size)
      have HBR8 := Lib.hid hbr8
      have HB8 := Lib.hid (HB.out.trans (hbr8.mono HB.out.size))
      have HR8 := Lib.hid (HR.out.below hbr8 (Nat.le_refl _))
      have hc8 := HCX.out w8 hbr8
      clear hb8 hw8 hbr8 hc6 HSA
      by_cases hsx : s = x
      · rw [decide_eq_true hsx]
        have hon := HON.out hsx
        subst hon
        have HSX := Lib.hid hsx
        obtain ⟨hs, h1, h2, h3⟩ := HR8.out
        obtain ⟨k, hk⟩ : ∃ k, (fixF V f (F.take j)).length = k := ⟨_, rfl⟩
        have hkn : k ≤ 1000 := by
          rw [← hk]
          have e1 : (fixF V f (F.take j)).length ≤ (F.take j).length := List.length_filter_le _ _
          rw [List.length_take] at e1
          omega
        rw [hk] at h1
        have HK := Lib.hid hk
        have H1 := Lib.hid h1
        have H2 := Lib.hid h2
        have H3 := Lib.hid h3
        have hws : w1.heap.size ≤ w8.heap.size := HB8.out.size
        clear h1 h2 h3 hk hsx
        go_wp2_with (at_builtin; refine wpList_append_lies _ rfl (.tmp 40) (.tmp 45) 22 rfl w1.heap.size 23 i39 (.slice none 0 0) 1 24 Tryz.underlying22 hi39 hz0 hz1 hz2 rfl (by decide) _ k hs rfl (H1.out.alloc _) ⟨w8.heap.size, 0, none⟩ 1 1 [.slice px nx cx] rfl rfl (World.news_of_block (cs := #[.slice px nx cx]) (t := 23) (fr := (0, 0)) (heap_alloc_new w8 _)) (by simp [Value.oneCell']) (by decide) (by unfold maxLen; omega) (by omega) (by simp; omega) (w8.heap.size + 1) (by simp) ?_; intro g2 c2 w9 hown2 hgr2 hat2 hlt2; have HO9 := Lib.hid hown2; have HG9 := Lib.hid hgr2; clear hown2 hgr2 hat2 hlt2)
        go_roundw
        case rel =>
          have hbA : Below w8.heap.size w8 (w8.alloc (.cells #[.slice px nx cx] 23)) := (Below.refl _ _).alloc (Nat.le_refl _) _
          refine ⟨j + 1, hjn, by go_num, (HB8.out.alloc hws _).grown HG9.out (by simp; omega) (fun i hi => (H1.out.lt i hi).1), ?_⟩
          rw [HST.out, if_pos (by rw [HIMM.out, HSS.out]; exact HSX.out)]
          exact rowsO_push (w := w8.alloc (.cells #[.slice px nx cx] 23)) (hs := hs) HBO.out (by rw [HK.out]; exact H1.out.alloc _) H2.out (fun i hi => (H3.out i hi).below hbA (Nat.le_refl _)) ((HIX.out w8 HBR8.out).below hbA (Nat.le_refl _)) (by rw [HK.out]; exact HO9.out) HG9.out
        case measure => simp [intOf]; omega
      · rw [decide_eq_false hsx]
        have HSX := Lib.hid hsx
        clear hsx hc8
        cases on with
        | true =>
          go_wp2_with fail
          go_roundw
          case rel =>
            refine ⟨j + 1, hjn, by go_num, HB8.out, ?_⟩
            rw [HST.out, if_neg (by rw [HIMM.out, HSS.out]; exact HSX.out), List.append_nil]
            exact HR8.out
          case measure => simp [intOf]; omega
        | false =>
          go_wp2_with fail
          go_roundw
          case rel =>
            refine ⟨j + 1, hjn, by go_num, HB8.out, ?_⟩
            rw [HST.out, if_neg (by rw [HIMM.out, HSS.out]; exact HSX.out), List.append_nil]
            exact HR8.out
          case measure => simp [intOf]; omega
    · obtain rfl : nF = j := by omega
      have hT : F.take nF = F := by rw [← HNFF.out, List.take_length]
      rw [hT] at hR
      have HRF := Lib.hid hR
      have HBF := Lib.hid (HB1.out.trans (hb.mono HB1.out.size))
      have HLE : Hid (w.heap.size ≤ w1.heap.size) := HB1.out.size
      clear hb hR hT
      go_wp2_with fail
      go_ret
      exact ⟨_, rfl, HBF.out, HRF.out.le HLE.out⟩

set_option maxRecDepth 100000 in
set_option maxHeartbeats 64000000 in
theorem lefschetzOf_any (B : Nat) (A : List (List Int)) (f : List Int) (va vf : Value) (w : World) (hB : B ≤ w.heap.size) (hva : ListsIn B w va A) (hn : A.length ≤ 100000) (hl : ∀ l ∈ A, l.length ≤ 1000)
    (hf : IntsIn B w vf f) (hfl : f.length = (vertR A).length) (hnd : (vertR A).Nodup) (hin : ∀ x ∈ faceN A, ∀ y ∈ x, y ∈ vertR A) (hF7 : ∀ x ∈ faceN A, x.length ≤ 1000) (hFn : (faceN A).length ≤ 1000) :
    Calls Tryz.prog 32 #[va, vf] w (Gives (.int .i64 (lefF (vertR A) f (faceN A))) w) := by
  obtain ⟨pa, ca, hae, -⟩ := id hva
  obtain ⟨pf, cf, hfe, hcf, -⟩ := id hf
  obtain ⟨nA, hnA⟩ : ∃ n, A.length = n := ⟨_, rfl⟩
  obtain ⟨nf, hnf⟩ : ∃ n, f.length = n := ⟨_, rfl⟩
  rw [hnA] at hae
  rw [hnf] at hfe
  subst hae
  subst hfe
  have hl1 : ∀ l ∈ A, l.length ≤ 100000 := fun l h => by have := hl l h; omega
  have HFO := Lib.hid (fixedOf_any B A f (.slice pa nA ca) (.slice pf nf cf) w hB hva hn hl hf hfl hnd hin hF7 hFn)
  have HIM := Lib.hid (fun wx (hx : Below w.heap.size w wx) (x : List Int) u (hu : IntsAt wx u x) (hi : ∀ y ∈ x, y ∈ vertR A) (hxn : x.length ≤ 1000) => imageOf_any B A f x (.slice pa nA ca) (.slice pf nf cf) u wx (hva.below hx (Nat.le_refl _)) hn hl1 (hf.below hx (Nat.le_refl _)).at hu hfl hnd hi hxn)
  unfold NumsP at HIM
  unfold ListPost at HFO
  have hmf : ∀ x ∈ fixF (vertR A) f (faceN A), x ∈ faceN A := fun x hx => (List.mem_filter.1 hx).1
  have hG1 : (fixF (vertR A) f (faceN A)).length ≤ 1000 := Nat.le_trans (List.length_filter_le _ _) hFn
  have HG2 := Lib.hid (fun x hx => hF7 x (hmf x hx))
  have HG4 := Lib.hid (fun x hx => hin x (hmf x hx))
  have hlf : lefF (vertR A) f (faceN A) = ((fixF (vertR A) f (faceN A)).map (lefT (vertR A) f)).sum := rfl
  obtain ⟨V, hV⟩ : ∃ V, vertR A = V := ⟨_, rfl⟩
  rw [hV] at HIM HFO HG2 HG4 hG1 hlf ⊢
  obtain ⟨G, hG⟩ : ∃ G, fixF V f (faceN A) = G := ⟨_, rfl⟩
  rw [hG] at HFO HG2 HG4 hG1 hlf
  obtain ⟨m, hm⟩ : ∃ m, G.length = m := ⟨_, rfl⟩
  rw [hm] at hG1
  have HM := Lib.hid hm
  have HLF := Lib.hid hlf
  have HG1 := Lib.hid hG1
  clear hva hB hn hl hf hfl hcf hnd hin hF7 hFn hmf hG1 hlf hV hG hm hnA hnf hl1
  unfold Gives
  rw [HLF.out]
  go_enter Tryz.func32, Tryz.ntmps32
  go_wp2_with fail
  refine HFO.out.mono ?_
  rintro e w1 ⟨v1, rfl, hb1, hR1⟩
  have HB1 := Lib.hid hb1
  have HL1 := Lib.hid (hR1.lists (B := B))
  obtain ⟨p1, c1, hve, -⟩ := id hR1.lists
  rw [HM.out] at hve
  subst hve
  have hmn := HG1.out
  clear hb1 hR1 HFO
  go_wp2_with fail
  go_loopw [6, 7] (fun s i wr => ∃ j : Nat, j ≤ m ∧ i = .int .i64 j ∧ s = .int .i64 (preF V f G j) ∧ Below w1.heap.size w1 wr) (fun _ i _ => m - (intOf i).toNat)
  case atStart => exact ⟨0, Nat.zero_le _, rfl, rfl, Below.refl _ _⟩
  case round =>
    obtain ⟨j, hj, rfl, rfl, hb⟩ := hrel
    have HB := Lib.hid hb
    by_cases hjn : j < m
    · have hjG : j < G.length := by rw [HM.out]; exact hjn
      obtain ⟨bG, oG, c', hve⟩ := (HL1.out.below hb (Nat.le_refl _)).form (by omega)
      rw [HM.out] at hve
      obtain ⟨rfl, rfl⟩ : p1 = some ⟨bG, oG, none⟩ ∧ c1 = c' := by cases hve; exact ⟨rfl, rfl⟩
      obtain ⟨px, cx, hcx, hix⟩ := cells_at (HL1.out.below hb (Nat.le_refl _)) j hjG
      have hmem := getL_mem hjG
      have h7 := HG2.out _ hmem
      have hin := HG4.out _ hmem
      have hps := preF_succ (V := V) (f := f) hjG
      have hpb := preF_bd (V := V) (f := f) (l := G) j (by omega)
      have hlb := lefT_bd V f (G.getD j [])
      obtain ⟨x, hx⟩ : ∃ x, G.getD j [] = x := ⟨_, rfl⟩
      rw [hx] at hcx hix h7 hin hps hlb
      have hil : (imgF V f x).length = x.length := imgF_len V f x
      have HI1 := Lib.hid (HIM.out wr (HB1.out.trans (hb.mono HB1.out.size)) x _ hix.at hin h7)
      have HTU := Lib.hid (fun wx v (hv : IntsIn B wx v (imgF V f x)) => turns_any (imgF V f x) v wx hv.at (by omega))
      rw [hil] at HI1
      have hlt : lefT V f x = if x.length % 2 = 0 then - sgN (invN (imgF V f x)) else sgN (invN (imgF V f x)) := rfl
      have hsb := sgN_bd (invN (imgF V f x))
      obtain ⟨sg, hsg⟩ : ∃ s, sgN (invN (imgF V f x)) = s := ⟨_, rfl⟩
      rw [hsg] at HTU hlt hsb
      obtain ⟨nx, hnx⟩ : ∃ n, x.length = n := ⟨_, rfl⟩
      rw [hnx] at hcx HI1 h7 hlt
      obtain ⟨q, hq⟩ : ∃ q, preF V f G j = q := ⟨_, rfl⟩
      rw [hq] at hps hpb ⊢
      have HCX := Lib.hid (fun wx (hw : Below wr.heap.size wr wx) => (hw.cell (p := ⟨bG, oG + j, none⟩) (lt_of_cell hcx)).trans hcx)
      have HPB := Lib.hid hpb
      have HSB := Lib.hid hsb
      have HLT := Lib.hid hlt
      have HPS := Lib.hid hps
      clear hve hix hmem h7 hin hps hpb hlb hx hil hsg hsb hnx hq hlt hb hjG
      go_wp2_with fail
      refine HI1.out.mono ?_
      rintro e w2 ⟨p3, c3, rfl, hb2, hi2⟩
      have HT2 := Lib.hid (HTU.out w2 _ hi2)
      have HB2 := Lib.hid hb2
      clear hb2 hi2 HI1 HTU hcx
      go_wp2_with fail
      refine HT2.out.mono ?_
      rintro e w3 ⟨rfl, hb3⟩
      have hbr3 := HB2.out.trans (hb3.mono HB2.out.size)
      have HB3 := Lib.hid (HB.out.trans (hbr3.mono HB.out.size))
      have hc3 := HCX.out w3 hbr3
      clear hb3 hbr3 HT2
      have hpb := HPB.out
      have hsb := HSB.out
      have hlt := HLT.out
      by_cases hpar : nx % 2 = 0
      · rw [if_pos hpar] at hlt
        have t1 : (nx : Int) % 2 = 0 := by omega
        have t2 : Int.tmod (nx : Int) 2 = 0 := by rw [Int.tmod_eq_emod_of_nonneg (by omega)]; exact t1
        have m2 : IntKind.i64.wrap (-sg) = -sg := IntWalk.i64_in _ (by omega)
        have m5 : IntKind.i64.wrap (q + -sg) = q + -sg := IntWalk.i64_in _ (by omega)
        have m6 : IntKind.i64.wrap (q - sg) = q + -sg := by rw [Int.sub_eq_add_neg]; exact m5
        have HE := Lib.hid (HPS.out.trans (by rw [hlt]))
        clear hpar hlt hpb hsb
        go_wp2_with fail
        go_roundw
        case rel => exact ⟨j + 1, hjn, by go_num, by rw [HE.out], HB3.out⟩
        case measure => simp [intOf]; omega
      · rw [if_neg hpar] at hlt
        have t1 : (nx : Int) % 2 = 1 := by omega
        have t2 : Int.tmod (nx : Int) 2 = 1 := by rw [Int.tmod_eq_emod_of_nonneg (by omega)]; exact t1
        have m5 : IntKind.i64.wrap (q + sg) = q + sg := IntWalk.i64_in _ (by omega)
        have HE := Lib.hid (HPS.out.trans (by rw [hlt]))
        clear hpar hlt hpb hsb
        go_wp2_with fail
        go_roundw
        case rel => exact ⟨j + 1, hjn, by go_num, by rw [HE.out], HB3.out⟩
        case measure => simp [intOf]; omega
    · obtain rfl : m = j := by omega
      have hfull : preF V f G m = (G.map (lefT V f)).sum := by rw [← HM.out]; exact preF_all V f G
      rw [hfull]
      have HBF := Lib.hid (HB1.out.trans (hb.mono HB1.out.size))
      clear hfull hb
      go_wp2_with fail
      go_ret
      exact ⟨rfl, HBF.out⟩
end Go.Proofs.YtddnjimpdidpaaaGreatDoor
