/-
  cells.Table by a contract: all faces, by dimension.
-/
import Derived.Test.YtoheffkiohfmoaaGreatDoorTabA
set_option linter.unusedSimpArgs false
set_option linter.unusedVariables false
namespace Go.Proofs.YtoheffkiohfmoaaGreatDoor
open Go Go.RowKit Go.Maps

/-- the map's loop: what stays -/
def TbB (B b r nS : Nat) (D : DataW Value) (S : List (List Int)) (w wr : World) (left : Lit → Bool) (cnt : Nat) : Prop :=
  wr.ranges Tryz.prog 9 valE b r nS D left cnt ∧ HeldAll B wr D S ∧ Below w.heap.size w wr
theorem TbB.below {B b r nS : Nat} {D : DataW Value} {S : List (List Int)} {w wr w' : World} {left : Lit → Bool} {cnt : Nat} (h : TbB B b r nS D S w wr left cnt) (hb : Below wr.heap.size wr w') : TbB B b r nS D S w w' left cnt :=
  ⟨ranges_below h.1 hb (Nat.le_refl _), h.2.1.below hb (Nat.le_refl _), h.2.2.trans (hb.mono h.2.2.size)⟩
theorem TbB.grown {B b r nS : Nat} {D : DataW Value} {S : List (List Int)} {w wr w' : World} {left : Lit → Bool} {cnt : Nat} {row : Option Nat} (h : TbB B b r nS D S w wr left cnt) (hg : wr.grownBy w' row)
    (hr : ∀ k, row = some k → k ≠ b ∧ k ≠ r ∧ w.heap.size ≤ k ∧ B ≤ k ∧ ∀ c, wr.heap[k]? ≠ some (.cells c 3 (0, 0))) : TbB B b r nS D S w w' left cnt :=
  ⟨h.1.kept hg (fun e => (hr b e.symm).1 rfl) (fun e => (hr r e.symm).2.1 rfl), h.2.1.grown hg fun k e => (hr k e).2.2.2, h.2.2.grown hg h.2.2.size fun k e => (hr k e).2.2.1⟩

def lenV : Value → Nat
  | .slice _ n _ => n
  | _ => 0
theorem rep_succ {T : List (List (List Int))} {q : Nat} : (T ++ List.replicate q []) ++ [[]] = T ++ List.replicate (q + 1) [] := by rw [List.append_assoc, ← List.replicate_succ']
theorem grown_at (w : World) (b k : Nat) (v : Value) : w.grownBy (w.setCell ⟨b, k, none⟩ v) (some b) :=
  ⟨rfl, rfl, rfl, Nat.le_of_eq (by simp [World.setCell]), fun j _ hj => Below.heap_setCell _ _ _ j (fun e => hj (by rw [e]))⟩

theorem TabF.rowlen {S : List (List Int)} {done : List Int → Prop} {T : List (List (List Int))} (h : TabF S done T) (d : Nat) : (T.getD d []).length ≤ S.length := by
  rcases Nat.lt_or_ge d T.length with h1 | h1
  · exact nodup_le (h.1 d h1).1 fun g hg => (((h.1 d h1).2 g).1 hg).1
  · rw [List.getD_eq_getElem?_getD, List.getElem?_eq_none h1]; exact Nat.zero_le _
theorem TabH.block {O B g n c : Nat} {w : World} {T : List (List (List Int))} {hs : List Value} (h : TabH O B w (.slice (some ⟨g, 0, none⟩) n c) T hs) : ∃ cur, w.heap[g]? = some (.cells cur 22 (0, 0)) := by
  rcases h.1.2 with ⟨e, _⟩ | ⟨g', cap', cur, e, _, hh, _⟩
  · cases e
  · cases e; exact ⟨cur, hh⟩

def SortRPost (O B : Nat) (v : Value) (L : List (List Int)) (w : World) (e : Ending) (w' : World) : Prop :=
  e = .returned (.tuple #[]) ∧ w.grownBy w' v.ownBlock ∧ ∃ L', RowsO O B w' v L' ∧ SortedF L' ∧ ∀ f, f ∈ L' ↔ f ∈ L
theorem sortR_any (O B : Nat) (L : List (List Int)) (v : Value) (w : World) (hB : B ≤ O) (hR : RowsO O B w v L) (hnd : L.Nodup) (hn : L.length ≤ 100000) (hl : ∀ l ∈ L, l.length ≤ 100000) :
    Calls Tryz.prog 77 #[v, .func (.func 78) #[] #[]] w (SortRPost O B v L w) := by
  by_cases h0 : L.length = 0
  · obtain ⟨p, c, hv, -⟩ := hR.lists
    have hFn : L = [] := List.length_eq_zero_iff.1 h0
    have hcs : Calls Tryz.prog 77 #[v, .func (.func 78) #[] #[]] w (fun e w' => e = .returned (.tuple #[]) ∧ w' = w) := by
      rw [hv, h0]
      exact Tryz.slices_SortFunc_none (α := Nat) p c _ w
    refine hcs.mono ?_
    rintro e w' ⟨rfl, rfl⟩
    exact ⟨rfl, World.grownBy.refl _ _, L, hR, by rw [hFn]; exact List.Pairwise.nil, fun f => Iff.rfl⟩
  · have hR' := hR
    obtain ⟨hs, h1, h2, h3⟩ := hR
    rcases Joins.ownsRow_forms h1 with ⟨-, h9⟩ | ⟨g, cap, rfl⟩
    · exact absurd h9 h0
    · refine (sortL_any O B g cap L w hB hR' (by omega) hnd hn hl).mono ?_
      rintro e w' ⟨rfl, hg, L', hr, hs', hm⟩
      exact ⟨rfl, hg, L', hr, hs', hm⟩
theorem tab_ext {A : List (List Int)} {T : List (List (List Int))} (h1 : T.length = topN A) (h2 : ∀ d, d < T.length → T.getD d [] = rowF A d) : T = tableF A := by
  refine List.ext_getElem (by rw [h1, tableF_len]) fun d ha hb => ?_
  have h3 := h2 d ha
  have h4 := tableF_at (A := A) (d := d) (by rw [← h1]; exact ha)
  rw [List.getD_eq_getElem?_getD, List.getElem?_eq_getElem ha] at h3
  rw [List.getD_eq_getElem?_getD, List.getElem?_eq_getElem hb] at h4
  exact h3.trans h4.symm

def TabPost (a : Nat → Addr) (B : Nat) (L : List (List Int)) (w : World) (e : Ending) (w' : World) : Prop :=
  Below w.heap.size w w' ∧
  ((errX L = 0 ∧ ∃ v, e = .returned (.tuple #[v, .nilIface]) ∧ TabO w.heap.size B w' v (tableF (allF L))) ∨
   (∃ k, k < 8 ∧ errX L = k + 1 ∧ e = .returned (.tuple #[.slice none 0 0, errE (a k)])))

set_option maxRecDepth 100000 in
set_option maxHeartbeats 16000000 in
theorem table_bad (a : Nat → Addr) (B : Nat) (L : List (List Int)) (v : Value) (w : World) (hS : Sents w a) (hB : B ≤ w.heap.size) (hv : ListsIn B w v L) (hn : L.length ≤ 100000) (hl : ∀ l ∈ L, l.length ≤ 100000) (he : errX L ≠ 0) :
    Calls Tryz.prog 69 #[.agg #[v]] w (TabPost a B L w) := by
  obtain ⟨pv, cv, hve, -⟩ := id hv
  obtain ⟨n, hLn⟩ : ∃ n, L.length = n := ⟨_, rfl⟩
  rw [hLn] at hve
  subst hve
  have hb0 : Below w.heap.size w (w.alloc (.cells #[.slice pv n cv] 32)) := (Below.refl _ _).alloc (Nat.le_refl _) _
  have HB0 := Lib.hid hb0
  have HC := Lib.hid (valid_any a B L (.slice pv n cv) _ (hS.below hb0 (Nat.le_refl _)) (Nat.le_trans hB hb0.size) (hv.below hb0 (Nat.le_refl _)) hn hl)
  have HE := Lib.hid he
  unfold ValP at HC
  unfold TabPost errE
  clear hS hB hv hn hl hb0 he hLn
  go_enter Tryz.func69, Tryz.ntmps69
  go_wp2_with fail
  refine HC.out.mono ?_
  rintro e w1 ⟨hb1, ⟨h0, -⟩ | ⟨k, hk, hek, rfl⟩⟩
  · exact absurd h0 HE.out
  · have HB1 := Lib.hid (HB0.out.trans (hb1.mono HB0.out.size))
    have HEK := Lib.hid hek
    clear hb1 hek
    unfold errE
    go_wp2_with fail
    go_ret2
    exact ⟨HB1.out, Or.inr ⟨k, hk, HEK.out, rfl⟩⟩

set_option maxRecDepth 100000 in
set_option maxHeartbeats 16000000 in
theorem table_ok (a : Nat → Addr) (B : Nat) (L : List (List Int)) (v : Value) (w : World) (hS : Sents w a) (hB : B ≤ w.heap.size) (hv : ListsIn B w v L) (hn : L.length ≤ 100000) (hl : ∀ l ∈ L, l.length ≤ 100000) (he : errX L = 0) :
    Calls Tryz.prog 69 #[.agg #[v]] w (TabPost a B L w) := by
  obtain ⟨i22, hi22, hz0, hz1, hz2⟩ := info_parts Tryz.info22
  obtain ⟨i26, hi26, hy0, hy1, hy2⟩ := info_parts Tryz.info51
  obtain ⟨pv, cv, hve, -⟩ := id hv
  obtain ⟨n, hLn⟩ : ∃ n, L.length = n := ⟨_, rfl⟩
  rw [hLn] at hve
  subst hve
  have hb0 : Below w.heap.size w (w.alloc (.cells #[.slice pv n cv] 32)) := (Below.refl _ _).alloc (Nat.le_refl _) _
  have HB0 := Lib.hid hb0
  have HC := Lib.hid (valid_any a B L (.slice pv n cv) _ (hS.below hb0 (Nat.le_refl _)) (Nat.le_trans hB hb0.size) (hv.below hb0 (Nat.le_refl _)) hn hl)
  have HE := Lib.hid he
  have HB := Lib.hid hB
  have HS := Lib.hid hS
  have HV := Lib.hid hv
  have HN := Lib.hid hn
  have HL := Lib.hid hl
  have hokE := errC_ok (errX_ok he).1
  have HOKE := Lib.hid hokE
  unfold ValP at HC
  clear hS hB hv hn hl hb0 he hLn hokE
  go_enter Tryz.func69, Tryz.ntmps69
  go_wp2_with fail
  refine HC.out.mono ?_
  rintro e w1 ⟨hb1, ⟨-, rfl⟩ | ⟨k, hk, hek, rfl⟩⟩
  rotate_left
  · exact absurd HE.out (by omega)
  have hcv : w1.cell? ⟨w.heap.size, 0, none⟩ = some (.slice pv n cv) := (one_at (t := 32) ((hb1.block _ (by simp)).trans (heap_alloc_new w _))).1
  have hb01 := HB0.out.trans (hb1.mono HB0.out.size)
  have HB1 := Lib.hid hb01
  have HCC := Lib.hid (ccl_any a B L (.slice pv n cv) w1 (HS.out.below hb01 (Nat.le_refl _)) (Nat.le_trans HB.out hb01.size) (HV.out.below hb01 (Nat.le_refl _)) HN.out HL.out)
  unfold CclPost at HCC
  clear hb1 hb01 HC
  go_wp2_with fail
  refine HCC.out.mono ?_
  rintro e w2 ⟨hb2, ⟨-, b, S, rfl, hbb, hM, hl6, hSm⟩ | ⟨h0, -⟩⟩
  rotate_left
  · exact absurd (errX_ok HE.out).1 h0
  have HB2 := Lib.hid (HB1.out.trans (hb2.mono HB1.out.size))
  have hbw : w.heap.size ≤ b := Nat.le_trans HB1.out.size hbb
  have HSM := Lib.hid hSm
  obtain ⟨D, hown, hsz, hnd, hvs, hhas, hget, honly⟩ := hM
  have hbm := hown.lt
  have HOWN := Lib.hid hown
  have HSZ := Lib.hid hsz
  have HVS := Lib.hid hvs
  have HHAS := Lib.hid hhas
  have HGET := Lib.hid hget
  have HONLY := Lib.hid honly
  clear hb2 hSm hown hsz hnd hvs hhas hget honly hbb HCC hcv
  obtain ⟨nS, hnS⟩ : ∃ nS, S.length = nS := ⟨_, rfl⟩
  rw [hnS] at HOWN HSZ hl6
  have HNS := Lib.hid hnS
  clear hnS
  go_wp2_with (at_range; refine wpList_range_own _ rfl _ 135 rfl 9 51 (string_keyed Tryz.underlying9) Tryz.underlying135 valE b nS D rfl HOWN.out ?_; intro w3 hrg3 hg3 hs3)
  go_frame
  rw [HSZ.out] at hrg3
  obtain ⟨r, hr⟩ : ∃ r, r = w2.heap.size := ⟨_, rfl⟩
  rw [← hr] at hrg3 hs3 ⊢
  have hrw : w.heap.size ≤ r := by rw [hr]; exact HB2.out.size
  have hbr : b < r := by rw [hr]; exact hbm
  clear hr hbm
  have hb3 : Below w2.heap.size w2 w3 := (Below.refl _ _).grown hg3 (Nat.le_refl _) (fun k e => by cases e)
  have HST3 : Hid (TbB B b r nS D S w w3 (Maps.has D) nS) := ⟨hrg3, fun f hf => (HGET.out f hf).imp fun v h => ⟨h.1, h.2.below hb3 (Nat.le_refl _)⟩, HB2.out.trans (hb3.mono HB2.out.size)⟩
  have HTF3 : Hid (TabF S (doneOf (Maps.has D)) []) := TabF.nil fun g hg h => by
    have := (HHAS.out g (HVS.out g hg)).2 hg
    unfold doneOf at h
    rw [h] at this; cases this
  clear hrg3 hg3 hb3 HGET
  go_loopw [7, 9] (fun u _ wr => ∃ left cnt T, TbB B b r nS D S w wr left cnt ∧ TabO (r + 1) B wr u T ∧ TabF S (doneOf left) T ∧ ∀ kl, left kl = true → Maps.has D kl = true) (fun _ _ wr => wr.rangeLeft b r)
  case atStart => exact ⟨_, _, [], HST3.out, TabO.nil _ _ _, HTF3.out, fun kl h => h⟩
  case round =>
    obtain ⟨left, cnt, T, hst, hto, htf, hlh⟩ := hrel
    obtain ⟨wo, rfl⟩ : ∃ wo : World, wo = wr := ⟨_, rfl⟩
    have HST := Lib.hid hst
    have HTO := Lib.hid hto
    have HTF := Lib.hid htf
    have HLH := Lib.hid hlh
    have HRG := Lib.hid hst.1
    clear hst hto htf hlh HST3 HTF3
    go_wp2_with (at_next; refine wpList_next_ranges _ rfl _ rfl 9 (string_keyed Tryz.underlying9) valE (fun x : ByteArray => Value.string x) (fun x : Option Addr × Nat × Nat => Value.slice x.1 x.2.1 x.2.2) (fun _ _ h => key_inv h) (fun _ _ h => valE_inv h) b r nS D left cnt rfl HRG.out ?_ ?_)
    · -- nothing is left
      intro hc0 hl0
      have HALL : Hid (∀ g ∈ S, doneOf left g) := fun g _ => hl0 (klit g)
      clear hl0 hc0
      obtain ⟨pu, cu, hue, -⟩ := HTO.out.tab
      obtain ⟨m, hm⟩ : ∃ m, T.length = m := ⟨_, rfl⟩
      rw [hm] at hue
      subst hue
      have HM := Lib.hid hm
      have hm7 : m ≤ 600 := by
        rcases HTF.out.2.2 with h | ⟨g, h1, h2⟩
        · omega
        · have h3 := isF_len HOKE.out.2.1 ((HSM.out g).1 h1)
          omega
      have hBr : B ≤ r + 1 := Nat.le_trans HB.out (by omega)
      clear hm
      go_wp2_with fail
      go_loopw [11, 53] (fun _ i wr => ∃ (j : Nat) (T' : List (List (List Int))), j ≤ m ∧ i = .int .i64 j ∧ Below w.heap.size w wr ∧ TabO (r + 1) B wr (.slice pu m cu) T' ∧ T'.length = m ∧ (∀ d, d < j → T'.getD d [] = rowF (allF L) d) ∧ ∀ d, j ≤ d → T'.getD d [] = T.getD d []) (fun _ i _ => m - (intOf i).toNat)
      case atStart => exact ⟨0, T, Nat.zero_le _, rfl, HST.out.2.2, HTO.out, HM.out, fun d h => absurd h (by omega), fun d h => rfl⟩
      case round =>
        obtain ⟨j, T', hj, rfl, hb, ⟨hs, hth⟩, hl, h1, h2⟩ := hrel
        have HBW := Lib.hid hb
        have HTH := Lib.hid hth
        have HTL := Lib.hid hl
        have H1 := Lib.hid h1
        have H2 := Lib.hid h2
        clear hb hth hl h1 h2
        by_cases hjm : j < m
        · have hjT : j < T'.length := by rw [HTL.out]; exact hjm
          obtain ⟨g, cu', hge, hgr⟩ := HTH.out.form (by omega)
          obtain rfl : pu = some ⟨g, 0, none⟩ := by cases hge; rfl
          have hcell := HTH.out.cellsAt j hjT
          have hrow := HTH.out.2.2.1 j hjT
          have hdT : j < T.length := by rw [HM.out]; exact hjm
          have hTj := HTF.out.1 j hdT
          have hlen := HTF.out.rowlen j
          have hSL := HNS.out
          have e2 := H2.out j (Nat.le_refl _)
          have HSO := Lib.hid (sortR_any (r + 1) B (T'.getD j []) (hs.getD j .nilIface) wr hBr hrow (by rw [e2]; exact hTj.1) (by rw [e2]; omega) (fun l hl => by
            rw [e2] at hl
            have := isF_len HOKE.out.2.1 ((HSM.out l).1 ((hTj.2 l).1 hl).1)
            omega))
          unfold SortRPost at HSO
          obtain ⟨pr, cr, hX, -⟩ := hrow.lists
          obtain ⟨nr, hnr⟩ : ∃ nr, (T'.getD j []).length = nr := ⟨_, rfl⟩
          rw [hnr] at hX
          have HX := Lib.hid hX
          rw [hX] at hcell HSO
          have HJT := Lib.hid hjT
          have HROWE := Lib.hid (fun (L' : List (List Int)) (h1 : SortedF L') (h2 : ∀ f, f ∈ L' ↔ f ∈ T'.getD j []) => HTF.out.rowE HSM.out HALL.out hdT h1 (fun g => (h2 g).trans (by rw [e2])))
          clear hrow hTj hlen hSL hnr hX hge hgr hjT hdT e2
          go_wp2_with fail
          refine HSO.out.mono ?_
          rintro e w5 ⟨rfl, hg5, L', hR5, hs5, hm5⟩
          have HT5 := Lib.hid (TabH.row (L' := L') hBr HTH.out HJT.out (by rw [HX.out]; exact hg5) (by rw [HX.out]; exact hR5))
          have HB5 := Lib.hid (HBW.out.grown hg5 HBW.out.size (fun k e => by
            obtain ⟨hs', q1, -⟩ := hR5
            have := (q1.lt k e).1
            omega))
          have HE5 := Lib.hid (HROWE.out L' hs5 hm5)
          clear hg5 hR5 hs5 hm5
          go_wp2_with fail
          go_roundw
          case rel =>
            refine ⟨j + 1, _, by omega, by go_num, HB5.out, ⟨_, HT5.out⟩, by rw [List.length_set]; exact HTL.out, fun d hd => ?_, fun d hd => ?_⟩
            · by_cases e : j = d
              · subst e
                rw [getD_set_same HJT.out]
                exact HE5.out
              · rw [getD_set_other e]
                exact H1.out d (by omega)
            · rw [getD_set_other (by omega)]
              exact H2.out d (by omega)
          case measure => simp [intOf]; omega
        · obtain rfl : j = m := by omega
          have HFIN : Hid (T' = tableF (allF L)) := tab_ext (by rw [HTL.out, ← HM.out]; exact HTF.out.top HSM.out HALL.out) (fun d hd => H1.out d (by rw [HTL.out] at hd; exact hd))
          go_wp2_with fail
          go_ret2
          refine ⟨HBW.out, Or.inl ⟨HE.out, _, rfl, ?_⟩⟩
          rw [← HFIN.out]
          exact TabO.le ⟨hs, HTH.out⟩ (by omega)
    · intro x pf nf cf kl y1 y2 w4 cnt3 hkey hlk hvy hat hrg4 hlt hg4 hs4 hen
      obtain ⟨f, hfS, hkl⟩ := HONLY.out kl (HLH.out kl hlk)
      subst hkl
      have hval : ∀ zd, D.atKey (klit f) zd = .held (.slice pf nf cf) := fun zd => by
        rw [hat zd]
        have : valE (.slice pf nf cf) = some (y1, y2) := hvy
        cases this; rfl
      have hif := held_at HST.out.2.1 hfS hval
      obtain ⟨pp, cc0, hpe⟩ := hif.len
      have hnf : nf = f.length := by cases hpe; rfl
      have hne7 : f.length ≤ 7 := isF_len HOKE.out.2.1 ((HSM.out f).1 hfS)
      have hne0 : 0 < f.length := List.length_pos_iff.2 ((HSM.out f).1 hfS).1
      have hor : ∀ k, (some r : Option Nat) = some k → B ≤ k ∧ ∀ x, wo.heap[k]? ≠ some (.cells x 3 (0, 0)) := fun k e => by
        have h2 := Option.some.inj e
        subst h2
        exact ⟨Nat.le_trans HB.out hrw, fun x => iter_obj HRG.out x _ _⟩
      have hb4 : TbB B b r nS D S w w4 (fun z => left z && !z.sameKey (klit f)) cnt3 := ⟨hrg4, HST.out.2.1.grown hg4 hor, HST.out.2.2.grown hg4 HST.out.2.2.size (fun k e => by have h2 := Option.some.inj e; omega)⟩
      have hto4 := HTO.out.grown hg4 (Nat.lt_succ_self r) (hor r rfl).1 (hor r rfl).2
      have HB4 := Lib.hid hb4
      have HTO4 := Lib.hid hto4
      have HLH4 : Hid (∀ kl', (left kl' && !kl'.sameKey (klit f)) = true → Maps.has D kl' = true) := fun kl' h => HLH.out kl' (by simp only [Bool.and_eq_true] at h; exact h.1)
      have HIF := Lib.hid (held_at hb4.2.1 hfS hval)
      have HNF := Lib.hid hnf
      have HFS := Lib.hid hfS
      have HVAL := Lib.hid hval
      have HLK := Lib.hid hlk
      have hnf7 : nf ≤ 7 := by omega
      have hnf0 : 0 < nf := by omega
      have hcnt : cnt3 < cnt := hlt
      have HVX := Lib.hid (HVS.out f hfS)
      clear hkey hlk hvy hat hrg4 hg4 hs4 hval hif hpe hnf hfS hb4 hto4 hor hne7 hne0 hlt
      go_wp2_with fail
      have hBr : B ≤ r + 1 := Nat.le_trans HB.out (by omega)
      go_loopw [7] (fun u wr' => ∃ q, TbB B b r nS D S w wr' (fun z => left z && !z.sameKey (klit f)) cnt3 ∧ TabO (r + 1) B wr' u (T ++ List.replicate q []) ∧ (q = 0 ∨ T.length + q ≤ nf)) (fun u _ => nf - lenV u)
      case atStart => exact ⟨0, HB4.out, by simpa using HTO4.out, Or.inl rfl⟩
      case round =>
        obtain ⟨q, hbq, ⟨hs, hth⟩, hq⟩ := hrel
        obtain ⟨pu, cu, hue, -⟩ := (TabO.tab ⟨hs, hth⟩)
        obtain ⟨m, hm⟩ : ∃ m, (T ++ List.replicate q []).length = m := ⟨_, rfl⟩
        have hmq : m = T.length + q := by rw [← hm]; simp
        rw [hm] at hue
        subst hue
        have hth1 := hth.1
        rw [hm] at hth1
        have hrlt := hbq.1.lt
        have HTH := Lib.hid hth
        have HBQ := Lib.hid hbq
        have HM := Lib.hid hm
        have HMQ := Lib.hid hmq
        obtain ⟨tl, htl⟩ : ∃ tl, T.length = tl := ⟨_, rfl⟩
        rw [htl] at hq hmq
        have HTL := Lib.hid htl
        clear hth hbq hm htl
        by_cases hmn : m < nf
        · clear hmq
          go_wp2_with (at_builtin; refine wpList_append_lies _ rfl (.tmp 34) (.tmp 35) 128 rfl (r + 1) 22 i22 (.slice none 0 0) 1 24 under_tab hi22 hz0 hz1 hz2 rfl (by decide) (.slice pu m cu) m hs rfl (hth1.alloc _) ⟨wr.heap.size, 0, none⟩ 1 1 [.slice none 0 0] rfl rfl (World.news_of_block (cs := #[.slice none 0 0]) (t := 22) (fr := (0, 0)) (heap_alloc_new wr _)) (by simp [Value.oneCell']) (by decide) (by unfold maxLen; omega) (by omega) (by simp; omega) (wr.heap.size + 1) (by simp) ?_; intro g2 c2 w9 hown2 hgr2 hat2 hlt2; have HO2 := Lib.hid hown2; have HG2 := Lib.hid hgr2; clear hown2 hgr2 hat2 hlt2)
          have hbA : Below wr.heap.size wr (wr.alloc (.cells #[.slice none 0 0] 22)) := (Below.refl _ _).alloc (Nat.le_refl _) _
          have HT9 := Lib.hid (TabH.push hBr (HTH.out.below hbA (Nat.le_refl _)) (by rw [HM.out]; exact HO2.out) HG2.out)
          rw [rep_succ] at HT9
          have HB9 := Lib.hid ((HBQ.out.below hbA).grown HG2.out (fun k e => by
            have h5 := ((HTH.out.below hbA (Nat.le_refl _)).1.lt k e).1
            exact ⟨by omega, by omega, by omega, row_any (HTH.out.below hbA (Nat.le_refl _)).1 (by decide) hBr k e⟩))
          have hq2 : T.length + (q + 1) ≤ nf := by have := HMQ.out; omega
          have HQ2 := Lib.hid hq2
          clear hbA hq2
          go_roundw
          case rel => exact ⟨q + 1, HB9.out, ⟨_, HT9.out⟩, Or.inr HQ2.out⟩
          case measure => simp [lenV]; omega
        · obtain ⟨kf, hkf⟩ : ∃ kf, nf = kf + 1 := ⟨nf - 1, by omega⟩
          have hsub : (nf : Int) - 1 = (kf : Int) := by omega
          have hq2 : q = f.length - T.length := by have := HNF.out; have := HTL.out; omega
          have HQ2 := Lib.hid hq2
          have hkT : kf < (T ++ List.replicate q []).length := by rw [HM.out]; omega
          obtain ⟨g, cu', hge, hgr⟩ := HTH.out.form (by omega)
          obtain rfl : pu = some ⟨g, 0, none⟩ := by cases hge; rfl
          have hcellK := HTH.out.cellsAt kf hkT
          obtain ⟨pr, cr, hX, -⟩ := (HTH.out.2.2.1 kf hkT).lists
          obtain ⟨nr, hnr⟩ : ∃ nr, ((T ++ List.replicate q []).getD kf []).length = nr := ⟨_, rfl⟩
          rw [hnr] at hX
          rw [hX] at hcellK
          have hnr6 : nr ≤ 600 := by
            have h1 := HTF.out.rowlen kf
            rw [rep_getD] at hnr
            have h2 := HNS.out
            omega
          obtain ⟨cur, hblk⟩ := HTH.out.block
          obtain ⟨hrw', h1, h2, h3⟩ := HTH.out.2.2.1 kf hkT
          rw [hX, hnr] at h1
          have h2' : hrw'.length = nr := by rw [h2, hnr]
          have hbA : Below wr.heap.size wr (wr.alloc (.cells #[.slice pf nf cf] 51)) := (Below.refl _ _).alloc (Nat.le_refl _) _
          have HBA := Lib.hid hbA
          have HTA := Lib.hid (HTH.out.below hbA (Nat.le_refl _))
          have hga : g < wr.heap.size := (Array.getElem?_eq_some_iff.1 hblk).1
          have HBLK := Lib.hid ((hbA.block g hga).trans hblk)
          have HCE := Lib.hid ((hbA.cell (p := ⟨g, kf, none⟩) hga).trans hcellK)
          have HNE : Hid (∀ k, (Value.slice pr nr cr).ownBlock = some k → k ≠ g) := fun k e e2 => by
            subst e2
            exact owns_apart h1 HTH.out.1 (by decide) k e rfl
          have HIFR := Lib.hid ((held_at HBQ.out.2.1 HFS.out HVAL.out).below hbA (Nat.le_refl _))
          have H3 := Lib.hid (fun i hi => (h3 i hi).below hbA (Nat.le_refl _))
          have H2 := Lib.hid h2
          have HX := Lib.hid hX
          have HNR := Lib.hid hnr
          have HKT := Lib.hid hkT
          have HROW := Lib.hid h1
          have HKF := Lib.hid hkf
          have hkn : kf < nf := by omega
          clear h1 h2 h3 hblk hbA hq2 hq hX hnr hkT h2' hmq hge hkf hgr hth1
          go_wp2_with (at_builtin; refine wpList_append_lies _ rfl (.tmp 46) (.tmp 48) 22 rfl (r + 1) 51 i26 (.slice none 0 0) 1 24 Tryz.underlying22 hi26 hy0 hy1 hy2 rfl (by decide) (.slice pr nr cr) nr hrw' rfl (HROW.out.alloc _) ⟨wr.heap.size, 0, none⟩ 1 1 [.slice pf nf cf] rfl rfl (World.news_of_block (cs := #[.slice pf nf cf]) (t := 51) (fr := (0, 0)) (heap_alloc_new wr _)) (by simp [Value.oneCell']) (by decide) (by unfold maxLen; omega) (by omega) (by simp; omega) (wr.heap.size + 1) (by simp) ?_; intro g2 c2 w9 hown2 hgr2 hat2 hlt2; have hblk9 := (hgr2.block g (Nat.lt_of_lt_of_le hga HBA.out.size) (fun e => HNE.out g e.symm rfl)).trans HBLK.out; have hcell9 := hgr2.cell HCE.out (fun e => HNE.out g e.symm rfl); have hfrz9 := frozen_of_row w9 g kf cur _ hblk9; have HO2 := Lib.hid hown2; have HG2 := Lib.hid hgr2; have HA2 := Lib.hid hat2; clear hown2 hgr2 hat2 hlt2)
          have hTS := TabH.store (v' := .slice (some ⟨g2, 0, none⟩) (nr + 1) c2) (L' := (T ++ List.replicate q []).getD kf [] ++ [f]) hBr HTA.out HKT.out (by rw [HX.out]; exact HG2.out) (rowsO_push (w := wr.alloc (.cells #[.slice pf nf cf] 51)) (v := .slice pr nr cr) (hs := hrw') hBr (by rw [HNR.out]; exact HROW.out.alloc _) H2.out H3.out HIFR.out (by rw [HNR.out]; exact HO2.out) HG2.out)
            (HA2.out.imp (fun e => by rw [HX.out]; exact e.symm) (fun e => by show some g2 = some _; rw [e]; simp))
          have hbo := row_any HTA.out.1 (by decide) hBr g rfl
          have hgr1 := (HTA.out.1.lt g rfl).1
          have HB9 := Lib.hid (((HBQ.out.below HBA.out).grown HG2.out (fun k e => by
            have h5 := ((HROW.out.alloc (.cells #[.slice pf nf cf] 51 (0, 0))).lt k e).1
            exact ⟨by omega, by omega, by omega, row_any (HROW.out.alloc (.cells #[.slice pf nf cf] 51 (0, 0))) (by decide) hBr k e⟩)).grown (grown_at w9 g kf (.slice (some ⟨g2, 0, none⟩) (nr + 1) c2)) (fun k e => by
              obtain rfl := Option.some.inj e
              exact ⟨by omega, by omega, by omega, hbo.1, fun c e => by rw [hblk9] at e; cases e⟩))
          have hTF := HTF.out.push (done' := doneOf (fun z => left z && !z.sameKey (klit f))) HFS.out (by have := HNF.out; omega) (fun h => by unfold doneOf at h; rw [HLK.out] at h; cases h) (fun x hx => done_step HVX.out (HVS.out x hx))
          rw [← HQ2.out, show f.length - 1 = kf by have := HNF.out; have := HKF.out; omega, ← rep_getD (q := q)] at hTF
          have HTF9 := Lib.hid hTF
          have HTS := Lib.hid hTS
          clear hTF hTS hbo
          go_roundw
          case rel => exact ⟨_, cnt3, _, HB9.out, ⟨_, HTS.out⟩, HTF9.out, HLH4.out⟩
          case measure => rw [HB9.out.1.left_eq, HRG.out.left_eq]; exact hcnt
end Go.Proofs.YtoheffkiohfmoaaGreatDoor
