/-
  cells.Make at right sets by a contract: the facets of the complex that they make.
-/
import Derived.Test.YtddnjimpdidpaaaGreatDoorCelT
namespace Go.Proofs.YtddnjimpdidpaaaGreatDoor
open Go Go.RowKit Go.Maps

theorem held_at {B : Nat} {w : World} {D : DataW Value} {S : List (List Int)} {f : List Int} {v : Value} (h : HeldAll B w D S) (hf : f ∈ S) (hv : ∀ zd, D.atKey (klit f) zd = .held v) : IntsIn B w v f := by
  obtain ⟨v', h1, h2⟩ := h f hf
  have e := (h1 (.nil)).symm.trans (hv .nil)
  cases e
  exact h2
theorem wf_int {c : Int} (h0 : 0 ≤ c) (h1 : c ≤ 1000000) : (Lit.int .i64 c).wf = true := by
  simp only [Lit.wf, Bool.and_eq_true, decide_eq_true_eq]
  exact ⟨Int.le_trans (by decide) h0, Int.le_trans h1 (by decide)⟩

set_option maxRecDepth 100000 in
set_option maxHeartbeats 16000000 in
theorem make_ok (a : Nat → Addr) (B : Nat) (L : List (List Int)) (v : Value) (w : World) (hS : Sents w a) (hB : B ≤ w.heap.size) (hv : ListsIn B w v L) (hn : L.length ≤ 100000) (hl : ∀ l ∈ L, l.length ≤ 100000) (he : errC L = 0) :
    Calls Tryz.prog 79 #[v] w (MakeC a B L w) := by
  obtain ⟨i39, hi39, hz0, hz1, hz2⟩ := info_parts Tryz.info23
  have hmm := @run_makeMap Tryz.prog
  have hb0 : Below w.heap.size w (w.alloc (.cells #[.slice none 0 0] 34)) := (Below.refl _ _).alloc (Nat.le_refl _) _
  have HC := Lib.hid (ccl_any a B L v (w.alloc (.cells #[.slice none 0 0] 34)) (hS.below hb0 (Nat.le_refl _)) (by simp; omega) (hv.below hb0 (Nat.le_refl _)) hn hl)
  have HE := Lib.hid he
  have HB := Lib.hid hB
  unfold CclPost at HC
  have hokE := errC_ok he
  have HOKE := Lib.hid hokE
  clear hS hB hv hn hl he hokE
  go_enter Tryz.func79, Tryz.ntmps79
  go_wp2_with fail
  refine HC.out.mono ?_
  rintro e w1 ⟨hb1, ⟨-, b, S, rfl, hbb, hM, hl6, hSm⟩ | ⟨h0, -⟩⟩
  rotate_left
  · exact absurd HE.out h0
  have hblk : w1.heap[w.heap.size]? = some (.cells #[.slice none 0 0] 34 (0, 0)) := by
    rw [hb1.block _ (by simp)]; exact heap_alloc_new w _
  have HB1 := Lib.hid (hb0.trans (hb1.mono (by simp)))
  have hbw : w.heap.size < b := by simp at hbb; omega
  have HBK := Lib.hid hblk
  have HSM := Lib.hid hSm
  have hblt := hM.lt
  have HM := Lib.hid hM
  clear hb0 hb1 hblk hSm hM hbb HC
  go_upto_region 5 with (fail)
  obtain ⟨w2, hw2⟩ : ∃ w2, w2 = w1.alloc (.map #[] 0) := ⟨_, rfl⟩
  rw [← hw2]
  obtain ⟨m, hm⟩ : ∃ m, m = w1.heap.size := ⟨_, rfl⟩
  rw [← hm]
  have hb2 : Below w1.heap.size w1 w2 := by rw [hw2]; exact (Below.refl _ _).alloc (Nat.le_refl _) _
  have HC2 : Hid (CMap w2 m 0 (fun _ => False)) := by unfold Hid; rw [hw2, hm]; exact CMap.made w1
  have hms : w2.heap.size = m + 1 := by rw [hw2, hm]; simp
  have HB2 := Lib.hid (HB1.out.trans (hb2.mono HB1.out.size))
  have HBK2 := Lib.hid (show w2.heap[w.heap.size]? = _ from (hb2.block _ (Array.getElem?_eq_some_iff.1 HBK.out).1).trans HBK.out)
  obtain ⟨D, hown, hsz, hnd, hvs, hhas, hget, honly⟩ := HM.out.below hb2 (Nat.le_refl _)
  have hbm : b < m := by rw [hm]; exact hblt
  have HOWN := Lib.hid hown
  have HSZ := Lib.hid hsz
  have HND := Lib.hid hnd
  have HVS := Lib.hid hvs
  have HHAS := Lib.hid hhas
  have HGET := Lib.hid hget
  have HONLY := Lib.hid honly
  have hwm : w.heap.size ≤ m := by rw [hm]; exact HB1.out.size
  clear hw2 hm hb2 hown hsz hnd hvs hhas hget honly HM HBK hblt
  obtain ⟨nS, hnS⟩ : ∃ nS, S.length = nS := ⟨_, rfl⟩
  rw [hnS] at HOWN HSZ hl6
  have HNS := Lib.hid hnS
  clear hnS
  go_wp2_with (at_range; refine wpList_range_own _ rfl _ 136 rfl 9 23 (string_keyed Tryz.underlying9) Tryz.underlying136 valE b nS D rfl HOWN.out ?_; intro w3 hrg3 hg3 hs3)
  go_frame
  rw [HSZ.out] at hrg3
  rw [hms] at hrg3 hs3 ⊢
  obtain ⟨r, hr⟩ : ∃ r, r = m + 1 := ⟨_, rfl⟩
  rw [← hr] at hrg3 hs3 ⊢
  have HRM := Lib.hid hr
  clear hr
  have hb3 : Below w2.heap.size w2 w3 := (Below.refl _ _).grown hg3 (Nat.le_refl _) (fun k e => by cases e)
  have HST3 : Hid (MkSt B b r m nS D S w w3 (Maps.has D) nS 0 (HitBy S (doneOf (Maps.has D)))) := by
    refine ⟨hrg3, fun f hf => (HGET.out f hf).imp fun v h => ⟨h.1, h.2.below hb3 (Nat.le_refl _)⟩, HB2.out.trans (hb3.mono HB2.out.size), (HC2.out.below hb3 (Nat.le_refl _)).iff fun g => ⟨fun h => h.elim, ?_⟩⟩
    rintro ⟨f, h1, h2, -⟩
    have := (HHAS.out f (HVS.out f h1)).2 h1
    unfold doneOf at h2
    rw [h2] at this; cases this
  have HBK3 := Lib.hid (show w3.heap[w.heap.size]? = _ from (hb3.block _ (Array.getElem?_eq_some_iff.1 HBK2.out).1).trans HBK2.out)
  clear hrg3 hg3 hb3 HBK2 HC2 HGET
  go_loopw [8] (fun _ wr => ∃ left cnt t, MkSt B b r m nS D S w wr left cnt t (HitBy S (doneOf left)) ∧ cnt ≤ nS ∧ t ≤ 12 * (nS - cnt) ∧ (∀ kl, left kl = true → Maps.has D kl = true) ∧ wr.heap[w.heap.size]? = some (.cells #[.slice none 0 0] 34 (0, 0)))
    (fun _ wr => wr.rangeLeft b r)
  case atStart => exact ⟨_, _, 0, HST3.out, Nat.le_refl _, Nat.zero_le _, fun kl h => h, HBK3.out⟩
  case round =>
    obtain ⟨left, cnt, t, hst, hcs, hts, hlh, hblk⟩ := hrel
    have HST := Lib.hid hst
    have HLH := Lib.hid hlh
    have HBK := Lib.hid hblk
    have HRG := Lib.hid hst.1
    clear hst hlh hblk
    go_wp2_with (at_next; refine wpList_next_ranges _ rfl _ rfl 9 (string_keyed Tryz.underlying9) valE (fun x : ByteArray => Value.string x) (fun x : Option Addr × Nat × Nat => Value.slice x.1 x.2.1 x.2.2) (fun _ _ h => key_inv h) (fun _ _ h => valE_inv h) b r nS D left cnt rfl HRG.out ?_ ?_)
    · -- nothing is left
      intro hc0 hl0
      have HR1 : Hid (∀ x ∈ S, doneOf left x) := fun x _ => hl0 (klit x)
      have hmk := HST.out.iff fun g => (⟨fun ⟨z, h1, _, h3⟩ => ⟨z, h1, trivial, h3⟩, fun ⟨z, h1, _, h3⟩ => ⟨z, h1, HR1.out z h1, h3⟩⟩ : HitBy S (doneOf left) g ↔ HitAll S g)
      have HMK := Lib.hid hmk
      have HHD := Lib.hid hmk.2.1
      have HBW := Lib.hid hmk.2.2.1
      have hcm := hmk.2.2.2
      obtain ⟨Dm, hownm, hxm⟩ := hcm
      have HOWNM := Lib.hid hownm
      have HXM := Lib.hid hxm
      have hrt := hmk.2.2.1
      clear hmk hownm hxm HST HLH HRG HR1
      go_upto_region 14 with (fail)
      obtain ⟨w10, hw10⟩ : ∃ x, x = wr.alloc (.cells #[.slice none 0 0] 34) := ⟨_, rfl⟩
      rw [← hw10]
      obtain ⟨c, hc⟩ : ∃ x, x = wr.heap.size := ⟨_, rfl⟩
      rw [← hc]
      have hb10 : Below wr.heap.size wr w10 := by rw [hw10]; exact (Below.refl _ _).alloc (Nat.le_refl _) _
      have hs10 : w10.heap.size = c + 1 := by rw [hw10, hc]; simp
      have hbc : w10.heap[c]? = some (.cells #[.slice none 0 0] 34 (0, 0)) := by rw [hw10, hc]; exact heap_alloc_new wr _
      have hcw : w.heap.size ≤ c := by rw [hc]; exact hrt.size
      have hcm : m < c := by rw [hc]; exact HMK.out.2.2.2.elim fun _ h => h.1.lt
      have hcr : r < c := by rw [hc]; exact HMK.out.1.lt
      have hhd10 := HHD.out.below hb10 (Nat.le_refl _)
      have hbw10 := hrt.trans (hb10.mono hrt.size)
      have hown10 := HMK.out.1.owns.kept (row := none) (below_grown hb10 none) (by simp)
      have hdm10 := HOWNM.out.kept (row := none) (below_grown hb10 none) (by simp)
      have hrk10 := (hb10.block _ (Array.getElem?_eq_some_iff.1 HBK.out).1).trans HBK.out
      have HOWN10 := Lib.hid hown10
      have HBASE := Lib.hid (show HeldAll B w10 D S ∧ Below w.heap.size w w10 ∧ _ ∧ _ ∧ _ from ⟨hhd10, hbw10, hdm10, hrk10, hbc⟩)
      clear hw10 hc hb10 hhd10 hbw10 hown10 hdm10 hrk10 hbc hrt HMK HHD HBW HOWNM HBK
      go_wp2_with (at_range; refine wpList_range_own _ rfl _ 136 rfl 9 23 (string_keyed Tryz.underlying9) Tryz.underlying136 valE b nS D rfl HOWN10.out ?_; intro w12 hrg12 hg12 hs12)
      go_frame
      rw [HSZ.out] at hrg12
      rw [hs10] at hrg12 hs12 ⊢
      obtain ⟨r2, hr2⟩ : ∃ x, x = c + 1 := ⟨_, rfl⟩
      rw [← hr2] at hrg12 hs12 ⊢
      have HR2 := Lib.hid hr2
      have hb12 : Below w10.heap.size w10 w12 := (Below.refl _ _).grown hg12 (Nat.le_refl _) (fun k e => by cases e)
      have HST12 : Hid (MfB B b r2 m nS t D Dm S w w12 (Maps.has D) nS ∧ w12.heap[c]? = some (.cells #[.slice none 0 0] 34 (0, 0)) ∧ RowsO (r2 + 1) B w12 (.slice none 0 0) [] ∧ MfF S (Maps.has D) []) := by
        obtain ⟨q1, q2, q3, q4, q5⟩ := HBASE.out
        refine ⟨⟨hrg12, q1.below hb12 (Nat.le_refl _), q2.trans (hb12.mono q2.size), q3.kept hg12 (by simp), (hb12.block _ (Array.getElem?_eq_some_iff.1 q4).1).trans q4⟩, (hb12.block _ (Array.getElem?_eq_some_iff.1 q5).1).trans q5, RowsO.nil _ _ _, List.nodup_nil, fun g => ⟨fun h => absurd h (by simp), ?_⟩⟩
        rintro ⟨h1, h2, -⟩
        have := (HHAS.out g (HVS.out g h1)).2 h1
        unfold doneOf at h2
        rw [h2] at this; cases this
      clear hr2 hrg12 hg12 hb12 HBASE HOWN10
      go_loopw [11, 12] (fun _ _ wr => ∃ left cnt v F, MfB B b r2 m nS t D Dm S w wr left cnt ∧ wr.heap[c]? = some (.cells #[v] 34 (0, 0)) ∧ RowsO (r2 + 1) B wr v F ∧ MfF S left F ∧ ∀ kl, left kl = true → Maps.has D kl = true)
        (fun _ _ wr => wr.rangeLeft b r2)
      case atStart => exact ⟨_, _, _, [], HST12.out.1, HST12.out.2.1, HST12.out.2.2.1, HST12.out.2.2.2, fun kl h => h⟩
      case round =>
        obtain ⟨left2, cnt2, v2, F, hst, hcc, hro, hff, hlh2⟩ := hrel
        have HLH2 := Lib.hid hlh2
        have HST := Lib.hid hst
        have HCC := Lib.hid hcc
        have HRO := Lib.hid hro
        have HFF := Lib.hid hff
        have HRG := Lib.hid hst.1
        clear hst hcc hro hff hlh2 HST12
        go_wp2_with (at_next; refine wpList_next_ranges _ rfl _ rfl 9 (string_keyed Tryz.underlying9) valE (fun x : ByteArray => Value.string x) (fun x : Option Addr × Nat × Nat => Value.slice x.1 x.2.1 x.2.2) (fun _ _ h => key_inv h) (fun _ _ h => valE_inv h) b r2 nS D left2 cnt2 rfl HRG.out ?_ ?_)
        · intro hc2 hl2
          have hF : ∀ g, g ∈ F ↔ (g ∈ S ∧ ¬HitAll S g) := fun g => (HFF.out.2 g).trans ⟨fun h => ⟨h.1, h.2.2⟩, fun h => ⟨h.1, hl2 _, h.2⟩⟩
          have HF := Lib.hid hF
          clear hF
          obtain ⟨p, cap2, hv2, -⟩ := HRO.out.lists
          subst hv2
          have hR2 := HR2.out
          have HSF : Hid (Calls Tryz.prog 91 #[.slice p F.length cap2, .func (.func 92) #[] #[]] wr (fun e w' => e = .returned (.tuple #[]) ∧ Below w.heap.size w w' ∧
              w'.heap[w.heap.size]? = some (.cells #[.slice none 0 0] 34 (0, 0)) ∧ w'.heap[c]? = some (.cells #[.slice p F.length cap2] 34 (0, 0)) ∧ RowsO (r2 + 1) B w' (.slice p F.length cap2) (madeF L))) := by
            by_cases h0 : F.length = 0
            · have hFn : F = [] := List.length_eq_zero_iff.1 h0
              have hr := HRO.out
              have hmd : F = madeF L := made_of HOKE.out.1 HSM.out (by rw [hFn]; exact List.Pairwise.nil) HF.out
              have hcs : Calls Tryz.prog 91 #[.slice p F.length cap2, .func (.func 92) #[] #[]] wr (fun e w' => e = .returned (.tuple #[]) ∧ w' = wr) := by
                rw [h0]
                exact Tryz.slices_SortFunc_none_f91 (α := Nat) p cap2 _ wr
              refine hcs.mono ?_
              rintro e w' ⟨rfl, rfl⟩
              exact ⟨rfl, HST.out.2.2.1, HST.out.2.2.2.2, HCC.out, by rw [← hmd]; exact hr⟩
            · obtain ⟨hs, h1, h2, h3⟩ := HRO.out
              have hBr : B ≤ r2 + 1 := by have := HB.out; omega
              rcases Joins.ownsRow_forms h1 with ⟨-, h9⟩ | ⟨g, cap, hv⟩
              · exact absurd h9 h0
              · obtain ⟨rfl, rfl⟩ : p = some ⟨g, 0, none⟩ ∧ cap2 = cap := by cases hv; exact ⟨rfl, rfl⟩
                have hlt := h1.lt g rfl
                refine (sortL_any (r2 + 1) B g cap2 F wr hBr HRO.out (by omega) HFF.out.1 (by have q1 := HFF.out.len; have q2 := HNS.out; omega) (fun l hl => by have := isF_len HOKE.out.2.1 ((HSM.out l).1 ((HF.out l).1 hl).1); omega)).mono ?_
                rintro e w' ⟨rfl, hg, L', hr, hs', hm⟩
                have hmd : L' = madeF L := made_of HOKE.out.1 HSM.out hs' (fun z => (hm z).trans (HF.out z))
                subst hmd
                exact ⟨rfl, HST.out.2.2.1.grown hg HST.out.2.2.1.size (fun k e => by have q := Option.some.inj e; omega), (hg.block _ (Array.getElem?_eq_some_iff.1 HST.out.2.2.2.2).1 (fun e => by have q := Option.some.inj e; omega)).trans HST.out.2.2.2.2, (hg.block _ (Array.getElem?_eq_some_iff.1 HCC.out).1 (fun e => by have q := Option.some.inj e; omega)).trans HCC.out, hr⟩
          have hcell := (one_at HCC.out).1
          have hfrz := (one_at HCC.out).2
          have hcr2 : c < r2 := by omega
          clear hR2
          go_wp2_with fail
          refine HSF.out.mono ?_
          rintro e w5 ⟨rfl, hb5, hk5, hc5, hr5⟩
          have hcell5 := (one_at hc5).1
          have hfrz5 := (one_at hc5).2
          have hcw5 := (one_at hk5).1
          have hfw5 := (one_at hk5).2
          have HCS := Lib.hid (one_set (v := .slice p F.length cap2) hk5)
          have HFIN := Lib.hid (show RowsO w.heap.size B (w5.setCell ⟨w.heap.size, 0, none⟩ (.slice p F.length cap2)) (.slice p F.length cap2) (madeF L) from (hr5.grown (grown_cell w5 w.heap.size _) (by omega) HB.out (fun x e => by rw [hk5] at e; cases e)).le (by omega))
          have HB5 := Lib.hid hb5
          clear hb5 hk5 hc5 hr5
          go_wp2_with fail
          refine bodyPost_ret (v := .tuple #[.agg #[.slice p F.length cap2], .nilIface]) (by simp [results, Tryz.results79, go_sem, HCS.out]) rfl ?_
          exact ⟨HB5.out.setCell (Nat.le_refl _) _, Or.inl ⟨HE.out, _, rfl, HFIN.out⟩⟩
        · intro x pf nf cf kl y1 y2 w4 cnt3 hkey hlk hvy hat hrg4 hlt hg4 hs4 hen
          obtain ⟨f, hfS, hkl⟩ := HONLY.out kl (HLH2.out kl hlk)
          subst hkl
          have hval : ∀ zd, D.atKey (klit f) zd = .held (.slice pf nf cf) := fun zd => by
            rw [hat zd]
            have : valE (.slice pf nf cf) = some (y1, y2) := hvy
            cases this; rfl
          have hif := held_at HST.out.2.1 hfS hval
          obtain ⟨pp, cc0, hpe⟩ := hif.len
          have hnf : nf = f.length := by cases hpe; rfl
          have hne7 : f.length ≤ 7 := isF_len HOKE.out.2.1 ((HSM.out f).1 hfS)
          have hne0 : 0 < f.length := List.length_pos_iff.2 ((HSM.out f).1 hfS).1
          have HVX := Lib.hid (HVS.out f hfS)
          have hR2 : c < r2 := by have := HR2.out; omega
          have hcB : B ≤ c := Nat.le_trans HB.out hcw
          have hoc : ∀ x, w4.heap[c]? ≠ some (.cells x 3 (0, 0)) := fun x e => by
            rw [(hg4.block _ (Array.getElem?_eq_some_iff.1 HCC.out).1 (fun e => by have h2 := Option.some.inj e; omega)).trans HCC.out] at e
            cases e
          have hor : ∀ k, (some r2 : Option Nat) = some k → B ≤ k ∧ ∀ x, wr.heap[k]? ≠ some (.cells x 3 (0, 0)) := fun k e => by
            have h2 := Option.some.inj e
            subst h2
            exact ⟨by omega, fun x => iter_obj HRG.out x _ _⟩
          have hb4 : MfB B b r2 m nS t D Dm S w w4 (fun z => left2 z && !z.sameKey (klit f)) cnt3 := by
            obtain ⟨q1, q2, q3, q4, q5⟩ := HST.out
            exact ⟨hrg4, q2.grown hg4 hor, q3.grown hg4 q3.size (fun k e => by have h2 := Option.some.inj e; omega), q4.kept hg4 (fun e => by have h2 := Option.some.inj e; omega), (hg4.block _ (Array.getElem?_eq_some_iff.1 q5).1 (fun e => by have h2 := Option.some.inj e; omega)).trans q5⟩
          have hcc4 : w4.heap[c]? = some (.cells #[v2] 34 (0, 0)) := (hg4.block _ (Array.getElem?_eq_some_iff.1 HCC.out).1 (fun e => by have h2 := Option.some.inj e; omega)).trans HCC.out
          have hro4 : RowsO (r2 + 1) B w4 v2 F := HRO.out.grown hg4 (Nat.lt_succ_self _) (hor r2 rfl).1 (hor r2 rfl).2
          have hlh4 : ∀ kl', (left2 kl' && !kl'.sameKey (klit f)) = true → Maps.has D kl' = true := fun kl' h => HLH2.out kl' (by simp only [Bool.and_eq_true] at h; exact h.1)
          have HB4 := Lib.hid hb4
          have HCC4 := Lib.hid hcc4
          have HRO4 := Lib.hid hro4
          have HLH4 := Lib.hid hlh4
          have HIF := Lib.hid (held_at hb4.2.1 hfS hval)
          have HNF := Lib.hid hnf
          have HFS := Lib.hid hfS
          have HKY := Lib.hid hkey
          have HM4 := Lib.hid hb4.2.2.2.1
          have HRG4 := Lib.hid hrg4
          have HLK := Lib.hid hlk
          have hcnt : cnt3 < cnt2 := hlt
          have hsz4 : r2 < w4.heap.size := hrg4.lt
          obtain ⟨c0, e1, e2, e3, e4⟩ := HXM.out f HVX.out
          have HE1 := Lib.hid e1
          have HE4 := Lib.hid e4
          clear hkey hlk hvy hat hrg4 hg4 hs4 hval hif hpe hnf hfS hb4 hcc4 hro4 hlh4 e1 e4 hor hoc
          by_cases hz : c0 = 0
          · subst hz
            go_upto_region 18 with (at_lookup; refine wpList_lookup_own_int _ rfl _ _ 164 rfl 9 3 .i64 (string_keyed Tryz.underlying9) Tryz.underlying164 Tryz.underlying3 (zero_int _) m t Dm rfl HM4.out (.string x) (klit f) rfl HKY.out ?_; intro cc hcc hwc; obtain rfl : cc = 0 := (by rw [HE1.out] at hcc; simpa using hcc.symm); clear hcc hwc)
            have hcell := (one_at HCC4.out).1
            have hfrz := (one_at HCC4.out).2
            have HD4 := Lib.hid (HB4.out.below (w' := w4.drew) ((Below.refl _ _).drew))
            have HRD4 := Lib.hid (HRO4.out.below (w' := w4.drew) ((Below.refl _ _).drew) (Nat.le_refl _))
            have HCD4 := Lib.hid (show w4.drew.heap[c]? = _ from HCC4.out)
            have HCL := Lib.hid (clone_any f (.slice pf nf cf) w4.drew (HIF.out.below (w' := w4.drew) ((Below.refl _ _).drew) (Nat.le_refl _)).at hne0 (by omega))
            unfold ClonePost at HCL
            rw [← HNF.out] at HCL
            have hFl : F.length ≤ 600 := by have h1 := HFF.out.len; have h2 := HNS.out; omega
            go_region_law (first
              | (go_simp
                 go_at_call 40
                 refine HCL.out.mono ?_
                 rintro e w5 ⟨g, cap, rfl, hb5, ho5⟩
                 have hif5 := ints_owned (B := B) ho5 HNF.out
                 have hmf5 := HD4.out.below hb5
                 have hro5 := HRD4.out.below hb5 (Nat.le_refl _)
                 have hcc5 : w5.heap[c]? = some (.cells #[v2] 34 (0, 0)) := (hb5.block _ (Array.getElem?_eq_some_iff.1 HCD4.out).1).trans HCD4.out
                 have hb5a : Below w5.heap.size w5 (w5.alloc (.cells #[.slice (some ⟨g, 0, none⟩) nf cap] 23)) := (Below.refl _ _).alloc (Nat.le_refl _) _
                 have hcc5a := (hb5a.block _ (Array.getElem?_eq_some_iff.1 hcc5).1).trans hcc5
                 have hcell5a := (one_at hcc5a).1
                 have hcell5 := (one_at hcc5).1
                 have hfrz5 := (one_at hcc5).2
                 have hsz5 : r2 < w5.heap.size := Nat.lt_of_lt_of_le hsz4 hb5.size
                 obtain ⟨hs, h1, h2, h3⟩ := hro5)
              | (refine step_append_lies _ (by rfl) (.tmp 57) (.tmp 60) 22 (by rfl) (r2 + 1) 23 i39 (.slice none 0 0) 1 24 Tryz.underlying22 hi39 hz0 hz1 hz2 rfl (by decide) v2 F.length hs (by rfl) (h1.alloc _) ⟨w5.heap.size, 0, none⟩ 1 1 [.slice (some ⟨g, 0, none⟩) nf cap] (by rfl) (by rfl) (World.news_of_block (cs := #[.slice (some ⟨g, 0, none⟩) nf cap]) (t := 23) (fr := (0, 0)) (heap_alloc_new w5 _)) (by simp [Value.oneCell']) (by decide) (by unfold maxLen; omega) (by omega) (by simp; omega) (w5.heap.size + 1) (by simp) ?_
                 intro g2 c2 w9 hown2 hgr2 hat2 hlt2
                 have hpush := rowsO_push (O := r2 + 1) (xs := f) (show B ≤ r2 + 1 by omega) (h1.alloc _) h2 (fun i hi => (h3 i hi).below hb5a (Nat.le_refl _)) (hif5.below hb5a (Nat.le_refl _)) hown2 hgr2
                 have hro := row_other (h1.alloc (.cells #[.slice (some ⟨g, 0, none⟩) nf cap] 23 (0, 0))) (B := B) (by omega)
                 have hmf9 := (hmf5.below hb5a).grown hgr2 (fun k hk => by
                   have h5 := (h1.lt k hk).1
                   refine ⟨by omega, by omega, by omega, by omega, hro k hk⟩)
                 have hcc9 : w9.heap[c]? = some (.cells #[v2] 34 (0, 0)) := (hgr2.block _ (by simp; omega) (fun e => by have h5 := (h1.lt c e.symm).1; omega)).trans hcc5a
                 have hcell9 := (one_at hcc9).1
                 have hfrz9 := (one_at hcc9).2
                 have hoc9 : ∀ x, w9.heap[c]? ≠ some (.cells x 3 (0, 0)) := fun x e => by rw [hcc9] at e; cases e
                 have HPU := Lib.hid (hpush.grown (grown_cell w9 c (.slice (some ⟨g2, 0, none⟩) (F.length + 1) c2)) (by omega) hcB hoc9)
                 have HMF9 := Lib.hid (hmf9.grown (grown_cell w9 c (.slice (some ⟨g2, 0, none⟩) (F.length + 1) c2)) (fun k e => by
                   have h5 := Option.some.inj e
                   subst h5
                   exact ⟨by omega, by omega, by omega, by omega, hcB, hoc9⟩))
                 have HCC9 := Lib.hid (one_blk (v := .slice (some ⟨g2, 0, none⟩) (F.length + 1) c2) hcc9)
                 clear hoc9 hpush hmf9 hro))
            all_goals
              go_wp2
              go_roundw
              case rel => exact ⟨_, cnt3, _, F ++ [f], HMF9.out, HCC9.out, HPU.out, HFF.out.push HVS.out HFS.out (HE4.out.1 rfl) HLK.out, HLH4.out⟩
              case measure => rw [HMF9.out.1.left_eq, HRG.out.left_eq]; exact hcnt
          · go_wp2_with (at_lookup; refine wpList_lookup_own_int _ rfl _ _ 164 rfl 9 3 .i64 (string_keyed Tryz.underlying9) Tryz.underlying164 Tryz.underlying3 (zero_int _) m t Dm rfl HM4.out (.string x) (klit f) rfl HKY.out ?_; intro cc hcc hwc; obtain rfl : cc = c0 := (by rw [HE1.out] at hcc; simpa using hcc.symm); clear hcc hwc)
            go_roundw
            case rel => exact ⟨_, cnt3, v2, F, HB4.out, HCC4.out, HRO4.out, HFF.out.skip HVS.out HFS.out (Classical.byContradiction fun hh => hz (HE4.out.2 hh)), HLH4.out⟩
            case measure => rw [HRG4.out.left_eq, HRG.out.left_eq]; exact hcnt
    · -- an entry has come
      intro x pf nf cf kl y1 y2 w4 cnt1 hkey hlk hvy hat hrg4 hlt hg4 hs4 hen
      obtain ⟨f, hfS, hkl⟩ := HONLY.out kl (HLH.out kl hlk)
      subst hkl
      have hval : ∀ zd, D.atKey (klit f) zd = .held (.slice pf nf cf) := fun zd => by
        rw [hat zd]
        have : valE (.slice pf nf cf) = some (y1, y2) := hvy
        cases this; rfl
      have hif := held_at HST.out.2.1 hfS hval
      obtain ⟨pp, cc, hpe⟩ := hif.len
      have hnf : nf = f.length := by cases hpe; rfl
      have HNF := Lib.hid hnf
      have HVAL := Lib.hid hval
      have HFS := Lib.hid hfS
      have hvx := HVS.out f hfS
      have HVX := Lib.hid hvx
      have hne7 : f.length ≤ 7 := isF_len HOKE.out.2.1 ((HSM.out f).1 hfS)
      have hbl : Below w.heap.size w w4 := HST.out.2.2.1.grown hg4 HST.out.2.2.1.size (fun k e => by have h1 := HRM.out; have h2 := Option.some.inj e; omega)
      have HDN := Lib.hid (fun g (hg : Vtx g) => (done_step (left := left) (f := f) (x := g) hvx hg))
      have hst4 : MkSt B b r m nS D S w w4 (fun z => left z && !z.sameKey (klit f)) cnt1 t (HitTo S (doneOf left) f 0) :=
        ⟨hrg4, HST.out.2.1.grown hg4 (fun k e => by cases e; exact ⟨Nat.le_trans HB.out (by have := HRM.out; omega), fun c => iter_obj HRG.out c _ _⟩), hbl, (HST.out.2.2.2.grown hg4 (fun e => by have h1 := HRM.out; have h2 := Option.some.inj e; omega)).iff fun g => hitTo_zero.symm⟩
      have HST4 := Lib.hid hst4
      have HLH4 : Hid (∀ kl', (left kl' && !kl'.sameKey (klit f)) = true → Maps.has D kl' = true) := fun kl' h => HLH.out kl' (by simp only [Bool.and_eq_true] at h; exact h.1)
      have HBK4 := Lib.hid (show w4.heap[w.heap.size]? = _ from (hg4.block _ (Array.getElem?_eq_some_iff.1 HBK.out).1 (fun e => by have h1 := HRM.out; have h2 := Option.some.inj e; omega)).trans HBK.out)
      have hnf7 : nf ≤ 7 := by omega
      have HRG4 := Lib.hid hrg4
      have hcnt : cnt1 < cnt := hlt
      clear hkey hlk hvy hat hrg4 hg4 hs4 hval hif hpe hnf hfS hvx hne7 hbl hst4
      go_wp2_with fail
      go_loopw [31] (fun i wr => ∃ k : Nat, k ≤ nf ∧ i = .int .i64 k ∧ MkSt B b r m nS D S w wr (fun z => left z && !z.sameKey (klit f)) cnt1 (t + k) (HitTo S (doneOf left) f k) ∧ wr.heap[w.heap.size]? = some (.cells #[.slice none 0 0] 34 (0, 0))) (fun i _ => nf - (intOf i).toNat)
      case atStart => exact ⟨0, Nat.zero_le _, rfl, HST4.out, HBK4.out⟩
      case round =>
        obtain ⟨k, hk, rfl, hst, hblk⟩ := hrel
        have HSR := Lib.hid hst
        have HBR := Lib.hid hblk
        clear hst hblk
        by_cases hkn : k < nf
        · have hfr := held_at HSR.out.2.1 HFS.out HVAL.out
          have HCL := Lib.hid (clone_any f (.slice pf nf cf) _ hfr.at (by have := HNF.out; omega) (by have := HNF.out; omega))
          unfold ClonePost at HCL
          rw [← HNF.out] at HCL
          clear hfr
          go_wp2_with fail
          refine HCL.out.mono ?_
          rintro e w5 ⟨g, cap, rfl, hb5, ho5⟩
          have hg5 := (ho5.lt g rfl).1
          have HB5 := Lib.hid hb5
          have ho5' := ho5
          rw [HNF.out] at ho5'
          have HD := Lib.hid (fun j hj => delete_any f _ g cap k j hj w5 ho5' (by have := HNF.out; omega) (by have := HNF.out; omega))
          unfold DeletePost at HD
          rw [← HNF.out] at HD
          clear hb5 ho5 ho5' HCL
          go_wp2_with fail
          refine (HD.out _ (by first | rfl | omega)).mono ?_
          rintro e w6 ⟨rfl, hg6, ho6⟩
          have hb6 : Below wr.heap.size wr w6 := grown_below HB5.out hg6 hg5
          have hel : (f.eraseIdx k).length = nf - 1 := by rw [List.length_eraseIdx, ← HNF.out, if_pos hkn]
          have hi6 : IntsAt w6 (.slice (some ⟨g, 0, none⟩) (nf - 1) cap) (f.eraseIdx k) := (ints_owned (B := B) ho6 hel.symm).at
          have hvfe : Vtx (f.eraseIdx k) := fun z hz => HVX.out z ((List.eraseIdx_sublist _ _).subset hz)
          have HVFE := Lib.hid hvfe
          have HKE := Lib.hid (key_any (f.eraseIdx k) _ w6 hi6 hvfe (by omega))
          unfold Gives at HKE
          have HKEY := Lib.hid (keyOf_key (f.eraseIdx k) (by omega))
          have HB6 := Lib.hid hb6
          clear hg6 ho6 hb6 hi6 hvfe hel HD
          go_wp2_with fail
          refine HKE.out.mono ?_
          rintro e w7 ⟨rfl, hb7⟩
          have hb07 := HB6.out.trans (hb7.mono HB6.out.size)
          have hst7 := HSR.out.below hb07
          have HST7 := Lib.hid hst7
          obtain ⟨Dm, hownm, hxm⟩ := hst7.2.2.2
          have HOWNM := Lib.hid hownm
          have HXM := Lib.hid hxm
          have HBD := Lib.hid (show ∀ cc : Int, Dm.atKey (klit (f.eraseIdx k)) (.lit (.int .i64 0)) = .lit (.int .i64 cc) → 0 ≤ cc ∧ cc + 1 ≤ 1000000 from fun cc hcc => by
            obtain ⟨c0, e1, e2, e3, -⟩ := hxm _ HVFE.out
            rw [e1] at hcc
            have e4 : c0 = cc := by simpa using hcc
            omega)
          have HBR7 := Lib.hid (show w7.heap[w.heap.size]? = _ from (hb07.block _ (Array.getElem?_eq_some_iff.1 HBR.out).1).trans HBR.out)
          have HTK : t + k < maxLen := by unfold maxLen; omega
          have HPE := Lib.hid (fun (cc : Int) (h0 : 0 ≤ cc) (h1 : cc + 1 ≤ 1000000) => plainElem_int (H := Value) (e := 3) (P := Tryz.prog) (a := cc + 1) Tryz.underlying3 (wf_int (by omega) h1))
          clear hb7 hb07 hst7 hownm hxm HKE
          go_wp2_with (first
            | (at_lookup; refine wpList_lookup_own_int _ rfl _ _ 164 rfl 9 3 .i64 (string_keyed Tryz.underlying9) Tryz.underlying164 Tryz.underlying3 (zero_int _) m (t + k) Dm rfl HOWNM.out (keyS (f.eraseIdx k)) (klit (f.eraseIdx k)) rfl HKEY.out ?_; intro cc hcc hwc; have HCC := Lib.hid hcc; obtain ⟨hc0, hc1⟩ := HBD.out cc hcc; clear hcc hwc)
            | (at_mapUpdate; refine wpList_mapUpdate_own _ rfl _ _ _ 164 rfl 9 3 (string_keyed Tryz.underlying9) Tryz.underlying164 (plainElem Tryz.prog 3) m (t + k) Dm rfl HOWNM.out HTK _ _ (klit (f.eraseIdx k)) rfl rfl HKEY.out (.lit (.int .i64 (cc + 1))) [] (HPE.out cc hc0 hc1) ?_; intro w8 hown8 hgr8; have HOWN8 := Lib.hid hown8; have HGR8 := Lib.hid hgr8; clear hown8 hgr8))
          go_roundw
          case rel =>
            refine ⟨k + 1, by omega, by go_num, ⟨HST7.out.1.kept HGR8.out (fun e => by have h1 := HRM.out; have h2 := Option.some.inj e; omega) (fun e => by have h1 := HRM.out; have h2 := Option.some.inj e; omega), HST7.out.2.1.grown HGR8.out (fun q e => by cases e; exact ⟨Nat.le_trans HB.out hwm, fun c => cmap_obj HOWNM.out c _ _⟩), HST7.out.2.2.1.grown HGR8.out HST7.out.2.2.1.size (fun q e => by cases e; exact hwm), ?_⟩, ?_⟩
            · exact (CMap.push HOWNM.out HXM.out HVFE.out HCC.out HOWN8.out).iff fun g => hitTo_step
            · exact (HGR8.out.block _ (Array.getElem?_eq_some_iff.1 HBR7.out).1 (fun e => by have h2 := Option.some.inj e; omega)).trans HBR7.out
          case measure => simp [intOf]; omega
        · obtain rfl : k = nf := by omega
          go_wp2_with fail
          go_roundw
          case rel =>
            refine ⟨_, cnt1, t + k, HSR.out.iff fun g => ?_, by omega, by omega, HLH4.out, HBR.out⟩
            rw [HNF.out, hitTo_all HFS.out]
            unfold HitBy
            constructor
            · rintro ⟨z, h1, h2, h3⟩
              exact ⟨z, h1, (HDN.out z (HVS.out z h1)).2 h2, h3⟩
            · rintro ⟨z, h1, h2, h3⟩
              exact ⟨z, h1, (HDN.out z (HVS.out z h1)).1 h2, h3⟩
          case measure => rw [HSR.out.1.left_eq, HRG.out.left_eq]; exact hcnt
end Go.Proofs.YtddnjimpdidpaaaGreatDoor
