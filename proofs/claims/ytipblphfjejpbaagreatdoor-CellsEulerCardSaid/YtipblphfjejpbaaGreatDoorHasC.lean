/-
  slices.ContainsFunc over sets with has's closure; cells.has, cells.Has by contracts.
-/
import Derived.Test.YtipblphfjejpbaaGreatDoorHasB
set_option linter.unusedSimpArgs false
set_option linter.unusedVariables false
namespace Go.Proofs.YtipblphfjejpbaaGreatDoor
open Go Go.RowKit Go.Maps

theorem has1_any (b : Nat) (f xs : List Int) (u v : Value) (w : World) (hc : w.cell? ⟨b, 0, none⟩ = some v) (hv : IntsAt w v f) (hu : IntsAt w u xs) (hf : f.length ≤ 1000000) (hx : xs.length ≤ 1000000) :
    Calls Tryz.prog 108 #[u, .pointer (some ⟨b, 0, none⟩)] w (fun e w' => e = .returned (.bool (partB f xs)) ∧ Below w.heap.size w w') := by
  have HC := Lib.hid (within_any f xs v u w hv hu hf hx)
  unfold Gives at HC
  obtain ⟨r, hr⟩ : ∃ r, partB f xs = r := ⟨_, rfl⟩
  rw [hr] at HC ⊢
  clear hv hu hf hx hr
  go_enter Tryz.func108, Tryz.ntmps108
  go_wp2_with fail
  refine HC.out.mono ?_
  rintro e w1 ⟨rfl, hb⟩
  have HB := Lib.hid hb
  clear hb
  go_wp2_with fail
  go_ret
  exact ⟨rfl, HB.out⟩

def FnL (w0 : World) (c : Value) (p : List Int → Bool) : Prop := ∀ w, Below w0.heap.size w0 w → ∀ u xs, IntsAt w u xs → xs.length ≤ 1000000 → Calls Tryz.prog 108 #[u, c] w (fun e w' => e = .returned (.bool (p xs)) ∧ Below w.heap.size w w')

set_option maxRecDepth 100000 in
set_option maxHeartbeats 8000000 in
theorem indexL_any (B : Nat) (c : Value) (p : List Int → Bool) (L : List (List Int)) (v : Value) (w : World) (hf : FnL w c p) (hv : ListsIn B w v L) (hn : L.length ≤ 1000000) (hl : ∀ l ∈ L, l.length ≤ 1000000) :
    Calls Tryz.prog 129 #[v, .func (.func 108) #[] #[c]] w (AnyPost (L.any p) w) := by
  obtain ⟨pv, cv, hve, -⟩ := id hv
  obtain ⟨n, hLn⟩ : ∃ n, L.length = n := ⟨_, rfl⟩
  rw [hLn] at hve hn
  subst hve
  have HLN := Lib.hid hLn
  have HV := Lib.hid hv
  have HF := Lib.hid hf
  have HL := Lib.hid hl
  unfold FnL at HF
  clear hLn hv hf hl
  go_enter Tryz.func129, Tryz.ntmps129
  go_wp2_with fail
  go_loopw [5, 8] (fun _ i wr => ∃ j : Nat, j ≤ n ∧ i = .int .i64 j ∧ Below w.heap.size w wr ∧ ∀ k, k < j → p (L.getD k []) = false) (fun _ i _ => n - (intOf i).toNat)
  case atStart => exact ⟨0, Nat.zero_le _, rfl, Below.refl _ _, fun k h => absurd h (by omega)⟩
  case round =>
    obtain ⟨j, hj, rfl, hb, hno⟩ := hrel
    have HB := Lib.hid hb
    have HNO := Lib.hid hno
    have hIA := HV.out.below hb (Nat.le_refl _)
    clear hb hno
    by_cases hjn : j < n
    · have hjL : j < L.length := by rw [HLN.out]; exact hjn
      obtain ⟨b, off, c', hve⟩ := hIA.form (by omega)
      rw [HLN.out] at hve
      obtain ⟨rfl, rfl⟩ : pv = some ⟨b, off, none⟩ ∧ cv = c' := by cases hve; exact ⟨rfl, rfl⟩
      obtain ⟨px, cx, hcx, hix⟩ := cells_at hIA j hjL
      have HM := Lib.hid (getL_mem hjL)
      have HC := Lib.hid (HF.out wr HB.out _ (L.getD j []) hix.at (HL.out _ (getL_mem hjL)))
      obtain ⟨x, hxx⟩ : ∃ x, L.getD j [] = x := ⟨_, rfl⟩
      rw [hxx] at hcx HC HM
      obtain ⟨r, hr⟩ : ∃ r, p x = r := ⟨_, rfl⟩
      rw [hr] at HC
      generalize x.length = nx at hcx HC
      have HX := Lib.hid hxx
      have HR := Lib.hid hr
      clear hix hxx hr hIA hjL hve
      cases r with
      | true =>
        go_wp2_with fail
        refine HC.out.mono ?_
        rintro e w1 ⟨rfl, hb1⟩
        have HB1 := Lib.hid (HB.out.trans (hb1.mono HB.out.size))
        clear hb1
        go_wp2_with fail
        go_ret
        refine ⟨_, rfl, HB1.out, ?_⟩
        rw [List.any_eq_true.2 ⟨x, HM.out, HR.out⟩]
        exact (decide_eq_true (by omega)).symm
      | false =>
        go_wp2_with fail
        refine HC.out.mono ?_
        rintro e w1 ⟨rfl, hb1⟩
        have HB1 := Lib.hid (HB.out.trans (hb1.mono HB.out.size))
        clear hb1
        go_wp2_with fail
        go_roundw
        case rel =>
          refine ⟨j + 1, by omega, by go_num, HB1.out, fun k hk => ?_⟩
          rcases (show k < j ∨ k = j by omega) with h | rfl
          · exact HNO.out k h
          · rw [HX.out]; exact HR.out
        case measure => simp [intOf]; omega
    · obtain rfl : j = n := by omega
      have HA : Hid (L.any p = false) := by
        unfold Hid
        rw [List.any_eq_false]
        intro x hm
        obtain ⟨k, hk, rfl⟩ := List.getElem_of_mem hm
        have := HNO.out k (by rw [← HLN.out]; exact hk)
        rw [List.getD_eq_getElem?_getD, List.getElem?_eq_getElem hk] at this
        simpa using this
      go_wp2_with fail
      go_ret
      refine ⟨_, rfl, HB.out, ?_⟩
      rw [HA.out]
      exact (decide_eq_false (by decide)).symm

set_option maxHeartbeats 4000000 in
theorem containsL_any (B : Nat) (c : Value) (p : List Int → Bool) (L : List (List Int)) (v : Value) (w : World) (hf : FnL w c p) (hv : ListsIn B w v L) (hn : L.length ≤ 1000000) (hl : ∀ l ∈ L, l.length ≤ 1000000) :
    Calls Tryz.prog 107 #[v, .func (.func 108) #[] #[c]] w (Gives (.bool (L.any p)) w) := by
  have HC := Lib.hid (indexL_any B c p L v w hf hv hn hl)
  unfold AnyPost at HC
  obtain ⟨r, hr⟩ : ∃ r, L.any p = r := ⟨_, rfl⟩
  rw [hr] at HC ⊢
  clear hf hv hn hr hl
  go_enter Tryz.func107, Tryz.ntmps107
  go_wp2_with fail
  refine HC.out.mono ?_
  rintro e w1 ⟨x, rfl, hb, hrx⟩
  have HB := Lib.hid hb
  have HRX := Lib.hid hrx
  clear hb hrx
  go_wp2_with fail
  go_ret
  exact ⟨ret_bool HRX.out.symm, HB.out⟩

/-- what has says -/
def hasB (L : List (List Int)) (f : List Int) : Bool := decide (f ≠ []) && riseB f && decide f.Nodup && L.any (partB f)
theorem hasB_iff {L : List (List Int)} (h : errX L = 0) (f : List Int) : hasB L f = true ↔ f ∈ allF L := by
  obtain ⟨h0, hm⟩ := errX_ok h
  obtain ⟨hok, h7, -⟩ := errC_ok h0
  have hrise : ∀ l ∈ L, Rise l := fun l hl => by
    rw [hm] at hl
    exact isF_rise hok (mem_allF.1 (mem_facets hl))
  rw [mem_allF]
  unfold hasB riseB IsF
  simp only [Bool.and_eq_true, decide_eq_true_eq, List.any_eq_true]
  constructor
  · rintro ⟨⟨⟨a, b⟩, c⟩, l, hl, hp⟩
    refine ⟨a, l, hl, ?_⟩
    rw [sortI_rise (hrise l hl)]
    exact sub_of_rise (rise_of_nodup b c) (hrise l hl) fun x hx => by
      have := List.all_eq_true.1 hp x hx
      simpa using this
  · rintro ⟨a, l, hl, hs⟩
    rw [sortI_rise (hrise l hl)] at hs
    have hr := (hrise l hl).sublist hs
    refine ⟨⟨⟨a, hr.imp fun h => by omega⟩, hr.imp fun h => by omega⟩, l, hl, ?_⟩
    unfold partB
    rw [List.all_eq_true]
    intro x hx
    simpa using hs.subset hx

set_option maxRecDepth 100000 in
set_option maxHeartbeats 8000000 in
theorem has_any (B : Nat) (L : List (List Int)) (f : List Int) (v u : Value) (w : World) (hv : ListsIn B w v L) (hu : IntsAt w u f) (hn : L.length ≤ 100000) (hl : ∀ l ∈ L, l.length ≤ 100000) (hf : f.length ≤ 100000) :
    Calls Tryz.prog 77 #[.agg #[v], u] w (Gives (.bool (hasB L f)) w) := by
  obtain ⟨pv, cv, hve, -⟩ := id hv
  obtain ⟨n, hLn⟩ : ∃ n, L.length = n := ⟨_, rfl⟩
  rw [hLn] at hve
  subst hve
  obtain ⟨pu, cu, hue, -⟩ := id hu
  obtain ⟨m, hm⟩ : ∃ m, f.length = m := ⟨_, rfl⟩
  rw [hm] at hue
  subst hue
  obtain ⟨w0, hw0⟩ : ∃ w0, w0 = (w.alloc (.cells #[.slice pv n cv] 34)).alloc (.cells #[.slice pu m cu] 26) := ⟨_, rfl⟩
  have hb0 : Below w.heap.size w w0 := by rw [hw0]; exact ((Below.refl _ _).alloc (Nat.le_refl _) _).alloc (by simp) _
  have hk1 : w0.heap[w.heap.size]? = some (.cells #[.slice pv n cv] 34 (0, 0)) := by
    rw [hw0]
    exact ((lit_below _ _).block _ (by simp)).trans (heap_alloc_new w _)
  have hk2 : w0.heap[w.heap.size + 1]? = some (.cells #[.slice pu m cu] 26 (0, 0)) := by
    rw [hw0]
    have h := heap_alloc_new (w.alloc (.cells #[.slice pv n cv] 34)) (.cells #[.slice pu m cu] 26)
    rw [lit_size] at h
    exact h
  have HB0 := Lib.hid hb0
  have HK1 := Lib.hid hk1
  have HK2 := Lib.hid hk2
  have HM := Lib.hid hm
  have HU := Lib.hid (hu.below hb0 (Nat.le_refl _))
  have HV := Lib.hid (hv.below hb0 (Nat.le_refl _))
  have HN := Lib.hid hn
  have HL := Lib.hid hl
  have hm5 : m ≤ 100000 := by omega
  have HW := Lib.hid hw0
  have HCON := Lib.hid (fun (wc : World) (hb : Below w0.heap.size w0 wc) => containsL_any B (.pointer (some ⟨w.heap.size + 1, 0, none⟩)) (partB f) L (.slice pv n cv) wc (fun w' hb' u' xs hux hxs => by
      have hb2 := hb.trans (hb'.mono hb.size)
      have hc := (one_at ((hb2.block _ (Array.getElem?_eq_some_iff.1 HK2.out).1).trans HK2.out)).1
      exact has1_any (w.heap.size + 1) f xs u' (.slice pu m cu) w' hc (HU.out.below hb2 (Nat.le_refl _)) hux (by omega) hxs) (HV.out.below hb (Nat.le_refl _)) (by omega) (fun l h => by have := hl l h; omega))
  unfold Gives at HCON
  have hlt2 : w.heap.size + 1 < w0.heap.size := (Array.getElem?_eq_some_iff.1 hk2).1
  have hlt1 : w.heap.size < w0.heap.size := by omega
  clear hv hu hn hl hf hLn hm hw0 hb0 hk1 hk2
  by_cases hm0 : m = 0
  · have HR : Hid (hasB L f = false) := by
      have : f = [] := List.length_eq_zero_iff.1 (by rw [HM.out]; exact hm0)
      unfold Hid hasB
      rw [this]; rfl
    rw [HR.out]
    have q0 : ((m : Int) == 0) = true := beq_iff_eq.2 (by omega)
    have q1 : (m == 0) = true := beq_iff_eq.2 hm0
    have hc2 := (one_at HK2.out).1
    clear hm0
    go_enter Tryz.func77, Tryz.ntmps77
    go_wp2_with fail
    rw [← HW.out]
    go_quiet (fail)
    go_wp2_with fail
    go_ret
    exact ⟨rfl, HB0.out.trans ((Below.drewN w0 _).mono HB0.out.size)⟩
  · have q0 : ((m : Int) == 0) = false := beq_eq_false_iff_ne.2 (by omega)
    have q1 : (m == 0) = false := beq_eq_false_iff_ne.2 hm0
    have hm1 : 0 < m := by omega
    obtain ⟨s, hs⟩ : ∃ s, riseB f = s := ⟨_, rfl⟩
    have HIS := Lib.hid (fun d => isSorted_any f (.slice pu m cu) (w0.drewN d) (show IntsAt (w0.drewN d) _ f from HU.out) (by rw [HM.out]; omega))
    unfold Drew at HIS
    rw [hs] at HIS
    have HS := Lib.hid hs
    have hc2 := (one_at HK2.out).1
    have hc1 := (one_at HK1.out).1
    clear hm0 hs
    cases s with
    | false =>
      have HR : Hid (hasB L f = false) := by
        unfold Hid hasB
        rw [HS.out]; simp
      rw [HR.out]
      go_enter Tryz.func77, Tryz.ntmps77
      go_wp2_with fail
      rw [← HW.out]
      go_quiet ((go_at_call 106; exact Calls.quiet_of (HIS.out _)))
      go_wp2_with fail
      go_ret
      exact ⟨rfl, HB0.out.trans ((Below.drewN w0 _).mono HB0.out.size)⟩
    | true =>
      have HIS1 := Lib.hid (isSorted_any f (.slice pu m cu) w0.drew (show IntsAt w0.drew _ f from HU.out) (by rw [HM.out]; omega))
      unfold Drew at HIS1
      rw [HS.out] at HIS1
      have HC2 := Lib.hid hc2
      have HCL := Lib.hid (fun (w5 : World) (hb : Below w0.heap.size w0 w5) => clone_any f (.slice pu m cu) w5 (HU.out.below hb (Nat.le_refl _)) (by rw [HM.out]; exact hm1) (by rw [HM.out]; exact hm5))
      unfold ClonePost at HCL
      rw [HM.out] at HCL
      have HCO := Lib.hid (fun (O g cap : Nat) (w6 : World) (ho : w6.ownsRow O 3 1 (.slice (some ⟨g, 0, none⟩) f.length cap) f.length (intVs f)) => compact_any f O g cap w6 ho (by rw [HM.out]; exact hm5))
      unfold CompactPost at HCO
      rw [HM.out] at HCO
      have HPW : Hid (f.Pairwise (· ≤ ·)) := by unfold Hid; have := HS.out; unfold riseB at this; exact of_decide_eq_true this
      clear HIS
      go_enter Tryz.func77, Tryz.ntmps77
      go_wp2_with fail
      rw [← HW.out]
      go_region_law (first
        | (go_simp
           go_at_call 106
           refine HIS1.out.mono ?_
           rintro e w5 ⟨rfl, d5, hd5⟩
           have hb5 : Below w0.heap.size w0 w5 := by rw [hd5]; exact ((Below.refl w0.heap.size w0).drew).trans (Below.drewN w0.drew d5)
           clear hd5
           have hc25 := (hb5.cell (p := ⟨w.heap.size + 1, 0, none⟩) hlt2).trans HC2.out)
        | (go_simp
           go_at_call 59
           refine (HCL.out w5 hb5).mono ?_
           rintro e w6 ⟨g, cap, rfl, hb56, ho6⟩
           have hb6 := hb5.trans (hb56.mono hb5.size)
           have hc26 := (hb6.cell (p := ⟨w.heap.size + 1, 0, none⟩) hlt2).trans HC2.out
           have hg6 := (ho6.lt g rfl).1)
        | (go_simp
           go_at_call 103
           refine (HCO.out _ g cap w6 ho6).mono ?_
           rintro e w7 ⟨k7, rfl, hg7, hk7, hn7⟩
           have hb7 := hb6.grown hg7 hb6.size (fun q e => by have h2 := Option.some.inj e; have h3 := hb5.size; omega)
           have hc27 := (hb7.cell (p := ⟨w.heap.size + 1, 0, none⟩) hlt2).trans HC2.out
           have hc17 := (hb7.cell (p := ⟨w.heap.size, 0, none⟩) hlt1).trans (one_at HK1.out).1
           have HN7 := Lib.hid (hn7 HPW.out)
           clear hn7 hg7))
      all_goals
        have HB7 := Lib.hid (HB0.out.trans (hb7.mono HB0.out.size))
        have HCN := Lib.hid (HCON.out w7 hb7)
        by_cases hkm : k7 < m
        · have HR : Hid (hasB L f = false) := by
            have hnd : ¬ f.Nodup := fun h => by have := HN7.out.2 h; omega
            unfold Hid hasB
            rw [decide_eq_false hnd]; simp
          have q2 : decide (k7 < m) = true := decide_eq_true hkm
          have q3 : decide ((k7 : Int) < (m : Int)) = true := decide_eq_true (by omega)
          clear hb5 hb6 hb56 hb7
          go_wp2_with fail
          go_ret
          exact ⟨ret_bool HR.out.symm, HB7.out⟩
        · have hkm2 : k7 = m := by omega
          have HR : Hid (hasB L f = L.any (partB f)) := by
            have h1 := HN7.out.1 hkm2
            have h2 : f ≠ [] := List.length_pos_iff.1 (by rw [HM.out]; exact hm1)
            unfold Hid hasB
            rw [HS.out, decide_eq_true h1, decide_eq_true h2]; simp
          have q2 : decide (k7 < m) = false := decide_eq_false hkm
          have q3 : decide ((k7 : Int) < (m : Int)) = false := decide_eq_false (by omega)
          clear hb5 hb6 hb56 hb7 hkm2
          go_wp2_with fail
          refine HCN.out.mono ?_
          rintro e w8 ⟨rfl, hb8⟩
          have HB8 := Lib.hid (HB7.out.trans (hb8.mono HB7.out.size))
          clear hb8
          go_wp2_with fail
          go_ret
          exact ⟨ret_bool HR.out.symm, HB8.out⟩

set_option maxRecDepth 100000 in
set_option maxHeartbeats 8000000 in
theorem Has_any (a : Nat → Addr) (B : Nat) (L : List (List Int)) (f : List Int) (v u : Value) (w : World) (hS : Sents w a) (hB : B ≤ w.heap.size) (hv : ListsIn B w v L) (hu : IntsAt w u f) (hn : L.length ≤ 100000) (hl : ∀ l ∈ L, l.length ≤ 100000) (hf : f.length ≤ 100000) :
    Calls Tryz.prog 35 #[.agg #[v], u] w (FacPost a L (fun _ x => x = .bool (hasB L f)) (.bool false) w) := by
  obtain ⟨pv, cv, hve, -⟩ := id hv
  generalize hLn : L.length = n at hve
  subst hve
  have hb0 : Below w.heap.size w (w.alloc (.cells #[.slice pv n cv] 34)) := (Below.refl _ _).alloc (Nat.le_refl _) _
  have HB0 := Lib.hid hb0
  have HC := Lib.hid (valid_any a B L (.slice pv n cv) _ (hS.below hb0 (Nat.le_refl _)) (Nat.le_trans hB hb0.size) (hv.below hb0 (Nat.le_refl _)) hn hl)
  have HH := Lib.hid (fun (w1 : World) (hb : Below w.heap.size w w1) => has_any B L f (.slice pv n cv) u w1 (hv.below hb (Nat.le_refl _)) (hu.below hb (Nat.le_refl _)) hn hl hf)
  unfold ValP at HC
  unfold Gives at HH
  clear hS hB hv hn hl hb0 hLn hu hf
  go_enter Tryz.func35, Tryz.ntmps35
  go_wp2_with fail
  refine HC.out.mono ?_
  rintro e w1 ⟨hb1, ⟨he, rfl⟩ | ⟨k, hk, hek, rfl⟩⟩
  · have hcv : w1.cell? ⟨w.heap.size, 0, none⟩ = some (.slice pv n cv) := (one_at (t := 34) ((hb1.block _ (by simp)).trans (heap_alloc_new w _))).1
    have hb01 := HB0.out.trans (hb1.mono HB0.out.size)
    have HB1 := Lib.hid hb01
    have HE := Lib.hid he
    have HH1 := Lib.hid (HH.out w1 hb01)
    clear hb1 he hb01
    go_wp2_with fail
    refine HH1.out.mono ?_
    rintro e w2 ⟨rfl, hb2⟩
    have HB2 := Lib.hid (HB1.out.trans (hb2.mono HB1.out.size))
    clear hb2
    go_wp2_with fail
    go_ret2
    exact FacPost.ok HB2.out HE.out rfl
  · have HB1 := Lib.hid (HB0.out.trans (hb1.mono HB0.out.size))
    have HEK := Lib.hid hek
    clear hb1 hek
    unfold errE
    go_wp2_with fail
    go_ret2
    exact FacPost.err HB1.out hk HEK.out
end Go.Proofs.YtipblphfjejpbaaGreatDoor
