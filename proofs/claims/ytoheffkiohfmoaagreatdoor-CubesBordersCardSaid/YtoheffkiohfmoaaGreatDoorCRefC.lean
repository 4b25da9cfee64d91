/-
  The references' Put by a contract: a face put into a sorted list of faces. Condition: the list reads as a sorted one.
-/
import Derived.Test.YtoheffkiohfmoaaGreatDoorCRefB
namespace Go.Proofs.YtoheffkiohfmoaaGreatDoor
open Go Go.RowKit

theorem run_from_lists (b off m cap k : Nat) (hk : k ≤ m) (w : World) :
    (Instr.slice 22 (.slice (some ⟨b, off, none⟩) m cap) (some (.int .i64 (k : Int))) none none).run Tryz.prog w = .ok (.slice (some (fromA b off k cap)) (m - k) (cap - k)) w := by
  have h1 : (0 : Int) ≤ (k : Int) ∧ (k : Int) ≤ (m : Int) := by omega
  have h2 : ¬ m < k := by omega
  unfold fromA
  by_cases hc : cap = k
  · simp [Instr.slice, Instr.sliceBounds, Instr.sliceBound, asIntOf, run_underlying Tryz.underlying22, h1, h2, hc]
  · simp [Instr.slice, Instr.sliceBounds, Instr.sliceBound, asIntOf, run_underlying Tryz.underlying22, h1, h2, hc, add_off]

def PutPost (B : Nat) (L : List (List Int)) (f : List Int) (w : World) (e : Ending) (w' : World) : Prop :=
  ∃ v, e = .returned v ∧ Below w.heap.size w w' ∧ ListsIn B w' v (putF L f)

theorem getL_mem {L : List (List Int)} {i : Nat} (h : i < L.length) : L.getD i [] ∈ L := by
  rw [List.getD_eq_getElem?_getD, List.getElem?_eq_getElem h]; exact List.getElem_mem _
theorem sorted_lt {L : List (List Int)} (h : SortedF L) {i j : Nat} (hij : i < j) (hj : j < L.length) : ah (L.getD i []) (L.getD j []) = true := by
  have := List.pairwise_iff_getElem.1 h i j (by omega) hj hij
  rw [List.getD_eq_getElem?_getD, List.getElem?_eq_getElem (show i < L.length by omega), List.getD_eq_getElem?_getD, List.getElem?_eq_getElem hj]
  exact this
theorem getD_take {α : Type} {d : α} {L : List α} {k i : Nat} (h : i < k) : (L.take k).getD i d = L.getD i d := by
  rw [List.getD_eq_getElem?_getD, List.getD_eq_getElem?_getD, List.getElem?_take, if_pos h]
theorem getD_drop {α : Type} {d : α} {L : List α} {k i : Nat} : (L.drop k).getD i d = L.getD (k + i) d := by
  rw [List.getD_eq_getElem?_getD, List.getD_eq_getElem?_getD, List.getElem?_drop]

set_option maxRecDepth 100000 in
set_option maxHeartbeats 4000000 in
theorem put_nil (B : Nat) (f : List Int) (u : Value) (w : World) (hB : B ≤ w.heap.size) (hu : IntsIn B w u f) : Calls Tryz.prog 48 #[.slice none 0 0, u] w (PutPost B [] f w) := by
  obtain ⟨i39, hi39, hz0, hz1, hz2⟩ := info_parts Tryz.info51
  obtain ⟨pu, cu, hue⟩ := hu.len
  obtain ⟨nf, hnf⟩ : ∃ nf, f.length = nf := ⟨_, rfl⟩
  rw [hnf] at hue
  subst hue
  have HU := Lib.hid hu
  have HB := Lib.hid hB
  clear hu hB
  go_enter Tryz.func48, Tryz.ntmps48
  go_wp2_with fail
  go_loopw [5, 6] (fun lo hi wr => lo = .int .i64 0 ∧ hi = .int .i64 0 ∧ wr = w) (fun _ _ _ => 0)
  case atStart => exact ⟨rfl, rfl, rfl⟩
  case round =>
    obtain ⟨rfl, rfl, rfl⟩ := hrel
    go_upto_region 13 with (at_builtin; refine wpList_append_own_none rfl _ _ 22 rfl wr.heap.size 51 i39 1 Tryz.underlying22 hi39 _ 0 [] rfl (World.ownsRow_nil _ _ _ _) rfl ?_)
    go_upto_region 14 with (at_builtin; go_must (refine wpList_append_own _ rfl _ _ 22 rfl wr.heap.size 51 i39 (.slice none 0 0) 1 24 Tryz.underlying22 hi39 hz0 hz1 hz2 rfl (by decide) _ 0 [] rfl (World.ownsRow_nil _ _ _ _) ⟨wr.heap.size, 0, none⟩ 1 1 [.slice pu nf cu] rfl rfl (cells_new _ _ _) (fun u' hu' => by simp at hu'; subst hu'; exact HU.out.one) (by unfold maxLen; omega) (by omega) (by simp) ?_); intro v1 w1 hown1 hgr1 _)
    have hb1 : Below wr.heap.size wr (wr.alloc (.cells #[.slice pu nf cu] 51)) := (Below.refl _ _).alloc (Nat.le_refl _) _
    have HO1 := Lib.hid (show w1.ownsRow wr.heap.size 51 1 v1 1 [.slice pu nf cu] by simpa using hown1)
    have HB1 := Lib.hid (hb1.grown hgr1 (by simp) (fun k hk => by cases hk))
    have HR := Lib.hid (rowsO_push (L := []) HB.out (World.ownsRow_nil _ _ _ _) rfl (fun i h => absurd h (by simp)) (HU.out.below hb1 (Nat.le_refl _)) (by simpa using hown1) hgr1)
    clear hown1 hgr1 hb1
    obtain ⟨g1, c1, rfl⟩ := Joins.ownsRow_form HO1.out (by decide)
    go_wp2_with (at_builtin; refine wpList_append_own_none rfl _ _ 22 rfl wr.heap.size 51 i39 1 Tryz.underlying22 hi39 _ 1 _ rfl HO1.out rfl ?_)
    go_ret
    exact ⟨_, rfl, HB1.out, HR.out.lists⟩

set_option maxRecDepth 100000 in
set_option maxHeartbeats 8000000 in
theorem put_any (B : Nat) (L : List (List Int)) (f : List Int) (v u : Value) (w : World) (hB : B ≤ w.heap.size) (hs : SortedF L) (hv : ListsIn B w v L) (hv0 : L = [] → v = .slice none 0 0) (hu : IntsIn B w u f) (hn : L.length ≤ 1000000)
    (hl : ∀ g ∈ L, g.length ≤ 1000000) (hf : f.length ≤ 1000000) : Calls Tryz.prog 48 #[v, u] w (PutPost B L f w) := by
  rcases Nat.eq_zero_or_pos L.length with h0 | hpos
  · obtain rfl : L = [] := List.length_eq_zero_iff.1 h0
    rw [hv0 rfl]
    exact put_nil B f u w hB hu
  obtain ⟨i39, hi39, hz0, hz1, hz2⟩ := info_parts Tryz.info51
  obtain ⟨b, off, c, hds, rfl, hc, hhl, hcell, hin, hone⟩ := hv.src hpos
  obtain ⟨pu, cu, hue⟩ := hu.len
  obtain ⟨nf, hnf⟩ : ∃ nf, f.length = nf := ⟨_, rfl⟩
  rw [hnf] at hue
  subst hue
  have HNF := Lib.hid hnf
  clear hnf
  obtain ⟨n, hLn⟩ : ∃ n, L.length = n := ⟨_, rfl⟩
  rw [hLn] at hc hhl hin hn hpos ⊢
  have hblt : b < w.heap.size := by
    obtain ⟨x, hx⟩ : ∃ x, hds[0]? = some x := ⟨hds[0], List.getElem?_eq_getElem (by omega)⟩
    exact mem_lt (hcell 0 x hx)
  have HLN := Lib.hid hLn
  have HU := Lib.hid hu
  have HB := Lib.hid hB
  have HCE := Lib.hid hcell
  have HIN := Lib.hid hin
  have HHL := Lib.hid hhl
  have HON := Lib.hid hone
  have HLE := Lib.hid hl
  have HFL := Lib.hid hf
  have HSO := Lib.hid hs
  have HV := Lib.hid hv
  clear hLn hu hB hcell hin hhl hone hl hf hs hv hv0
  go_enter Tryz.func48, Tryz.ntmps48
  go_wp2_with fail
  go_loopw [5, 6] (fun slo shi wr => ∃ lo hi : Nat, lo ≤ hi ∧ hi ≤ n ∧ slo = .int .i64 lo ∧ shi = .int .i64 hi ∧ (∀ i, i < lo → ah (L.getD i []) f = true) ∧ (∀ i, hi ≤ i → i < n → ah (L.getD i []) f = false) ∧ Below w.heap.size w wr) (fun slo shi _ => (intOf shi).toNat - (intOf slo).toNat)
  case atStart => exact ⟨0, n, Nat.zero_le _, Nat.le_refl _, rfl, rfl, fun i h => absurd h (by omega), fun i h h' => absurd h (by omega), Below.refl _ _⟩
  case round =>
    obtain ⟨lo, hi, hlh, hhn, rfl, rfl, hlo, hhi, hb⟩ := hrel
    have HLO := Lib.hid hlo
    have HHI := Lib.hid hhi
    have HBR := Lib.hid hb
    clear hlo hhi hb
    by_cases hlt : lo < hi
    · obtain ⟨m, hm⟩ : ∃ m, m = (lo + hi) / 2 := ⟨_, rfl⟩
      have hml : lo ≤ m ∧ m < hi := by omega
      have hmid : ((lo : Int) + (hi : Int)) / 2 = (m : Int) := by omega
      have hmn : m < n := by omega
      obtain ⟨x, hx⟩ : ∃ x, hds[m]? = some x := ⟨hds[m]'(by rw [HHL.out]; exact hmn), List.getElem?_eq_getElem (by rw [HHL.out]; exact hmn)⟩
      have hc0 := HCE.out m x hx
      have hcx := (HBR.out.cell (p := ⟨b, off + m, none⟩) (mem_lt hc0)).trans hc0
      have hix : IntsIn B w x (L.getD m []) := by
        have := HIN.out m hmn
        rwa [List.getD_eq_getElem?_getD, hx] at this
      have HA := Lib.hid (ahead_any (L.getD m []) f x _ wr ((hix.below HBR.out (Nat.le_refl _)).at) ((HU.out.below HBR.out (Nat.le_refl _)).at) (HLE.out _ (getL_mem (by rw [HLN.out]; exact hmn))) HFL.out)
      clear hm hc0 hix hx
      cases hah : ah (L.getD m []) f with
      | true =>
        have HLO' : Hid (∀ i, i < m + 1 → ah (L.getD i []) f = true) := fun i hi => by
          rcases (show i < m ∨ i = m by omega) with h | rfl
          · exact ah_trans (sorted_lt HSO.out h (by rw [HLN.out]; exact hmn)) hah
          · exact hah
        rw [hah] at HA
        clear hah
        go_wp2_with fail
        refine HA.out.mono ?_
        rintro e w' ⟨rfl, z, rfl⟩
        have HBQ := Lib.hid (HBR.out.trans ((Below.drewN wr z).mono HBR.out.size))
        go_wp2_with fail
        go_roundw
        case rel => exact ⟨m + 1, hi, by omega, by omega, by go_num, rfl, HLO'.out, HHI.out, HBQ.out⟩
        case measure => simp [intOf]; omega
      | false =>
        have HHI' : Hid (∀ i, m ≤ i → i < n → ah (L.getD i []) f = false) := fun i h1 h2 => by
          rcases (show m = i ∨ m < i by omega) with rfl | h
          · exact hah
          · cases hq : ah (L.getD i []) f with
            | false => rfl
            | true => rw [ah_trans (sorted_lt HSO.out h (by rw [HLN.out]; exact h2)) hq] at hah; cases hah
        rw [hah] at HA
        clear hah
        go_wp2_with fail
        refine HA.out.mono ?_
        rintro e w' ⟨rfl, z, rfl⟩
        have HBQ := Lib.hid (HBR.out.trans ((Below.drewN wr z).mono HBR.out.size))
        go_wp2_with fail
        go_roundw
        case rel => exact ⟨lo, m, by omega, by omega, rfl, rfl, HLO.out, HHI'.out, HBQ.out⟩
        case measure => simp [intOf]; omega
    · obtain rfl : lo = hi := by omega
      have hP := putF_take HSO.out f lo (by rw [HLN.out]; exact hhn) HLO.out (fun i h1 h2 => HHI.out i h1 (by rw [← HLN.out]; exact h2))
      rw [HLN.out] at hP
      rcases hP with ⟨hln, heq, hput⟩ | ⟨hne, hput⟩
      · have HPUT := Lib.hid hput
        obtain ⟨x, hx⟩ : ∃ x, hds[lo]? = some x := ⟨hds[lo]'(by rw [HHL.out]; exact hln), List.getElem?_eq_getElem (by rw [HHL.out]; exact hln)⟩
        have hc0 := HCE.out lo x hx
        have hcx := (HBR.out.cell (p := ⟨b, off + lo, none⟩) (mem_lt hc0)).trans hc0
        have hix : IntsIn B w x (L.getD lo []) := by
          have := HIN.out lo hln
          rwa [List.getD_eq_getElem?_getD, hx] at this
        rw [heq] at hix
        have HA := Lib.hid (sameInts_any x _ f f wr ((hix.below HBR.out (Nat.le_refl _)).at) ((HU.out.below HBR.out (Nat.le_refl _)).at) (Nat.le_trans HFL.out (by omega)) (Nat.le_trans HFL.out (by omega)))
        rw [decide_eq_true (rfl : f = f)] at HA
        have g1 : decide (lo < n) = true := decide_eq_true hln
        clear hc0 hix hx heq hput
        go_wp2_with fail
        refine HA.out.mono ?_
        rintro e w' ⟨rfl, z, rfl⟩
        have HBQ := Lib.hid (HBR.out.trans ((Below.drewN wr z).mono HBR.out.size))
        go_wp2_with fail
        go_ret
        exact ⟨_, rfl, HBQ.out, by rw [HPUT.out]; have h := HV.out.below HBQ.out (Nat.le_refl _); rw [HLN.out] at h; exact h⟩
      · have HPUT := Lib.hid hput
        clear hput
        by_cases hln : lo < n
        focus
          obtain ⟨x, hx⟩ : ∃ x, hds[lo]? = some x := ⟨hds[lo]'(by rw [HHL.out]; exact hln), List.getElem?_eq_getElem (by rw [HHL.out]; exact hln)⟩
          have hc0 := HCE.out lo x hx
          have hcx := (HBR.out.cell (p := ⟨b, off + lo, none⟩) (mem_lt hc0)).trans hc0
          have hix : IntsIn B w x (L.getD lo []) := by
            have := HIN.out lo hln
            rwa [List.getD_eq_getElem?_getD, hx] at this
          have HA := Lib.hid (sameInts_any x _ (L.getD lo []) f wr ((hix.below HBR.out (Nat.le_refl _)).at) ((HU.out.below HBR.out (Nat.le_refl _)).at) (Nat.le_trans (HLE.out _ (getL_mem (by rw [HLN.out]; exact hln))) (by omega)) (Nat.le_trans HFL.out (by omega)))
          rw [decide_eq_false (hne lo rfl hln)] at HA
          have g1 : decide (lo < n) = true := decide_eq_true hln
          clear hc0 hix hx hne
          go_wp2_with fail
          refine HA.out.mono ?_
          rintro e w' ⟨rfl, z, rfl⟩
          have hbq := HBR.out.trans ((Below.drewN wr z).mono HBR.out.size)
          generalize wr.drewN z = wz at hbq ⊢
          have HBZ := Lib.hid hbq
          clear hbq hcx HA g1 hln
        rotate_left
        focus
          have g1 : decide (lo < n) = false := decide_eq_false hln
          clear hne
          obtain ⟨wz, hwz⟩ : ∃ wz, wz = wr := ⟨_, rfl⟩
          have HBZ := HBR
          rw [← hwz] at HBZ ⊢
          clear hwz hln
        all_goals
          have hsz := HBZ.out.size
          have hn1 : ∀ q y, (hds.take lo)[q]? = some y → wz.cell? ((⟨b, off, none⟩ : Addr).add q) = some y := fun q y hy => by
            rw [add_off]
            have h1 : hds[q]? = some y := by
              rw [List.getElem?_take] at hy
              split at hy
              · exact hy
              · cases hy
            have h2 := HCE.out q y h1
            rw [HBZ.out.cell (p := ⟨b, off + q, none⟩) (mem_lt h2)]; exact h2
          have HN1 := Lib.hid hn1
          have HL1 := Lib.hid (show (hds.take lo).length = lo * 1 by rw [List.length_take, HHL.out]; omega)
          have HIZ := Lib.hid (fun i (hi : i < n) => (HIN.out i hi).below HBZ.out (Nat.le_refl _))
          have HUZ := Lib.hid (HU.out.below HBZ.out (Nat.le_refl _))
          have HBB := Lib.hid (Nat.le_trans HB.out hsz)
          clear hn1
          go_upto_region 13 with (at_builtin; go_must (refine wpList_append_own _ rfl _ _ 22 rfl wz.heap.size 51 i39 (.slice none 0 0) 1 24 Tryz.underlying22 hi39 hz0 hz1 hz2 rfl (by decide) _ 0 [] rfl (World.ownsRow_nil _ _ _ _) ⟨b, off, none⟩ lo c (hds.take lo) rfl HL1.out HN1.out (fun y hy => HON.out y (List.mem_of_mem_take hy)) (by unfold maxLen; omega) (by omega) (Nat.le_refl _) ?_); intro v1 w1 hown1 hgr1 _)
          have hb1 : Below wz.heap.size wz w1 := (Below.refl _ _).grown hgr1 (Nat.le_refl _) (fun k hk => by cases hk)
          have hR1 := rowsO_app (L := []) (M := L.take lo) (xs := hds.take lo) HBB.out (World.ownsRow_nil _ _ _ _) rfl (fun i h => absurd h (by simp)) (by rw [List.length_take, List.length_take, HHL.out, HLN.out]) (fun i hi => by
            rw [List.length_take, HLN.out] at hi
            rw [getD_take (by omega), getD_take (by omega)]; exact HIZ.out i (by omega)) (by rw [List.length_take, HLN.out, Nat.min_eq_left hhn]; simpa using hown1) hgr1
          obtain ⟨hs1, ho1, hl1, hi1⟩ := hR1
          have e1 : ([] ++ L.take lo).length = lo := by rw [List.nil_append, List.length_take, HLN.out]; omega
          rw [e1] at ho1
          have HE1 := Lib.hid e1
          have HO1 := Lib.hid ho1
          have HI1 := Lib.hid hi1
          have HL1' := Lib.hid hl1
          have HB1 := Lib.hid hb1
          have HU1 := Lib.hid (HUZ.out.below hb1 (Nat.le_refl _))
          have HIZ1 := Lib.hid (fun i (hi : i < n) => (HIZ.out i hi).below hb1 (Nat.le_refl _))
          have hss1 := hb1.size
          clear hown1 hgr1 hb1 ho1 hi1 hl1 e1
          go_upto_region 14 with (at_builtin; go_must (refine wpList_append_own _ rfl _ _ 22 rfl wz.heap.size 51 i39 (.slice none 0 0) 1 24 Tryz.underlying22 hi39 hz0 hz1 hz2 rfl (by decide) _ lo _ rfl (HO1.out.alloc _) ⟨w1.heap.size, 0, none⟩ 1 1 [.slice pu nf cu] rfl rfl (cells_new _ _ _) (fun u' hu' => by simp at hu'; subst hu'; exact HU1.out.one) (by unfold maxLen; omega) (by omega) (by simp; omega) ?_); intro v2 w2 hown2 hgr2 _)
          have hbA : Below w1.heap.size w1 (w1.alloc (.cells #[.slice pu nf cu] 51)) := (Below.refl _ _).alloc (Nat.le_refl _) _
          have hR2 := rowsO_push (L := [] ++ L.take lo) (w := w1.alloc (.cells #[.slice pu nf cu] 51)) (hs := hs1) HBB.out (by rw [HE1.out]; exact HO1.out.alloc _) HL1'.out (fun i hi => (HI1.out i hi).below hbA (Nat.le_refl _)) (HU1.out.below hbA (Nat.le_refl _)) (by rw [HE1.out]; exact hown2) hgr2
          obtain ⟨hs2, ho2, hl2, hi2⟩ := hR2
          have e2 : ([] ++ L.take lo ++ [f]).length = lo + 1 := by simp [HLN.out]; omega
          rw [e2] at ho2
          have HE2 := Lib.hid e2
          have HO2 := Lib.hid ho2
          have HI2 := Lib.hid hi2
          have HL2' := Lib.hid hl2
          have hb2 : Below wz.heap.size wz w2 := (HB1.out.alloc hss1 _).grown hgr2 (by simp; omega) (fun i hi => (HO1.out.lt i hi).1)
          have HB2 := Lib.hid hb2
          have hss2 := hb2.size
          have HIZ2 := Lib.hid (fun i (hi : i < n) => (HIZ.out i hi).below hb2 (Nat.le_refl _))
          have hn2 : ∀ q y, (hds.drop lo)[q]? = some y → w2.cell? ((fromA b off lo c).add q) = some y := fun q y hy => by
            rw [List.getElem?_drop] at hy
            have hlt2 := (List.getElem?_eq_some_iff.1 hy).1
            rw [HHL.out] at hlt2
            rw [fromA_lt (by omega), add_off]
            have h2 := HCE.out (lo + q) y hy
            have h3 := HBZ.out.trans (hb2.mono hsz)
            rw [Nat.add_assoc, h3.cell (p := ⟨b, off + (lo + q), none⟩) (mem_lt h2)]; exact h2
          have HN2 := Lib.hid hn2
          have HL2 := Lib.hid (show (hds.drop lo).length = (n - lo) * 1 by rw [List.length_drop, HHL.out]; omega)
          have hfrom := run_from_lists b off n c lo hhn
          clear hown2 hgr2 hb2 hbA hn2 ho2 hi2 hl2 e2
          go_wp2_with (at_builtin; go_must (refine wpList_append_own _ rfl _ _ 22 rfl wz.heap.size 51 i39 (.slice none 0 0) 1 24 Tryz.underlying22 hi39 hz0 hz1 hz2 rfl (by decide) _ (lo + 1) _ rfl HO2.out (fromA b off lo c) (n - lo) (c - lo) (hds.drop lo) rfl HL2.out HN2.out (fun y hy => HON.out y (List.mem_of_mem_drop hy)) (by unfold maxLen; omega) (by omega) hss2 ?_); intro v3 w3 hown3 hgr3 _; have HG3 := Lib.hid hgr3; have HO3 := Lib.hid hown3; clear hown3 hgr3 hfrom)
          go_ret
          have hb3 := HBZ.out.trans ((HB2.out.grown HG3.out hss2 (fun i hi => (HO2.out.lt i hi).1)).mono hsz)
          have hR3 := rowsO_app (L := [] ++ L.take lo ++ [f]) (M := L.drop lo) (hs := hs2) (xs := hds.drop lo) HBB.out (by rw [HE2.out]; exact HO2.out) HL2'.out HI2.out (by rw [List.length_drop, List.length_drop, HHL.out, HLN.out]) (fun i hi => by
            rw [List.length_drop, HLN.out] at hi
            rw [getD_drop, getD_drop]; exact HIZ2.out (lo + i) (by omega)) (by rw [HE2.out, List.length_drop, HLN.out]; exact HO3.out) HG3.out
          refine ⟨_, rfl, hb3, ?_⟩
          rw [HPUT.out]
          have e : L.take lo ++ f :: L.drop lo = [] ++ L.take lo ++ [f] ++ L.drop lo := by simp
          rw [e]
          exact hR3.lists
end Go.Proofs.YtoheffkiohfmoaaGreatDoor
