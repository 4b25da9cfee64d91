/-
  The references' FacetsOf and SameLists by contracts; Made, ComplexError; the law's Few, Little.
-/
import Derived.Test.YtoheffkiohfmoaaGreatDoorCRefD
namespace Go.Proofs.YtoheffkiohfmoaaGreatDoor
open Go Go.RowKit

/-- does a face lie in a greater one? -/
def inB (A : List (List Int)) (f : List Int) : Bool := A.any fun g => decide (f.length < g.length) && partB f g
theorem isTop_in (A : List (List Int)) (f : List Int) : isTop A f = !inB A f := rfl
theorem inB_snoc (A : List (List Int)) (g f : List Int) : inB (A ++ [g]) f = (inB A f || (decide (f.length < g.length) && partB f g)) := by unfold inB; rw [List.any_append]; simp
def facTo (A : List (List Int)) (j : Nat) : List (List Int) := (A.take j).filter (isTop A)
theorem facTo_step (A : List (List Int)) (j : Nat) (h : j < A.length) : facTo A (j + 1) = facTo A j ++ (if isTop A (A.getD j []) = true then [A.getD j []] else []) := by
  unfold facTo
  rw [take_snoc_getD [] A j h, List.filter_append]
  by_cases h : isTop A (A.getD j []) = true
  · rw [if_pos h, List.filter_cons_of_pos h]; rfl
  · rw [if_neg h, List.filter_cons_of_neg h]; rfl
theorem facTo_all (A : List (List Int)) : facTo A A.length = facetsF A := by unfold facTo; rw [List.take_length]; rfl
theorem facTo_len (A : List (List Int)) (j : Nat) : (facTo A j).length ≤ j := by
  unfold facTo
  have h1 := List.length_filter_le (isTop A) (A.take j)
  have h2 : (A.take j).length ≤ j := List.length_take_le _ _
  omega
theorem cells_at {B : Nat} {w : World} {b off n c : Nat} {L : List (List Int)} (h : ListsIn B w (.slice (some ⟨b, off, none⟩) n c) L) (i : Nat) (hi : i < L.length) :
    ∃ p cc, w.cell? ⟨b, off + i, none⟩ = some (.slice p (L.getD i []).length cc) ∧ IntsIn B w (.slice p (L.getD i []).length cc) (L.getD i []) := by
  obtain ⟨b', off', c', u, e, -, h1, h2⟩ := h.at_ne i hi
  cases e
  obtain ⟨p, cc, rfl⟩ := h2.len
  exact ⟨p, cc, h1, h2⟩
theorem ListsIn.form {B : Nat} {w : World} {v : Value} {L : List (List Int)} (h : ListsIn B w v L) (hp : 0 < L.length) : ∃ b off c, v = .slice (some ⟨b, off, none⟩) L.length c := by
  obtain ⟨b, off, c, u, e, -⟩ := h.at_ne 0 hp
  exact ⟨b, off, c, e⟩

def ListPost (B : Nat) (L : List (List Int)) (w : World) (e : Ending) (w' : World) : Prop := ∃ v, e = .returned v ∧ Below w.heap.size w w' ∧ RowsO w.heap.size B w' v L

set_option maxRecDepth 100000 in
set_option maxHeartbeats 8000000 in
theorem facets_any (B : Nat) (A : List (List Int)) (v : Value) (w : World) (hB : B ≤ w.heap.size) (hv : ListsIn B w v A) (hn : A.length ≤ 100000) (hl : ∀ l ∈ A, l.length ≤ 100000) :
    Calls Tryz.prog 52 #[v] w (ListPost B (facetsF A) w) := by
  obtain ⟨i39, hi39, hz0, hz1, hz2⟩ := info_parts Tryz.info51
  obtain ⟨pv, cv, hve, -⟩ := id hv
  obtain ⟨n, hLn⟩ : ∃ n, A.length = n := ⟨_, rfl⟩
  rw [hLn] at hve hn
  subst hve
  have HLN := Lib.hid hLn
  have HV := Lib.hid hv
  have HB := Lib.hid hB
  have HL := Lib.hid hl
  clear hLn hv hB hl
  go_enter Tryz.func52, Tryz.ntmps52
  go_wp2_with fail
  go_loopw [3, 4] (fun s i wr => ∃ j : Nat, j ≤ n ∧ i = .int .i64 j ∧ Below w.heap.size w wr ∧ RowsO w.heap.size B wr s (facTo A j)) (fun _ i _ => n - (intOf i).toNat)
  case atStart => exact ⟨0, Nat.zero_le _, rfl, Below.refl _ _, RowsO.nil _ _ _⟩
  case round =>
    obtain ⟨j, hj, rfl, hb, hR⟩ := hrel
    have HBR := Lib.hid hb
    have HR := Lib.hid hR
    clear hb hR
    by_cases hjn : j < n
    · obtain ⟨b, off, c, hve⟩ := HV.out.form (by rw [HLN.out]; omega)
      rw [HLN.out] at hve
      obtain ⟨rfl, rfl⟩ : pv = some ⟨b, off, none⟩ ∧ cv = c := by cases hve; exact ⟨rfl, rfl⟩
      have HVR := Lib.hid (HV.out.below HBR.out (Nat.le_refl _))
      have hjL : j < A.length := by rw [HLN.out]; exact hjn
      obtain ⟨pj, cj, hcj, hij⟩ := cells_at HVR.out j hjL
      have HIJ := Lib.hid hij
      have HCJ := Lib.hid hcj
      have HLJ := Lib.hid (HL.out _ (getL_mem hjL))
      have HST := Lib.hid (facTo_step A j hjL)
      have HTOP : Hid (isTop A (A.getD j []) = !inB A (A.getD j [])) := rfl
      obtain ⟨f, hf⟩ : ∃ f, A.getD j [] = f := ⟨_, rfl⟩
      rw [hf] at HIJ HLJ HST HTOP HCJ
      obtain ⟨nf, hnf⟩ : ∃ nf, f.length = nf := ⟨_, rfl⟩
      rw [hnf] at HIJ HLJ HCJ
      have HNF := Lib.hid hnf
      clear hve hij hcj hf hnf hjL
      go_wp2_with fail
      obtain ⟨wo, rfl⟩ : ∃ wo : World, wo = wr := ⟨_, rfl⟩
      go_loopw [5, 6] (fun s k wr => ∃ k' : Nat, k' ≤ n ∧ k = .int .i64 k' ∧ s = .bool (inB (A.take k') f) ∧ Below wo.heap.size wo wr) (fun _ k _ => n - (intOf k).toNat)
      case atStart => exact ⟨0, Nat.zero_le _, rfl, rfl, Below.refl _ _⟩
      case round =>
        obtain ⟨k, hk, rfl, rfl, hbo⟩ := hrel
        have HBO := Lib.hid hbo
        clear hbo
        cases hin : inB (A.take k) f with
        | true =>
          have HNX : Hid (facTo A (j + 1) = facTo A j) := by
            unfold Hid
            have : inB A f = true := by
              obtain ⟨g, h1, h2⟩ := List.any_eq_true.1 hin
              exact List.any_eq_true.2 ⟨g, List.mem_of_mem_take h1, h2⟩
            rw [HST.out, HTOP.out, this]; simp
          have HBF := Lib.hid (HBR.out.trans (HBO.out.mono HBR.out.size))
          have HRF := Lib.hid (HR.out.below HBO.out (Nat.le_refl _))
          clear hin
          by_cases hkn : k < n
          · have g1 : decide (k < n) = true := decide_eq_true hkn
            go_wp2_with fail
            go_roundw
            case rel => exact ⟨j + 1, by omega, by go_num, HBF.out, by rw [HNX.out]; exact HRF.out⟩
            case measure => simp [intOf]; omega
          · have g1 : decide (k < n) = false := decide_eq_false hkn
            go_wp2_with fail
            go_roundw
            case rel => exact ⟨j + 1, by omega, by go_num, HBF.out, by rw [HNX.out]; exact HRF.out⟩
            case measure => simp [intOf]; omega
        | false =>
          by_cases hkn : k < n
          · have hkL : k < A.length := by rw [HLN.out]; exact hkn
            have g1 : decide (k < n) = true := decide_eq_true hkn
            obtain ⟨pk, ck, hck, hik⟩ := cells_at (HVR.out.below HBO.out (Nat.le_refl _)) k hkL
            have hlk := HL.out _ (getL_mem hkL)
            have hst : inB (A.take (k + 1)) f = (decide (f.length < (A.getD k []).length) && partB f (A.getD k [])) := by rw [take_snoc_getD [] A k hkL, inB_snoc, hin]; rfl
            have hcj := (HBO.out.cell (p := ⟨b, off + j, none⟩) (mem_lt HCJ.out)).trans HCJ.out
            obtain ⟨g, hg⟩ : ∃ g, A.getD k [] = g := ⟨_, rfl⟩
            rw [hg] at hck hik hlk hst
            have HPT := Lib.hid (fun d : Nat => partOf_any f g _ _ (wr.drewN d) ((HIJ.out.below HBO.out (Nat.le_refl _)).below (Below.drewN wr d) (Nat.le_refl _)).at (hik.below (Below.drewN wr d) (Nat.le_refl _)).at (by rw [HNF.out]; exact Nat.le_trans HLJ.out (by decide)) (by omega))
            unfold Same at HPT
            obtain ⟨ng, hng⟩ : ∃ ng, g.length = ng := ⟨_, rfl⟩
            rw [HNF.out, hng] at hst
            rw [hng] at hck HPT
            have HST2 := Lib.hid hst
            clear hin hkL hik hlk hst hg hng
            by_cases hlt : nf < ng
            · have g2 : decide (nf < ng) = true := decide_eq_true hlt
              rw [g2, Bool.true_and] at HST2
              go_wp2_with fail
              go_quiet ((go_at_call 82; exact Calls.quiet_of_same (HPT.out _)))
              have hbq : Below wr.heap.size wr (wr.drewN nq) := Below.drewN _ _
              generalize wr.drewN nq = wq at hbq ⊢
              have HBQ := Lib.hid (HBO.out.trans (hbq.mono HBO.out.size))
              clear hbq HPT hcj hck
              go_wp2_with fail
              go_roundw
              case rel => exact ⟨k + 1, by omega, by go_num, by rw [HST2.out], HBQ.out⟩
              case measure => simp [intOf]; omega
            · have g2 : decide (nf < ng) = false := decide_eq_false hlt
              rw [g2, Bool.false_and] at HST2
              go_wp2_with fail
              go_quiet ((go_at_call 82; exact Calls.quiet_of_same (HPT.out _)))
              have hbq : Below wr.heap.size wr (wr.drewN nq) := Below.drewN _ _
              generalize wr.drewN nq = wq at hbq ⊢
              have HBQ := Lib.hid (HBO.out.trans (hbq.mono HBO.out.size))
              clear hbq HPT hcj hck
              go_wp2_with fail
              go_roundw
              case rel => exact ⟨k + 1, by omega, by go_num, by rw [HST2.out], HBQ.out⟩
              case measure => simp [intOf]; omega
          · obtain rfl : k = n := by omega
            have g1 : decide (k < k) = false := decide_eq_false (by omega)
            have HNX : Hid (facTo A (j + 1) = facTo A j ++ [f]) := by
              unfold Hid
              have : inB A f = false := by rwa [List.take_of_length_le (by rw [HLN.out]; exact Nat.le_refl _)] at hin
              rw [HST.out, HTOP.out, this]; simp
            have HBF := Lib.hid (HBR.out.trans (HBO.out.mono HBR.out.size))
            have HRF := Lib.hid (HR.out.below HBO.out (Nat.le_refl _))
            have HIF := Lib.hid (HIJ.out.below HBO.out (Nat.le_refl _))
            have hcj := (HBO.out.cell (p := ⟨b, off + j, none⟩) (mem_lt HCJ.out)).trans HCJ.out
            have hsz := HBF.out.size
            have hfl := facTo_len A j
            obtain ⟨m, hm⟩ : ∃ m, (facTo A j).length = m := ⟨_, rfl⟩
            rw [hm] at hfl
            have HM := Lib.hid hm
            obtain ⟨hs1, ho1, hl1, hi1⟩ := HRF.out
            rw [hm] at ho1
            have HO1 := Lib.hid ho1
            have HL1 := Lib.hid hl1
            have HI1 := Lib.hid hi1
            clear hin hm ho1 hl1 hi1
            go_wp2_with (at_builtin; go_must (refine wpList_append_own _ rfl _ _ 22 rfl w.heap.size 51 i39 (.slice none 0 0) 1 24 Tryz.underlying22 hi39 hz0 hz1 hz2 rfl (by decide) _ m _ rfl (HO1.out.alloc _) ⟨wr.heap.size, 0, none⟩ 1 1 [.slice pj nf cj] rfl rfl (cells_new _ _ _) (fun u hu => by simp at hu; subst hu; rfl) (by unfold maxLen; omega) (by omega) (by simp; omega) ?_); intro v2 w2 hown2 hgr2 _; have HO2 := Lib.hid hown2; have HG2 := Lib.hid hgr2; clear hown2 hgr2)
            go_roundw
            case rel =>
              have hbA : Below wr.heap.size wr (wr.alloc (.cells #[.slice pj nf cj] 51)) := (Below.refl _ _).alloc (Nat.le_refl _) _
              refine ⟨j + 1, by omega, by go_num, (HBF.out.alloc hsz _).grown HG2.out (by simp; omega) (fun i hi => (HO1.out.lt i hi).1), ?_⟩
              rw [HNX.out]
              exact rowsO_push (w := wr.alloc (.cells #[.slice pj nf cj] 51)) (hs := hs1) HB.out (by rw [HM.out]; exact HO1.out.alloc _) (HL1.out) (fun i hi => (HI1.out i hi).below hbA (Nat.le_refl _)) (HIF.out.below hbA (Nat.le_refl _)) (by rw [HM.out]; exact HO2.out) HG2.out
            case measure => simp [intOf]; omega
    · obtain rfl : j = n := by omega
      have HE : Hid (facTo A j = facetsF A) := by unfold Hid; rw [← HLN.out]; exact facTo_all A
      go_wp2_with fail
      go_ret
      refine ⟨_, rfl, HBR.out, ?_⟩
      rw [← HE.out]
      exact HR.out

set_option maxRecDepth 100000 in
set_option maxHeartbeats 8000000 in
theorem sameLists_any (r : Bool) (B B' : Nat) (L M : List (List Int)) (u v : Value) (w : World) (hr : r = decide (L = M)) (hu : ListsIn B w u L) (hv : ListsIn B' w v M) (hn : L.length ≤ 100000) (hm : M.length ≤ 100000) (hl : ∀ l ∈ L, l.length ≤ 100000) (hl2 : ∀ l ∈ M, l.length ≤ 100000) :
    Calls Tryz.prog 22 #[u, v] w (Drew (.bool r) w) := by
  obtain ⟨pu, cu, hue, -⟩ := id hu
  obtain ⟨pv, cv, hve, -⟩ := id hv
  obtain ⟨n, hLn⟩ : ∃ n, L.length = n := ⟨_, rfl⟩
  obtain ⟨m, hMm⟩ : ∃ m, M.length = m := ⟨_, rfl⟩
  rw [hLn] at hue hn
  rw [hMm] at hve hm
  subst hue
  subst hve
  have HR := Lib.hid hr
  have HN := Lib.hid hLn
  have HM := Lib.hid hMm
  have HU := Lib.hid hu
  have HV := Lib.hid hv
  have HL := Lib.hid hl
  have HL2 := Lib.hid hl2
  clear hr hLn hMm hu hv hl hl2
  by_cases hnm : n = m
  · subst hnm
    go_enter Tryz.func22, Tryz.ntmps22
    go_wp2_with fail
    go_loopw [5] (fun i wr => ∃ k z : Nat, k ≤ n ∧ i = .int .i64 k ∧ L.take k = M.take k ∧ wr = w.drewN z) (fun i _ => n - (intOf i).toNat)
    case atStart => exact ⟨0, 0, Nat.zero_le _, rfl, rfl, rfl⟩
    case round =>
      obtain ⟨k, z, hk, rfl, htk, hz⟩ := hrel
      have HT := Lib.hid htk
      have HZ := Lib.hid hz
      have HBW : Hid (Below w.heap.size w wr) := by unfold Hid; rw [hz]; exact Below.drewN w z
      clear htk hz
      by_cases hkn : k < n
      · have hkL : k < L.length := by rw [HN.out]; exact hkn
        have hkM : k < M.length := by rw [HM.out]; exact hkn
        obtain ⟨b1, o1, c1, e1⟩ := HU.out.form (by omega)
        obtain ⟨b2, o2, c2, e2⟩ := HV.out.form (by omega)
        obtain ⟨rfl, rfl⟩ : pu = some ⟨b1, o1, none⟩ ∧ cu = c1 := by cases e1; exact ⟨rfl, rfl⟩
        obtain ⟨rfl, rfl⟩ : pv = some ⟨b2, o2, none⟩ ∧ cv = c2 := by cases e2; exact ⟨rfl, rfl⟩
        obtain ⟨p1, d1, hc1, hi1⟩ := cells_at (HU.out.below HBW.out (Nat.le_refl _)) k hkL
        obtain ⟨p2, d2, hc2, hi2⟩ := cells_at (HV.out.below HBW.out (Nat.le_refl _)) k hkM
        have HS := Lib.hid (fun d : Nat => sameInts_any _ _ (L.getD k []) (M.getD k []) (wr.drewN d) (hi1.below (Below.drewN wr d) (Nat.le_refl _)).at (hi2.below (Below.drewN wr d) (Nat.le_refl _)).at (Nat.le_trans (HL.out _ (getL_mem hkL)) (by decide)) (Nat.le_trans (HL2.out _ (getL_mem hkM)) (by decide)))
        by_cases he : L.getD k [] = M.getD k []
        · have HNX : Hid (L.take (k + 1) = M.take (k + 1)) := by
            unfold Hid
            rw [take_snoc_getD [] L k hkL, take_snoc_getD [] M k hkM, HT.out, he]
          rw [decide_eq_true he] at HS
          generalize (L.getD k []).length = x1 at hc1 HS
          generalize (M.getD k []).length = x2 at hc2 HS
          clear he hkL hkM hi1 hi2 e1 e2
          go_wp2_with fail
          go_quiet ((go_at_call 27; exact Calls.quiet_of (HS.out _)))
          go_wp2_with fail
          go_roundw
          case rel => exact ⟨k + 1, z + nq, by omega, by go_num, HNX.out, by rw [HZ.out, World.drewN_drewN]⟩
          case measure => simp [intOf]; omega
        · have HNE : Hid (r = false) := HR.out.trans (decide_eq_false fun e => he (by rw [e]))
          rw [decide_eq_false he] at HS
          generalize (L.getD k []).length = x1 at hc1 HS
          generalize (M.getD k []).length = x2 at hc2 HS
          clear he hkL hkM hi1 hi2 e1 e2
          go_wp2_with fail
          go_quiet ((go_at_call 27; exact Calls.quiet_of (HS.out _)))
          go_wp2_with fail
          go_ret
          exact ⟨ret_bool HNE.out.symm, z + nq, by rw [HZ.out, World.drewN_drewN]⟩
      · obtain rfl : k = n := by omega
        have HEQ : Hid (r = true) := HR.out.trans (decide_eq_true (by
          have h := HT.out
          rwa [List.take_of_length_le (by rw [HN.out]; exact Nat.le_refl _), List.take_of_length_le (by rw [HM.out]; exact Nat.le_refl _)] at h))
        go_wp2_with fail
        go_ret
        exact ⟨ret_bool HEQ.out.symm, z, HZ.out⟩
  · have HNE : Hid (r = false) := HR.out.trans (decide_eq_false fun e => hnm (by rw [← HN.out, ← HM.out, e]))
    have q : ((n : Int) != (m : Int)) = true := by rw [bne_iff_ne]; omega
    have q' : (n != m) = true := by rw [bne_iff_ne]; exact hnm
    clear hnm
    go_enter Tryz.func22, Tryz.ntmps22
    go_wp2_with fail
    go_ret
    exact ⟨ret_bool HNE.out.symm, 0, rfl⟩
end Go.Proofs.YtoheffkiohfmoaaGreatDoor
