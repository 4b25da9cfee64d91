/-
  The document's HeightsError by a contract: heights that serve.
  Heights that serve, by the sorted list: neighbours are unlike (plain).
-/
import Derived.Test.YtddnjimpdidpaaaGreatDoorIxA
import Derived.Deep.QuietTactic
import Derived.BigQuiet
set_option linter.unusedSimpArgs false
set_option linter.unusedVariables false
namespace Go.Proofs.YtddnjimpdidpaaaGreatDoor
open Go Go.RowKit Go.Maps

/-- heights that serve: as many as vertices, in the bound, each once -/
def okH (V h : List Int) : Prop := V.length = h.length ∧ ∀ j, j < h.length → (-1048576 ≤ h.getD j 0 ∧ h.getD j 0 ≤ 1048576) ∧ ∀ k, k < j → h.getD j 0 ≠ h.getD k 0
open Classical in
noncomputable def errH (V h : List Int) : Int := if okH V h then 0 else 3
theorem errH_bad {V h : List Int} (hn : ¬ okH V h) : errH V h = 3 := if_neg hn
theorem errH_ok {V h : List Int} (hn : okH V h) : errH V h = 0 := if_pos hn
set_option maxRecDepth 100000 in
set_option maxHeartbeats 4000000 in
theorem heightsError_any (B : Nat) (A : List (List Int)) (h : List Int) (va vh : Value) (w : World) (hva : ListsIn B w va A) (hn : A.length ≤ 100000) (hl : ∀ l ∈ A, l.length ≤ 100000) (hvh : IntsIn B w vh h) (hlen : h.length ≤ 100000) :
    Calls Tryz.prog 34 #[va, vh] w fun e w' => e = .returned (.int .i64 (errH (vertR A) h)) ∧ Below w.heap.size w w' := by
  have HVO := Lib.hid (verticesOf_any B A va w hva hn hl)
  unfold NumsP at HVO
  have hA := Nat.le_trans (vertR_len A) hn
  obtain ⟨V, hV⟩ : ∃ V, vertR A = V := ⟨_, rfl⟩
  rw [hV] at HVO hA ⊢
  have HVH := Lib.hid hvh
  obtain ⟨ph, ch, hve, -⟩ := id hvh
  obtain ⟨m, hm⟩ : ∃ n, V.length = n := ⟨_, rfl⟩
  obtain ⟨n, hnn⟩ : ∃ n, h.length = n := ⟨_, rfl⟩
  rw [hm] at HVO hA
  rw [hnn] at hve hlen
  subst hve
  have HBAD : Hid (m ≠ n → errH V h = 3) := fun e => errH_bad (fun hk => e (by rw [← hm, ← hnn]; exact hk.1))
  have HBJ : Hid (∀ j, j < n → ¬ ((-1048576 ≤ h.getD j 0 ∧ h.getD j 0 ≤ 1048576) ∧ ∀ k, k < j → h.getD j 0 ≠ h.getD k 0) → errH V h = 3) := fun j hj hb => errH_bad (fun hk => hb (hk.2 j (by rw [hnn]; exact hj)))
  have HOK : Hid (m = n → (∀ j, j < n → (-1048576 ≤ h.getD j 0 ∧ h.getD j 0 ≤ 1048576) ∧ ∀ k, k < j → h.getD j 0 ≠ h.getD k 0) → errH V h = 0) := fun e hb => errH_ok ⟨by rw [hm, hnn]; exact e, fun j hj => hb j (by rw [← hnn]; exact hj)⟩
  have HN := Lib.hid hnn
  obtain ⟨r, hr⟩ : ∃ r, errH V h = r := ⟨_, rfl⟩
  rw [hr] at HBAD HBJ HOK ⊢
  clear hva hn hl hvh hV hnn hm hr
  by_cases hmn : m = n
  rotate_left
  · have q1 : ((m : Int) != (n : Int)) = true := by rw [bne_iff_ne]; omega
    obtain rfl := HBAD.out hmn
    clear hmn
    go_enter Tryz.func34, Tryz.ntmps34
    go_wp2_with fail
    refine HVO.out.mono ?_
    rintro e w1 ⟨pv, cv, rfl, hb, hiv⟩
    have HB := Lib.hid hb
    clear hb hiv HVO
    go_wp2_with fail
    go_ret
    exact ⟨rfl, HB.out⟩
  · have HOK2 := Lib.hid (HOK.out hmn)
    have q1 : ((m : Int) != (n : Int)) = false := by rw [bne_eq_false_iff_eq]; omega
    clear hmn HOK HBAD
    go_enter Tryz.func34, Tryz.ntmps34
    go_wp2_with fail
    refine HVO.out.mono ?_
    rintro e w1 ⟨pv, cv, rfl, hb, hiv⟩
    have HB := Lib.hid hb
    have HH := Lib.hid (HVH.out.below hb (Nat.le_refl _))
    clear hb hiv HVO HVH
    go_wp2_with fail
    go_loopw [5, 6] (fun i _ wr => ∃ j q : Nat, j ≤ n ∧ i = .int .i64 (j : Int) ∧ wr = w1.drewN q ∧ ∀ t, t < j → (-1048576 ≤ h.getD t 0 ∧ h.getD t 0 ≤ 1048576) ∧ ∀ k, k < t → h.getD t 0 ≠ h.getD k 0) (fun i _ _ => n - (intOf i).toNat)
    case atStart => exact ⟨0, 0, Nat.zero_le _, rfl, rfl, fun t ht => absurd ht (Nat.not_lt_zero t)⟩
    case round =>
      obtain ⟨j, q, hj, rfl, rfl, hgd⟩ := hrel
      have HGD := Lib.hid hgd
      clear hgd
      by_cases hjn : j < n
      · obtain ⟨b, off, c', e1, e2⟩ := ints_cell HH.out j (by rw [HN.out]; exact hjn)
        rw [HN.out] at e1
        obtain ⟨rfl, rfl⟩ : ph = some ⟨b, off, none⟩ ∧ ch = c' := by cases e1; exact ⟨rfl, rfl⟩
        clear e1
        have HBJ2 := Lib.hid (HBJ.out j hjn)
        obtain ⟨x, hx⟩ : ∃ x, h.getD j 0 = x := ⟨_, rfl⟩
        rw [hx] at e2 HBJ2
        have HX := Lib.hid hx
        clear hx
        by_cases hlo : x < -1048576 ∨ 1048576 < x
        · obtain rfl := HBJ2.out (fun hh => by omega)
          by_cases h1 : 1048576 < x
          · have g1 : decide (1048576 < x) = true := decide_eq_true h1
            clear hlo h1
            go_wp2_with fail
            go_ret
            exact ⟨rfl, HB.out.trans ((Below.drewN w1 q).mono HB.out.size)⟩
          · have g1 : decide (1048576 < x) = false := decide_eq_false h1
            have g2 : decide (x < -1048576) = true := decide_eq_true (by omega)
            clear hlo h1
            go_wp2_with fail
            go_ret
            exact ⟨rfl, HB.out.trans ((Below.drewN w1 q).mono HB.out.size)⟩
        · have g1 : decide (1048576 < x) = false := decide_eq_false (by omega)
          have g2 : decide (x < -1048576) = false := decide_eq_false (by omega)
          have HLO : Hid (-1048576 ≤ x ∧ x ≤ 1048576) := by unfold Hid; omega
          clear hlo
          go_wp2_with fail
          go_loopw [6] (fun k wr => ∃ t q : Nat, t ≤ j ∧ k = .int .i64 (t : Int) ∧ wr = w1.drewN q ∧ ∀ k', k' < t → x ≠ h.getD k' 0) (fun k _ => j - (intOf k).toNat)
          case atStart => exact ⟨0, q, Nat.zero_le _, rfl, rfl, fun t ht => absurd ht (Nat.not_lt_zero t)⟩
          case round =>
            obtain ⟨t, q2, ht, rfl, rfl, hne⟩ := hrel
            have HNE := Lib.hid hne
            clear hne
            by_cases htj : t < j
            · obtain ⟨b', off', c', e1, e3⟩ := ints_cell HH.out t (by rw [HN.out]; omega)
              rw [HN.out] at e1
              obtain ⟨rfl, rfl, rfl⟩ : b = b' ∧ off = off' ∧ ch = c' := by cases e1; exact ⟨rfl, rfl, rfl⟩
              clear e1
              obtain ⟨y, hy⟩ : ∃ y, h.getD t 0 = y := ⟨_, rfl⟩
              rw [hy] at e3
              have HY := Lib.hid hy
              clear hy
              have htn : t < n := by omega
              by_cases hxy : x = y
              · subst hxy
                obtain rfl := HBJ2.out (fun hh => hh.2 t htj HY.out.symm)
                go_wp2_with fail
                go_quiet (fail)
                go_wp2_with fail
                go_ret
                exact ⟨rfl, HB.out.trans (((Below.drewN w1 q2).trans (Below.drewN (w1.drewN q2) _)).mono HB.out.size)⟩
              · have g3 : (x == y) = false := by simpa using hxy
                have HST : Hid (∀ k', k' < t + 1 → x ≠ h.getD k' 0) := fun k' hk' => by
                  rcases (show k' < t ∨ k' = t by omega) with h1 | rfl
                  · exact HNE.out k' h1
                  · rw [HY.out]; exact hxy
                clear hxy
                go_wp2_with fail
                go_quiet (fail)
                go_wp2_with fail
                go_roundw
                case rel => exact ⟨t + 1, _, htj, by go_num, rfl, HST.out⟩
                case measure => simp [intOf]; omega
            · obtain rfl : j = t := by omega
              have HST : Hid (∀ t, t < j + 1 → (-1048576 ≤ h.getD t 0 ∧ h.getD t 0 ≤ 1048576) ∧ ∀ k, k < t → h.getD t 0 ≠ h.getD k 0) := fun t' ht' => by
                rcases (show t' < j ∨ t' = j by omega) with h1 | rfl
                · exact HGD.out t' h1
                · rw [HX.out]; exact ⟨HLO.out, HNE.out⟩
              go_wp2_with fail
              go_roundw
              case rel => exact ⟨j + 1, _, hjn, by go_num, rfl, HST.out⟩
              case measure => simp [intOf]; omega
      · obtain rfl : n = j := by omega
        obtain rfl := HOK2.out HGD.out
        go_wp2_with fail
        go_ret
        exact ⟨rfl, HB.out.trans ((Below.drewN w1 q).mono HB.out.size)⟩

theorem getD_elem {l : List Int} {i : Nat} (h : i < l.length) : l.getD i 0 = l[i] := by rw [List.getD_eq_getElem?_getD, List.getElem?_eq_getElem h]; rfl
theorem nod_inj' {l : List Int} (hn : l.Nodup) {i j : Nat} (hi : i < l.length) (hj : j < l.length) (h : l.getD i 0 = l.getD j 0) : i = j := by
  rw [getD_elem hi, getD_elem hj] at h
  exact (List.getElem_inj hn).1 h
theorem unlike_nodup {h : List Int} : (∀ j, j < h.length → ∀ k, k < j → h.getD j 0 ≠ h.getD k 0) ↔ h.Nodup := by
  constructor
  · intro hd
    refine List.pairwise_iff_getElem.2 fun i j hi hj hij e => ?_
    have := hd j hj i hij
    rw [getD_elem hi, getD_elem hj] at this
    exact this e.symm
  · intro hn j hj k hk e
    rw [getD_elem hj, getD_elem (show k < h.length by omega)] at e
    have := (List.getElem_inj hn).1 e
    omega
theorem rise_adj : ∀ {s : List Int}, s.Pairwise (· ≤ ·) → (∀ i, i < s.length → 0 < i → s.getD (i - 1) 0 ≠ s.getD i 0) → s.Nodup
  | [], _, _ => List.nodup_nil
  | [x], _, _ => by simp
  | x :: y :: s, hp, hd => by
    obtain ⟨h1, h2⟩ := List.pairwise_cons.1 hp
    have ih := rise_adj (s := y :: s) h2 fun i hi h0 => by
      have := hd (i + 1) (by simpa using hi) (by omega)
      rw [show i + 1 - 1 = (i - 1) + 1 by omega] at this
      simpa using this
    have hxy : x ≠ y := by simpa using hd 1 (by simp) (by omega)
    refine List.nodup_cons.2 ⟨fun hm => ?_, ih⟩
    have hle := h1 y (List.mem_cons_self ..)
    rcases List.mem_cons.1 hm with e | hm
    · exact hxy e
    · have := (List.pairwise_cons.1 h2).1 x hm
      omega
/-- what the program looks for in the sorted list -/
def okS (s : List Int) (i : Nat) : Prop := (-1048576 ≤ s.getD i 0 ∧ s.getD i 0 ≤ 1048576) ∧ (0 < i → s.getD (i - 1) 0 ≠ s.getD i 0)
theorem okH_sort {V h : List Int} (hl : V.length = h.length) : okH V h ↔ ∀ i, i < h.length → okS (sortI h) i := by
  have hp : (sortI h).Perm h := List.mergeSort_perm ..
  have hlen := hp.length_eq
  constructor
  · rintro ⟨-, hb⟩ i hi
    have hnd : h.Nodup := unlike_nodup.1 fun j hj => (hb j hj).2
    have hns : (sortI h).Nodup := hp.nodup_iff.2 hnd
    refine ⟨?_, fun h0 e => ?_⟩
    · have hm : (sortI h).getD i 0 ∈ h := hp.subset (by rw [getD_elem (by omega)]; exact List.getElem_mem _)
      obtain ⟨j, hj, e⟩ := List.getElem_of_mem hm
      have := (hb j hj).1
      rw [getD_elem hj, e] at this
      exact this
    · rw [getD_elem (by omega), getD_elem (by omega)] at e
      have := (List.getElem_inj hns).1 e
      omega
  · intro hs
    have hns : (sortI h).Nodup := rise_adj (sortI_sorted h) fun i hi h0 => (hs i (by omega)).2 h0
    have hnd : h.Nodup := hp.nodup_iff.1 hns
    refine ⟨hl, fun j hj => ⟨?_, unlike_nodup.2 hnd j hj⟩⟩
    have hm : h.getD j 0 ∈ sortI h := hp.symm.subset (by rw [getD_elem hj]; exact List.getElem_mem _)
    obtain ⟨i, hi, e⟩ := List.getElem_of_mem hm
    have := (hs i (by omega)).1
    rw [getD_elem hi, e] at this
    exact this
end Go.Proofs.YtddnjimpdidpaaaGreatDoor
