/-
  The law's ints; the document's HighOf and HeightsError by contracts.
  The document's HeightsError by a contract: heights that serve.
  Heights that serve, by the sorted list: neighbours are unlike (plain).
-/
import Derived.Test.YtddnjimpdidpaaaGreatDoorVrt
import Derived.Test.YtddnjimpdidpaaaGreatDoorIxP
import Derived.Test.YtddnjimpdidpaaaGreatDoorApp
import Derived.Deep.QuietTactic
import Derived.BigQuiet
set_option linter.unusedSimpArgs false
set_option linter.unusedVariables false
namespace Go.Proofs.YtddnjimpdidpaaaGreatDoor
open Go Go.RowKit Go.Maps

theorem lit_below' (w : World) (o : Obj) : Below w.heap.size w (w.alloc o) := (Below.refl _ _).alloc (Nat.le_refl _) _
theorem ints_cell {B : Nat} {w : World} {v : Value} {xs : List Int} (h : IntsIn B w v xs) (i : Nat) (hi : i < xs.length) : ∃ b off c, v = .slice (some ⟨b, off, none⟩) xs.length c ∧ w.cell? ⟨b, off + i, none⟩ = some (.int .i64 (xs.getD i 0)) := by
  obtain ⟨p, c, hv, -, -, hx⟩ := h
  obtain ⟨b, off, e1, e2, -⟩ := hx i hi
  subst e1
  exact ⟨b, off, c, hv, e2⟩
set_option maxRecDepth 100000 in
set_option maxHeartbeats 4000000 in
theorem ints_any (B : Nat) (h : List Int) (v : Value) (w : World) (hB : B ≤ w.heap.size) (hv : IntsIn B w v h) (hn : h.length ≤ 100000) :
    Calls Tryz.prog 11 #[v] w (NumsP w.heap.size h w) := by
  obtain ⟨i3, hi3, hy0, hy1, hy2⟩ := info_parts Tryz.info3
  obtain ⟨p, c, hve, hc, hp, hx⟩ := id hv
  obtain ⟨n, hnn⟩ : ∃ n, h.length = n := ⟨_, rfl⟩
  rw [hnn] at hve hn
  subst hve
  have hnews : ∀ ad, p = some ad → ∀ j u, (intVs h)[j]? = some u → w.cell? (ad.add j) = some u := fun ad he j u hj => by
    have hj2 : j < h.length := by
      have := (List.getElem?_eq_some_iff.1 hj).1
      simpa [intVs] using this
    obtain ⟨b, off, e1, e2, -⟩ := hx j hj2
    rw [he] at e1
    obtain rfl := Option.some.inj e1
    have hu : u = .int .i64 (h.getD j 0) := by
      unfold intVs at hj
      rw [List.getElem?_map, List.getElem?_eq_getElem hj2] at hj
      rw [List.getD_eq_getElem?_getD, List.getElem?_eq_getElem hj2]
      exact (Option.some.inj hj).symm
    rw [hu]
    have ha : (⟨b, off, none⟩ : Addr).add j = ⟨b, off + j, none⟩ := by
      unfold Addr.add
      split
      · rename_i h0; rw [h0]; rfl
      · rfl
    rw [ha]
    exact e2
  have hlen : (intVs h).length = n := by simp [intVs, hnn]
  have hone : ∀ u ∈ intVs h, u.oneCell' = true := fun u hu => by
    unfold intVs at hu
    obtain ⟨x, -, rfl⟩ := List.mem_map.1 hu
    rfl
  have hp2 : p = none → c = 0 ∧ n = 0 := fun e => by
    have h1 := hp e
    rw [hnn] at hc
    exact ⟨h1, by omega⟩
  have HNW := Lib.hid hnews
  have HLEN := Lib.hid hlen
  have HONE := Lib.hid hone
  have HP2 := Lib.hid hp2
  have HNN := Lib.hid hnn
  clear hnews hlen hone hp2 hv hc hp hx hnn hB
  go_enter Tryz.func11, Tryz.ntmps11
  go_wp2_with (at_builtin; refine wpList_app_any _ rfl (.tmp 4) (.tmp 5) 23 rfl w.heap.size 3 i3 (.int .i64 0) 8 Tryz.underlying23 hi3 hy0 hy1 hy2 rfl _ 0 [] rfl (World.ownsRow_nil _ _ _ _) p n c (intVs h) rfl HLEN.out HP2.out HNW.out HONE.out (by unfold maxLen; omega) (by omega) (Nat.le_refl _) _ rfl ?_; intro p' cap w' hown hgr hat; rw [Nat.zero_add] at hown ⊢; have HOW := Lib.hid hown; have HGR := Lib.hid hgr; clear hown hgr hat)
  go_ret
  have hi : IntsIn w.heap.size w' (.slice p' n cap) h := by
    have h1 := HOW.out
    rw [List.nil_append] at h1
    exact ints_owned h1 HNN.out.symm
  have hbl : Below w.heap.size w w' := (Below.refl _ _).grown (row := none) HGR.out (Nat.le_refl _) (fun k e => by cases e)
  unfold NumsP
  rw [HNN.out]
  exact ⟨p', cap, rfl, hbl, hi⟩

/-! ### the height of a vertex -/
theorem idx_first : ∀ {V : List Int} {x : Int} {i : Nat}, i < V.length → V.getD i 0 = x → (∀ j, j < i → V.getD j 0 ≠ x) → V.idxOf x = i
  | [], _, _, hi, _, _ => by simp at hi
  | a :: V, x, 0, _, h, _ => by
    have h : a = x := by simpa using h
    subst h
    simp [List.idxOf_cons]
  | a :: V, x, i + 1, hi, h, hj => by
    have hne : a ≠ x := by simpa using hj 0 (by omega)
    have ih := idx_first (V := V) (x := x) (i := i) (by simpa using hi) (by simpa using h) fun j hj2 => by simpa using hj (j + 1) (by omega)
    have : (a == x) = false := by simpa using hne
    rw [List.idxOf_cons, this, ih]; rfl
theorem hi_first {V h : List Int} {x : Int} {i : Nat} (hi : i < V.length) (hx : V.getD i 0 = x) (hj : ∀ j, j < i → V.getD j 0 ≠ x) : hiF V h x = h.getD i 0 := by
  unfold hiF
  rw [idx_first hi hx hj]
theorem hi_none {V h : List Int} {x : Int} (hl : h.length = V.length) (hj : ∀ j, j < V.length → V.getD j 0 ≠ x) : hiF V h x = 0 := by
  unfold hiF
  have hm : x ∉ V := fun hm => by
    obtain ⟨j, hj2, e⟩ := List.getElem_of_mem hm
    exact hj j hj2 (by rw [List.getD_eq_getElem?_getD, List.getElem?_eq_getElem hj2]; exact e)
  rw [List.idxOf_eq_length hm, ← hl, List.getD_eq_getElem?_getD, List.getElem?_eq_none (Nat.le_refl _)]
  rfl
set_option maxRecDepth 100000 in
set_option maxHeartbeats 4000000 in
theorem highOf_any (B : Nat) (A : List (List Int)) (h : List Int) (x : Int) (va vh : Value) (w : World) (hva : ListsIn B w va A) (hn : A.length ≤ 100000) (hl : ∀ l ∈ A, l.length ≤ 100000) (hvh : IntsIn B w vh h) (hlen : h.length = (vertR A).length) :
    Calls Tryz.prog 46 #[va, vh, .int .i64 x] w fun e w' => e = .returned (.int .i64 (hiF (vertR A) h x)) ∧ Below w.heap.size w w' := by
  have HVO := Lib.hid (verticesOf_any B A va w hva hn hl)
  unfold NumsP at HVO
  have hA := Nat.le_trans (vertR_len A) hn
  obtain ⟨V, hV⟩ : ∃ V, vertR A = V := ⟨_, rfl⟩
  rw [hV] at HVO hlen hA ⊢
  have HVH := Lib.hid hvh
  obtain ⟨ph, ch, hve, -⟩ := id hvh
  obtain ⟨n, hnn⟩ : ∃ n, V.length = n := ⟨_, rfl⟩
  rw [hnn] at hlen HVO hA
  rw [hlen] at hve
  subst hve
  have HN := Lib.hid hnn
  have HL := Lib.hid hlen
  obtain ⟨r, hr⟩ : ∃ r, hiF V h x = r := ⟨_, rfl⟩
  rw [hr]
  have HR := Lib.hid hr
  clear hva hn hl hvh hV hnn hlen hr
  go_enter Tryz.func46, Tryz.ntmps46
  go_wp2_with fail
  refine HVO.out.mono ?_
  rintro e w1 ⟨pv, cv, rfl, hb, hiv⟩
  have HB := Lib.hid hb
  have HV := Lib.hid hiv
  have HH := Lib.hid (HVH.out.below hb (Nat.le_refl _))
  clear hb hiv HVO HVH
  go_wp2_with fail

  go_loop [8] (fun i => ∃ j : Nat, j ≤ n ∧ i = .int .i64 (j : Int) ∧ ∀ k, k < j → V.getD k 0 ≠ x) (fun i => n - (intOf i).toNat)
  case atStart => exact ⟨0, Nat.zero_le _, rfl, fun k hk => absurd hk (Nat.not_lt_zero k)⟩
  case round =>
    obtain ⟨j, hj, rfl, hno⟩ := hrel
    by_cases hjn : j < n
    · obtain ⟨b, off, c', e1, e2⟩ := ints_cell HV.out j (by rw [HN.out]; exact hjn)
      obtain ⟨b2, off2, c2', e3, e4⟩ := ints_cell HH.out j (by rw [HL.out]; exact hjn)
      rw [HN.out] at e1
      rw [HL.out] at e3
      obtain ⟨rfl, rfl⟩ : pv = some ⟨b, off, none⟩ ∧ cv = c' := by cases e1; exact ⟨rfl, rfl⟩
      obtain ⟨rfl, rfl⟩ : ph = some ⟨b2, off2, none⟩ ∧ ch = c2' := by cases e3; exact ⟨rfl, rfl⟩
      clear e1 e3
      have HNO := Lib.hid hno
      by_cases hx : V.getD j 0 = x
      · have hres := hi_first (h := h) (by rw [HN.out]; exact hjn) hx hno
        rw [HR.out] at hres
        rw [hx] at e2
        rw [← hres] at e4
        clear hno hx hres
        go_wp2_with fail
        go_ret
        exact ⟨rfl, HB.out⟩
      · have hstep : ∀ k, k < j + 1 → V.getD k 0 ≠ x := fun k hk => by
          rcases (show k < j ∨ k = j by omega) with h1 | rfl
          · exact hno k h1
          · exact hx
        obtain ⟨y, hy⟩ : ∃ y, V.getD j 0 = y := ⟨_, rfl⟩
        rw [hy] at e2 hx
        have q1 : (y == x) = false := by simpa using hx
        have HST := Lib.hid hstep
        clear hno hx hstep hy
        go_wp2_with fail
        go_round
        case rel => exact ⟨j + 1, hjn, by go_num, HST.out⟩
        case measure => simp [intOf]; omega
    · obtain rfl : j = n := by omega
      have hres := hi_none (V := V) (h := h) (x := x) (HL.out.trans HN.out.symm) (fun k hk => hno k (by rw [HN.out] at hk; exact hk))
      rw [HR.out] at hres
      obtain rfl := hres
      clear hno
      go_wp2_with fail
      go_ret
      exact ⟨rfl, HB.out⟩

/-- heights that serve: as many as vertices, in the bound, each once -/
def okH (V h : List Int) : Prop := V.length = h.length ∧ ∀ j, j < h.length → (-1048576 ≤ h.getD j 0 ∧ h.getD j 0 ≤ 1048576) ∧ ∀ k, k < j → h.getD j 0 ≠ h.getD k 0
open Classical in
noncomputable def errH (V h : List Int) : Int := if okH V h then 0 else 3
theorem errH_bad {V h : List Int} (hn : ¬ okH V h) : errH V h = 3 := if_neg hn
theorem errH_ok {V h : List Int} (hn : okH V h) : errH V h = 0 := if_pos hn
set_option maxRecDepth 100000 in
set_option maxHeartbeats 4000000 in
theorem heightsError_any (B : Nat) (A : List (List Int)) (h : List Int) (va vh : Value) (w : World) (hva : ListsIn B w va A) (hn : A.length ≤ 100000) (hl : ∀ l ∈ A, l.length ≤ 100000) (hvh : IntsIn B w vh h) (hlen : h.length ≤ 100000) :
    Calls Tryz.prog 34 #[va, vh] w fun e w' => e = .returned (.int .i64 (errH (vertR A) h)) ∧ Below w.heap.size w w' := by
  have HVO := Lib.hid (verticesOf_any B A va w hva hn hl)
  unfold NumsP at HVO
  have hA := Nat.le_trans (vertR_len A) hn
  obtain ⟨V, hV⟩ : ∃ V, vertR A = V := ⟨_, rfl⟩
  rw [hV] at HVO hA ⊢
  have HVH := Lib.hid hvh
  obtain ⟨ph, ch, hve, -⟩ := id hvh
  obtain ⟨m, hm⟩ : ∃ n, V.length = n := ⟨_, rfl⟩
  obtain ⟨n, hnn⟩ : ∃ n, h.length = n := ⟨_, rfl⟩
  rw [hm] at HVO hA
  rw [hnn] at hve hlen
  subst hve
  have HBAD : Hid (m ≠ n → errH V h = 3) := fun e => errH_bad (fun hk => e (by rw [← hm, ← hnn]; exact hk.1))
  have HBJ : Hid (∀ j, j < n → ¬ ((-1048576 ≤ h.getD j 0 ∧ h.getD j 0 ≤ 1048576) ∧ ∀ k, k < j → h.getD j 0 ≠ h.getD k 0) → errH V h = 3) := fun j hj hb => errH_bad (fun hk => hb (hk.2 j (by rw [hnn]; exact hj)))
  have HOK : Hid (m = n → (∀ j, j < n → (-1048576 ≤ h.getD j 0 ∧ h.getD j 0 ≤ 1048576) ∧ ∀ k, k < j → h.getD j 0 ≠ h.getD k 0) → errH V h = 0) := fun e hb => errH_ok ⟨by rw [hm, hnn]; exact e, fun j hj => hb j (by rw [← hnn]; exact hj)⟩
  have HN := Lib.hid hnn
  obtain ⟨r, hr⟩ : ∃ r, errH V h = r := ⟨_, rfl⟩
  rw [hr] at HBAD HBJ HOK ⊢
  clear hva hn hl hvh hV hnn hm hr
  by_cases hmn : m = n
  rotate_left
  · have q1 : ((m : Int) != (n : Int)) = true := by rw [bne_iff_ne]; omega
    obtain rfl := HBAD.out hmn
    clear hmn
    go_enter Tryz.func34, Tryz.ntmps34
    go_wp2_with fail
    refine HVO.out.mono ?_
    rintro e w1 ⟨pv, cv, rfl, hb, hiv⟩
    have HB := Lib.hid hb
    clear hb hiv HVO
    go_wp2_with fail
    go_ret
    exact ⟨rfl, HB.out⟩
  · have HOK2 := Lib.hid (HOK.out hmn)
    have q1 : ((m : Int) != (n : Int)) = false := by rw [bne_eq_false_iff_eq]; omega
    clear hmn HOK HBAD
    go_enter Tryz.func34, Tryz.ntmps34
    go_wp2_with fail
    refine HVO.out.mono ?_
    rintro e w1 ⟨pv, cv, rfl, hb, hiv⟩
    have HB := Lib.hid hb
    have HH := Lib.hid (HVH.out.below hb (Nat.le_refl _))
    clear hb hiv HVO HVH
    go_wp2_with fail
    go_loopw [5, 6] (fun i _ wr => ∃ j q : Nat, j ≤ n ∧ i = .int .i64 (j : Int) ∧ wr = w1.drewN q ∧ ∀ t, t < j → (-1048576 ≤ h.getD t 0 ∧ h.getD t 0 ≤ 1048576) ∧ ∀ k, k < t → h.getD t 0 ≠ h.getD k 0) (fun i _ _ => n - (intOf i).toNat)
    case atStart => exact ⟨0, 0, Nat.zero_le _, rfl, rfl, fun t ht => absurd ht (Nat.not_lt_zero t)⟩
    case round =>
      obtain ⟨j, q, hj, rfl, rfl, hgd⟩ := hrel
      have HGD := Lib.hid hgd
      clear hgd
      by_cases hjn : j < n
      · obtain ⟨b, off, c', e1, e2⟩ := ints_cell HH.out j (by rw [HN.out]; exact hjn)
        rw [HN.out] at e1
        obtain ⟨rfl, rfl⟩ : ph = some ⟨b, off, none⟩ ∧ ch = c' := by cases e1; exact ⟨rfl, rfl⟩
        clear e1
        have HBJ2 := Lib.hid (HBJ.out j hjn)
        obtain ⟨x, hx⟩ : ∃ x, h.getD j 0 = x := ⟨_, rfl⟩
        rw [hx] at e2 HBJ2
        have HX := Lib.hid hx
        clear hx
        by_cases hlo : x < -1048576 ∨ 1048576 < x
        · obtain rfl := HBJ2.out (fun hh => by omega)
          by_cases h1 : 1048576 < x
          · have g1 : decide (1048576 < x) = true := decide_eq_true h1
            clear hlo h1
            go_wp2_with fail
            go_ret
            exact ⟨rfl, HB.out.trans ((Below.drewN w1 q).mono HB.out.size)⟩
          · have g1 : decide (1048576 < x) = false := decide_eq_false h1
            have g2 : decide (x < -1048576) = true := decide_eq_true (by omega)
            clear hlo h1
            go_wp2_with fail
            go_ret
            exact ⟨rfl, HB.out.trans ((Below.drewN w1 q).mono HB.out.size)⟩
        · have g1 : decide (1048576 < x) = false := decide_eq_false (by omega)
          have g2 : decide (x < -1048576) = false := decide_eq_false (by omega)
          have HLO : Hid (-1048576 ≤ x ∧ x ≤ 1048576) := by unfold Hid; omega
          clear hlo
          go_wp2_with fail
          go_loopw [6] (fun k wr => ∃ t q : Nat, t ≤ j ∧ k = .int .i64 (t : Int) ∧ wr = w1.drewN q ∧ ∀ k', k' < t → x ≠ h.getD k' 0) (fun k _ => j - (intOf k).toNat)
          case atStart => exact ⟨0, q, Nat.zero_le _, rfl, rfl, fun t ht => absurd ht (Nat.not_lt_zero t)⟩
          case round =>
            obtain ⟨t, q2, ht, rfl, rfl, hne⟩ := hrel
            have HNE := Lib.hid hne
            clear hne
            by_cases htj : t < j
            · obtain ⟨b', off', c', e1, e3⟩ := ints_cell HH.out t (by rw [HN.out]; omega)
              rw [HN.out] at e1
              obtain ⟨rfl, rfl, rfl⟩ : b = b' ∧ off = off' ∧ ch = c' := by cases e1; exact ⟨rfl, rfl, rfl⟩
              clear e1
              obtain ⟨y, hy⟩ : ∃ y, h.getD t 0 = y := ⟨_, rfl⟩
              rw [hy] at e3
              have HY := Lib.hid hy
              clear hy
              have htn : t < n := by omega
              by_cases hxy : x = y
              · subst hxy
                obtain rfl := HBJ2.out (fun hh => hh.2 t htj HY.out.symm)
                go_wp2_with fail
                go_quiet (fail)
                go_wp2_with fail
                go_ret
                exact ⟨rfl, HB.out.trans (((Below.drewN w1 q2).trans (Below.drewN (w1.drewN q2) _)).mono HB.out.size)⟩
              · have g3 : (x == y) = false := by simpa using hxy
                have HST : Hid (∀ k', k' < t + 1 → x ≠ h.getD k' 0) := fun k' hk' => by
                  rcases (show k' < t ∨ k' = t by omega) with h1 | rfl
                  · exact HNE.out k' h1
                  · rw [HY.out]; exact hxy
                clear hxy
                go_wp2_with fail
                go_quiet (fail)
                go_wp2_with fail
                go_roundw
                case rel => exact ⟨t + 1, _, htj, by go_num, rfl, HST.out⟩
                case measure => simp [intOf]; omega
            · obtain rfl : j = t := by omega
              have HST : Hid (∀ t, t < j + 1 → (-1048576 ≤ h.getD t 0 ∧ h.getD t 0 ≤ 1048576) ∧ ∀ k, k < t → h.getD t 0 ≠ h.getD k 0) := fun t' ht' => by
                rcases (show t' < j ∨ t' = j by omega) with h1 | rfl
                · exact HGD.out t' h1
                · rw [HX.out]; exact ⟨HLO.out, HNE.out⟩
              go_wp2_with fail
              go_roundw
              case rel => exact ⟨j + 1, _, hjn, by go_num, rfl, HST.out⟩
              case measure => simp [intOf]; omega
      · obtain rfl : n = j := by omega
        obtain rfl := HOK2.out HGD.out
        go_wp2_with fail
        go_ret
        exact ⟨rfl, HB.out.trans ((Below.drewN w1 q).mono HB.out.size)⟩

theorem getD_elem {l : List Int} {i : Nat} (h : i < l.length) : l.getD i 0 = l[i] := by rw [List.getD_eq_getElem?_getD, List.getElem?_eq_getElem h]; rfl
theorem nod_inj' {l : List Int} (hn : l.Nodup) {i j : Nat} (hi : i < l.length) (hj : j < l.length) (h : l.getD i 0 = l.getD j 0) : i = j := by
  rw [getD_elem hi, getD_elem hj] at h
  exact (List.getElem_inj hn).1 h
theorem unlike_nodup {h : List Int} : (∀ j, j < h.length → ∀ k, k < j → h.getD j 0 ≠ h.getD k 0) ↔ h.Nodup := by
  constructor
  · intro hd
    refine List.pairwise_iff_getElem.2 fun i j hi hj hij e => ?_
    have := hd j hj i hij
    rw [getD_elem hi, getD_elem hj] at this
    exact this e.symm
  · intro hn j hj k hk e
    rw [getD_elem hj, getD_elem (show k < h.length by omega)] at e
    have := (List.getElem_inj hn).1 e
    omega
theorem rise_adj : ∀ {s : List Int}, s.Pairwise (· ≤ ·) → (∀ i, i < s.length → 0 < i → s.getD (i - 1) 0 ≠ s.getD i 0) → s.Nodup
  | [], _, _ => List.nodup_nil
  | [x], _, _ => by simp
  | x :: y :: s, hp, hd => by
    obtain ⟨h1, h2⟩ := List.pairwise_cons.1 hp
    have ih := rise_adj (s := y :: s) h2 fun i hi h0 => by
      have := hd (i + 1) (by simpa using hi) (by omega)
      rw [show i + 1 - 1 = (i - 1) + 1 by omega] at this
      simpa using this
    have hxy : x ≠ y := by simpa using hd 1 (by simp) (by omega)
    refine List.nodup_cons.2 ⟨fun hm => ?_, ih⟩
    have hle := h1 y (List.mem_cons_self ..)
    rcases List.mem_cons.1 hm with e | hm
    · exact hxy e
    · have := (List.pairwise_cons.1 h2).1 x hm
      omega
/-- what the program looks for in the sorted list -/
def okS (s : List Int) (i : Nat) : Prop := (-1048576 ≤ s.getD i 0 ∧ s.getD i 0 ≤ 1048576) ∧ (0 < i → s.getD (i - 1) 0 ≠ s.getD i 0)
theorem okH_sort {V h : List Int} (hl : V.length = h.length) : okH V h ↔ ∀ i, i < h.length → okS (sortI h) i := by
  have hp : (sortI h).Perm h := List.mergeSort_perm ..
  have hlen := hp.length_eq
  constructor
  · rintro ⟨-, hb⟩ i hi
    have hnd : h.Nodup := unlike_nodup.1 fun j hj => (hb j hj).2
    have hns : (sortI h).Nodup := hp.nodup_iff.2 hnd
    refine ⟨?_, fun h0 e => ?_⟩
    · have hm : (sortI h).getD i 0 ∈ h := hp.subset (by rw [getD_elem (by omega)]; exact List.getElem_mem _)
      obtain ⟨j, hj, e⟩ := List.getElem_of_mem hm
      have := (hb j hj).1
      rw [getD_elem hj, e] at this
      exact this
    · rw [getD_elem (by omega), getD_elem (by omega)] at e
      have := (List.getElem_inj hns).1 e
      omega
  · intro hs
    have hns : (sortI h).Nodup := rise_adj (sortI_sorted h) fun i hi h0 => (hs i (by omega)).2 h0
    have hnd : h.Nodup := hp.nodup_iff.1 hns
    refine ⟨hl, fun j hj => ⟨?_, unlike_nodup.2 hnd j hj⟩⟩
    have hm : h.getD j 0 ∈ sortI h := hp.symm.subset (by rw [getD_elem hj]; exact List.getElem_mem _)
    obtain ⟨i, hi, e⟩ := List.getElem_of_mem hm
    have := (hs i (by omega)).1
    rw [getD_elem hi, e] at this
    exact this
end Go.Proofs.YtddnjimpdidpaaaGreatDoor
