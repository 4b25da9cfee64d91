/-
  The law's ints; the document's HighOf and HeightsError by contracts.
-/
import Derived.Test.YtddnjimpdidpaaaGreatDoorVrt
import Derived.Test.YtddnjimpdidpaaaGreatDoorIyA
import Derived.Test.YtddnjimpdidpaaaGreatDoorApp
set_option linter.unusedSimpArgs false
set_option linter.unusedVariables false
namespace Go.Proofs.YtddnjimpdidpaaaGreatDoor
open Go Go.RowKit Go.Maps

theorem lit_below' (w : World) (o : Obj) : Below w.heap.size w (w.alloc o) := (Below.refl _ _).alloc (Nat.le_refl _) _
theorem ints_cell {B : Nat} {w : World} {v : Value} {xs : List Int} (h : IntsIn B w v xs) (i : Nat) (hi : i < xs.length) : ∃ b off c, v = .slice (some ⟨b, off, none⟩) xs.length c ∧ w.cell? ⟨b, off + i, none⟩ = some (.int .i64 (xs.getD i 0)) := by
  obtain ⟨p, c, hv, -, -, hx⟩ := h
  obtain ⟨b, off, e1, e2, -⟩ := hx i hi
  subst e1
  exact ⟨b, off, c, hv, e2⟩
set_option maxRecDepth 100000 in
set_option maxHeartbeats 4000000 in
theorem ints_any (B : Nat) (h : List Int) (v : Value) (w : World) (hB : B ≤ w.heap.size) (hv : IntsIn B w v h) (hn : h.length ≤ 100000) :
    Calls Tryz.prog 11 #[v] w (NumsP w.heap.size h w) := by
  obtain ⟨i3, hi3, hy0, hy1, hy2⟩ := info_parts Tryz.info3
  obtain ⟨p, c, hve, hc, hp, hx⟩ := id hv
  obtain ⟨n, hnn⟩ : ∃ n, h.length = n := ⟨_, rfl⟩
  rw [hnn] at hve hn
  subst hve
  have hnews : ∀ ad, p = some ad → ∀ j u, (intVs h)[j]? = some u → w.cell? (ad.add j) = some u := fun ad he j u hj => by
    have hj2 : j < h.length := by
      have := (List.getElem?_eq_some_iff.1 hj).1
      simpa [intVs] using this
    obtain ⟨b, off, e1, e2, -⟩ := hx j hj2
    rw [he] at e1
    obtain rfl := Option.some.inj e1
    have hu : u = .int .i64 (h.getD j 0) := by
      unfold intVs at hj
      rw [List.getElem?_map, List.getElem?_eq_getElem hj2] at hj
      rw [List.getD_eq_getElem?_getD, List.getElem?_eq_getElem hj2]
      exact (Option.some.inj hj).symm
    rw [hu]
    have ha : (⟨b, off, none⟩ : Addr).add j = ⟨b, off + j, none⟩ := by
      unfold Addr.add
      split
      · rename_i h0; rw [h0]; rfl
      · rfl
    rw [ha]
    exact e2
  have hlen : (intVs h).length = n := by simp [intVs, hnn]
  have hone : ∀ u ∈ intVs h, u.oneCell' = true := fun u hu => by
    unfold intVs at hu
    obtain ⟨x, -, rfl⟩ := List.mem_map.1 hu
    rfl
  have hp2 : p = none → c = 0 ∧ n = 0 := fun e => by
    have h1 := hp e
    rw [hnn] at hc
    exact ⟨h1, by omega⟩
  have HNW := Lib.hid hnews
  have HLEN := Lib.hid hlen
  have HONE := Lib.hid hone
  have HP2 := Lib.hid hp2
  have HNN := Lib.hid hnn
  clear hnews hlen hone hp2 hv hc hp hx hnn hB
  go_enter Tryz.func11, Tryz.ntmps11
  go_wp2_with (at_builtin; refine wpList_app_any _ rfl (.tmp 4) (.tmp 5) 23 rfl w.heap.size 3 i3 (.int .i64 0) 8 Tryz.underlying23 hi3 hy0 hy1 hy2 rfl _ 0 [] rfl (World.ownsRow_nil _ _ _ _) p n c (intVs h) rfl HLEN.out HP2.out HNW.out HONE.out (by unfold maxLen; omega) (by omega) (Nat.le_refl _) _ rfl ?_; intro p' cap w' hown hgr hat; rw [Nat.zero_add] at hown ⊢; have HOW := Lib.hid hown; have HGR := Lib.hid hgr; clear hown hgr hat)
  go_ret
  have hi : IntsIn w.heap.size w' (.slice p' n cap) h := by
    have h1 := HOW.out
    rw [List.nil_append] at h1
    exact ints_owned h1 HNN.out.symm
  have hbl : Below w.heap.size w w' := (Below.refl _ _).grown (row := none) HGR.out (Nat.le_refl _) (fun k e => by cases e)
  unfold NumsP
  rw [HNN.out]
  exact ⟨p', cap, rfl, hbl, hi⟩

/-! ### the height of a vertex -/
theorem idx_first : ∀ {V : List Int} {x : Int} {i : Nat}, i < V.length → V.getD i 0 = x → (∀ j, j < i → V.getD j 0 ≠ x) → V.idxOf x = i
  | [], _, _, hi, _, _ => by simp at hi
  | a :: V, x, 0, _, h, _ => by
    have h : a = x := by simpa using h
    subst h
    simp [List.idxOf_cons]
  | a :: V, x, i + 1, hi, h, hj => by
    have hne : a ≠ x := by simpa using hj 0 (by omega)
    have ih := idx_first (V := V) (x := x) (i := i) (by simpa using hi) (by simpa using h) fun j hj2 => by simpa using hj (j + 1) (by omega)
    have : (a == x) = false := by simpa using hne
    rw [List.idxOf_cons, this, ih]; rfl
theorem hi_first {V h : List Int} {x : Int} {i : Nat} (hi : i < V.length) (hx : V.getD i 0 = x) (hj : ∀ j, j < i → V.getD j 0 ≠ x) : hiF V h x = h.getD i 0 := by
  unfold hiF
  rw [idx_first hi hx hj]
theorem hi_none {V h : List Int} {x : Int} (hl : h.length = V.length) (hj : ∀ j, j < V.length → V.getD j 0 ≠ x) : hiF V h x = 0 := by
  unfold hiF
  have hm : x ∉ V := fun hm => by
    obtain ⟨j, hj2, e⟩ := List.getElem_of_mem hm
    exact hj j hj2 (by rw [List.getD_eq_getElem?_getD, List.getElem?_eq_getElem hj2]; exact e)
  rw [List.idxOf_eq_length hm, ← hl, List.getD_eq_getElem?_getD, List.getElem?_eq_none (Nat.le_refl _)]
  rfl
set_option maxRecDepth 100000 in
set_option maxHeartbeats 4000000 in
theorem highOf_any (B : Nat) (A : List (List Int)) (h : List Int) (x : Int) (va vh : Value) (w : World) (hva : ListsIn B w va A) (hn : A.length ≤ 100000) (hl : ∀ l ∈ A, l.length ≤ 100000) (hvh : IntsIn B w vh h) (hlen : h.length = (vertR A).length) :
    Calls Tryz.prog 46 #[va, vh, .int .i64 x] w fun e w' => e = .returned (.int .i64 (hiF (vertR A) h x)) ∧ Below w.heap.size w w' := by
  have HVO := Lib.hid (verticesOf_any B A va w hva hn hl)
  unfold NumsP at HVO
  have hA := Nat.le_trans (vertR_len A) hn
  obtain ⟨V, hV⟩ : ∃ V, vertR A = V := ⟨_, rfl⟩
  rw [hV] at HVO hlen hA ⊢
  have HVH := Lib.hid hvh
  obtain ⟨ph, ch, hve, -⟩ := id hvh
  obtain ⟨n, hnn⟩ : ∃ n, V.length = n := ⟨_, rfl⟩
  rw [hnn] at hlen HVO hA
  rw [hlen] at hve
  subst hve
  have HN := Lib.hid hnn
  have HL := Lib.hid hlen
  obtain ⟨r, hr⟩ : ∃ r, hiF V h x = r := ⟨_, rfl⟩
  rw [hr]
  have HR := Lib.hid hr
  clear hva hn hl hvh hV hnn hlen hr
  go_enter Tryz.func46, Tryz.ntmps46
  go_wp2_with fail
  refine HVO.out.mono ?_
  rintro e w1 ⟨pv, cv, rfl, hb, hiv⟩
  have HB := Lib.hid hb
  have HV := Lib.hid hiv
  have HH := Lib.hid (HVH.out.below hb (Nat.le_refl _))
  clear hb hiv HVO HVH
  go_wp2_with fail

  go_loop [8] (fun i => ∃ j : Nat, j ≤ n ∧ i = .int .i64 (j : Int) ∧ ∀ k, k < j → V.getD k 0 ≠ x) (fun i => n - (intOf i).toNat)
  case atStart => exact ⟨0, Nat.zero_le _, rfl, fun k hk => absurd hk (Nat.not_lt_zero k)⟩
  case round =>
    obtain ⟨j, hj, rfl, hno⟩ := hrel
    by_cases hjn : j < n
    · obtain ⟨b, off, c', e1, e2⟩ := ints_cell HV.out j (by rw [HN.out]; exact hjn)
      obtain ⟨b2, off2, c2', e3, e4⟩ := ints_cell HH.out j (by rw [HL.out]; exact hjn)
      rw [HN.out] at e1
      rw [HL.out] at e3
      obtain ⟨rfl, rfl⟩ : pv = some ⟨b, off, none⟩ ∧ cv = c' := by cases e1; exact ⟨rfl, rfl⟩
      obtain ⟨rfl, rfl⟩ : ph = some ⟨b2, off2, none⟩ ∧ ch = c2' := by cases e3; exact ⟨rfl, rfl⟩
      clear e1 e3
      have HNO := Lib.hid hno
      by_cases hx : V.getD j 0 = x
      · have hres := hi_first (h := h) (by rw [HN.out]; exact hjn) hx hno
        rw [HR.out] at hres
        rw [hx] at e2
        rw [← hres] at e4
        clear hno hx hres
        go_wp2_with fail
        go_ret
        exact ⟨rfl, HB.out⟩
      · have hstep : ∀ k, k < j + 1 → V.getD k 0 ≠ x := fun k hk => by
          rcases (show k < j ∨ k = j by omega) with h1 | rfl
          · exact hno k h1
          · exact hx
        obtain ⟨y, hy⟩ : ∃ y, V.getD j 0 = y := ⟨_, rfl⟩
        rw [hy] at e2 hx
        have q1 : (y == x) = false := by simpa using hx
        have HST := Lib.hid hstep
        clear hno hx hstep hy
        go_wp2_with fail
        go_round
        case rel => exact ⟨j + 1, hjn, by go_num, HST.out⟩
        case measure => simp [intOf]; omega
    · obtain rfl : j = n := by omega
      have hres := hi_none (V := V) (h := h) (x := x) (HL.out.trans HN.out.symm) (fun k hk => hno k (by rw [HN.out] at hk; exact hk))
      rw [HR.out] at hres
      obtain rfl := hres
      clear hno
      go_wp2_with fail
      go_ret
      exact ⟨rfl, HB.out⟩
end Go.Proofs.YtddnjimpdidpaaaGreatDoor
