/-
  The program's Subgroups: its table as it is made; what it answers (plain).
  The program's Subgroups, by a contract.
-/
import Derived.Test.YtedehmknijlgpaaDoorFilD
import Derived.Test.YtedehmknijlgpaaDoorOpn
import Derived.Test.YtedehmknijlgpaaDoorLet
import Derived.Test.YtedehmknijlgpaaDoorDocE
set_option linter.unusedSimpArgs false
set_option linter.unusedVariables false
namespace Go.Proofs.YtedehmknijlgpaaDoor
open Go Go.RowKit Go.Maps

/-- how many orders of n numbers there are -/
def fctN (n : Nat) : Nat := [1, 1, 2, 6, 24].getD n 0
theorem fct_pos {n : Nat} (hn : n ≤ 4) : 1 ≤ fctN n ∧ fctN n ≤ 24 := by
  rcases (show n = 0 ∨ n = 1 ∨ n = 2 ∨ n = 3 ∨ n = 4 by omega) with rfl | rfl | rfl | rfl | rfl <;> decide
theorem ordL_fct {n : Nat} (hn : n ≤ 4) : (TC.ordL n).length = fctN n := (TC.ordL_nodup n (by omega)).2
def subT (n g : Nat) (rels : List (List Int)) : Nat × List (List (List Int)) := if 20000 < fctN n ^ g then (1, []) else (0, TC.subF n g (colsL rels))
def subA (G : Int) (rels : List (List Int)) (index : Int) : Nat × List (List (List Int)) :=
  if groupErr G rels ≠ 0 then (groupErr G rels, []) else if index < 1 ∨ 4 < index then (1, []) else subT index.toNat G.toNat rels

/-- lists of lists of lists, as they are read -/
def OutR (B : Nat) (w : World) (v : Value) (L : List (List (List Int))) : Prop := ∃ p c, v = .slice p L.length c ∧ L.length ≤ c ∧ (p = none → c = 0) ∧ ∀ i, i < L.length → ∃ b off t, p = some ⟨b, off, none⟩ ∧ w.cell? ⟨b, off + i, none⟩ = some t ∧ ListsIn B w t (L.getD i [])
theorem OutR.nil (B : Nat) (w : World) : OutR B w (.slice none 0 0) [] := ⟨none, 0, rfl, Nat.le_refl _, fun _ => rfl, fun i h => absurd h (by simp)⟩
theorem OutR.below {B C : Nat} {w w' : World} {v : Value} {L : List (List (List Int))} (h : OutR B w v L) (hb : Below C w w') (hC : w.heap.size ≤ C) : OutR B w' v L := by
  obtain ⟨p, c, e, k1, k2, h⟩ := h
  refine ⟨p, c, e, k1, k2, fun i hi => ?_⟩
  obtain ⟨b, off, t, e1, e2, e3⟩ := h i hi
  exact ⟨b, off, t, e1, (hb.cell (p := ⟨b, off + i, none⟩) (Nat.lt_of_lt_of_le (mem_lt e2) hC)).trans e2, e3.below hb hC⟩
theorem OutL.read {E B : Nat} {w : World} {v : Value} {L : List (List (List Int))} {hL : List Value} (h : OutL E w v L hL) : OutR B w v L := by
  have hl := h.len
  rcases h.row.2 with ⟨e, h0⟩ | ⟨g, cap, cur, e, -, -, hle, -⟩
  · exact ⟨none, 0, by rw [h0]; exact e, by omega, fun _ => rfl, fun i hi => absurd hi (by omega)⟩
  · refine ⟨some ⟨g, 0, none⟩, cap, e, hle, (fun e => by cases e), fun i hi => ?_⟩
    have h1 := h.row
    have h2 := h1.cells (g := g) (by rw [e]; rfl) i (hL.getD i .nilIface) (by rw [List.getD_eq_getElem?_getD, List.getElem?_eq_getElem (by omega)]; rfl)
    rw [add_zero] at h2
    exact ⟨g, 0, _, rfl, by rw [Nat.zero_add]; exact h2, (HasO.rows (h.each i hi)).lists⟩

/-- the table while it is made -/
def bldT (n W i : Nat) : List (List Int) := (List.range n).map fun y => if y < i then List.replicate W (-1) else []
theorem bldT_len (n W i : Nat) : (bldT n W i).length = n := by simp [bldT]
theorem bldT_zero (n W : Nat) : bldT n W 0 = List.replicate n [] := by
  unfold bldT
  apply List.ext_getElem
  · simp
  · intro i h1 h2; simp
theorem bldT_full (n W : Nat) : bldT n W n = TC.emptyT n W := by
  unfold bldT TC.emptyT
  apply List.ext_getElem
  · simp
  · intro i h1 h2
    simp only [List.length_map, List.length_range] at h1
    simp [h1]
theorem bldT_set {n W i : Nat} (hi : i < n) : (bldT n W i).set i (List.replicate W (-1)) = bldT n W (i + 1) := by
  unfold bldT
  apply List.ext_getElem
  · simp
  · intro j h1 h2
    simp only [List.length_set, List.length_map, List.length_range] at h1
    rw [List.getElem_set]
    by_cases e : i = j
    · subst e; simp
    · rw [if_neg e]
      simp only [List.getElem_map, List.getElem_range]
      by_cases c : j < i
      · rw [if_pos c, if_pos (by omega)]
      · rw [if_neg c, if_neg (by omega)]
/-- a fresh row is stored -/
theorem HasH.fresh {O g c n : Nat} {w w' : World} {T : List (List Int)} {hs : List Value} {i : Nat} {v' : Value} {xs' : List Int} (h : HasH O w (.slice (some ⟨g, 0, none⟩) n c) T hs) (hi : i < T.length) (hO : O ≤ w.heap.size) (hb : Below w.heap.size w w')
    (hR : IntO w.heap.size w' v' xs') : HasH O (w'.setCell ⟨g, i, none⟩ v') (.slice (some ⟨g, 0, none⟩) n c) (T.set i xs') (hs.set i v') := by
  have hl := h.2.1
  have hout : w'.ownsRow O 27 1 (.slice (some ⟨g, 0, none⟩) n c) T.length hs := owns_keep h.1 fun k hk => hb.block k (h.1.lt k hk).2
  have hn : n = T.length := by
    rcases hout.2 with ⟨e, _⟩ | ⟨g', cap', cur, e, _⟩
    · cases e
    · cases e; rfl
  subst hn
  obtain ⟨hst, hgs⟩ := hout.stored i v'
  have hap : ∀ (x : Value) (xs : List Int), IntO O w' x xs → IntO O (w'.setCell ⟨g, i, none⟩ v') x xs := fun x xs hx => hx.far hgs fun k hk => by
    obtain rfl := Option.some.inj hk
    exact fun e => owns_apart hx hout (by decide) g e rfl
  have hR2 : IntO O w' v' xs' := Joins.ownsRow_le hR hO
  have hge : ∀ k, v'.ownBlock = some k → w.heap.size ≤ k := fun k hk => (hR.lt k hk).1
  refine ⟨by rw [List.length_set]; exact hst, by simp [hl], fun j hj => ?_, fun j k hj hk hjk b hb2 => ?_⟩
  · rw [List.length_set] at hj
    by_cases hij : i = j
    · subst hij
      rw [getD_setS hi, getD_setS (by omega)]
      exact hap _ _ hR2
    · rw [getD_setO hij, getD_setO hij]
      exact hap _ _ (owns_keep (h.2.2.1 j hj) fun k hk => hb.block k ((h.2.2.1 j hj).lt k hk).2)
  · rw [List.length_set] at hj hk
    by_cases hij : i = j
    · subst hij
      rw [getD_setS (by omega)] at hb2
      rw [getD_setO hjk]
      intro e
      have h1 := hge b hb2
      have h2 := ((h.2.2.1 k hk).lt b e).2
      omega
    · rw [getD_setO hij] at hb2
      by_cases hik : i = k
      · subst hik
        rw [getD_setS (by omega)]
        intro e
        have h1 := hge b e
        have h2 := ((h.2.2.1 j hj).lt b hb2).2
        omega
      · rw [getD_setO hik]
        exact h.2.2.2 j k hj hk hjk b hb2
theorem make_tabs (N : Nat) (hN : N ≤ 4) (w : World) : Sem.run Tryd.prog (Instr.makeSlice 22 (.int .i64 (N : Int)) (.int .i64 (N : Int))) w = .ok (.slice (some ⟨w.heap.size, 0, none⟩) N N) (w.alloc (.cells (Array.replicate N (.slice none 0 0)) 27)) := by
  obtain ⟨i39, hi39, hz0, hz1, hz2⟩ := info_parts Tryd.info27
  have h := run_make (P := Tryd.prog) w 22 27 i39 (.slice none 0 0) Tryd.underlying22 hi39 hz0 .i64 .i64 (N : Int) (N : Int) (by omega) (by omega) (by rw [hz2]; omega) (by omega)
  rw [Int.toNat_natCast, hz1, Nat.mul_one] at h
  have e2 : madeCells (Value.slice none 0 0).cells N = Array.replicate N (.slice none 0 0) := by
    apply Array.ext
    · simp [madeCells]
    · intro i h1 h2; simp [madeCells, Value.cells, Nat.mod_one]
  rw [← e2]
  exact h
theorem tabs_made {O N : Nat} {w : World} (hN : 1 ≤ N) (hN4 : N ≤ 4) (hO : O ≤ w.heap.size) : HasH O (w.alloc (.cells (Array.replicate N (.slice none 0 0)) 27)) (.slice (some ⟨w.heap.size, 0, none⟩) N N) (List.replicate N []) (List.replicate N (.slice none 0 0)) := by
  refine HasH.made ⟨by simp, Or.inr ⟨w.heap.size, N, _, rfl, hO, heap_alloc_new _ _, Nat.le_refl _, by unfold maxLen; omega, by simp, ?_⟩⟩
  simp
def SubP (a1 a2 : Addr) (r : Nat × List (List (List Int))) (w : World) (e : Ending) (w' : World) : Prop := Below w.heap.size w w' ∧ ∃ v, e = .returned (.tuple #[v, errV a1 a2 r.1]) ∧ ∀ B, OutR B w' v r.2

theorem len_flatS {α : Type} {L : List (List α)} : ∀ l ∈ L, l.length ≤ L.flatten.length := by
  induction L with
  | nil => intro l h; cases h
  | cons a L ih =>
    intro l h
    rw [List.flatten_cons, List.length_append]
    rcases List.mem_cons.1 h with rfl | h
    · omega
    · have := ih l h; omega
theorem five_at {w : World} {b : Nat} {x0 x1 x2 x3 x4 : Value} {t : TypeId} (h : w.heap[b]? = some (.cells #[x0, x1, x2, x3, x4] t (0, 0))) : w.cell? ⟨b, 1, none⟩ = some x1 ∧ w.cell? ⟨b, 2, none⟩ = some x2 ∧ w.cell? ⟨b, 3, none⟩ = some x3 ∧ w.cell? ⟨b, 4, none⟩ = some x4 := by simp [World.cell?, h]
set_option maxRecDepth 100000 in
set_option maxHeartbeats 32000000 in
theorem subs_any (B : Nat) (G index : Int) (rels : List (List Int)) (vr : Value) (a1 a2 : Addr) (w : World) (hS : Sen w a1 a2) (hr : ListsIn B w vr rels) (hn : rels.length ≤ 1000000) (hs : rels.flatten.length ≤ 1000000) (hG5 : groupErr G rels = 0 → G ≤ 5) :
    Calls Tryd.prog 20 #[.agg #[.int .i64 G, vr], .int .i64 index] w (SubP a1 a2 (subA G rels index) w) := by
  obtain ⟨i3, hi3, hy0, hy1, hy2⟩ := info_parts Tryd.info3
  obtain ⟨i39, hi39, hz0, hz1, hz2⟩ := info_parts Tryd.info27
  obtain ⟨pr, cr, hre, -⟩ := id hr
  obtain ⟨n, hLn⟩ : ∃ n, rels.length = n := ⟨_, rfl⟩
  rw [hLn] at hre hn
  subst hre
  have hb0 : Below w.heap.size w (w.alloc (.cells #[.int .i64 G, .slice pr n cr] 33)) := (Below.refl _ _).alloc (Nat.le_refl _) _
  obtain ⟨w1, hw1⟩ : ∃ w1, w.alloc (.cells #[.int .i64 G, .slice pr n cr] 33) = w1 := ⟨_, rfl⟩
  have hg1 := heap_alloc_new w (.cells #[.int .i64 G, .slice pr n cr] 33)
  have hs1 : w1.heap.size = w.heap.size + 1 := by rw [← hw1]; simp
  rw [hw1] at hb0 hg1
  have HG1 := Lib.hid hg1
  have HB0 := Lib.hid hb0
  have HW1 := Lib.hid hw1
  have HLN := Lib.hid hLn
  have HR := Lib.hid hr
  have HS := Lib.hid hS
  have HM := Lib.hid hs
  have HVA := Lib.hid (valid_any B G rels (.slice pr n cr) a1 a2 w1 (hS.below hb0 (Nat.le_refl _)) (hr.below hb0 (Nat.le_refl _)) (by rw [hLn]; exact hn) hs)
  unfold ValidP at HVA
  obtain ⟨c, hc⟩ : ∃ c, groupErr G rels = c := ⟨_, rfl⟩
  rw [hc] at HVA
  have HC := Lib.hid hc
  have HG5 := Lib.hid hG5
  unfold SubP
  have HNIL := Lib.hid (fun (B : Nat) (w : World) => OutR.nil B w)
  clear hS hr hb0 hg1 hw1 hLn hc hG5 hs
  go_enter Tryd.func20, Tryd.ntmps20
  go_upto_region 1 with fail
  rw [HW1.out]
  have c0 : w1.cell? ⟨w.heap.size, 0, none⟩ = some (.int .i64 G) := by simp [World.cell?, HG1.out]
  have c1 : w1.cell? ⟨w.heap.size, 1, none⟩ = some (.slice pr n cr) := by simp [World.cell?, HG1.out]
  go_wp2_with fail
  refine HVA.out.mono ?_
  rintro e w2 ⟨rfl, hb2⟩
  have hbx := (hb2.block w.heap.size (by omega)).trans HG1.out
  have HBX := Lib.hid hbx
  have HB2 := Lib.hid (HB0.out.trans (hb2.mono HB0.out.size))
  have hs2 := hb2.size
  clear c0 c1 hb2 hbx
  by_cases hc0 : c = 0
  rotate_left
  · obtain ⟨a, ha⟩ := errV_iface a1 a2 hc0
    have HE : Hid (subA G rels index = (c, [])) := by unfold Hid subA; rw [HC.out, if_pos hc0]
    have HA := Lib.hid ha
    rw [ha]
    clear ha
    go_wp2_with fail
    go_ret2
    rw [HE.out]
    refine ⟨HB2.out, .slice none 0 0, ?_, fun B => HNIL.out B _⟩
    show _ = Ending.returned (.tuple #[.slice none 0 0, errV a1 a2 c])
    rw [HA.out]
    rfl
  · subst hc0
    rw [show errV a1 a2 0 = Value.nilIface from rfl]
    obtain ⟨hg0, hg12, -, -, hlet⟩ := groupErr_zero HC.out
    have hg5 := HG5.out HC.out
    obtain ⟨g, rfl⟩ : ∃ g : Nat, G = (g : Int) := ⟨G.toNat, by omega⟩
    rw [Int.toNat_natCast] at hlet
    have hg5' : g ≤ 5 := by omega
    have HLET := Lib.hid hlet
    have e1 := (HS.out.below HB2.out (Nat.le_refl _)).b
    clear hg0 hg12 hlet hg5
    by_cases hix : index < 1 ∨ 4 < index
    · have HE : Hid (subA (g : Int) rels index = (1, [])) := by unfold Hid subA; rw [HC.out, if_neg (by decide), if_pos hix]
      by_cases k1 : index < 1
      · clear hix
        go_upto_region 5 with fail
        go_region
        all_goals
          go_wp2_with fail
          go_ret2
          rw [HE.out]
          exact ⟨by first | exact HB2.out | exact below_dn HB2.out 1, _, rfl, fun B => HNIL.out B _⟩
      · have k2 : 4 < index := by omega
        clear hix
        go_upto_region 5 with fail
        go_region
        all_goals
          go_wp2_with fail
          go_ret2
          rw [HE.out]
          exact ⟨by first | exact HB2.out | exact below_dn HB2.out 1, _, rfl, fun B => HNIL.out B _⟩
    · obtain ⟨N, rfl⟩ : ∃ N : Nat, index = (N : Int) := ⟨index.toNat, by omega⟩
      have hN1 : 1 ≤ N := by omega
      have hN4 : N ≤ 4 := by omega
      have HE : Hid (subA (g : Int) rels (N : Int) = subT N g rels) := by unfold Hid subA; rw [HC.out, if_neg (by decide), if_neg hix, Int.toNat_natCast, Int.toNat_natCast]
      obtain ⟨hf1, hf24⟩ := fct_pos hN4
      have kf : (w2.alloc (.cells #[.int .i64 1, .int .i64 1, .int .i64 2, .int .i64 6, .int .i64 24] 3)).cell? ⟨w2.heap.size, N, none⟩ = some (.int .i64 (fctN N : Int)) := by
        obtain ⟨h1, h2, h3, h4⟩ := five_at (heap_alloc_new w2 (.cells #[.int .i64 1, .int .i64 1, .int .i64 2, .int .i64 6, .int .i64 24] 3))
        rcases (show N = 1 ∨ N = 2 ∨ N = 3 ∨ N = 4 by omega) with rfl | rfl | rfl | rfl
        · exact h1
        · exact h2
        · exact h3
        · exact h4
      obtain ⟨F, hF⟩ : ∃ F, fctN N = F := ⟨_, rfl⟩
      rw [hF] at hf1 hf24 kf
      have HFC := Lib.hid hF
      have hb3 : Below w2.heap.size w2 (w2.alloc (.cells #[.int .i64 1, .int .i64 1, .int .i64 2, .int .i64 6, .int .i64 24] 3)) := (Below.refl _ _).alloc (Nat.le_refl _) _
      have HB3 := Lib.hid hb3
      have d0 : (w2.alloc (.cells #[.int .i64 1, .int .i64 1, .int .i64 2, .int .i64 6, .int .i64 24] 3)).cell? ⟨w.heap.size, 0, none⟩ = some (.int .i64 (g : Int)) := (hb3.cell (p := ⟨w.heap.size, 0, none⟩) (Array.getElem?_eq_some_iff.1 HBX.out).1).trans (box_at HBX.out).1
      have hs3 : w2.heap.size + 1 = (w2.alloc (.cells #[.int .i64 1, .int .i64 1, .int .i64 2, .int .i64 6, .int .i64 24] 3)).heap.size := by simp
      have hbx3 := (hb3.block w.heap.size (by omega)).trans HBX.out
      clear hix hF
      go_wp2_with fail
      obtain ⟨w3, hw3⟩ : ∃ w3, w2.alloc (.cells #[.int .i64 1, .int .i64 1, .int .i64 2, .int .i64 6, .int .i64 24] 3) = w3 := ⟨_, rfl⟩
      rw [hw3] at HB3 d0 hs3 hbx3 ⊢
      have HBX3 := Lib.hid hbx3
      have HB4 := Lib.hid (HB2.out.trans (HB3.out.mono (by omega)))
      clear hw3 kf hb3 hbx3 d0 e1
      go_loopw [7, 30] (fun s i wr => ∃ j : Nat, j ≤ g ∧ i = .int .i64 (j : Int) ∧ s = .int .i64 ((F ^ j : Nat) : Int) ∧ wr = w3 ∧ Hid (F ^ j ≤ 20000)) (fun _ i _ => g - (intOf i).toNat)
      case atStart => exact ⟨0, Nat.zero_le _, rfl, rfl, rfl, by show F ^ 0 ≤ 20000; rw [Nat.pow_zero]; omega⟩
      case round =>
        obtain ⟨j, hj, rfl, rfl, rfl, HJ⟩ := hrel
        have hps := Nat.pow_succ (n := F) (m := j)
        have hP := HJ.out
        have HPW := Lib.hid (fun h : j + 1 ≤ g => (Nat.pow_le_pow_right hf1 h : F ^ (j + 1) ≤ F ^ g))
        obtain ⟨P, hPe⟩ : ∃ P, F ^ j = P := ⟨_, rfl⟩
        rw [hPe] at hps hP
        have HPE := Lib.hid hPe
        rw [hPe]
        by_cases hjg : j < g
        · have hm : P * F ≤ 20000 * 24 := Nat.mul_le_mul hP hf24
          obtain ⟨R, hR⟩ : ∃ R, P * F = R := ⟨_, rfl⟩
          have s0 : (P : Int) * (F : Int) = ((R : Nat) : Int) := by rw [← hR, Int.natCast_mul]
          rw [hR] at hps hm
          have s1 : IntKind.i64.wrap ((P : Int) * (F : Int)) = ((R : Nat) : Int) := by rw [s0]; exact IntWalk.i64_in _ (by omega)
          have s2 : IntKind.i64.wrap ((R : Nat) : Int) = ((R : Nat) : Int) := IntWalk.i64_in _ (by omega)
          have HPS := Lib.hid hps
          clear hps hPe hR
          by_cases hbig : 20000 < R
          · have HE2 : Hid (subT N g rels = (1, [])) := by
              have h1 := HPW.out hjg
              rw [HPS.out] at h1
              unfold Hid subT
              rw [HFC.out, if_pos (by omega)]
            have e1 := (HS.out.below HB4.out (Nat.le_refl _)).b
            go_upto_region 12 with fail
            go_region
            all_goals
              go_wp2_with fail
              go_ret2
              rw [HE.out, HE2.out]
              exact ⟨by first | exact HB4.out | exact below_dn HB4.out 1, _, rfl, fun B => HNIL.out B _⟩
          · have HN2 : Hid (F ^ (j + 1) ≤ 20000) := by unfold Hid; rw [HPS.out]; omega
            go_wp2_with fail
            go_roundw
            case rel => exact ⟨j + 1, hjg, by go_num, by rw [HPS.out], by first | rfl | trivial, HN2.out⟩
            case measure => simp [intOf]; omega
        · obtain rfl : j = g := by omega
          have HE2 : Hid (subT N j rels = (0, TC.subF N j (colsL rels))) := by
            unfold Hid subT
            rw [HFC.out, HPE.out, if_neg (by omega)]
          have HMK := make_tabs N hN4 wr
          obtain ⟨W, hWg⟩ : ∃ W, 2 * j = W := ⟨_, rfl⟩
          have HWG := Lib.hid hWg
          have hW10 : W ≤ 10 := by omega
          have qW : (2 : Int) * (j : Int) = (W : Int) := by omega
          have sW : IntKind.i64.wrap (W : Int) = (W : Int) := IntWalk.i64_in _ (by omega)
          obtain ⟨w3, hw3⟩ : ∃ w3, w3 = wr := ⟨_, rfl⟩
          subst hw3
          obtain ⟨O, hO⟩ : ∃ O, w3.heap.size = O := ⟨_, rfl⟩
          have HO := Lib.hid hO
          have hwO : w.heap.size < O := by rw [← hO]; exact (Array.getElem?_eq_some_iff.1 HBX3.out).1
          have hmade := tabs_made (O := O) (w := w3) hN1 hN4 (by omega)
          have hbA : Below O w3 (w3.alloc (.cells (Array.replicate N (.slice none 0 0)) 27)) := (Below.refl _ _).alloc (by omega) _
          have hsA : (w3.alloc (.cells (Array.replicate N (.slice none 0 0)) 27)).heap.size = O + 1 := by simp [hO]
          have hbt0 := heap_alloc_new (w3.alloc (.cells (Array.replicate N (.slice none 0 0)) 27)) (.cells #[.slice (some ⟨O, 0, none⟩) N N] 22)
          rw [hsA] at hbt0
          have hbB : Below O w3 ((w3.alloc (.cells (Array.replicate N (.slice none 0 0)) 27)).alloc (.cells #[.slice (some ⟨O, 0, none⟩) N N] 22)) := hbA.alloc (by omega) _
          have hmB := hmade.below (w' := (w3.alloc (.cells (Array.replicate N (.slice none 0 0)) 27)).alloc (.cells #[.slice (some ⟨O, 0, none⟩) N N] 22)) ((Below.refl _ _).alloc (Nat.le_refl _) _) (Nat.le_refl _)
          rw [hO, ← bldT_zero N W] at hmB
          have HST : Hid (Below O w3 ((w3.alloc (.cells (Array.replicate N (.slice none 0 0)) 27)).alloc (.cells #[.slice (some ⟨O, 0, none⟩) N N] 22)) ∧ ((w3.alloc (.cells (Array.replicate N (.slice none 0 0)) 27)).alloc (.cells #[.slice (some ⟨O, 0, none⟩) N N] 22)).heap[O + 1]? = some (.cells #[.slice (some ⟨O, 0, none⟩) N N] 22 (0, 0)) ∧ ∃ hs, HasH O ((w3.alloc (.cells (Array.replicate N (.slice none 0 0)) 27)).alloc (.cells #[.slice (some ⟨O, 0, none⟩) N N] 22)) (.slice (some ⟨O, 0, none⟩) N N) (bldT N W 0) hs) := ⟨hbB, hbt0, _, hmB⟩
          clear hps hPe hmade hbA hbt0 hbB hmB hWg
          go_wp2_with fail
          try rw [hO]
          clear HMK hO
          go_loopw [43] (fun i wr => ∃ k : Nat, k ≤ N ∧ i = .int .i64 (k : Int) ∧ Below O w3 wr ∧ wr.heap[O + 1]? = some (.cells #[.slice (some ⟨O, 0, none⟩) N N] 22 (0, 0)) ∧ ∃ hs, HasH O wr (.slice (some ⟨O, 0, none⟩) N N) (bldT N W k) hs) (fun i _ => N - (intOf i).toNat)
          case atStart => exact ⟨0, Nat.zero_le _, rfl, HST.out⟩
          case round =>
            clear HST
            obtain ⟨k, hk, rfl, hb, hbt, hs, hT⟩ := hrel
            have HB := Lib.hid hb
            have HBT := Lib.hid hbt
            have HT := Lib.hid hT
            have hszw := (Array.getElem?_eq_some_iff.1 hbt).1
            have hbx := (hb.block w.heap.size (by omega)).trans HBX3.out
            have HBXR := Lib.hid hbx
            by_cases hkN : k < N
            · have hkT : k < (bldT N W k).length := by rw [bldT_len]; exact hkN
              have hb1 : Below wr.heap.size wr (wr.drew.alloc (.cells #[.int .i64 (-1)] 3)) := (Below.refl _ _).drew.alloc (Nat.le_refl _) _
              have hb1' : Below wr.heap.size wr (wr.alloc (.cells #[.int .i64 (-1)] 3)) := (Below.refl _ _).alloc (Nat.le_refl _) _
              have hsz1 : wr.heap.size < (wr.drew.alloc (.cells #[.int .i64 (-1)] 3)).heap.size := by
                have e : (wr.drew.alloc (.cells #[.int .i64 (-1)] 3)).heap.size = wr.drew.heap.size + 1 := by simp
                rw [e]; exact Nat.lt_succ_self _
              have hce1 : (wr.drew.alloc (.cells #[.int .i64 (-1)] 3)).cell? ⟨wr.heap.size, 0, none⟩ = some (.int .i64 (-1)) := by
                have e := heap_alloc_new wr.drew (.cells #[.int .i64 (-1)] 3)
                rw [show wr.drew.heap.size = wr.heap.size from rfl] at e
                simp only [World.cell?, e]; rfl
              have HRP := Lib.hid (rep_any W (by omega) (wr.drew.alloc (.cells #[.int .i64 (-1)] 3)) ⟨wr.heap.size, 0, none⟩ 1 hce1 hsz1)
              unfold RepP at HRP
              have t0 := (cell_one hbt).1
              have t1 : (wr.alloc (.cells #[.int .i64 (-1)] 3)).cell? ⟨O + 1, 0, none⟩ = some (.slice (some ⟨O, 0, none⟩) N N) := (hb1'.cell (p := ⟨O + 1, 0, none⟩) hszw).trans t0
              have x0 := (box_at hbx).1
              have x1 : (wr.alloc (.cells #[.int .i64 (-1)] 3)).cell? ⟨w.heap.size, 0, none⟩ = some (.int .i64 (j : Int)) := (hb1'.cell (p := ⟨w.heap.size, 0, none⟩) (Array.getElem?_eq_some_iff.1 hbx).1).trans x0
              have HB1 := Lib.hid hb1
              have HSZ := Lib.hid hsz1
              have HKT := Lib.hid hkT
              clear hb hbt hT hbx hb1 hb1' hsz1 hce1 hkT
              go_upto_region 18 with fail
              go_region_law
                (go_simp
                 go_at_call 39
                 refine HRP.out.mono ?_
                 rintro e w4 ⟨g, hg, rfl, hgc, hb2⟩
                 have hb3 := HB1.out.trans (hb2.mono (Nat.le_of_lt HSZ.out))
                 have hT4 := HT.out.below hb3 (Nat.le_refl _)
                 have hbt4 := (hb3.block (O + 1) hszw).trans HBT.out
                 have t2 := (cell_one hbt4).1
                 have hrc := hT4.cellsAt k HKT.out
                 have hrf : w4.frozen? ⟨O, k, none⟩ = false := (by
                   rcases hT4.1.2 with ⟨e2, _⟩ | ⟨g', cap', cur, e2, -, e3, -⟩
                   · cases e2
                   · obtain rfl : O = g' := (Option.some.inj (congrArg Value.ownBlock e2 : some O = some g'))
                     simp [World.frozen?, e3])
                 have hI4 := intO_negs (O := wr.heap.size) (W := W) (g := g) (w := w4) (by have := HSZ.out; omega) (by omega) hgc
                 have hfr := HT.out.fresh HKT.out (by omega) hb3 hI4
                 rw [bldT_set hkN] at hfr
                 have hbt5 : (w4.setCell ⟨O, k, none⟩ (.slice (some ⟨g, 0, none⟩) W W)).heap[O + 1]? = some (.cells #[.slice (some ⟨O, 0, none⟩) N N] 22 (0, 0)) := (setCell_off (by omega)).trans hbt4
                 have hb5 : Below O w3 (w4.setCell ⟨O, k, none⟩ (.slice (some ⟨g, 0, none⟩) W W)) := (HB.out.trans (hb3.mono (by omega))).setCell (Nat.le_refl _) _
                 have HFR := Lib.hid hfr
                 have HBT5 := Lib.hid hbt5
                 have HB5 := Lib.hid hb5
                 clear hfr hbt5 hb5 hT4 hbt4 hb3 hb2 hgc hI4)
              all_goals
                go_wp2_with fail
                go_roundw
                case rel => exact ⟨k + 1, hkN, by go_num, HB5.out, HBT5.out, _, HFR.out⟩
                case measure => simp [intOf]; omega
            · obtain rfl : k = N := by omega
              have hT2 := hT
              rw [bldT_full] at hT2
              have hWg2 := HWG.out
              have hb1 : Below wr.heap.size wr (wr.alloc (.cells #[.slice none 0 0] 46)) := (Below.refl _ _).alloc (Nat.le_refl _) _
              have hsz1 : (wr.alloc (.cells #[.slice none 0 0] 46)).heap.size = wr.heap.size + 1 := by simp
              have hbo1 := heap_alloc_new wr (.cells #[.slice none 0 0] 46)
              have hOw := (Array.getElem?_eq_some_iff.1 hbt).1
              have hF1 : FilH O (wr.heap.size + 1) (O + 1) wr.heap.size (wr.alloc (.cells #[.slice none 0 0] 46)) (.slice (some ⟨O, 0, none⟩) k k) hs (TC.emptyT k W) [] :=
                ⟨(hb1.block (O + 1) hOw).trans hbt, hT2.below hb1 (Nat.le_refl _), fun q hq => by obtain rfl := Option.some.inj hq; exact (show O < wr.heap.size + 1 by omega), fun i hi q hq => by have := ((hT2.2.2.1 i hi).lt q hq).2; omega, ⟨_, [], hbo1, OutL.nil _ _⟩, by omega, by omega, by omega, by omega, by rw [hsz1]; exact Nat.le_refl _⟩
              have hbE : Below O w3 (wr.alloc (.cells #[.slice none 0 0] 46)) := hb.alloc (by omega) _
              have hRR : ∀ w', Below O w3 w' → ListsIn B w' (.slice pr n cr) rels := fun w' hb' => (HR.out.below HB4.out (Nat.le_refl _)).below hb' (by rw [HO.out]; exact Nat.le_refl _)
              have hXX : ∀ l ∈ rels, ∀ x ∈ l, x ≠ 0 ∧ -1000000 ≤ x ∧ x ≤ 1000000 ∧ colN x < 2 * j := fun l hl x hx => colN_lt (by omega) (any_lists HLET.out l hl x hx)
              have hLL : ∀ l ∈ rels, l.length ≤ 1000000 := fun l hl => Nat.le_trans (len_flatS l hl) HM.out
              have hok : TC.FOk (TC.holdM k (colsL rels)) (2 * j) k (k * (2 * j)) (TC.emptyT k (2 * j)) 1 := TC.empty_ok (by omega) (colsL rels)
              have hsl : (TC.subF k j (colsL rels)).length ≤ 20000 := by
                have h1 := TC.subF_len (n := k) (g := j) (by omega) (by omega) (colsL_lt (by omega) HLET.out)
                rw [ordL_fct hN4, HFC.out, HPE.out] at h1
                omega
              have hsub : TC.fillM (TC.holdM k (colsL rels)) (2 * j) k (k * (2 * j)) (TC.emptyT k (2 * j)) 1 = TC.subF k j (colsL rels) := rfl
              have HFL := Lib.hid (fill_any O (wr.heap.size + 1) (O + 1) wr.heap.size B k j rels (.slice pr n cr) (.slice (some ⟨O, 0, none⟩) k k) hs w3 hRR (by omega) hN4 hg5' hXX hLL (by rw [HLN.out]; omega) (k * (2 * j)) (TC.emptyT k (2 * j)) 1 [] (wr.alloc (.cells #[.slice none 0 0] 46)) hbE (by rw [hWg2]; exact hF1) hok (Nat.le_refl _) (by rw [hsub, List.length_nil]; omega))
              unfold TelP at HFL
              rw [hsub, List.nil_append] at HFL
              have c0 := (cell_one ((hb1.block (O + 1) hOw).trans hbt)).1
              obtain ⟨x0, x1⟩ := box_at ((hb1.block w.heap.size (by omega)).trans hbx)
              have HBE := Lib.hid hbE
              have HBW : Hid (w.heap.size ≤ O) := by unfold Hid; omega
              clear hb hbt hT hT2 hWg2 hb1 hsz1 hbo1 hOw hF1 hbE hRR hXX hLL hok hsl hsub hbx
              go_wp2_with fail
              refine HFL.out.mono ?_
              rintro e w5 ⟨rfl, hb5, -, hF5⟩
              obtain ⟨vo, hL, ho1, ho2⟩ := hF5.ob
              have HOR := Lib.hid (fun B' : Nat => (ho2.read : OutR B' w5 vo (TC.subF k j (colsL rels))))
              have c5 := (cell_one ho1).1
              have HB5 := Lib.hid (HB4.out.trans ((HBE.out.trans hb5).mono (by rw [← HO.out]; exact HB4.out.size)))
              clear hb5 hF5 ho1 ho2 c0 x0 x1
              go_wp2_with fail
              go_ret2
              rw [HE.out, HE2.out]
              exact ⟨HB5.out, _, rfl, HOR.out⟩
end Go.Proofs.YtedehmknijlgpaaDoor
