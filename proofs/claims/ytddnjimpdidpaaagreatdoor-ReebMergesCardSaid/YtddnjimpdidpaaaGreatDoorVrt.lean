/-
  A right complex: its facets and its faces; its vertices (plain).
  slices.Grow from nothing, slices.Concat of lists of numbers and of two lists of lists, by contracts.
  cells.Vertices by a contract (without cells.both).
  The document's VerticesOf by a contract.
-/
import Derived.Test.YtddnjimpdidpaaaGreatDoorParA
import Derived.Test.YtddnjimpdidpaaaGreatDoorParB
import Derived.Test.YtddnjimpdidpaaaGreatDoorCRefF
import Derived.Test.YtddnjimpdidpaaaGreatDoorTabB
import Derived.Lib.AppendZeros
import Derived.Lib.QuietBelow
set_option linter.unusedVariables false
set_option linter.unusedSimpArgs false
namespace Go.Proofs.YtddnjimpdidpaaaGreatDoor
open Go Go.RowKit Go.Maps

theorem allF_ne {L : List (List Int)} : ∀ g ∈ allF L, g ≠ [] := fun g hg => (mem_allF.1 hg).1
theorem allF_rises {L : List (List Int)} (h : errC L = 0) : ∀ g ∈ allF L, Rise g := fun g hg => isF_rise (errC_ok h).1 (mem_allF.1 hg)
theorem closed_under {L : List (List Int)} : ∀ g ∈ allF L, ∀ h, h.Sublist g → h ≠ [] → h ∈ allF L := fun g hg h hs hne => mem_allF.2 (isF_sub (mem_allF.1 hg) hs hne)
/-- a right complex: its facets and its faces -/
theorem right_rise {L : List (List Int)} (h : errX L = 0) : ∀ l ∈ L, l ∈ allF L := fun l hl => by
  have := (errX_ok h).2
  rw [this] at hl
  exact mem_facets hl
theorem right_up {L : List (List Int)} (h : errX L = 0) {g : List Int} (hg : g ∈ allF L) : ∃ l ∈ L, g.Sublist l := by
  obtain ⟨-, l, hl, hs⟩ := mem_allF.1 hg
  rw [sortI_rise (allF_rises (errX_ok h).1 l (right_rise h l hl))] at hs
  exact ⟨l, hl, hs⟩
/-- a complex's vertices: the program's words; the document's -/
def vertA (L : List (List Int)) : List Int := setL L.flatten
def vertR (A : List (List Int)) : List Int := A.filterMap fun x => if x.length = 1 then some (x.getD 0 0) else none
theorem mem_vertA {L : List (List Int)} {x : Int} : x ∈ vertA L ↔ ∃ l ∈ L, x ∈ l := by unfold vertA; rw [mem_setL, List.mem_flatten]
theorem mem_vertR {A : List (List Int)} {x : Int} : x ∈ vertR A ↔ [x] ∈ A := by
  unfold vertR
  rw [List.mem_filterMap]
  constructor
  · rintro ⟨y, hy, h⟩
    by_cases h1 : y.length = 1
    · rw [if_pos h1] at h
      obtain ⟨z, rfl⟩ := List.length_eq_one_iff.1 h1
      cases h; exact hy
    · rw [if_neg h1] at h; cases h
  · intro h
    exact ⟨[x], h, rfl⟩
theorem rise_vertR : ∀ {A : List (List Int)}, SortedF A → Rise (vertR A)
  | [], _ => List.Pairwise.nil
  | y :: r, h => by
    obtain ⟨h1, h2⟩ := List.pairwise_cons.1 h
    have ih := rise_vertR h2
    have e : vertR (y :: r) = (if y.length = 1 then [y.getD 0 0] else []) ++ vertR r := by
      unfold vertR
      rw [List.filterMap_cons]
      by_cases h : y.length = 1
      · rw [if_pos h, if_pos h]; rfl
      · rw [if_neg h, if_neg h]; rfl
    rw [e]
    by_cases hy : y.length = 1
    · rw [if_pos hy]
      obtain ⟨z, rfl⟩ := List.length_eq_one_iff.1 hy
      refine List.pairwise_cons.2 ⟨fun x hx => ?_, ih⟩
      have h3 := h1 [x] (mem_vertR.1 hx)
      unfold ah at h3
      by_cases hzx : z = x
      · rw [if_pos hzx, ah_irrefl] at h3; cases h3
      · rw [if_neg hzx, decide_eq_true_eq] at h3; exact h3
    · rw [if_neg hy]; exact ih
theorem getD_mem {l : List Int} {i : Nat} (h : i < l.length) : l.getD i 0 ∈ l := by rw [List.getD_eq_getElem?_getD, List.getElem?_eq_getElem h]; exact List.getElem_mem h
theorem vert_same {L : List (List Int)} (h : errX L = 0) : vertR (allF L) = vertA L := rise_ext (rise_vertR (allF_sorted L)) (rise_setL _) fun x => by
  rw [mem_vertR, mem_vertA]
  constructor
  · intro hx
    obtain ⟨l, hl, hs⟩ := right_up h hx
    exact ⟨l, hl, hs.subset (List.mem_cons_self ..)⟩
  · rintro ⟨l, hl, hx⟩
    exact closed_under l (right_rise h l hl) [x] (List.singleton_sublist.2 hx) (by simp)
theorem vertR_len (A : List (List Int)) : (vertR A).length ≤ A.length := List.length_filterMap_le _ _
theorem vertR_step {A : List (List Int)} {j : Nat} (h : j < A.length) : vertR (A.take (j + 1)) = vertR (A.take j) ++ (if (A.getD j []).length = 1 then [(A.getD j []).getD 0 0] else []) := by
  unfold vertR
  rw [take_snoc_getD [] A j h, List.filterMap_append]
  generalize A.getD j [] = x
  by_cases hc : x.length = 1
  · rw [if_pos hc]; congr 1; simp only [List.filterMap_cons, List.filterMap_nil]; rw [if_pos hc]
  · rw [if_neg hc]; congr 1; simp only [List.filterMap_cons, List.filterMap_nil]; rw [if_neg hc]

/-- an owned row of no elements yet, in new memory -/
def GrowP (t : TypeId) (w : World) (e : Ending) (w' : World) : Prop := ∃ p c, e = .returned (.slice p 0 c) ∧ Below w.heap.size w w' ∧ w'.ownsRow w.heap.size t 1 (.slice p 0 c) 0 []
theorem zero_row {w : World} {n cap : Nat} {t : TypeId} {z : Value} (hz : z.cells.size = 1) (hn : n ≤ cap) (hc : cap ≤ maxLen) :
    (w.drew.alloc (.cells (Builtin.zeroCells z.cells n ++ Builtin.zeroCells z.cells (cap - n)) t)).ownsRow w.heap.size t 1 (.slice (some ⟨w.heap.size, 0, none⟩) 0 cap) 0 [] := by
  refine ⟨rfl, Or.inr ⟨w.heap.size, cap, _, rfl, Nat.le_refl _, heap_alloc_new w.drew _, Nat.zero_le _, hc, ?_, by simp⟩⟩
  rw [Array.size_append]
  have h : ∀ m, (Builtin.zeroCells z.cells m).size = m := fun m => by
    unfold Builtin.zeroCells
    simp [hz]
  rw [h, h]
  omega
set_option maxRecDepth 100000 in
set_option maxHeartbeats 4000000 in
theorem growI_any (n : Nat) (w : World) (hn : n ≤ 1000000) : Calls Tryz.prog 115 #[.slice none 0 0, .int .i64 (n : Int)] w (GrowP 3 w) := by
  obtain ⟨i3, hi3, hy0, hy1, hy2⟩ := info_parts Tryz.info3
  unfold GrowP
  by_cases h0 : n = 0
  · subst h0
    go_enter Tryz.func115, Tryz.ntmps115
    go_wp2_with fail
    go_ret
    exact ⟨none, 0, rfl, Below.refl _ _, World.ownsRow_nil _ _ _ _⟩
  · have hr := Lib.run_append_nil_zeros w 23 3 23 3 i3 (.int .i64 0) .i64 .i64 Tryz.underlying23 Tryz.underlying3 hi3 hy0 n (by omega) (by omega) (by omega) (by rw [hy2]; omega)
    have HRUN := Lib.hid hr
    have hge := grownCap_ge w n 0 3
    have hle := grownCap_le_maxLen w n 0 3 (by unfold maxLen; omega)
    have HZ := Lib.hid (zero_row (w := w) (t := 3) (z := .int .i64 0) rfl hge hle)
    generalize grownCap w n 0 3 = cap at hge hle HRUN HZ
    unfold maxLen at hle
    have hb : Below w.heap.size w (w.drew.alloc (.cells (Builtin.zeroCells (Value.int .i64 0).cells n ++ Builtin.zeroCells (Value.int .i64 0).cells (cap - n)) 3)) := (Below.refl _ _).drew.alloc (Nat.le_refl _) _
    obtain ⟨W, hW⟩ : ∃ W, W = w.drew.alloc (.cells (Builtin.zeroCells (Value.int .i64 0).cells n ++ Builtin.zeroCells (Value.int .i64 0).cells (cap - n)) 3) := ⟨_, rfl⟩
    have HRW := HRUN.out
    have HZW := HZ.out
    rw [← hW] at HRW hb HZW
    have HRUN2 := Lib.hid HRW
    have HZ2 := Lib.hid HZW
    have HB := Lib.hid hb
    clear hr hb HRW HZW HRUN HZ hW
    go_enter Tryz.func115, Tryz.ntmps115
    go_wp2_with (at_builtin; refine Lib.wpList_append_run w rfl (.tmp 20) (.tmp 21) 23 3 rfl _ _ rfl rfl _ _ HRUN2.out ?_)
    go_ret
    exact ⟨_, cap, rfl, HB.out, HZ2.out⟩
set_option maxRecDepth 100000 in
set_option maxHeartbeats 4000000 in
theorem growR_any (n : Nat) (w : World) (hn : n ≤ 1000000) : Calls Tryz.prog 101 #[.slice none 0 0, .int .i64 (n : Int)] w (GrowP 23 w) := by
  obtain ⟨i3, hi3, hy0, hy1, hy2⟩ := info_parts Tryz.info23
  unfold GrowP
  by_cases h0 : n = 0
  · subst h0
    go_enter Tryz.func101, Tryz.ntmps101
    go_wp2_with fail
    go_ret
    exact ⟨none, 0, rfl, Below.refl _ _, World.ownsRow_nil _ _ _ _⟩
  · have hr := Lib.run_append_nil_zeros w 22 3 22 23 i3 (.slice none 0 0) .i64 .i64 Tryz.underlying22 Tryz.underlying3 hi3 hy0 n (by omega) (by omega) (by omega) (by rw [hy2]; omega)
    have HRUN := Lib.hid hr
    have hge := grownCap_ge w n 0 23
    have hle := grownCap_le_maxLen w n 0 23 (by unfold maxLen; omega)
    have HZ := Lib.hid (zero_row (w := w) (t := 23) (z := .slice none 0 0) rfl hge hle)
    generalize grownCap w n 0 23 = cap at hge hle HRUN HZ
    unfold maxLen at hle
    have hb : Below w.heap.size w (w.drew.alloc (.cells (Builtin.zeroCells (Value.slice none 0 0).cells n ++ Builtin.zeroCells (Value.slice none 0 0).cells (cap - n)) 23)) := (Below.refl _ _).drew.alloc (Nat.le_refl _) _
    obtain ⟨W, hW⟩ : ∃ W, W = w.drew.alloc (.cells (Builtin.zeroCells (Value.slice none 0 0).cells n ++ Builtin.zeroCells (Value.slice none 0 0).cells (cap - n)) 23) := ⟨_, rfl⟩
    have HRW := HRUN.out
    have HZW := HZ.out
    rw [← hW] at HRW hb HZW
    have HRUN2 := Lib.hid HRW
    have HZ2 := Lib.hid HZW
    have HB := Lib.hid hb
    clear hr hb HRW HZW HRUN HZ hW
    go_enter Tryz.func101, Tryz.ntmps101
    go_wp2_with (at_builtin; refine Lib.wpList_append_run w rfl (.tmp 20) (.tmp 21) 22 3 rfl _ _ rfl rfl _ _ HRUN2.out ?_)
    go_ret
    exact ⟨_, cap, rfl, HB.out, HZ2.out⟩

theorem flat_step {α : Type} {L : List (List α)} {j : Nat} (h : j < L.length) : (L.take (j + 1)).flatten = (L.take j).flatten ++ L.getD j [] := by
  rw [take_snoc_getD [] L j h, List.flatten_append]
  simp
theorem flat_len {α : Type} (L : List (List α)) (j : Nat) : (L.take j).flatten.length ≤ L.flatten.length := by
  have h : L = L.take j ++ L.drop j := (List.take_append_drop j L).symm
  have h2 : L.flatten.length = (L.take j).flatten.length + (L.drop j).flatten.length := by
    rw [← List.length_append, ← List.flatten_append, ← h]
  omega
theorem flat_succ {α : Type} {L : List (List α)} {j : Nat} (h : j < L.length) : (L.take j).flatten.length + (L.getD j []).length ≤ L.flatten.length := by
  have h1 := flat_len L (j + 1)
  rw [flat_step h, List.length_append] at h1
  exact h1

/-- the numbers of lists, one behind the other, in new memory -/
def CatP (L : List (List Int)) (w : World) (e : Ending) (w' : World) : Prop := ∃ p c, e = .returned (.slice p L.flatten.length c) ∧ Below w.heap.size w w' ∧ w'.ownsRow w.heap.size 3 1 (.slice p L.flatten.length c) L.flatten.length (intVs L.flatten)
set_option maxRecDepth 100000 in
set_option maxHeartbeats 8000000 in
theorem catI_any (B : Nat) (L : List (List Int)) (v : Value) (w : World) (hv : ListsIn B w v L) (hn : L.length ≤ 1000000) (hs : L.flatten.length ≤ 1000000) :
    Calls Tryz.prog 81 #[v] w (CatP L w) := by
  obtain ⟨i3, hi3, hy0, hy1, hy2⟩ := info_parts Tryz.info3
  obtain ⟨pv, cv, hve, -⟩ := id hv
  obtain ⟨n, hLn⟩ : ∃ n, L.length = n := ⟨_, rfl⟩
  rw [hLn] at hve hn
  subst hve
  have HLN := Lib.hid hLn
  have HV := Lib.hid hv
  obtain ⟨m, hm⟩ : ∃ m, L.flatten.length = m := ⟨_, rfl⟩
  have HM := Lib.hid hm
  rw [hm] at hs
  unfold CatP
  rw [hm]
  clear hLn hv hm
  go_enter Tryz.func81, Tryz.ntmps81
  go_wp2_with fail
  go_loop [3, 5, 11] (fun s _ i => ∃ j k : Nat, j ≤ n ∧ i = .int .i64 j ∧ s = .int .i64 k ∧ Hid ((L.take j).flatten.length = k)) (fun _ _ i => n - (intOf i).toNat)
  case atStart => exact ⟨0, 0, Nat.zero_le _, rfl, rfl, rfl⟩
  case round =>
    obtain ⟨j, k, hj, rfl, rfl, HK⟩ := hrel
    have hkm : k ≤ m := by rw [← HK.out, ← HM.out]; exact flat_len L j
    by_cases hjn : j < n
    · have hjL : j < L.length := by rw [HLN.out]; exact hjn
      obtain ⟨b, off, c, hve⟩ := HV.out.form (by omega)
      rw [HLN.out] at hve
      obtain ⟨rfl, rfl⟩ : pv = some ⟨b, off, none⟩ ∧ cv = c := by cases hve; exact ⟨rfl, rfl⟩
      obtain ⟨pj, cj, hcj, hij⟩ := cells_at HV.out j hjL
      have hsc := flat_succ hjL
      have HST := Lib.hid (flat_step hjL)
      obtain ⟨nj, hnj⟩ : ∃ nj, (L.getD j []).length = nj := ⟨_, rfl⟩
      rw [hnj] at hcj hsc
      rw [HK.out, HM.out] at hsc
      have HNJ := Lib.hid hnj
      have q1 : decide (((k : Int) + (nj : Int)) < 0) = false := decide_eq_false (by omega)
      clear hve hij hnj hjL
      go_wp2_with fail
      go_round
      case rel => exact ⟨j + 1, k + nj, by omega, by go_num, by go_num, by unfold Hid; rw [HST.out, List.length_append, HK.out, HNJ.out]⟩
      case measure => simp [intOf]; omega
    · obtain rfl : n = j := by omega
      obtain rfl : k = m := by rw [← HK.out, ← HM.out, ← HLN.out, List.take_length]
      have HG := Lib.hid (growI_any k w (by omega))
      unfold GrowP at HG
      go_wp2_with fail
      refine HG.out.mono ?_
      rintro e w1 ⟨p1, c1, rfl, hb1, ho1⟩
      have HB1 := Lib.hid hb1
      have HO1 := Lib.hid ho1
      have hs1 := hb1.size
      have HV1 := Lib.hid (HV.out.below hb1 (Nat.le_refl _))
      clear hb1 ho1 HK hkm
      go_wp2_with fail
      go_loopw [6, 8, 27] (fun s _ i wr => ∃ (j q : Nat) (p : Option Addr) (c : Nat), j ≤ n ∧ i = .int .i64 j ∧ s = .slice p q c ∧ Hid ((L.take j).flatten.length = q) ∧ Below w.heap.size w wr ∧ wr.ownsRow w.heap.size 3 1 (.slice p q c) q (intVs (L.take j).flatten)) (fun _ _ i _ => n - (intOf i).toNat)
      case atStart => exact ⟨0, 0, p1, c1, Nat.zero_le _, rfl, rfl, rfl, HB1.out, HO1.out⟩
      case round =>
        obtain ⟨j, q, p, c, hj, rfl, rfl, HQ, hb, ho⟩ := hrel
        have HB := Lib.hid hb
        have HO := Lib.hid ho
        have hsr := hb.size
        have hqk : q ≤ k := by rw [← HQ.out, ← HM.out]; exact flat_len L j
        by_cases hjn : j < n
        · have hjL : j < L.length := by rw [HLN.out]; exact hjn
          have HVR := Lib.hid (HV.out.below hb (Nat.le_refl _))
          obtain ⟨b, off, c', hve⟩ := HV.out.form (by omega)
          rw [HLN.out] at hve
          obtain ⟨rfl, rfl⟩ : pv = some ⟨b, off, none⟩ ∧ cv = c' := by cases hve; exact ⟨rfl, rfl⟩
          obtain ⟨pj, cj, hcj, hij⟩ := cells_at HVR.out j hjL
          have hsc := flat_succ hjL
          have HST := Lib.hid (flat_step hjL)
          obtain ⟨nj, hnj⟩ : ∃ nj, (L.getD j []).length = nj := ⟨_, rfl⟩
          rw [hnj] at hcj hsc hij
          rw [HQ.out, HM.out] at hsc
          have HNJ := Lib.hid hnj
          have HIJ := Lib.hid hij.at
          clear hve hij hnj hjL hb ho
          go_wp2_with (at_builtin; refine wpList_app_any wr rfl (.tmp 31) (.tmp 32) 23 rfl w.heap.size 3 i3 (.int .i64 0) 8 Tryz.underlying23 hi3 hy0 hy1 hy2 rfl (.slice p q c) q (intVs (L.take j).flatten) rfl HO.out pj nj cj (intVs (L.getD j [])) rfl HIJ.out.lenE HIJ.out.noneE HIJ.out.news (intVs_one _) (by unfold maxLen; omega) (by omega) hsr _ rfl ?_; intro p2 c2 w2 ho2 hg2 hat2; have HO2 := Lib.hid ho2; have HB2 := Lib.hid (HB.out.grown hg2 hsr (fun k e => (HO.out.lt k e).1)); clear ho2 hg2 hat2)
          go_roundw
          case rel =>
            refine ⟨j + 1, q + nj, p2, c2, by omega, by go_num, rfl, by unfold Hid; rw [HST.out, List.length_append, HQ.out, HNJ.out], HB2.out, ?_⟩
            have e : intVs (L.take j).flatten ++ intVs (L.getD j []) = intVs (L.take (j + 1)).flatten := by rw [HST.out]; simp [intVs]
            rw [← e]
            exact HO2.out
          case measure => simp [intOf]; omega
        · obtain rfl : n = j := by omega
          have HF : Hid ((L.take n) = L) := by unfold Hid; rw [← HLN.out, List.take_length]
          obtain rfl : q = k := by rw [← HQ.out, ← HM.out, HF.out]
          rw [HF.out] at HO
          clear hb ho HQ
          go_wp2_with fail
          go_ret
          exact ⟨p, c, rfl, HB.out, HO.out⟩

/-- the headers of a slice of lists -/
theorem ListsIn.heads {B : Nat} {w : World} {p : Option Addr} {m c : Nat} {L : List (List Int)} (h : ListsIn B w (.slice p m c) L) :
    ∃ news : List Value, news.length = m ∧ (p = none → c = 0 ∧ m = 0) ∧ (∀ ad, p = some ad → ∀ j u, news[j]? = some u → w.cell? (ad.add j) = some u) ∧ (∀ i, i < L.length → IntsIn B w (news.getD i .nilIface) (L.getD i [])) ∧ (∀ u ∈ news, u.oneCell' = true) ∧ L.length = m := by
  rcases Nat.eq_zero_or_pos L.length with h0 | h0
  · obtain ⟨p', c', e, h1, h2, -⟩ := h
    cases e
    refine ⟨[], by rw [h0]; rfl, fun e => ⟨h2 e, h0⟩, fun ad _ j u hu => by simp at hu, fun i hi => by omega, fun u hu => by simp at hu, rfl⟩
  · obtain ⟨b, off, c', hs, e, h1, h2, h3, h4, h5⟩ := h.src h0
    cases e
    refine ⟨hs, h2, fun e => (by cases e), fun ad e j u hu => ?_, h4, h5, rfl⟩
    cases e
    rw [add_off]
    exact h3 j u hu

set_option maxRecDepth 100000 in
set_option maxHeartbeats 8000000 in
theorem catR_any (B : Nat) (T : List (List (List Int))) (v : Value) (w : World) (hB : B ≤ w.heap.size) (hv : TabIn B w v T) (hn : T.length ≤ 1000000) (hs : T.flatten.length ≤ 1000000) :
    Calls Tryz.prog 63 #[v] w (ListPost B T.flatten w) := by
  obtain ⟨i39, hi39, hz0, hz1, hz2⟩ := info_parts Tryz.info23
  obtain ⟨pv, cv, hve, -⟩ := id hv
  obtain ⟨n, hLn⟩ : ∃ n, T.length = n := ⟨_, rfl⟩
  rw [hLn] at hve hn
  subst hve
  have HLN := Lib.hid hLn
  have HV := Lib.hid hv
  have HBB := Lib.hid hB
  obtain ⟨m, hm⟩ : ∃ m, T.flatten.length = m := ⟨_, rfl⟩
  have HM := Lib.hid hm
  rw [hm] at hs
  have HU := Lib.hid (under_tab)
  clear hLn hv hm hB
  unfold ListPost
  go_enter Tryz.func63, Tryz.ntmps63
  go_wp2_with fail
  go_loop [3, 5, 11] (fun s _ i => ∃ j k : Nat, j ≤ n ∧ i = .int .i64 j ∧ s = .int .i64 k ∧ Hid ((T.take j).flatten.length = k)) (fun _ _ i => n - (intOf i).toNat)
  case atStart => exact ⟨0, 0, Nat.zero_le _, rfl, rfl, rfl⟩
  case round =>
    obtain ⟨j, k, hj, rfl, rfl, HK⟩ := hrel
    have hkm : k ≤ m := by rw [← HK.out, ← HM.out]; exact flat_len T j
    by_cases hjn : j < n
    · have hjL : j < T.length := by rw [HLN.out]; exact hjn
      obtain ⟨pv', cv', hve, -, -, hx⟩ := id HV.out
      obtain ⟨b, off, u, e1, e2, e3⟩ := hx j hjL
      obtain ⟨rfl, rfl⟩ : pv = pv' ∧ cv = cv' := by cases hve; exact ⟨rfl, rfl⟩
      subst e1
      obtain ⟨pj, cj, hue, -⟩ := id e3
      have hsc := flat_succ hjL
      have HST := Lib.hid (flat_step hjL)
      obtain ⟨nj, hnj⟩ : ∃ nj, (T.getD j []).length = nj := ⟨_, rfl⟩
      rw [hnj] at hue hsc
      subst hue
      rw [HK.out, HM.out] at hsc
      have HNJ := Lib.hid hnj
      have q1 : decide (((k : Int) + (nj : Int)) < 0) = false := decide_eq_false (by omega)
      clear hve hnj hjL hx e3
      go_wp2_with fail
      go_round
      case rel => exact ⟨j + 1, k + nj, by omega, by go_num, by go_num, by unfold Hid; rw [HST.out, List.length_append, HK.out, HNJ.out]⟩
      case measure => simp [intOf]; omega
    · obtain rfl : n = j := by omega
      obtain rfl : k = m := by rw [← HK.out, ← HM.out, ← HLN.out, List.take_length]
      have HG := Lib.hid (growR_any k w (by omega))
      unfold GrowP at HG
      go_wp2_with fail
      refine HG.out.mono ?_
      rintro e w1 ⟨p1, c1, rfl, hb1, ho1⟩
      have HB1 := Lib.hid hb1
      have HO1 := Lib.hid ho1
      have hs1 := hb1.size
      clear hb1 ho1 HK hkm
      go_wp2_with fail
      go_loopw [6, 8, 27] (fun s _ i wr => ∃ j : Nat, j ≤ n ∧ i = .int .i64 j ∧ Below w.heap.size w wr ∧ RowsO w.heap.size B wr s (T.take j).flatten) (fun _ _ i _ => n - (intOf i).toNat)
      case atStart => exact ⟨0, Nat.zero_le _, rfl, HB1.out, ⟨[], HO1.out, rfl, fun i h => absurd h (by simp)⟩⟩
      case round =>
        obtain ⟨j, hj, rfl, hb, hR⟩ := hrel
        have HB := Lib.hid hb
        have hsr := hb.size
        by_cases hjn : j < n
        · have hjL : j < T.length := by rw [HLN.out]; exact hjn
          obtain ⟨pv', cv', hve, -, -, hx⟩ := id (HV.out.below hb (Nat.le_refl _))
          obtain ⟨b, off, u, e1, e2, e3⟩ := hx j hjL
          obtain ⟨rfl, rfl⟩ : pv = pv' ∧ cv = cv' := by cases hve; exact ⟨rfl, rfl⟩
          subst e1
          obtain ⟨pj, cj, hue, -⟩ := id e3
          have hsc := flat_succ hjL
          have HST := Lib.hid (flat_step hjL)
          obtain ⟨nj, hnj⟩ : ∃ nj, (T.getD j []).length = nj := ⟨_, rfl⟩
          rw [hnj] at hue hsc
          subst hue
          rw [HM.out] at hsc
          obtain ⟨news, d1, d2, d3, d4, d5, -⟩ := e3.heads
          obtain ⟨hs', h1, h2, h3⟩ := hR
          have H1 := Lib.hid h1
          have H2 := Lib.hid h2
          have H3 := Lib.hid h3
          have D1 := Lib.hid d1
          have D2 := Lib.hid d2
          have D3 := Lib.hid d3
          have D4 := Lib.hid d4
          have D5 := Lib.hid d5
          obtain ⟨q, hq⟩ : ∃ q, (T.take j).flatten.length = q := ⟨_, rfl⟩
          have HQ := Lib.hid hq
          have hqs : q + nj ≤ k := by rw [← hq]; exact hsc
          rw [hq] at H1
          have HNJ := Lib.hid hnj
          clear hve hnj hjL hx e3 hb h1 h2 h3 d1 d2 d3 d4 d5 hq hsc
          go_wp2_with (at_builtin; refine wpList_app_any wr rfl (.tmp 31) (.tmp 32) 22 rfl w.heap.size 23 i39 (.slice none 0 0) 24 Tryz.underlying22 hi39 hz0 hz1 hz2 rfl _ q hs' rfl H1.out pj nj cj news rfl D1.out D2.out D3.out D5.out (by unfold maxLen; omega) (by omega) hsr _ rfl ?_; intro p2 c2 w2 ho2 hg2 hat2; have HO2 := Lib.hid ho2; have HG2 := Lib.hid hg2; have HB2 := Lib.hid (HB.out.grown hg2 hsr (fun k e => (H1.out.lt k e).1)); clear ho2 hg2 hat2)
          go_roundw
          case rel =>
            refine ⟨j + 1, by omega, by go_num, HB2.out, ?_⟩
            rw [HST.out]
            exact rowsO_app HBB.out (by rw [HQ.out]; exact H1.out) H2.out H3.out (by rw [D1.out, HNJ.out]) D4.out (by rw [HQ.out, HNJ.out]; exact HO2.out) HG2.out
          case measure => simp [intOf]; omega
        · obtain rfl : n = j := by omega
          have HF : Hid ((T.take n) = T) := by unfold Hid; rw [← HLN.out, List.take_length]
          rw [HF.out] at hR
          have HR := Lib.hid hR
          clear hb hR
          go_wp2_with fail
          go_ret
          exact ⟨_, rfl, HB.out, HR.out⟩

/-- an error told by its number -/
def errV (a : Nat → Addr) (n : Nat) : Value := if n = 0 then .nilIface else errE (a (n - 1))
theorem errV_0 (a : Nat → Addr) : errV a 0 = .nilIface := rfl
theorem errV_succ (a : Nat → Addr) (k : Nat) : errV a (k + 1) = errE (a k) := rfl
theorem valid_e (a : Nat → Addr) (B : Nat) (L : List (List Int)) (v : Value) (w : World) (hS : Sents w a) (hB : B ≤ w.heap.size) (hv : ListsIn B w v L) (hn : L.length ≤ 100000) (hl : ∀ l ∈ L, l.length ≤ 100000) :
    Calls Tryz.prog 38 #[.agg #[v]] w (Gives (errV a (errX L)) w) := (valid_any a B L v w hS hB hv hn hl).mono fun e w' h => by
  obtain ⟨hb, ⟨h0, rfl⟩ | ⟨k, hk, h1, rfl⟩⟩ := h
  · exact ⟨by rw [h0, errV_0], hb⟩
  · exact ⟨by rw [h1, errV_succ], hb⟩
theorem compact_set {f : List Int} (h : f.Pairwise (· ≤ ·)) : Rise (Lib.compact f) ∧ ∀ x, x ∈ Lib.compact f ↔ x ∈ f := by
  have hk : ∀ j, Lib.keeps f.toArray j = true ↔ (j = 0 ∨ f.toArray[j]! ≠ f.toArray[j - 1]!) := fun j => by
    unfold Lib.keeps
    simp
  have hget : ∀ j, j < f.length → f.toArray[j]! = f.getD j 0 := fun j hj => by
    simp [List.getD_eq_getElem?_getD, List.getElem?_eq_getElem hj, hj]
  have hle : ∀ i j, i ≤ j → j < f.length → f.getD i 0 ≤ f.getD j 0 := fun i j hij hj => by
    rcases Nat.eq_or_lt_of_le hij with rfl | hlt
    · exact Int.le_refl _
    · have h2 := List.pairwise_iff_getElem.1 h i j (by omega) hj hlt
      rw [List.getD_eq_getElem?_getD, List.getD_eq_getElem?_getD, List.getElem?_eq_getElem (show i < f.length by omega), List.getElem?_eq_getElem hj]
      exact h2
  constructor
  · unfold Lib.compact Lib.compactUpTo Rise
    rw [List.pairwise_map, List.pairwise_filter]
    refine List.Pairwise.imp_of_mem (fun {i j} hi hj hij hki hkj => ?_) (List.pairwise_lt_range (n := f.length))
    have hj := List.mem_range.1 hj
    have h1 := (hk j).1 hkj
    rw [hget i (by omega), hget j hj]
    rw [hget j hj, hget (j - 1) (by omega)] at h1
    have h2 := hle i (j - 1) (by omega) (by omega)
    have h3 := hle (j - 1) j (by omega) hj
    rcases h1 with h1 | h1 <;> omega
  · intro x
    unfold Lib.compact Lib.compactUpTo
    rw [List.mem_map]
    constructor
    · rintro ⟨j, hj, rfl⟩
      have hj := List.mem_range.1 (List.mem_filter.1 hj).1
      rw [hget j hj]
      exact getD_mem hj
    · intro hx
      obtain ⟨i, hi, rfl⟩ := List.getElem_of_mem hx
      have hall : ∀ i, i < f.length → ∃ j, j < f.length ∧ Lib.keeps f.toArray j = true ∧ f.getD j 0 = f.getD i 0 := fun i => by
        induction i with
        | zero => exact fun h0 => ⟨0, h0, (hk 0).2 (Or.inl rfl), rfl⟩
        | succ i ih =>
          intro h1
          by_cases hc : f.getD (i + 1) 0 = f.getD i 0
          · obtain ⟨j, a1, a2, a3⟩ := ih (by omega)
            exact ⟨j, a1, a2, a3.trans hc.symm⟩
          · refine ⟨i + 1, h1, (hk _).2 (Or.inr ?_), rfl⟩
            rw [hget (i + 1) h1, show i + 1 - 1 = i from rfl, hget i (by omega)]
            exact hc
      obtain ⟨j, a1, a2, a3⟩ := hall i hi
      refine ⟨j, List.mem_filter.2 ⟨List.mem_range.2 a1, a2⟩, ?_⟩
      rw [hget j a1, a3, List.getD_eq_getElem?_getD, List.getElem?_eq_getElem hi]
      rfl
theorem compact_sort (f : List Int) : Lib.compact (sortI f) = setL f := rise_ext (compact_set (sortI_sorted f)).1 (rise_setL f) fun x => by
  rw [(compact_set (sortI_sorted f)).2, mem_sortI, mem_setL]
/-- slices.Compact: what it leaves -/
def CompactQ (O g cap : Nat) (f : List Int) (w : World) (e : Ending) (w' : World) : Prop := e = .returned (.slice (some ⟨g, 0, none⟩) (Lib.compact f).length cap) ∧ w.grownBy w' (some g) ∧ w'.ownsRow O 3 1 (.slice (some ⟨g, 0, none⟩) (Lib.compact f).length cap) (Lib.compact f).length (intVs (Lib.compact f))
theorem compactQ_any (f : List Int) (O g cap : Nat) (w : World) (ho : w.ownsRow O 3 1 (.slice (some ⟨g, 0, none⟩) f.length cap) f.length (intVs f)) (hn : f.length ≤ 1000000) :
    Calls Tryz.prog 82 #[.slice (some ⟨g, 0, none⟩) f.length cap] w (CompactQ O g cap f w) := by
  have hcap : f.length ≤ cap := by
    rcases ho.2 with ⟨he, _⟩ | ⟨g', cap', cur, he, _, _, hle, hm, _⟩
    · cases he
    · cases he; exact hle
  refine (Tryz.slices_Compact_int g 0 cap f w (holds_owned rfl ho) (by omega) hcap).mono fun e w' ⟨he, q, hw⟩ => ?_
  subst hw
  have hcl := Lib.compact_length_le f
  refine ⟨he, ?_, ?_⟩
  · rw [grow_none (Sort.putRow _ _ _ _ _)]; exact put_grown _
  · have h := put_owns (enc := Value.int .i64) (q := q) (os := #[]) (Lib.compact f ++ List.replicate (f.length - (Lib.compact f).length) 0) (Lib.compact f).length (by simp; omega) (by omega) ho
    rw [Sort.grow_empty, List.take_append_of_le_length (Nat.le_refl _), List.take_length] at h
    exact h

set_option maxHeartbeats 8000000 in
theorem vertices_any (B : Nat) (L : List (List Int)) (v : Value) (w : World) (hv : ListsIn B w v L) (hn : L.length ≤ 100000) (hs : L.flatten.length ≤ 100000) :
    Calls Tryz.prog 39 #[.agg #[v]] w (NumsP B (vertA L) w) := by
  obtain ⟨pv, cv, hve, -⟩ := id hv
  generalize hLn : L.length = n at hve
  subst hve
  obtain ⟨w0, hw0⟩ : ∃ w0, w0 = w.alloc (.cells #[.slice pv n cv] 34) := ⟨_, rfl⟩
  have hb0 : Below w.heap.size w w0 := by rw [hw0]; exact (Below.refl _ _).alloc (Nat.le_refl _) _
  have HCA := Lib.hid (catI_any B L (.slice pv n cv) w0 (hv.below hb0 (Nat.le_refl _)) (by omega) (by omega))
  unfold CatP at HCA
  have HB0 := Lib.hid hb0
  have HW0 := Lib.hid hw0
  unfold vertA NumsP
  obtain ⟨F, hF⟩ : ∃ F, L.flatten = F := ⟨_, rfl⟩
  rw [hF] at HCA hs ⊢
  clear hv hn hb0 hw0 hLn hF
  go_enter Tryz.func39, Tryz.ntmps39
  go_wp2_with fail
  rw [← HW0.out]
  refine HCA.out.mono ?_
  rintro e w1 ⟨p1, c1, rfl, hb1, ho1⟩
  have HB1 := Lib.hid (HB0.out.trans (hb1.mono HB0.out.size))
  rcases Nat.eq_zero_or_pos F.length with h0 | h0
  · obtain rfl : F = [] := List.length_eq_zero_iff.1 h0
    have HI := Lib.hid (ints_owned (B := B) ho1 rfl)
    have HSO := Lib.hid (Tryz.slices_Sort_int_none p1 c1 w1)
    have HCO := Lib.hid (Tryz.slices_Compact_int_empty p1 c1 w1)
    clear hb1 ho1 h0 hs
    simp only [List.length_nil]
    go_wp2_with fail
    refine HSO.out.mono ?_
    rintro e w2 ⟨rfl, rfl⟩
    go_wp2_with fail
    refine HCO.out.mono ?_
    rintro e w3 ⟨rfl, rfl⟩
    go_wp2_with fail
    go_ret
    exact ⟨p1, c1, rfl, HB1.out, HI.out⟩
  · obtain ⟨g, cap, he⟩ := Joins.ownsRow_form ho1 h0
    rw [he] at ho1
    cases he
    have HSO := Lib.hid (sort_any F _ g c1 w1 ho1 hs)
    unfold SortPost at HSO
    have HG := Lib.hid ((ho1.lt g rfl).1)
    have HLE : Hid ((sortI F).length = F.length) := sortI_len F
    obtain ⟨n1, hn1⟩ : ∃ n1, F.length = n1 := ⟨_, rfl⟩
    have HN1 := Lib.hid hn1
    have hn1b : n1 ≤ 100000 := by omega
    rw [hn1] at HSO ho1
    have HZ := Lib.hid (hb1.size)
    rw [hn1]
    clear hb1 ho1 h0 hs hn1
    go_wp2_with fail
    refine HSO.out.mono ?_
    rintro e w2 ⟨rfl, hg2, ho2⟩
    have HB2 := Lib.hid (grown_below HB1.out hg2 (by have := HG.out; have := HB0.out.size; omega))
    have e1 : (sortI F).length = n1 := HLE.out.trans HN1.out
    rw [← e1] at ho2
    have HCO := Lib.hid (compactQ_any (sortI F) _ g c1 w2 ho2 (by omega))
    unfold CompactQ at HCO
    rw [compact_sort, e1] at HCO
    clear hg2 ho2 e1 HSO
    go_wp2_with fail
    refine HCO.out.mono ?_
    rintro e w3 ⟨rfl, hg3, ho3⟩
    have HB3 := Lib.hid (grown_below HB2.out hg3 (by have := HG.out; have := HB0.out.size; omega))
    have HI := Lib.hid (ints_owned (B := B) ho3 rfl)
    clear hg3 ho3 HCO
    go_wp2_with fail
    go_ret
    exact ⟨_, c1, rfl, HB3.out, HI.out⟩

set_option maxRecDepth 100000 in
set_option maxHeartbeats 8000000 in
theorem verticesOf_any (B : Nat) (A : List (List Int)) (v : Value) (w : World) (hv : ListsIn B w v A) (hn : A.length ≤ 100000) (hl : ∀ l ∈ A, l.length ≤ 100000) :
    Calls Tryz.prog 15 #[v] w (NumsP B (vertR A) w) := by
  obtain ⟨i3, hi3, hy0, hy1, hy2⟩ := info_parts Tryz.info3
  obtain ⟨pv, cv, hve, -⟩ := id hv
  obtain ⟨n, hLn⟩ : ∃ n, A.length = n := ⟨_, rfl⟩
  rw [hLn] at hve hn
  subst hve
  have HLN := Lib.hid hLn
  have HV := Lib.hid hv
  have HL := Lib.hid hl
  clear hLn hv hl
  go_enter Tryz.func15, Tryz.ntmps15
  go_wp2_with fail
  go_loopw [3, 4] (fun s i wr => ∃ j : Nat, j ≤ n ∧ i = .int .i64 j ∧ Below w.heap.size w wr ∧ wr.ownsRow w.heap.size 3 1 s (vertR (A.take j)).length (intVs (vertR (A.take j)))) (fun _ i _ => n - (intOf i).toNat)
  case atStart => exact ⟨0, Nat.zero_le _, rfl, Below.refl _ _, World.ownsRow_nil _ _ _ _⟩
  case round =>
    obtain ⟨j, hj, rfl, hb, hO⟩ := hrel
    have HB := Lib.hid hb
    have hsw := hb.size
    by_cases hjn : j < n
    · have hjL : j < A.length := by rw [HLN.out]; exact hjn
      obtain ⟨b, off, c', hve⟩ := HV.out.form (by omega)
      rw [HLN.out] at hve
      obtain ⟨rfl, rfl⟩ : pv = some ⟨b, off, none⟩ ∧ cv = c' := by cases hve; exact ⟨rfl, rfl⟩
      obtain ⟨pj, cj, hcj, hij⟩ := cells_at (HV.out.below hb (Nat.le_refl _)) j hjL
      have hlj := HL.out _ (getL_mem hjL)
      have HST := Lib.hid (vertR_step hjL)
      obtain ⟨x, hx⟩ : ∃ x, A.getD j [] = x := ⟨_, rfl⟩
      rw [hx] at hcj hij hlj HST
      obtain ⟨nx, hnx⟩ : ∃ nx, x.length = nx := ⟨_, rfl⟩
      rw [hnx] at hcj hij hlj
      have HNX := Lib.hid hnx
      obtain ⟨k, hk⟩ : ∃ k, (vertR (A.take j)).length = k := ⟨_, rfl⟩
      rw [hk] at hO
      have hkn : k ≤ 100000 := by
        rw [← hk]
        have h1 := vertR_len (A.take j)
        rw [List.length_take] at h1
        omega
      have HK := Lib.hid hk
      have HO := Lib.hid hO
      by_cases h1 : nx = 1
      · have q1 : ((nx : Int) == 1) = true := beq_iff_eq.2 (by omega)
        have q2 : (nx == 1) = true := beq_iff_eq.2 h1
        obtain ⟨pp, cc, he, -, -, hxx⟩ := id hij
        obtain ⟨b2, off2, e1, e2, -⟩ := hxx 0 (by rw [HNX.out]; omega)
        obtain ⟨rfl, rfl⟩ : pj = pp ∧ cj = cc := by rw [HNX.out] at he; cases he; exact ⟨rfl, rfl⟩
        subst e1
        rw [Nat.add_zero] at e2
        obtain ⟨z, hz⟩ : ∃ z, x.getD 0 0 = z := ⟨_, rfl⟩
        rw [hz] at e2
        have HZ := Lib.hid hz
        have HN1 := Lib.hid h1
        have hpos : 0 < nx := by omega
        clear hve hij hjL hx hnx hb hO hk he hxx hz h1
        go_wp2_with (at_builtin; refine wpList_append_lies _ rfl (.tmp 17) (.tmp 24) 23 rfl w.heap.size 3 i3 (.int .i64 0) 1 8 Tryz.underlying23 hi3 hy0 hy1 hy2 rfl (by decide) _ k (intVs (vertR (A.take j))) rfl (HO.out.alloc _) ⟨wr.heap.size, 0, none⟩ 1 1 [.int .i64 z] rfl rfl (World.news_of_block (cs := #[.int .i64 z]) (t := 3) (fr := (0, 0)) (heap_alloc_new wr _)) (by simp [Value.oneCell']) (by decide) (by unfold maxLen; omega) (by omega) (by simp; omega) (wr.heap.size + 1) (by simp) ?_; intro g2 c2 w9 hown2 hgr2 hat2 hlt2; have HO2 := Lib.hid hown2; have HG2 := Lib.hid hgr2; clear hown2 hgr2 hat2 hlt2)
        go_roundw
        case rel =>
          refine ⟨j + 1, by omega, by go_num, (HB.out.alloc hsw _).grown HG2.out (by simp; omega) (fun i hi => (HO.out.lt i hi).1), ?_⟩
          rw [HST.out, if_pos (by rw [HNX.out]; exact HN1.out), HZ.out, List.length_append, intVs_snoc, HK.out]
          exact HO2.out
        case measure => simp [intOf]; omega
      · have q1 : ((nx : Int) == 1) = false := beq_eq_false_iff_ne.2 (by omega)
        have q2 : (nx == 1) = false := beq_eq_false_iff_ne.2 h1
        have HN1 := Lib.hid h1
        clear hve hij hjL hx hnx hb hO hk h1
        go_wp2_with fail
        go_roundw
        case rel =>
          refine ⟨j + 1, by omega, by go_num, HB.out, ?_⟩
          rw [HST.out, if_neg (by rw [HNX.out]; exact HN1.out), List.append_nil, HK.out]
          exact HO.out
        case measure => simp [intOf]; omega
    · obtain rfl : n = j := by omega
      have hT : A.take n = A := by rw [← HLN.out, List.take_length]
      rw [hT] at hO
      have hI := ints_owned (B := B) hO rfl
      obtain ⟨p3, c3, hv3⟩ := hI.len
      rw [hv3] at hI
      obtain ⟨s, hs⟩ : ∃ s, (vertR A).length = s := ⟨_, rfl⟩
      rw [hs] at hI hv3
      subst hv3
      have HI := Lib.hid hI
      have HSS := Lib.hid hs
      clear hb hO hI hs hT
      go_wp2_with fail
      go_ret
      refine ⟨p3, c3, ?_, HB.out, ?_⟩
      · rw [HSS.out]; rfl
      · rw [HSS.out]; exact HI.out
end Go.Proofs.YtddnjimpdidpaaaGreatDoor
