/-
  The references' Sorted by a contract: the numbers, rising, each once; whether each was there once.
-/
import Derived.Test.YtoheffkiohfmoaaGreatDoorCRefA
import Derived.Laws.AppendOwnNone
import Derived.OwnWalk
namespace Go.Proofs.YtoheffkiohfmoaaGreatDoor
open Go Go.RowKit

def insU (l : List Int) (x : Int) : List Int := if x ∈ l then l else (l.filter fun y => decide (y < x)) ++ x :: l.filter fun y => decide (x < y)
theorem mem_insU {l : List Int} {x y : Int} : y ∈ insU l x ↔ y ∈ l ∨ y = x := by
  unfold insU
  by_cases h : x ∈ l
  · rw [if_pos h]
    exact ⟨Or.inl, fun h' => h'.elim id fun e => e ▸ h⟩
  · rw [if_neg h, List.mem_append, List.mem_cons, List.mem_filter, List.mem_filter, decide_eq_true_eq, decide_eq_true_eq]
    constructor
    · rintro (h' | h' | h')
      · exact Or.inl h'.1
      · exact Or.inr h'
      · exact Or.inl h'.1
    · rintro (h' | h')
      · have hne : y ≠ x := fun e => h (e ▸ h')
        rcases Int.lt_or_gt_of_ne hne with k | k
        · exact Or.inl ⟨h', k⟩
        · exact Or.inr (Or.inr ⟨h', k⟩)
      · exact Or.inr (Or.inl h')
theorem rise_insU {l : List Int} (h : Rise l) (x : Int) : Rise (insU l x) := by
  unfold insU
  by_cases hm : x ∈ l
  · rw [if_pos hm]; exact h
  · rw [if_neg hm]
    refine List.pairwise_append.2 ⟨h.sublist List.filter_sublist, List.pairwise_cons.2 ⟨fun g hg => by simpa using (List.mem_filter.1 hg).2, h.sublist List.filter_sublist⟩, fun a ha b hb => ?_⟩
    have k1 : a < x := by simpa using (List.mem_filter.1 ha).2
    rcases List.mem_cons.1 hb with e | hb
    · rw [e]; exact k1
    · have : x < b := by simpa using (List.mem_filter.1 hb).2
      omega
theorem insU_len (l : List Int) (x : Int) : (insU l x).length ≤ l.length + 1 := by
  unfold insU
  split
  · omega
  · rw [List.length_append, List.length_cons]
    have h : ∀ l : List Int, (l.filter fun y => decide (y < x)).length + (l.filter fun y => decide (x < y)).length ≤ l.length := by
      intro l
      induction l with
      | nil => simp
      | cons y r ih =>
        rw [List.filter_cons, List.filter_cons]
        by_cases h1 : y < x
        · have h2 : ¬ x < y := by omega
          simp [h1, h2]; omega
        · by_cases h2 : x < y
          · simp [h1, h2]; omega
          · simp [h1, h2]; omega
    have := h l
    omega
/-- the place of a number in a rising list -/
theorem insU_take {l : List Int} (h : Rise l) (x : Int) (k : Nat) (hk : k ≤ l.length) (h1 : ∀ i, i < k → l.getD i 0 < x) (h2 : k < l.length → x < l.getD k 0) : x ∉ l ∧ insU l x = l.take k ++ x :: l.drop k := by
  have hs : l = l.take k ++ l.drop k := (List.take_append_drop k l).symm
  have ht : ∀ g ∈ l.take k, g < x := fun g hg => by
    obtain ⟨i, hi, rfl⟩ := List.getElem_of_mem hg
    rw [List.length_take] at hi
    have := h1 i (by omega)
    rw [List.getD_eq_getElem?_getD, List.getElem?_eq_getElem (show i < l.length by omega)] at this
    rw [List.getElem_take]; exact this
  have hd : ∀ g ∈ l.drop k, x < g := fun g hg => by
    obtain ⟨i, hi, rfl⟩ := List.getElem_of_mem hg
    rw [List.length_drop] at hi
    have h3 := h2 (by omega)
    rw [List.getD_eq_getElem?_getD, List.getElem?_eq_getElem (show k < l.length by omega)] at h3
    rw [List.getElem_drop]
    rcases Nat.eq_zero_or_pos i with rfl | hp
    · exact h3
    · have := List.pairwise_iff_getElem.1 h k (k + i) (by omega) (by omega) (by omega)
      exact Int.lt_trans h3 this
  have hm : x ∉ l := by
    intro hm2
    rw [hs] at hm2
    rcases List.mem_append.1 hm2 with q | q
    · have := ht x q; omega
    · have := hd x q; omega
  refine ⟨hm, ?_⟩
  unfold insU
  rw [if_neg hm]
  conv => lhs; rw [hs]
  rw [List.filter_append, List.filter_append, List.filter_eq_self.2 (fun g hg => decide_eq_true (ht g hg)), List.filter_eq_nil_iff.2 (fun g hg => by have := hd g hg; simp; omega), List.filter_eq_nil_iff.2 (fun g hg => by have := ht g hg; simp; omega), List.filter_eq_self.2 (fun g hg => decide_eq_true (hd g hg))]
  simp
/-- the numbers of a list, rising, each once -/
def setL (l : List Int) : List Int := l.foldl insU []
theorem foldl_insU : ∀ (l s : List Int), Rise s → Rise (l.foldl insU s) ∧ ∀ y, y ∈ l.foldl insU s ↔ y ∈ s ∨ y ∈ l
  | [], s, h => ⟨h, fun y => by simp⟩
  | x :: r, s, h => by
    obtain ⟨a, b⟩ := foldl_insU r (insU s x) (rise_insU h x)
    refine ⟨a, fun y => ?_⟩
    show y ∈ r.foldl insU (insU s x) ↔ _
    rw [b, mem_insU, List.mem_cons]
    constructor
    · rintro ((h | h) | h)
      · exact Or.inl h
      · exact Or.inr (Or.inl h)
      · exact Or.inr (Or.inr h)
    · rintro (h | h | h)
      · exact Or.inl (Or.inl h)
      · exact Or.inl (Or.inr h)
      · exact Or.inr h
theorem rise_setL (l : List Int) : Rise (setL l) := (foldl_insU l [] List.Pairwise.nil).1
theorem mem_setL {l : List Int} {y : Int} : y ∈ setL l ↔ y ∈ l := by unfold setL; rw [(foldl_insU l [] List.Pairwise.nil).2]; simp
theorem setL_snoc (l : List Int) (x : Int) : setL (l ++ [x]) = insU (setL l) x := by unfold setL; rw [List.foldl_append]; rfl
theorem setL_len : ∀ l : List Int, (setL l).length ≤ l.length := by
  have h : ∀ (l s : List Int), (l.foldl insU s).length ≤ s.length + l.length := by
    intro l
    induction l with
    | nil => intro s; simp
    | cons x r ih =>
      intro s
      have h1 := ih (insU s x)
      have h2 := insU_len s x
      simp only [List.foldl_cons, List.length_cons]
      omega
  intro l
  have := h l []
  simpa [setL] using this
theorem setL_nodup {l : List Int} (h : l.Nodup) : setL l = sortI l := rise_ext (rise_setL l) (rise_sortI h) fun y => by rw [mem_setL, mem_sortI]
/-- is each number there once? -/
def onceB (l : List Int) : Bool := decide l.Nodup
theorem onceB_snoc (l : List Int) (x : Int) : onceB (l ++ [x]) = (onceB l && !decide (x ∈ l)) := by
  unfold onceB
  rw [Bool.eq_iff_iff]
  simp only [decide_eq_true_eq, Bool.and_eq_true, Bool.not_eq_true', decide_eq_false_iff_not]
  rw [List.nodup_append]
  constructor
  · rintro ⟨h1, -, h3⟩
    exact ⟨h1, fun hx => h3 x hx x (by simp) rfl⟩
  · rintro ⟨h1, h2⟩
    exact ⟨h1, by simp, fun a ha b hb => by
      obtain rfl := List.mem_singleton.1 hb
      exact fun e => h2 (e ▸ ha)⟩

/-- the address of s[k:] -/
def fromA (b off k cap : Nat) : Addr := if cap = k then ⟨b, off, none⟩ else ⟨b, off + k, none⟩
theorem fromA_lt {b off k cap : Nat} (h : k < cap) : fromA b off k cap = ⟨b, off + k, none⟩ := by unfold fromA; rw [if_neg (by omega)]
theorem run_from_ints (b off m cap k : Nat) (hk : k ≤ m) (w : World) :
    (Instr.slice 51 (.slice (some ⟨b, off, none⟩) m cap) (some (.int .i64 (k : Int))) none none).run Tryz.prog w = .ok (.slice (some (fromA b off k cap)) (m - k) (cap - k)) w := by
  have h1 : (0 : Int) ≤ (k : Int) ∧ (k : Int) ≤ (m : Int) := by omega
  have h2 : ¬ m < k := by omega
  unfold fromA
  by_cases hc : cap = k
  · simp [Instr.slice, Instr.sliceBounds, Instr.sliceBound, asIntOf, run_underlying Tryz.underlying51, h1, h2, hc]
  · simp [Instr.slice, Instr.sliceBounds, Instr.sliceBound, asIntOf, run_underlying Tryz.underlying51, h1, h2, hc, add_off]

theorem ret_ob {v : Value} {a b : Bool} (h : a = b) : Ending.returned (.tuple #[v, .bool a]) = .returned (.tuple #[v, .bool b]) := by rw [h]
def SortedPost (xs : List Int) (w : World) (e : Ending) (w' : World) : Prop :=
  ∃ v, e = .returned (.tuple #[v, .bool (onceB xs)]) ∧ Below w.heap.size w w' ∧ w'.ownsRow w.heap.size 3 1 v (setL xs).length (intVs (setL xs))

set_option maxRecDepth 100000 in
set_option maxHeartbeats 8000000 in
theorem sorted_any (xs : List Int) (u : Value) (w : World) (hu : IntsAt w u xs) (hx : xs.length ≤ 1000000) : Calls Tryz.prog 47 #[u] w (SortedPost xs w) := by
  obtain ⟨i3, hi3, hz30, hz31, hz32⟩ := info_parts Tryz.info3
  obtain ⟨p, c, rfl, -, -, hcells⟩ := hu
  have HC := Lib.hid hcells
  clear hcells
  obtain ⟨n, hn⟩ : ∃ n, xs.length = n := ⟨_, rfl⟩
  rw [hn] at hx ⊢
  have HN := Lib.hid hn
  clear hn
  go_enter Tryz.func47, Tryz.ntmps47
  go_wp2_with fail
  go_loopw [4, 5, 6] (fun v ob i wr => ∃ j : Nat, j ≤ n ∧ i = .int .i64 j ∧ ob = .bool (onceB (xs.take j)) ∧ Below w.heap.size w wr ∧ wr.ownsRow w.heap.size 3 1 v (setL (xs.take j)).length (intVs (setL (xs.take j)))) (fun _ _ i _ => n - (intOf i).toNat)
  case atStart => exact ⟨0, Nat.zero_le _, rfl, rfl, Below.refl _ _, World.ownsRow_nil _ _ _ _⟩
  case round =>
    obtain ⟨j, hj, rfl, rfl, hb, hown⟩ := hrel
    by_cases hjn : j < n
    · obtain ⟨b, off, rfl, hcell0⟩ := HC.out j (by rw [HN.out]; exact hjn)
      have hcell := (hb.cell (p := ⟨b, off + j, none⟩) (mem_lt hcell0)).trans hcell0
      have ht := take_snoc_getD 0 xs j (by rw [HN.out]; exact hjn)
      have hU := setL_snoc (xs.take j) (xs.getD j 0)
      have hO := onceB_snoc (xs.take j) (xs.getD j 0)
      rw [← ht] at hU hO
      have HU := Lib.hid hU
      have HO := Lib.hid hO
      have hmem : ∀ y, y ∈ setL (xs.take j) ↔ y ∈ xs.take j := fun y => mem_setL
      have HM := Lib.hid hmem
      have HR := Lib.hid (rise_setL (xs.take j))
      have hsl : (setL (xs.take j)).length ≤ 1000000 := by have := setL_len (xs.take j); rw [List.length_take] at this; omega
      generalize xs.getD j 0 = x at hcell HU HO
      generalize hoo : onceB (xs.take j) = oo at HO
      obtain ⟨U, hUU⟩ : ∃ U, setL (xs.take j) = U := ⟨_, rfl⟩
      rw [hUU] at HU HM HR hsl hown
      clear ht hU hO hmem hUU hcell0
      have HJ := Lib.hid (show x ∈ xs.take j ↔ x ∈ U from (HM.out x).symm)
      -- what comes of a number that is there, and of one that is not
      have hIN : ∀ k, k < U.length → U.getD k 0 = x → setL (xs.take (j + 1)) = U ∧ onceB (xs.take (j + 1)) = false := fun k hk e => by
        have hm : x ∈ U := by rw [← e, List.getD_eq_getElem?_getD, List.getElem?_eq_getElem hk]; exact List.getElem_mem _
        refine ⟨by rw [HU.out]; unfold insU; rw [if_pos hm], ?_⟩
        rw [HO.out, decide_eq_true (HJ.out.2 hm)]; simp
      have HIN := Lib.hid hIN
      have hOUT : ∀ k, k ≤ U.length → (∀ i, i < k → U.getD i 0 < x) → (k < U.length → x < U.getD k 0) → setL (xs.take (j + 1)) = U.take k ++ x :: U.drop k ∧ onceB (xs.take (j + 1)) = oo := fun k hk h1 h2 => by
        obtain ⟨e1, e2⟩ := insU_take HR.out x k hk h1 h2
        refine ⟨by rw [HU.out]; exact e2, ?_⟩
        rw [HO.out, decide_eq_false (fun h => e1 (HJ.out.1 h))]; simp
      have HOUT := Lib.hid hOUT
      clear hIN hOUT HU HO HM HJ
      obtain ⟨m, hm⟩ : ∃ m, U.length = m := ⟨_, rfl⟩
      rw [hm] at hown hsl HIN HOUT
      have HML := Lib.hid hm
      have HB := Lib.hid hb
      have hbs := hb.size
      clear hb hm
      rcases Joins.ownsRow_forms hown with ⟨rfl, hm0⟩ | ⟨g, cap, rfl⟩
      · subst hm0
        obtain ⟨e1, e2⟩ := HOUT.out 0 (Nat.le_refl _) (fun i h => absurd h (by omega)) (fun h => absurd h (by omega))
        obtain rfl : U = [] := List.length_eq_zero_iff.1 HML.out
        rw [show ([] : List Int).take 0 ++ x :: ([] : List Int).drop 0 = [x] from rfl] at e1
        have E1 := Lib.hid e1
        have E2 := Lib.hid e2
        clear e1 e2 HIN HOUT HML HR
        go_wp2_with fail
        go_loopw [7] (fun kk wx => kk = .int .i64 0 ∧ wx = wr) (fun kk _ => 0)
        case atStart => exact ⟨rfl, rfl⟩
        case round =>
          obtain ⟨rfl, rfl⟩ := hrel
          go_wp2_with fail
          go_quiet (fail)
          have hbq : Below wr.heap.size wr (wr.drewN nq) := Below.drewN _ _
          generalize wr.drewN nq = wq at hbq ⊢
          go_wp2_with fail
          go_quiet (fail)
          have hbq2 : Below wr.heap.size wr (wq.drewN nq) := hbq.trans ((Below.drewN wq nq).mono hbq.size)
          generalize wq.drewN nq = wz at hbq2 ⊢
          have HBZ := Lib.hid (HB.out.trans (hbq2.mono HB.out.size))
          have hcz := (hbq2.cell (p := ⟨b, off + j, none⟩) (mem_lt hcell)).trans hcell
          have hsz := HBZ.out.size
          clear hbq hbq2 hcell
          go_upto_region 13 with (at_builtin; refine wpList_append_own_none rfl _ _ 51 rfl w.heap.size 3 i3 1 Tryz.underlying51 hi3 _ 0 [] rfl (World.ownsRow_nil _ _ _ _) rfl ?_)
          go_upto_region 14 with (at_builtin; go_must (refine wpList_append_own _ rfl _ _ 51 rfl w.heap.size 3 i3 (.int .i64 0) 1 8 Tryz.underlying51 hi3 hz30 hz31 hz32 rfl (by decide) _ 0 [] rfl (World.ownsRow_nil _ _ _ _) ⟨wz.heap.size, 0, none⟩ 1 1 [.int .i64 x] rfl rfl (cells_new _ _ _) (fun u hu => by simp at hu; subst hu; rfl) (by unfold maxLen; omega) (by omega) (by simp; omega) ?_); intro v1 w1 hown1 hgr1 _)
          have HO1 := Lib.hid (show w1.ownsRow w.heap.size 3 1 v1 1 [.int .i64 x] by simpa using hown1)
          have HB1 := Lib.hid ((HBZ.out.alloc hsz _).grown hgr1 (by simp; omega) (fun k hk => by cases hk))
          clear hown1 hgr1 hcz
          obtain ⟨g1, c1, rfl⟩ := Joins.ownsRow_form HO1.out (by decide)
          go_wp2_with (at_builtin; refine wpList_append_own_none rfl _ _ 51 rfl w.heap.size 3 i3 1 Tryz.underlying51 hi3 _ 1 _ rfl HO1.out rfl ?_)
          go_roundw
          case rel => exact ⟨j + 1, by omega, by go_num, by rw [E2.out], HB1.out, by rw [E1.out]; exact HO1.out⟩
          case measure => simp [intOf]; omega
      · have hcap : m ≤ cap := by
          rcases hown.2 with ⟨he, _⟩ | ⟨g', cap', cur, he, _, _, hle, _⟩
          · cases he
          · cases he; exact hle
        have hgB := (hown.lt g rfl).1
        have hUc : ∀ i, i < m → wr.cell? ⟨g, i, none⟩ = some (.int .i64 (U.getD i 0)) := fun i hi => by
          have := hown.cells (g := g) rfl i (.int .i64 (U.getD i 0)) (by simp [intVs, List.getElem?_eq_getElem (show i < U.length by rw [HML.out]; exact hi), List.getD_eq_getElem?_getD])
          rwa [add_zero] at this
        have HUC := Lib.hid hUc
        have HOW := Lib.hid hown
        have HX := Lib.hid hcell
        clear hown hUc hcell
        go_wp2_with fail
        obtain ⟨wo, rfl⟩ : ∃ wo : World, wo = wr := ⟨_, rfl⟩
        go_loopw [7] (fun kk wx => ∃ k : Nat, k ≤ m ∧ kk = .int .i64 k ∧ (∀ i, i < k → U.getD i 0 < x) ∧ Below wo.heap.size wo wx) (fun kk _ => m - (intOf kk).toNat)
        case atStart => exact ⟨0, Nat.zero_le _, rfl, fun i h => absurd h (by omega), Below.refl _ _⟩
        case round =>
          obtain ⟨k, hk, rfl, hlo, hbx⟩ := hrel
          have HLO := Lib.hid hlo
          clear hlo
          rcases (show (k < m ∧ U.getD k 0 < x) ∨ (k < m ∧ U.getD k 0 = x) ∨ (k < m → x < U.getD k 0) by omega) with ⟨hkm, hlt⟩ | ⟨hkm, heq⟩ | hgt
          · have hc1 : wr.cell? ⟨g, k, none⟩ = some (.int .i64 (U.getD k 0)) := (hbx.cell (p := ⟨g, k, none⟩) (mem_lt (HUC.out k hkm))).trans (HUC.out k hkm)
            have hc2 : wr.cell? ⟨b, off + j, none⟩ = some (.int .i64 x) := (hbx.cell (p := ⟨b, off + j, none⟩) (mem_lt HX.out)).trans HX.out
            have HY := Lib.hid (HUC.out k hkm)
            have g1 : decide (k < m) = true := decide_eq_true hkm
            have q : decide (U.getD k 0 < x) = true := decide_eq_true hlt
            have HNX : Hid (∀ i, i < k + 1 → U.getD i 0 < x) := fun i hi => by
              rcases (show i < k ∨ i = k by omega) with h | rfl
              · exact HLO.out i h
              · exact hlt
            generalize U.getD k 0 = y at hc1 q HY
            clear hlt
            go_wp2_with fail
            go_quiet (fail)
            have hbq : Below wr.heap.size wr (wr.drewN nq) := Below.drewN _ _
            generalize wr.drewN nq = wq at hbq ⊢
            have hbq1 := hbx.trans (hbq.mono hbx.size)
            clear hbq hc1 hc2
            go_wp2_with fail
            go_roundw
            case rel => exact ⟨k + 1, by omega, by go_num, HNX.out, hbq1⟩
            case measure => simp [intOf]; omega
          · have hc1 : wr.cell? ⟨g, k, none⟩ = some (.int .i64 (U.getD k 0)) := (hbx.cell (p := ⟨g, k, none⟩) (mem_lt (HUC.out k hkm))).trans (HUC.out k hkm)
            have hc2 : wr.cell? ⟨b, off + j, none⟩ = some (.int .i64 x) := (hbx.cell (p := ⟨b, off + j, none⟩) (mem_lt HX.out)).trans HX.out
            have HY := Lib.hid (HUC.out k hkm)
            have g1 : decide (k < m) = true := decide_eq_true hkm
            have q : decide (U.getD k 0 < x) = false := decide_eq_false (by omega)
            have q2 : (U.getD k 0 == x) = true := beq_iff_eq.2 heq
            obtain ⟨e1, e2⟩ := HIN.out k hkm heq
            have E1 := Lib.hid e1
            have E2 := Lib.hid e2
            generalize U.getD k 0 = y at hc1 q q2 HY
            clear heq e1 e2
            go_wp2_with fail
            go_quiet (fail)
            have hbq : Below wr.heap.size wr (wr.drewN nq) := Below.drewN _ _
            generalize wr.drewN nq = wq at hbq ⊢
            have hbq1 := hbx.trans (hbq.mono hbx.size)
            clear hbq hc1 hc2
            have hc1 : wq.cell? ⟨g, k, none⟩ = some (.int .i64 y) := (hbq1.cell (p := ⟨g, k, none⟩) (mem_lt HY.out)).trans HY.out
            have hc2 : wq.cell? ⟨b, off + j, none⟩ = some (.int .i64 x) := (hbq1.cell (p := ⟨b, off + j, none⟩) (mem_lt HX.out)).trans HX.out
            go_wp2_with fail
            go_quiet (fail)
            have hbq : Below wq.heap.size wq (wq.drewN nq) := Below.drewN _ _
            generalize wq.drewN nq = wz at hbq ⊢
            have HBZ := Lib.hid (hbq1.trans (hbq.mono hbq1.size))
            clear hbq hbq1 hc1 hc2 hbx
            go_wp2_with fail
            go_roundw
            case rel => exact ⟨j + 1, by omega, by go_num, by rw [E2.out], HB.out.trans (HBZ.out.mono HB.out.size), by rw [E1.out, HML.out]; exact owns_keep HOW.out fun i hi => HBZ.out.block i (HOW.out.lt i hi).2⟩
            case measure => simp [intOf]; omega
          · obtain ⟨e1, e2⟩ := HOUT.out k hk HLO.out hgt
            have E1 := Lib.hid e1
            have E2 := Lib.hid e2
            clear e1 e2
            by_cases hkm : k < m
            focus
              have hc1 : wr.cell? ⟨g, k, none⟩ = some (.int .i64 (U.getD k 0)) := (hbx.cell (p := ⟨g, k, none⟩) (mem_lt (HUC.out k hkm))).trans (HUC.out k hkm)
              have hc2 : wr.cell? ⟨b, off + j, none⟩ = some (.int .i64 x) := (hbx.cell (p := ⟨b, off + j, none⟩) (mem_lt HX.out)).trans HX.out
              have HY := Lib.hid (HUC.out k hkm)
              have g1 : decide (k < m) = true := decide_eq_true hkm
              have q : decide (U.getD k 0 < x) = false := decide_eq_false (by have := hgt hkm; omega)
              have q2 : (U.getD k 0 == x) = false := beq_eq_false_iff_ne.2 (by have := hgt hkm; omega)
              generalize U.getD k 0 = y at hc1 q q2 HY hgt
              clear hgt
              go_wp2_with fail
              go_quiet (fail)
              have hbq : Below wr.heap.size wr (wr.drewN nq) := Below.drewN _ _
              generalize wr.drewN nq = wq at hbq ⊢
              have hbq1 := hbx.trans (hbq.mono hbx.size)
              clear hbq hc1 hc2
              have hc1 : wq.cell? ⟨g, k, none⟩ = some (.int .i64 y) := (hbq1.cell (p := ⟨g, k, none⟩) (mem_lt HY.out)).trans HY.out
              have hc2 : wq.cell? ⟨b, off + j, none⟩ = some (.int .i64 x) := (hbq1.cell (p := ⟨b, off + j, none⟩) (mem_lt HX.out)).trans HX.out
              go_wp2_with fail
              go_quiet (fail)
              have hbq : Below wq.heap.size wq (wq.drewN nq) := Below.drewN _ _
              generalize wq.drewN nq = wz at hbq ⊢
              have HBZ := Lib.hid (hbq1.trans (hbq.mono hbq1.size))
              clear hbq hbq1 hc1 hc2 hbx
              clear q q2 HY g1 hkm
            rotate_left
            focus
              have g1 : decide (k < m) = false := decide_eq_false hkm
              clear hgt
              go_wp2_with fail
              go_quiet (fail)
              have hbq : Below wr.heap.size wr (wr.drewN nq) := Below.drewN _ _
              generalize wr.drewN nq = wq at hbq ⊢
              have hbq1 := hbx.trans (hbq.mono hbx.size)
              clear hbq
              go_wp2_with fail
              go_quiet (fail)
              have hbq : Below wq.heap.size wq (wq.drewN nq) := Below.drewN _ _
              generalize wq.drewN nq = wz at hbq ⊢
              have HBZ := Lib.hid (hbq1.trans (hbq.mono hbq1.size))
              clear hbq hbq1 hbx
              clear g1 hkm
            all_goals
              have HBA := Lib.hid (HB.out.trans (HBZ.out.mono HB.out.size))
              have hsz := HBA.out.size
              have hcu : ∀ i, i < m → wz.cell? ⟨g, i, none⟩ = some (.int .i64 (U.getD i 0)) := fun i hi => (HBZ.out.cell (p := ⟨g, i, none⟩) (mem_lt (HUC.out i hi))).trans (HUC.out i hi)
              have hn1 : ∀ q u, (intVs (U.take k))[q]? = some u → wz.cell? ((⟨g, 0, none⟩ : Addr).add q) = some u := fun q u hu => by
                have hq : q < k := by
                  have := (List.getElem?_eq_some_iff.1 hu).1
                  simp [intVs] at this
                  omega
                rw [add_zero, hcu q (by omega)]
                simp [intVs, List.getElem?_take, hq, List.getElem?_eq_getElem (show q < U.length by rw [HML.out]; omega)] at hu
                rw [← hu, List.getD_eq_getElem?_getD, List.getElem?_eq_getElem (show q < U.length by rw [HML.out]; omega)]
                rfl
              have HN1 := Lib.hid hn1
              have hl1 : (intVs (U.take k)).length = k := by simp [intVs, HML.out]; omega
              have HL1 := Lib.hid hl1
              have HCU := Lib.hid hcu
              clear hcu hn1 hl1
              go_upto_region 13 with (at_builtin; go_must (refine wpList_append_own _ rfl _ _ 51 rfl wz.heap.size 3 i3 (.int .i64 0) 1 8 Tryz.underlying51 hi3 hz30 hz31 hz32 rfl (by decide) _ 0 [] rfl (World.ownsRow_nil _ _ _ _) ⟨g, 0, none⟩ k cap (intVs (U.take k)) rfl (by rw [HL1.out]; omega) HN1.out (intVs_one _) (by unfold maxLen; omega) (by omega) (Nat.le_refl _) ?_); intro v1 w1 hown1 hgr1 _)
              have HO1 := Lib.hid (show w1.ownsRow wz.heap.size 3 1 v1 k (intVs (U.take k)) by simpa using hown1)
              have hb1 : Below wz.heap.size wz w1 := (Below.refl _ _).grown hgr1 (Nat.le_refl _) (fun k hk => by cases hk)
              have hx1 : w1.cell? ⟨b, off + j, none⟩ = some (.int .i64 x) := ((HBZ.out.trans (hb1.mono HBZ.out.size)).cell (p := ⟨b, off + j, none⟩) (mem_lt HX.out)).trans HX.out
              have HB1 := Lib.hid hb1
              have hs1 := hb1.size
              clear hown1 hgr1 hb1
              go_upto_region 14 with (at_builtin; go_must (refine wpList_append_own _ rfl _ _ 51 rfl wz.heap.size 3 i3 (.int .i64 0) 1 8 Tryz.underlying51 hi3 hz30 hz31 hz32 rfl (by decide) _ k _ rfl (HO1.out.alloc _) ⟨w1.heap.size, 0, none⟩ 1 1 [.int .i64 x] rfl rfl (cells_new _ _ _) (fun u hu => by simp at hu; subst hu; rfl) (by unfold maxLen; omega) (by omega) (by simp; omega) ?_); intro v2 w2 hown2 hgr2 _)
              have HO2 := Lib.hid hown2
              have hb2 : Below wz.heap.size wz w2 := (HB1.out.alloc hs1 _).grown hgr2 (by simp; omega) (fun i hi => (HO1.out.lt i hi).1)
              have HB2 := Lib.hid hb2
              have hs2 := hb2.size
              have hn2 : ∀ q u, (intVs (U.drop k))[q]? = some u → w2.cell? ((fromA g 0 k cap).add q) = some u := fun q u hu => by
                have hq : q < m - k := by
                  have := (List.getElem?_eq_some_iff.1 hu).1
                  simp [intVs, HML.out] at this
                  omega
                rw [fromA_lt (by omega), add_off, Nat.zero_add]
                have h1 := HCU.out (k + q) (by omega)
                rw [hb2.cell (p := ⟨g, k + q, none⟩) (mem_lt h1), h1]
                simp [intVs, List.getElem?_drop, List.getElem?_eq_getElem (show k + q < U.length by rw [HML.out]; omega)] at hu
                rw [← hu, List.getD_eq_getElem?_getD, List.getElem?_eq_getElem (show k + q < U.length by rw [HML.out]; omega)]
                rfl
              have HN2 := Lib.hid hn2
              have HL2 := Lib.hid (show (intVs (U.drop k)).length = (m - k) * 1 by simp [intVs, HML.out])
              have hfrom := run_from_ints g 0 m cap k hk
              clear hown2 hgr2 hb2 hn2 hx1
              go_wp2_with (at_builtin; go_must (refine wpList_append_own _ rfl _ _ 51 rfl wz.heap.size 3 i3 (.int .i64 0) 1 8 Tryz.underlying51 hi3 hz30 hz31 hz32 rfl (by decide) _ (k + 1) _ rfl HO2.out (fromA g 0 k cap) (m - k) (cap - k) (intVs (U.drop k)) rfl HL2.out HN2.out (intVs_one _) (by unfold maxLen; omega) (by omega) hs2 ?_); intro v3 w3 hown3 hgr3 _; have HB3 := Lib.hid (HBA.out.trans ((HB2.out.grown hgr3 hs2 (fun i hi => (HO2.out.lt i hi).1)).mono HBA.out.size)); have HO3 := Lib.hid hown3; clear hown3 hgr3 hfrom)
              go_roundw
              case rel =>
                refine ⟨j + 1, by omega, by go_num, by rw [E2.out], HB3.out, ?_⟩
                rw [E1.out]
                have e1 : (U.take k ++ x :: U.drop k).length = k + 1 + (m - k) := by simp [HML.out]; omega
                have e2 : intVs (U.take k ++ x :: U.drop k) = intVs (U.take k) ++ [.int .i64 x] ++ intVs (U.drop k) := by simp [intVs]
                rw [e1, e2]
                exact Joins.ownsRow_le HO3.out hsz
              case measure => simp [intOf]; omega
    · obtain rfl : j = n := by omega
      have hfull : xs.take j = xs := List.take_of_length_le (by rw [HN.out]; exact Nat.le_refl _)
      have HF := Lib.hid hfull
      have HOW := Lib.hid hown
      have HB := Lib.hid hb
      clear hfull hown hb
      go_wp2_with fail
      go_ret2
      refine ⟨_, ret_ob (congrArg onceB HF.out), HB.out, ?_⟩
      have := HOW.out
      rw [HF.out] at this
      exact this
end Go.Proofs.YtoheffkiohfmoaaGreatDoor
