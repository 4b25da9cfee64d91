/-
  The references' Contains and Ahead by contracts (for the groups).
  The document's Orders by contracts: all orders of the numbers below n, rising.
  The document's Orders, Ways by contracts.
  The document's putTable by a contract: a table put into a sorted list of tables.
  The document's SubgroupsOf by a contract: all tables, by trying all orders.
-/
import Derived.Test.YtedehmknijlgpaaDoorGrp
import Derived.Test.YtedehmknijlgpaaDoorCelA
import Derived.Test.YtedehmknijlgpaaDoorSbD
import Derived.Test.YtedehmknijlgpaaDoorSubB
import Derived.Test.YtedehmknijlgpaaDoorDocA
import Derived.Test.YtedehmknijlgpaaDoorHldD
set_option linter.unusedSimpArgs false
set_option linter.unusedVariables false
namespace Go.Proofs.YtedehmknijlgpaaDoor
open Go Go.RowKit Go.Maps

set_option maxHeartbeats 2000000 in
theorem contains_of (r : Bool) (xs : List Int) (v : Value) (x : Int) (w : World) (hr : r = xs.contains x) (hv : IntsAt w v xs) (hx : xs.length ≤ 1000000) :
    Calls Tryd.prog 67 #[v, .int .i64 x] w (Same (.bool r) w) := by
  have HR := Lib.hid hr
  clear hr
  have hv' := hv
  obtain ⟨p, c, rfl, -, -, hcells⟩ := hv
  have HC := Lib.hid hcells
  clear hcells hv'
  obtain ⟨n, hn⟩ : ∃ n, xs.length = n := ⟨_, rfl⟩
  rw [hn] at hx ⊢
  have HN := Lib.hid hn
  have HB : Hid (∀ k, k = n → (xs.take k).contains x = false → xs.contains x = false) := fun k hk h => by rwa [List.take_of_length_le (by rw [hn]; omega)] at h
  clear hn
  go_enter Tryd.func67, Tryd.ntmps67
  go_wp2_with fail
  go_loop [5] (fun i => ∃ k : Nat, k ≤ n ∧ i = .int .i64 k ∧ (xs.take k).contains x = false) (fun i => n - (intOf i).toNat)
  case atStart => exact ⟨0, Nat.zero_le _, rfl, rfl⟩
  case round =>
    obtain ⟨k, hk, rfl, hno⟩ := hrel
    have HNO := Lib.hid hno
    clear hno
    by_cases hlt : k < n
    · obtain ⟨b, off, rfl, hcell⟩ := HC.out k (by rw [HN.out]; exact hlt)
      have ht := take_snoc_getD 0 xs k (by rw [HN.out]; exact hlt)
      by_cases he : xs.getD k 0 = x
      · have hq : (xs.getD k 0 == x) = true := beq_iff_eq.2 he
        have hr : xs.contains x = true := by
          rw [List.contains_iff_mem, ← he, List.getD_eq_getElem?_getD, List.getElem?_eq_getElem (by rw [HN.out]; exact hlt)]
          exact List.getElem_mem _
        have HR1 := Lib.hid (HR.out.trans hr)
        generalize xs.getD k 0 = z at hcell hq
        clear ht he hr
        go_wp2_with fail
        go_ret
        exact ⟨ret_bool HR1.out.symm, rfl⟩
      · have hq : (xs.getD k 0 == x) = false := beq_eq_false_iff_ne.2 he
        have HNX : Hid ((xs.take (k + 1)).contains x = false) := by
          unfold Hid
          rw [ht, Bool.eq_false_iff]
          intro h
          rw [List.contains_iff_mem] at h
          rcases List.mem_append.1 h with h | h
          · have h2 := HNO.out
            rw [Bool.eq_false_iff] at h2
            exact h2 (List.contains_iff_mem.2 h)
          · exact he (List.mem_singleton.1 h).symm
        generalize xs.getD k 0 = z at hcell hq
        clear ht he
        go_wp2_with fail
        go_round
        case rel => exact ⟨k + 1, by omega, by go_num, HNX.out⟩
        case measure => simp [intOf]; omega
    · obtain rfl : k = n := by omega
      have hr := HB.out k rfl HNO.out
      have HR1 := Lib.hid (HR.out.trans hr)
      clear hr
      go_wp2_with fail
      go_ret
      exact ⟨ret_bool HR1.out.symm, rfl⟩

theorem contains_any (xs : List Int) (v : Value) (x : Int) (w : World) (hv : IntsAt w v xs) (hx : xs.length ≤ 1000000) :
    Calls Tryd.prog 67 #[v, .int .i64 x] w (Same (.bool (xs.contains x)) w) := contains_of _ xs v x w rfl hv hx

/-- is each of one's numbers the other's? -/
theorem ah_app (p a b : List Int) : ah (p ++ a) (p ++ b) = ah a b := by
  induction p with
  | nil => rfl
  | cons x p ih => exact (if_pos rfl : ah (x :: (p ++ a)) (x :: (p ++ b)) = ah (p ++ a) (p ++ b)).trans ih
theorem ah_drop {xs ys : List Int} {k : Nat} (h : xs.take k = ys.take k) : ah xs ys = ah (xs.drop k) (ys.drop k) := by
  conv => lhs; rw [← List.take_append_drop k xs, ← List.take_append_drop k ys, h]
  exact ah_app _ _ _
theorem dropD {α : Type} (d : α) (xs : List α) (k : Nat) (h : k < xs.length) : xs.drop k = xs.getD k d :: xs.drop (k + 1) := by
  rw [List.drop_eq_getElem_cons h, List.getD_eq_getElem?_getD, List.getElem?_eq_getElem h]; rfl
theorem ah_at {xs ys : List Int} {k : Nat} (h : xs.take k = ys.take k) (hx : k < xs.length) (hy : k < ys.length) (hne : xs.getD k 0 ≠ ys.getD k 0) : ah xs ys = decide (xs.getD k 0 < ys.getD k 0) := by
  rw [ah_drop h, dropD 0 xs k hx, dropD 0 ys k hy]
  unfold ah
  rw [if_neg hne]
theorem ah_end {xs ys : List Int} {k : Nat} (h : xs.take k = ys.take k) (he : xs.length ≤ k ∨ ys.length ≤ k) : ah xs ys = decide (xs.length < ys.length) := by
  rw [ah_drop h]
  have hlen := congrArg List.length h
  rw [List.length_take, List.length_take] at hlen
  rcases he with he | he
  · rw [List.drop_of_length_le he]
    by_cases hy : ys.length ≤ k
    · rw [List.drop_of_length_le hy, decide_eq_false (by omega)]; rfl
    · rw [dropD 0 ys k (by omega), decide_eq_true (by omega)]; rfl
  · rw [List.drop_of_length_le he]
    by_cases hx : xs.length ≤ k
    · rw [List.drop_of_length_le hx, decide_eq_false (by omega)]; rfl
    · rw [dropD 0 xs k (by omega), decide_eq_false (by omega)]; rfl

set_option maxHeartbeats 4000000 in
theorem ahead_of (r : Bool) (xs ys : List Int) (u v : Value) (w : World) (hr : r = ah xs ys) (hu : IntsAt w u xs) (hv : IntsAt w v ys) (hx : xs.length ≤ 1000000) (hy : ys.length ≤ 1000000) :
    Calls Tryd.prog 58 #[u, v] w (Drew (.bool r) w) := by
  have HR0 := Lib.hid hr
  clear hr
  obtain ⟨p, c, rfl, -, -, hc1⟩ := hu
  obtain ⟨q, d, rfl, -, -, hc2⟩ := hv
  have H1 := Lib.hid hc1
  have H2 := Lib.hid hc2
  clear hc1 hc2
  obtain ⟨n, hn⟩ : ∃ n, xs.length = n := ⟨_, rfl⟩
  obtain ⟨m, hm⟩ : ∃ m, ys.length = m := ⟨_, rfl⟩
  rw [hn] at hx ⊢
  rw [hm] at hy ⊢
  have HN := Lib.hid hn
  have HM := Lib.hid hm
  clear hn hm
  go_enter Tryd.func58, Tryd.ntmps58
  go_wp2_with fail
  go_loopw [5] (fun i wr => ∃ k z : Nat, k ≤ n ∧ k ≤ m ∧ i = .int .i64 k ∧ xs.take k = ys.take k ∧ wr = w.drewN z) (fun i _ => n - (intOf i).toNat)
  case atStart => exact ⟨0, 0, Nat.zero_le _, Nat.zero_le _, rfl, rfl, rfl⟩
  case round =>
    obtain ⟨k, z, hk, hk2, rfl, htk, rfl⟩ := hrel
    have HT := Lib.hid htk
    clear htk
    by_cases hlt : k < n ∧ k < m
    · obtain ⟨hl1, hl2⟩ := hlt
      have g1 : decide (k < n) = true := decide_eq_true hl1
      have g2 : decide (k < m) = true := decide_eq_true hl2
      obtain ⟨b1, o1, rfl, hcell1⟩ := H1.out k (by rw [HN.out]; exact hl1)
      obtain ⟨b2, o2, rfl, hcell2⟩ := H2.out k (by rw [HM.out]; exact hl2)
      by_cases he : xs.getD k 0 = ys.getD k 0
      · have HNX : Hid (xs.take (k + 1) = ys.take (k + 1)) := by
          unfold Hid
          rw [take_snoc_getD 0 _ _ (by rw [HN.out]; exact hl1), take_snoc_getD 0 _ _ (by rw [HM.out]; exact hl2), HT.out, he]
        rw [he] at hcell1
        generalize ys.getD k 0 = y at hcell1 hcell2
        clear he
        go_wp2_with fail
        go_quiet (fail)
        go_wp2_with fail
        go_roundw
        case rel => exact ⟨k + 1, _, by omega, by omega, by go_num, HNX.out, rfl⟩
        case measure => simp [intOf]; omega
      · have HR := Lib.hid (HR0.out.trans <| ah_at HT.out (by rw [HN.out]; exact hl1) (by rw [HM.out]; exact hl2) he)
        have hbe : (xs.getD k 0 != ys.getD k 0) = true := by rw [bne_iff_ne]; exact he
        generalize xs.getD k 0 = z1 at hcell1 hbe HR
        generalize ys.getD k 0 = z2 at hcell2 hbe HR
        clear he
        go_wp2_with fail
        go_quiet (fail)
        go_wp2_with fail
        go_quiet (fail)
        go_wp2_with fail
        go_ret
        exact ⟨ret_bool HR.out.symm, _, by rw [World.drewN_drewN, World.drewN_drewN]⟩
    · have HR := Lib.hid (HR0.out.trans <| ah_end HT.out (by rw [HN.out, HM.out]; omega))
      rw [HN.out, HM.out] at HR
      by_cases hl1 : k < n
      · have hl2 : ¬ k < m := fun h => hlt ⟨hl1, h⟩
        have g1 : decide (k < n) = true := decide_eq_true hl1
        have g2 : decide (k < m) = false := decide_eq_false hl2
        clear hlt
        go_wp2_with fail
        go_ret
        exact ⟨ret_bool HR.out.symm, _, rfl⟩
      · have g1 : decide (k < n) = false := decide_eq_false hl1
        clear hlt
        go_wp2_with fail
        go_ret
        exact ⟨ret_bool HR.out.symm, _, rfl⟩
theorem ahead_any (xs ys : List Int) (u v : Value) (w : World) (hu : IntsAt w u xs) (hv : IntsAt w v ys) (hx : xs.length ≤ 1000000) (hy : ys.length ≤ 1000000) :
    Calls Tryd.prog 58 #[u, v] w (Drew (.bool (ah xs ys)) w) := ahead_of _ xs ys u v w rfl hu hv hx hy

theorem ListsIn.srcA {B : Nat} {w : World} {v : Value} {L : List (List Int)} (h : ListsIn B w v L) : ∃ p c, ∃ hs : List Value, v = .slice p L.length c ∧ hs.length = L.length ∧ (p = none → c = 0 ∧ L.length = 0) ∧
    (∀ ad, p = some ad → ∀ j u, hs[j]? = some u → w.cell? (ad.add j) = some u) ∧ (∀ i, i < L.length → IntsIn B w (hs.getD i .nilIface) (L.getD i [])) ∧ ∀ u ∈ hs, u.oneCell' = true := by
  by_cases hp : 0 < L.length
  · obtain ⟨b, off, c, hs, h1, -, h2, h3, h4, h5⟩ := h.src hp
    refine ⟨_, c, hs, h1, h2, (fun e => by cases e), fun ad e j u hu => ?_, h4, h5⟩
    obtain rfl := Option.some.inj e
    rw [add_off]; exact h3 j u hu
  · obtain ⟨p, c, hv, -, hn, -⟩ := h
    have h0 : L.length = 0 := by omega
    exact ⟨p, c, [], hv, h0.symm, fun e => ⟨hn e, h0⟩, fun ad _ j u hu => (by simp at hu), fun i hi => absurd (Nat.lt_of_le_of_lt (Nat.zero_le _) hi) hp, fun u hu => (by cases hu)⟩
/-- orders that begin with l, the first k numbers tried -/
def ordK (n d : Nat) (l : List Int) (k : Nat) : List (List Int) := (List.range k).flatMap fun (k : Nat) => if l.contains (k : Int) = true then [] else TC.ordM n d (l ++ [(k : Int)])
theorem ordK_zero (n d : Nat) (l : List Int) : ordK n d l 0 = [] := rfl
theorem ordK_in {n d k : Nat} {l : List Int} (h : l.contains (k : Int) = true) : ordK n d l (k + 1) = ordK n d l k := by
  unfold ordK
  rw [List.range_succ, List.flatMap_append, List.flatMap_cons, if_pos h]; simp
theorem ordK_out {n d k : Nat} {l : List Int} (h : l.contains (k : Int) = false) : ordK n d l (k + 1) = ordK n d l k ++ TC.ordM n d (l ++ [(k : Int)]) := by
  unfold ordK
  rw [List.range_succ, List.flatMap_append, List.flatMap_cons, if_neg (by rw [h]; decide)]; simp
theorem ordK_all (n d : Nat) (l : List Int) : ordK n d l n = TC.ordM n (d + 1) l := rfl
theorem ordM_len {n : Nat} (hn : n ≤ 4) : ∀ (d : Nat) (l : List Int), (TC.ordM n d l).length ≤ 4 ^ d
  | 0, l => Nat.le_refl _
  | d + 1, l => by
    have h : ∀ k, (ordK n d l k).length ≤ k * 4 ^ d := by
      intro k
      induction k with
      | zero => rw [ordK_zero]; exact Nat.zero_le _
      | succ k ih =>
        rw [Nat.succ_mul]
        cases c : l.contains (k : Int) with
        | true => rw [ordK_in c]; exact Nat.le_trans ih (Nat.le_add_right _ _)
        | false =>
          rw [ordK_out c, List.length_append]
          have := ordM_len hn d (l ++ [(k : Int)])
          exact Nat.add_le_add ih this
    have h1 := h n
    rw [ordK_all] at h1
    rw [Nat.pow_succ, Nat.mul_comm]
    exact Nat.le_trans h1 (Nat.mul_le_mul_right _ hn)
theorem ordK_len {n k d : Nat} (hn : n ≤ 4) (hk : k ≤ n) (hd : d ≤ 4) (l : List Int) : (ordK n d l k).length ≤ 1024 := by
  have h : ∀ k, (ordK n d l k).length ≤ k * 4 ^ d := by
    intro k
    induction k with
    | zero => rw [ordK_zero]; exact Nat.zero_le _
    | succ k ih =>
      rw [Nat.succ_mul]
      cases c : l.contains (k : Int) with
      | true => rw [ordK_in c]; exact Nat.le_trans ih (Nat.le_add_right _ _)
      | false =>
        rw [ordK_out c, List.length_append]
        have := ordM_len hn d (l ++ [(k : Int)])
        exact Nat.add_le_add ih this
  have h1 := h k
  have h2 : 4 ^ d ≤ 4 ^ 4 := Nat.pow_le_pow_right (by decide) hd
  have h3 := Nat.mul_le_mul (show k ≤ 4 by omega) h2
  omega
set_option maxRecDepth 100000 in
set_option maxHeartbeats 8000000 in
theorem ordersFrom_any (B n : Nat) (hn : n ≤ 4) : ∀ (d : Nat) (l : List Int) (v : Value) (w : World), l.length + d = n → B ≤ w.heap.size → IntsIn B w v l →
    Calls Tryd.prog 55 #[v, .int .i64 (n : Int)] w (ListPost B (TC.ordM n d l) w) := by
  obtain ⟨i3, hi3, hy0, hy1, hy2⟩ := info_parts Tryd.info3
  obtain ⟨i39, hi39, hz0, hz1, hz2⟩ := info_parts Tryd.info27
  intro d
  induction d with
  | zero =>
    intro l v w hl hB hv
    obtain ⟨p, c, hve⟩ := hv.len
    obtain ⟨m, hm⟩ : ∃ m, l.length = m := ⟨_, rfl⟩
    rw [hm] at hve hl
    subst hve
    obtain rfl : m = n := by omega
    have HV := Lib.hid hv
    have HB := Lib.hid hB
    have HM : Hid (TC.ordM m 0 l = [l]) := rfl
    unfold ListPost
    rw [HM.out]
    clear hv hB hm hl HM
    go_enter Tryd.func55, Tryd.ntmps55
    go_wp2_with (at_builtin; refine wpList_append_lies _ rfl (.tmp 13) (.tmp 15) 22 rfl w.heap.size 27 i39 (.slice none 0 0) 1 24 Tryd.underlying22 hi39 hz0 hz1 hz2 rfl (by decide) _ 0 [] rfl (World.ownsRow_nil _ _ _ _) ⟨w.heap.size, 0, none⟩ 1 1 [.slice p m c] rfl rfl (World.news_of_block (cs := #[.slice p m c]) (t := 27) (fr := (0, 0)) (heap_alloc_new w _)) (by simp [Value.oneCell']) (by decide) (by unfold maxLen; omega) (by omega) (by simp) (w.heap.size + 1) (by simp) ?_; intro g2 c2 w9 hown2 hgr2 hat2 hlt2; have HO2 := Lib.hid hown2; have HG2 := Lib.hid hgr2; clear hown2 hgr2 hat2 hlt2)
    go_ret
    have hb1 : Below w.heap.size w (w.alloc (.cells #[.slice p m c] 27)) := (Below.refl _ _).alloc (Nat.le_refl _) _
    refine ⟨_, rfl, hb1.grown HG2.out (by simp) (fun k hk => by cases hk), ?_⟩
    exact rowsO_push (L := []) HB.out (World.ownsRow_nil _ _ _ _) rfl (fun i h => absurd h (by simp)) (HV.out.below hb1 (Nat.le_refl _)) (by simpa using HO2.out) HG2.out
  | succ d ih =>
    intro l v w hl hB hv
    obtain ⟨p, c, hve⟩ := hv.len
    obtain ⟨m, hm⟩ : ∃ m, l.length = m := ⟨_, rfl⟩
    rw [hm] at hve hl
    subst hve
    have hmn : m < n := by omega
    have HV := Lib.hid hv
    have HB := Lib.hid hB
    have HM := Lib.hid hm
    have IH := Lib.hid ih
    have HL := Lib.hid hl
    have HKL := Lib.hid (fun k (hk : k ≤ n) => ordK_len hn hk (show d ≤ 4 by omega) l)
    have q1 : ((m : Int) == (n : Int)) = false := beq_eq_false_iff_ne.2 (by omega)
    have q2 : (m == n) = false := beq_eq_false_iff_ne.2 (by omega)
    unfold ListPost
    rw [← ordK_all]
    clear hv hB hm ih hl
    go_enter Tryd.func55, Tryd.ntmps55
    go_wp2_with fail
    go_loopw [5, 6, 7, 8] (fun s i _ _ wr => ∃ k : Nat, k ≤ n ∧ i = .int .i64 (k : Int) ∧ Below w.heap.size w wr ∧ RowsO w.heap.size B wr s (ordK n d l k)) (fun _ i _ _ _ => n - (intOf i).toNat)
    case atStart => exact ⟨0, Nat.zero_le _, rfl, Below.refl _ _, RowsO.nil _ _ _⟩
    case round =>
      obtain ⟨k, hk, rfl, hb, hR⟩ := hrel
      have HBR := Lib.hid hb
      have HRR := Lib.hid hR
      have hsw := hb.size
      by_cases hkn : k < n
      · have HVR := Lib.hid (HV.out.below hb (Nat.le_refl _))
        have HCT := Lib.hid (contains_any l (.slice p m c) (k : Int) wr HVR.out.at (by rw [HM.out]; omega))
        unfold Same at HCT
        cases hin : l.contains (k : Int) with
        | true =>
          rw [hin] at HCT
          have HE := Lib.hid (ordK_in (n := n) (d := d) hin)
          clear hb hR hin
          go_wp2_with fail
          refine HCT.out.mono ?_
          rintro e w1 ⟨rfl, rfl⟩
          go_wp2_with fail
          go_roundw
          case rel => exact ⟨k + 1, hkn, by go_num, HBR.out, by rw [HE.out]; exact HRR.out⟩
          case measure => simp [intOf]; omega
        | false =>
          rw [hin] at HCT
          have HE := Lib.hid (ordK_out (n := n) (d := d) hin)
          have hkl := HKL.out k hk
          have hml : (TC.ordM n d (l ++ [(k : Int)])).length ≤ 1024 := by
            have h1 := HKL.out (k + 1) hkn
            rw [ordK_out hin, List.length_append] at h1
            omega
          obtain ⟨R, hRe⟩ : ∃ R, ordK n d l k = R := ⟨_, rfl⟩
          rw [hRe] at HE HRR hkl
          obtain ⟨nr, hnr⟩ : ∃ nr, R.length = nr := ⟨_, rfl⟩
          have HNR := Lib.hid hnr
          obtain ⟨hs, h1, h2, h3⟩ := HRR.out
          rw [hnr] at h1 h2 hkl
          have hsv := HRR.out.lists
          obtain ⟨ps, cs, hse, -⟩ := hsv
          rw [hnr] at hse
          rename_i sv _ _
          subst hse
          have H1 := Lib.hid h1
          have H2 := Lib.hid h2
          have H3 := Lib.hid h3
          clear hb hR hin hRe hnr h1 h2 h3
          go_wp2_with fail
          refine HCT.out.mono ?_
          rintro e w1 ⟨rfl, rfl⟩
          go_upto_region 11 with (at_builtin; refine wpList_app_any _ rfl (.tmp 26) (.tmp 27) 27 rfl w1.heap.size 3 i3 (.int .i64 0) 8 Tryd.underlying27 hi3 hy0 hy1 hy2 (by rfl) (.slice none 0 0) 0 [] rfl (World.ownsRow_nil _ _ _ _) p m c (intVs l) rfl HVR.out.at.lenE HVR.out.at.noneE HVR.out.at.news (intVs_one _) (by unfold maxLen; omega) (by omega) (by omega) _ (by rfl) ?_; intro p5 cap5 w5 ho5 hg5 hat5; simp only [Nat.zero_add, List.nil_append] at ho5 ⊢; have HO5 := Lib.hid ho5; have HG5 := Lib.hid (below_none hg5); clear ho5 hg5 hat5)
          have hsz5 := HG5.out.size
          go_wp2_with (at_builtin; refine wpList_append_lies _ rfl (.tmp 30) (.tmp 32) 27 rfl w1.heap.size 3 i3 (.int .i64 0) 1 8 Tryd.underlying27 hi3 hy0 hy1 hy2 rfl (by decide) _ m (intVs l) rfl (HO5.out.alloc _) ⟨w5.heap.size, 0, none⟩ 1 1 [.int .i64 (k : Int)] rfl rfl (World.news_of_block (cs := #[.int .i64 (k : Int)]) (t := 3) (fr := (0, 0)) (heap_alloc_new w5 _)) (by simp [Value.oneCell']) (by decide) (by unfold maxLen; omega) (by omega) (by simp; omega) (w5.heap.size + 1) (by simp) ?_; intro g2 c2 w9 hown2 hgr2 hat2 hlt2; have HO2 := Lib.hid hown2; have HGR := Lib.hid hgr2; clear hown2 hgr2 hat2 hlt2)
          have HG2 := Lib.hid (((HG5.out).trans (((Below.refl w5.heap.size w5).alloc (Nat.le_refl _) _).mono hsz5)).grown HGR.out (by simp; omega) (fun i hi => (HO5.out.lt i hi).1))
          have hl5 : (l ++ [(k : Int)]).length = m + 1 := by rw [List.length_append, List.length_singleton, HM.out]
          have hO2 : w9.ownsRow w1.heap.size 3 1 (.slice (some ⟨g2, 0, none⟩) (m + 1) c2) (m + 1) (intVs (l ++ [(k : Int)])) := by unfold intVs; rw [List.map_append]; exact HO2.out
          have HIH := Lib.hid (IH.out (l ++ [(k : Int)]) (.slice (some ⟨g2, 0, none⟩) (m + 1) c2) w9 (by rw [hl5]; have := HL.out; omega) (by have h1 := HG2.out.size; have h2 := HB.out; omega) (ints_owned hO2 hl5.symm))
          unfold ListPost at HIH
          clear hl5 hO2
          refine HIH.out.mono ?_
          rintro e w10 ⟨v10, rfl, hb10, hR10⟩
          obtain ⟨M, hM⟩ : ∃ M, TC.ordM n d (l ++ [(k : Int)]) = M := ⟨_, rfl⟩
          rw [hM] at hR10 HE hml
          obtain ⟨p10, c10, xs10, rfl, k1, k2, k3, k4, k5⟩ := hR10.lists.srcA
          obtain ⟨nm, hnm⟩ : ∃ nm, M.length = nm := ⟨_, rfl⟩
          rw [hnm] at k1 k2 hml
          have HB10 := Lib.hid (HG2.out.trans (hb10.mono HG2.out.size))
          have K1 := Lib.hid k1
          have K2 := Lib.hid k2
          have K3 := Lib.hid k3
          have K4 := Lib.hid k4
          have K5 := Lib.hid k5
          have HNM := Lib.hid hnm
          have H1' := Lib.hid (owns_keep H1.out fun q hq => HB10.out.block q (H1.out.lt q hq).2)
          have hsz10 := HB10.out.size
          rw [hnm]
          clear hM hb10 hR10 k1 k2 k3 k4 k5 hnm
          go_wp2_with (at_builtin; refine wpList_app_any _ rfl (.tmp 29) (.tmp 35) 22 rfl w.heap.size 27 i39 (.slice none 0 0) 24 Tryd.underlying22 hi39 hz0 hz1 hz2 (by rfl) (.slice ps nr cs) nr hs rfl H1'.out p10 nm c10 xs10 rfl K1.out K2.out K3.out K5.out (by unfold maxLen; omega) (by omega) (by omega) _ (by rfl) ?_; intro p11 c11 w11 ho11 hg11 hat11; have HO11 := Lib.hid ho11; have HG11 := Lib.hid hg11; clear ho11 hg11 hat11)
          go_roundw
          case rel =>
            refine ⟨k + 1, hkn, by go_num, (HBR.out.trans (HB10.out.mono hsw)).grown HG11.out (by omega) (fun i hi => (H1.out.lt i hi).1), ?_⟩
            rw [HE.out]
            exact rowsO_app (hs := hs) (xs := xs10) (O := w.heap.size) HB.out (by rw [HNR.out]; exact H1'.out) (by rw [HNR.out]; exact H2.out) (fun i hi => (H3.out i hi).below HB10.out (Nat.le_refl _)) (by rw [HNM.out]; exact K1.out) K4.out (by rw [HNR.out, HNM.out]; exact HO11.out) HG11.out
          case measure => simp [intOf]; omega
      · obtain rfl : k = n := by omega
        have HBF := Lib.hid hb
        have HRF := Lib.hid hR
        clear hb hR
        go_wp2_with fail
        go_ret
        exact ⟨_, rfl, HBF.out, HRF.out⟩

set_option maxRecDepth 100000 in
set_option maxHeartbeats 4000000 in
theorem orders_any (B n : Nat) (hn : n ≤ 4) (w : World) (hB : B ≤ w.heap.size) :
    Calls Tryd.prog 38 #[.int .i64 (n : Int)] w (ListPost B (TC.ordL n) w) := by
  have HO := Lib.hid (ordersFrom_any B n hn n [] (.slice none 0 0) w (Nat.zero_add n) hB (IntsIn.nil B w))
  have HE : Hid (TC.ordM n n [] = TC.ordL n) := rfl
  rw [HE.out] at HO
  unfold ListPost at HO ⊢
  clear HE
  go_enter Tryd.func38, Tryd.ntmps38
  go_wp2_with fail
  refine HO.out.mono ?_
  rintro e w1 ⟨v, rfl, hb, hR⟩
  have HB := Lib.hid hb
  have HR := Lib.hid hR
  clear hb hR
  go_wp2_with fail
  go_ret
  exact ⟨_, rfl, HB.out, HR.out⟩

/-- ways to give each of g generators an order; 0: too many -/
def waysV (n g : Nat) : Nat := if 20000 < fctN n ^ g then 0 else fctN n ^ g
set_option maxRecDepth 100000 in
set_option maxHeartbeats 8000000 in
theorem ways_any (B g n : Nat) (vr : Value) (w : World) (hn : n ≤ 4) (hg : g ≤ 1000) (hvr : ∃ p l c, vr = .slice p l c) :
    Calls Tryd.prog 19 #[.agg #[.int .i64 (g : Int), vr], .int .i64 (n : Int)] w (Gives (.int .i64 (waysV n g : Int)) w) := by
  obtain ⟨pr, lr, cr, rfl⟩ := hvr
  have hb0 : Below w.heap.size w (w.alloc (.cells #[.int .i64 (g : Int), .slice pr lr cr] 24)) := (Below.refl _ _).alloc (Nat.le_refl _) _
  obtain ⟨w1, hw1⟩ : ∃ w1, w.alloc (.cells #[.int .i64 (g : Int), .slice pr lr cr] 24) = w1 := ⟨_, rfl⟩
  have hg1 := heap_alloc_new w (.cells #[.int .i64 (g : Int), .slice pr lr cr] 24)
  have hs1 : w1.heap.size = w.heap.size + 1 := by rw [← hw1]; simp
  rw [hw1] at hb0 hg1
  have HG1 := Lib.hid hg1
  have HB0 := Lib.hid hb0
  have HW1 := Lib.hid hw1
  have hf := fct_pos hn
  obtain ⟨F, hF⟩ : ∃ F, fctN n = F := ⟨_, rfl⟩
  have hol := ordL_fct hn
  rw [hF] at hf hol
  obtain ⟨hf1, hf24⟩ := hf
  have HOL := Lib.hid hol
  have HBIG : Hid (∀ j, j ≤ g → 20000 < F ^ j → waysV n g = 0) := by
    intro j hj h
    unfold waysV
    rw [hF, if_pos (Nat.lt_of_lt_of_le h (Nat.pow_le_pow_right hf1 hj))]
  have HEND : Hid (F ^ g ≤ 20000 → waysV n g = F ^ g) := by
    intro h
    unfold waysV
    rw [hF, if_neg (by omega)]
  have HOR := Lib.hid (fun (w' : World) => orders_any 0 n hn w' (Nat.zero_le _))
  unfold ListPost at HOR
  have HPS := Lib.hid (fun j : Nat => Nat.pow_succ (n := F) (m := j))
  unfold Gives
  clear hb0 hg1 hw1 hF hol
  go_enter Tryd.func19, Tryd.ntmps19
  go_upto_region 1 with fail
  rw [HW1.out]
  go_wp2_with fail
  go_loopw [5, 6] (fun s i wr => ∃ j : Nat, j ≤ g ∧ i = .int .i64 (j : Int) ∧ s = .int .i64 ((F ^ j : Nat) : Int) ∧ Below w1.heap.size w1 wr ∧ F ^ j ≤ 20000) (fun _ i _ => g - (intOf i).toNat)
  case atStart => exact ⟨0, Nat.zero_le _, rfl, by rw [Nat.pow_zero]; rfl, Below.refl _ _, by rw [Nat.pow_zero]; decide⟩
  case round =>
    obtain ⟨j, hj, rfl, rfl, hb, hP⟩ := hrel
    have hps := HPS.out j
    have HB := Lib.hid hb
    have hbx := (hb.block w.heap.size (by omega)).trans HG1.out
    have c0 := (box_at hbx).1
    obtain ⟨P, hPe⟩ : ∃ P, F ^ j = P := ⟨_, rfl⟩
    rw [hPe] at hps hP ⊢
    by_cases hjg : j < g
    · have hm : P * F ≤ 20000 * 24 := Nat.mul_le_mul hP hf24
      obtain ⟨R, hR⟩ : ∃ R, P * F = R := ⟨_, rfl⟩
      have s0 : (P : Int) * (F : Int) = ((R : Nat) : Int) := by rw [← hR, Int.natCast_mul]
      rw [hR] at hps hm
      have s1 : IntKind.i64.wrap ((P : Int) * (F : Int)) = ((R : Nat) : Int) := by rw [s0]; exact IntWalk.i64_in _ (by omega)
      have s2 : IntKind.i64.wrap ((R : Nat) : Int) = ((R : Nat) : Int) := IntWalk.i64_in _ (by omega)
      have HPSJ := Lib.hid hps
      have HOW := Lib.hid (HOR.out wr)
      clear hps hPe hR hb hbx
      go_wp2_with fail
      refine HOW.out.mono ?_
      rintro e w2 ⟨v2, rfl, hb2, hR2⟩
      obtain ⟨p2, c2, hv2, -⟩ := hR2.lists
      rw [HOL.out] at hv2
      subst hv2
      have HB2 := Lib.hid (HB.out.trans (hb2.mono HB.out.size))
      clear hb2 hR2 c0
      by_cases hbig : 20000 < R
      · have HE := Lib.hid (HBIG.out (j + 1) hjg (by rw [HPSJ.out]; exact hbig))
        go_wp2_with fail
        go_ret
        rw [HE.out]
        exact ⟨rfl, HB0.out.trans (HB2.out.mono (by omega))⟩
      · go_wp2_with fail
        go_roundw
        case rel => exact ⟨j + 1, hjg, by go_num, by rw [HPSJ.out], HB2.out, by rw [HPSJ.out]; omega⟩
        case measure => simp [intOf]; omega
    · obtain rfl : j = g := by omega
      have HE := Lib.hid (HEND.out (by rw [hPe]; exact hP))
      have HPE := Lib.hid hPe
      clear hps hPe hb hbx
      go_wp2_with fail
      go_ret
      rw [HE.out, HPE.out]
      exact ⟨rfl, HB0.out.trans (HB.out.mono (by omega))⟩

theorem OutR.at {B : Nat} {w : World} {b off n c : Nat} {L : List (List (List Int))} (h : OutR B w (.slice (some ⟨b, off, none⟩) n c) L) {i : Nat} (hi : i < L.length) : ∃ t, w.cell? ⟨b, off + i, none⟩ = some t ∧ ListsIn B w t (L.getD i []) := by
  obtain ⟨p, c', hv, -, -, hx⟩ := h
  obtain ⟨b', off', t, e1, e2, e3⟩ := hx i hi
  subst e1
  cases hv
  exact ⟨t, e2, e3⟩
theorem getT_mem {L : List (List (List Int))} {i : Nat} (h : i < L.length) : L.getD i [] ∈ L := by
  rw [List.getD_eq_getElem?_getD, List.getElem?_eq_getElem h]; exact List.getElem_mem _
theorem ListsIn.one {B : Nat} {w : World} {v : Value} {L : List (List Int)} (h : ListsIn B w v L) : v.oneCell' = true := by
  obtain ⟨p, c, rfl, -⟩ := h
  rfl
/-- the headers of a list of tables -/
theorem OutR.src {B : Nat} {w : World} {v : Value} {L : List (List (List Int))} (h : OutR B w v L) : ∃ p c, ∃ hs : List Value, v = .slice p L.length c ∧ hs.length = L.length ∧ L.length ≤ c ∧ (p = none → c = 0) ∧ (0 < L.length → ∃ b off, p = some ⟨b, off, none⟩) ∧
    (∀ b off, p = some ⟨b, off, none⟩ → ∀ j, j < L.length → w.cell? ⟨b, off + j, none⟩ = some (hs.getD j .nilIface)) ∧ (∀ i, i < L.length → ListsIn B w (hs.getD i .nilIface) (L.getD i [])) ∧ ∀ u ∈ hs, u.oneCell' = true := by
  obtain ⟨p, c, hv, hle, hno, hx⟩ := h
  by_cases hp : 0 < L.length
  · obtain ⟨b, off, -, e1, -⟩ := hx 0 hp
    subst e1
    have hf : ∀ i, i < L.length → ∃ t, w.cell? ⟨b, off + i, none⟩ = some t ∧ ListsIn B w t (L.getD i []) := fun i hi => by
      obtain ⟨b', off', t, e1, e2, e3⟩ := hx i hi
      cases e1
      exact ⟨t, e2, e3⟩
    have hg : ∀ i, i < L.length → ((List.range L.length).map fun i => (w.cell? ⟨b, off + i, none⟩).getD .nilIface).getD i .nilIface = (w.cell? ⟨b, off + i, none⟩).getD .nilIface := fun i hi => by
      rw [List.getD_eq_getElem?_getD, List.getElem?_map, List.getElem?_range hi]; rfl
    have hq : ∀ i, i < L.length → w.cell? ⟨b, off + i, none⟩ = some ((w.cell? ⟨b, off + i, none⟩).getD .nilIface) ∧ ListsIn B w ((w.cell? ⟨b, off + i, none⟩).getD .nilIface) (L.getD i []) := fun i hi => by
      obtain ⟨t, e2, e3⟩ := hf i hi
      rw [e2]; exact ⟨rfl, e3⟩
    refine ⟨some ⟨b, off, none⟩, c, (List.range L.length).map fun i => (w.cell? ⟨b, off + i, none⟩).getD .nilIface, hv, by simp, hle, hno, fun _ => ⟨b, off, rfl⟩, fun b' off' e j hj => ?_, fun i hi => ?_, fun u hu => ?_⟩
    · cases e
      rw [hg j hj]; exact (hq j hj).1
    · rw [hg i hi]; exact (hq i hi).2
    · obtain ⟨i, hi, rfl⟩ := List.mem_map.1 hu
      exact (hq i (List.mem_range.1 hi)).2.one
  · have h0 : L.length = 0 := by omega
    exact ⟨p, c, [], hv, h0.symm, hle, hno, fun h => absurd h hp, fun _ _ _ j hj => absurd (Nat.lt_of_le_of_lt (Nat.zero_le _) hj) hp, fun i hi => absurd (Nat.lt_of_le_of_lt (Nat.zero_le _) hi) hp, fun u hu => by cases hu⟩
/-- as many tables at the list's head are ahead of t -/
def aheadN (L : List (List (List Int))) (t : List (List Int)) : Nat := (L.takeWhile fun s => ah s.flatten t.flatten).length
theorem aheadN_step {L : List (List (List Int))} {t : List (List Int)} : ∀ {k : Nat}, k ≤ aheadN L t → (k < L.length → ah (L.getD k []).flatten t.flatten = true → k < aheadN L t) ∧ (k < L.length → ah (L.getD k []).flatten t.flatten = false → k = aheadN L t) ∧ (L.length ≤ k → k = aheadN L t) := by
  unfold aheadN
  induction L with
  | nil => intro k hk; simp at hk; subst hk; exact ⟨fun h => absurd h (by simp), fun h => absurd h (by simp), fun _ => by simp⟩
  | cons s L ih =>
    intro k hk
    cases c : ah s.flatten t.flatten with
    | false =>
      rw [List.takeWhile_cons_of_neg (by simpa using c)] at hk ⊢
      simp only [List.length_nil, Nat.le_zero] at hk
      subst hk
      refine ⟨fun _ h => ?_, fun _ _ => rfl, fun h => by simp at h⟩
      rw [List.getD_cons_zero, c] at h; cases h
    | true =>
      rw [List.takeWhile_cons_of_pos (by simpa using c), List.length_cons] at hk ⊢
      cases k with
      | zero =>
        refine ⟨fun _ _ => Nat.succ_pos _, fun _ h => ?_, fun h => by simp at h⟩
        rw [List.getD_cons_zero, c] at h; cases h
      | succ k =>
        obtain ⟨h1, h2, h3⟩ := ih (k := k) (by omega)
        simp only [List.getD_cons_succ, List.length_cons, Nat.add_lt_add_iff_right, Nat.add_le_add_iff_right]
        exact ⟨h1, fun a b => by rw [← h2 a b], fun a => by rw [← h3 a]⟩
theorem aheadN_le (L : List (List (List Int))) (t : List (List Int)) : aheadN L t ≤ L.length := by
  unfold aheadN
  exact (List.takeWhile_sublist _).length_le
def PutTP (B : Nat) (M : List (List (List Int))) (w : World) (e : Ending) (w' : World) : Prop := ∃ p c, e = .returned (.slice p M.length c) ∧ Below w.heap.size w w' ∧ OutR B w' (.slice p M.length c) M
theorem below_dz {B : Nat} {w w' w'' : World} {z : Nat} (h : Below B w w') (e : w'' = w'.drewN z) : Below B w w'' := by rw [e]; exact ⟨h.os, h.tape, h.output, h.size, h.block⟩
theorem putT_form (L : List (List (List Int))) (t : List (List Int)) : TC.putT L t = L.take (aheadN L t) ++ [t] ++ L.drop (aheadN L t) := by unfold TC.putT aheadN; simp
theorem run_part_tabs (b off m cap k : Nat) (hk : k ≤ m) (hm : m ≤ cap) (w : World) :
    (Instr.slice 46 (.slice (some ⟨b, off, none⟩) m cap) none (some (.int .i64 (k : Int))) none).run Tryd.prog w = .ok (.slice (some ⟨b, off, none⟩) k cap) w := by
  have h1 : (0 : Int) ≤ (k : Int) ∧ (k : Int) ≤ (cap : Int) := by omega
  have h2 : k ≤ cap := by omega
  simp [Instr.slice, Instr.sliceBounds, Instr.sliceBound, asIntOf, run_underlying under_tabs, h1, h2, add_off]
theorem run_part_none (w : World) :
    (Instr.slice 46 (.slice none 0 0) none (some (.int .i64 ((0 : Nat) : Int))) none).run Tryd.prog w = .ok (.slice none 0 0) w := by
  simp [Instr.slice, Instr.sliceBounds, Instr.sliceBound, asIntOf, run_underlying under_tabs]
theorem run_from_none (w : World) :
    (Instr.slice 46 (.slice none 0 0) (some (.int .i64 ((0 : Nat) : Int))) none none).run Tryd.prog w = .ok (.slice none 0 0) w := by
  simp [Instr.slice, Instr.sliceBounds, Instr.sliceBound, asIntOf, run_underlying under_tabs]
def frA (b off k cap : Nat) : Addr := if cap = k then ⟨b, off, none⟩ else ⟨b, off + k, none⟩
theorem run_from_tabs (b off m cap k : Nat) (hk : k ≤ m) (w : World) :
    (Instr.slice 46 (.slice (some ⟨b, off, none⟩) m cap) (some (.int .i64 (k : Int))) none none).run Tryd.prog w = .ok (.slice (some (frA b off k cap)) (m - k) (cap - k)) w := by
  have h1 : (0 : Int) ≤ (k : Int) ∧ (k : Int) ≤ (m : Int) := by omega
  have h2 : ¬ m < k := by omega
  unfold frA
  by_cases hc : cap = k
  · simp [Instr.slice, Instr.sliceBounds, Instr.sliceBound, asIntOf, run_underlying under_tabs, h1, h2, hc]
  · simp [Instr.slice, Instr.sliceBounds, Instr.sliceBound, asIntOf, run_underlying under_tabs, h1, h2, hc, add_off]
theorem putT_done {B q n m : Nat} {w w7 : World} {L : List (List (List Int))} {T : List (List Int)} {hs : List Value} {pu p7 : Option Addr} {cu c7 : Nat} (hqn : q ≤ n) (hln : L.length = n) (hq : aheadN L T = q) (h1 : hs.length = n) (h4 : ∀ i, i < n → ListsIn B w (hs.getD i .nilIface) (L.getD i [])) (hu : ListsIn B w (.slice pu m cu) T)
    (hb : Below w.heap.size w w7) (ho : w7.ownsRow w.heap.size 22 1 (.slice p7 (q + 1 + (n - q)) c7) (q + 1 + (n - q)) (hs.take q ++ [Value.slice pu m cu] ++ hs.drop q)) :
    ∃ p c, (Ending.returned (.slice p7 (q + 1 + (n - q)) c7) : Ending) = .returned (.slice p (TC.putT L T).length c) ∧ Below w.heap.size w w7 ∧ OutR B w7 (.slice p (TC.putT L T).length c) (TC.putT L T) := by
  have hl : (TC.putT L T).length = q + 1 + (n - q) := by
    rw [putT_form, hq]; simp [hln]; omega
  refine ⟨p7, c7, by rw [hl], hb, ?_⟩
  rw [hl]
  have hhl : (hs.take q ++ [Value.slice pu m cu] ++ hs.drop q).length = q + 1 + (n - q) := by simp [h1]; omega
  have hrow : ∀ i, i < q + 1 + (n - q) → ListsIn B w7 ((hs.take q ++ [Value.slice pu m cu] ++ hs.drop q).getD i .nilIface) ((TC.putT L T).getD i []) := by
    intro i hi
    rw [putT_form, hq]
    have l1 : (hs.take q).length = q := by rw [List.length_take]; omega
    have l2 : (L.take q).length = q := by rw [List.length_take]; omega
    rcases (show i < q ∨ i = q ∨ q < i by omega) with h | h | h
    · rw [show (hs.take q ++ [Value.slice pu m cu] ++ hs.drop q).getD i .nilIface = hs.getD i .nilIface by simp [List.getD_eq_getElem?_getD, List.getElem?_append_left (show i < (hs.take q).length by omega), List.getElem?_take, h],
        show (L.take q ++ [T] ++ L.drop q).getD i [] = L.getD i [] by simp [List.getD_eq_getElem?_getD, List.getElem?_append_left (show i < (L.take q).length by omega), List.getElem?_take, h]]
      exact (h4 i (by omega)).below hb (Nat.le_refl _)
    · subst h
      rw [show (hs.take i ++ [Value.slice pu m cu] ++ hs.drop i).getD i .nilIface = .slice pu m cu by simp [List.getD_eq_getElem?_getD, List.getElem?_append_right (show (hs.take i).length ≤ i by omega), l1],
        show (L.take i ++ [T] ++ L.drop i).getD i [] = T by simp [List.getD_eq_getElem?_getD, List.getElem?_append_right (show (L.take i).length ≤ i by omega), l2]]
      exact hu.below hb (Nat.le_refl _)
    · have e1 : i - q = (i - q - 1) + 1 := by omega
      rw [show (hs.take q ++ [Value.slice pu m cu] ++ hs.drop q).getD i .nilIface = hs.getD (i - 1) .nilIface by
            rw [List.append_assoc, List.getD_eq_getElem?_getD, List.getD_eq_getElem?_getD, List.getElem?_append_right (by omega), l1, e1, List.singleton_append, List.getElem?_cons_succ, List.getElem?_drop, show q + (i - q - 1) = i - 1 by omega],
        show (L.take q ++ [T] ++ L.drop q).getD i [] = L.getD (i - 1) [] by
            rw [List.append_assoc, List.getD_eq_getElem?_getD, List.getD_eq_getElem?_getD, List.getElem?_append_right (by omega), l2, e1, List.singleton_append, List.getElem?_cons_succ, List.getElem?_drop, show q + (i - q - 1) = i - 1 by omega]]
      exact (h4 (i - 1) (by omega)).below hb (Nat.le_refl _)
  rcases ho.2 with ⟨e, h0⟩ | ⟨g, cap, cur, e, -, -, hle, -⟩
  · omega
  · cases e
    refine ⟨_, _, by rw [hl], by rw [hl]; exact hle, (fun e => by cases e), fun i hi => ?_⟩
    rw [hl] at hi
    have h2 := ho.cells (g := g) rfl i ((hs.take q ++ [Value.slice pu m cu] ++ hs.drop q).getD i .nilIface) (by rw [List.getD_eq_getElem?_getD, List.getElem?_eq_getElem (by omega)]; rfl)
    rw [add_zero] at h2
    exact ⟨g, 0, _, rfl, by rw [Nat.zero_add]; exact h2, hrow i hi⟩
set_option maxRecDepth 100000 in
set_option maxHeartbeats 8000000 in
theorem putTable_any (B : Nat) (L : List (List (List Int))) (T : List (List Int)) (v u : Value) (w : World) (hv : OutR B w v L) (hv0 : L = [] → v = .slice none 0 0) (hu : ListsIn B w u T) (hn : L.length ≤ 20000) (hl : ∀ t ∈ L, t.length ≤ 1000 ∧ t.flatten.length ≤ 1000) (ht : T.length ≤ 1000 ∧ T.flatten.length ≤ 1000) :
    Calls Tryd.prog 45 #[v, u] w (PutTP B (TC.putT L T) w) := by
  obtain ⟨i22, hi22, hz0, hz1, hz2⟩ := info_parts info_tab
  obtain ⟨p, c, hs, rfl, k1, hle, hno, k2, k3, k4, k5⟩ := hv.src
  obtain ⟨n, hLn⟩ : ∃ n, L.length = n := ⟨_, rfl⟩
  rw [hLn] at k1 hle k2 k3 k4 hn hv ⊢
  obtain ⟨pu, cu, hue, -⟩ := id hu
  obtain ⟨m, hm⟩ : ∃ m, T.length = m := ⟨_, rfl⟩
  rw [hm] at hue
  subst hue
  have HLN := Lib.hid hLn
  have K1 := Lib.hid k1
  have K2 := Lib.hid k2
  have K3 := Lib.hid k3
  have K4 := Lib.hid k4
  have K5 := Lib.hid k5
  have HV := Lib.hid hv
  have HV0 := Lib.hid hv0
  have HU := Lib.hid hu
  have HL := Lib.hid hl
  have HT := Lib.hid ht
  have HM := Lib.hid hm
  have HST := Lib.hid (fun k (hk : k ≤ aheadN L T) => aheadN_step hk)
  have HLE := aheadN_le L T
  rw [hLn] at HLE
  obtain ⟨q, hq⟩ : ∃ q, aheadN L T = q := ⟨_, rfl⟩
  rw [hq] at HST HLE
  have HQ := Lib.hid hq
  unfold PutTP
  clear hv hv0 hu k1 k2 k3 k4 k5 hl ht hm hLn hq
  go_enter Tryd.func45, Tryd.ntmps45
  go_wp2_with fail
  go_loopw [5] (fun s wr => ∃ k : Nat, k ≤ q ∧ s = .int .i64 (k : Int) ∧ Below w.heap.size w wr) (fun s _ => n - (intOf s).toNat)
  case atStart => exact ⟨0, Nat.zero_le _, rfl, Below.refl _ _⟩
  case round =>
    obtain ⟨k, hk, rfl, hb⟩ := hrel
    obtain ⟨s1, s2, s3⟩ := HST.out k hk
    have HB := Lib.hid hb
    by_cases hkn : k < n
    · obtain ⟨b, off, rfl⟩ := K2.out (by omega)
      have hc := K3.out b off rfl k hkn
      have hli := K4.out k hkn
      have hlk := HL.out _ (getT_mem (L := L) (i := k) (by rw [HLN.out]; exact hkn))
      obtain ⟨x, hx⟩ : ∃ x, L.getD k [] = x := ⟨_, rfl⟩
      rw [hx] at hli hlk s1 s2
      obtain ⟨px, cx, hxe, -⟩ := id hli
      obtain ⟨nx, hnx⟩ : ∃ nx, x.length = nx := ⟨_, rfl⟩
      rw [hnx] at hxe
      rw [hxe] at hc hli
      have hcr := (hb.cell (p := ⟨b, off + k, none⟩) (mem_lt hc)).trans hc
      have HLX := Lib.hid (lettersR_any B x (.slice px nx cx) wr (hli.below hb (Nat.le_refl _)) (by omega) (by omega))
      unfold CatP at HLX
      obtain ⟨xs, hxs⟩ : ∃ xs, x.flatten = xs := ⟨_, rfl⟩
      rw [hxs] at HLX hlk s1 s2
      obtain ⟨ts, hts⟩ : ∃ ts, T.flatten = ts := ⟨_, rfl⟩
      rw [hts] at s1 s2
      have HTS := Lib.hid hts
      have S1 := Lib.hid s1
      have S2 := Lib.hid s2
      have HLK := Lib.hid hlk
      clear hb hli hlk hx hnx hxe hc hxs hts s1 s2 s3
      have hsz := HB.out.size
      go_wp2_with fail
      refine HLX.out.mono ?_
      rintro e w1 ⟨p1, c1, rfl, hb1, ho1⟩
      have HI1 := Lib.hid (ints_owned (B := 0) ho1 rfl)
      have HB1 := Lib.hid (HB.out.trans (hb1.mono hsz))
      have HLT := Lib.hid (lettersR_any B T (.slice pu m cu) w1 (HU.out.below HB1.out (Nat.le_refl _)) (by have := HT.out; omega) (by have := HT.out; omega))
      unfold CatP at HLT
      rw [HTS.out] at HLT
      have htl : ts.length ≤ 1000 := by rw [← HTS.out]; exact HT.out.2
      have hsz1 := HB1.out.size
      clear hb1 ho1 HLX
      go_wp2_with fail
      refine HLT.out.mono ?_
      rintro e w2 ⟨p2, c2, rfl, hb2, ho2⟩
      have HI2 := Lib.hid (ints_owned (B := 0) ho2 rfl)
      have HB2 := Lib.hid (HB1.out.trans (hb2.mono hsz1))
      have HAH := Lib.hid (ahead_any xs ts (.slice p1 xs.length c1) (.slice p2 ts.length c2) w2 (HI1.out.below hb2 (Nat.le_refl _)).at HI2.out.at (by have := HLK.out; omega) (by omega))
      unfold Drew at HAH
      clear hb2 ho2 HLT
      cases ha : ah xs ts with
      | true =>
        rw [ha] at HAH
        have hkq := S1.out (by rw [HLN.out]; exact hkn) ha
        clear ha
        go_wp2_with fail
        refine HAH.out.mono ?_
        rintro e w3 ⟨rfl, z, hz⟩
        have HB3 : Hid (Below w.heap.size w w3) := below_dz HB2.out hz
        clear hz
        go_wp2_with fail
        go_roundw
        case rel => exact ⟨k + 1, hkq, by go_num, HB3.out⟩
        case measure => simp [intOf]; omega
      | false =>
        rw [ha] at HAH
        obtain rfl : q = k := (S2.out (by rw [HLN.out]; exact hkn) ha).symm
        clear ha
        go_wp2_with fail
        refine HAH.out.mono ?_
        rintro e w3 ⟨rfl, z, hz⟩
        have HB3 : Hid (Below w.heap.size w w3) := below_dz HB2.out hz
        clear hz
        have hsz := HB3.out.size
        have hlq : (hs.take q).length = q := by rw [List.length_take, K1.out]; omega
        have hld : (hs.drop q).length = n - q := by rw [List.length_drop, K1.out]
        have hn1 : ∀ ad, (some ⟨b, off, none⟩ : Option Addr) = some ad → ∀ j u, (hs.take q)[j]? = some u → w3.cell? (ad.add j) = some u := fun ad e j u hu => by
          obtain rfl := Option.some.inj e
          have hj := (List.getElem?_eq_some_iff.1 hu).1
          rw [hlq] at hj
          rw [List.getElem?_take, if_pos hj] at hu
          have h2 := K3.out b off rfl j (by omega)
          rw [List.getD_eq_getElem?_getD, hu, Option.getD_some] at h2
          rw [add_off]
          exact (HB3.out.cell (p := ⟨b, off + j, none⟩) (mem_lt h2)).trans h2
        have HN1 := Lib.hid hn1
        have HLQ := Lib.hid hlq
        have HLD := Lib.hid hld
        have hfrom := run_from_tabs b off n c q HLE
        clear hn1 hlq hld
        go_upto_region 6 with (at_builtin; refine wpList_app_any _ rfl (.tmp 23) (.tmp 26) 46 rfl w.heap.size 22 i22 (.slice none 0 0) 24 under_tabs hi22 hz0 hz1 hz2 (by rfl) (.slice none 0 0) 0 [] rfl (World.ownsRow_nil _ _ _ _) (some ⟨b, off, none⟩) q c (hs.take q) rfl HLQ.out (fun e => by cases e) HN1.out (fun u hu => K5.out u (List.mem_of_mem_take hu)) (by unfold maxLen; omega) (by omega) (by omega) _ (by rfl) ?_; intro p5 cap5 w5 ho5 hg5 hat5; simp only [Nat.zero_add, List.nil_append] at ho5 ⊢; have HO5 := Lib.hid ho5; have HG5 := Lib.hid (below_none hg5); clear ho5 hg5 hat5)
        have hsz5 := HG5.out.size
        have HB5 := Lib.hid (HB3.out.trans (HG5.out.mono hsz))
        go_upto_region 7 with (at_builtin; refine wpList_append_lies _ rfl (.tmp 28) (.tmp 30) 46 rfl w.heap.size 22 i22 (.slice none 0 0) 1 24 under_tabs hi22 hz0 hz1 hz2 rfl (by decide) _ q (hs.take q) rfl (HO5.out.alloc _) ⟨w5.heap.size, 0, none⟩ 1 1 [.slice pu m cu] rfl rfl (World.news_of_block (cs := #[.slice pu m cu]) (t := 22) (fr := (0, 0)) (heap_alloc_new w5 _)) (by simp [Value.oneCell']) (by decide) (by unfold maxLen; omega) (by omega) (by simp; omega) (w5.heap.size + 1) (by simp) ?_; intro g2 c2 w6 hown2 hgr2 hat2 hlt2; have HO6 := Lib.hid hown2; have HG6 := Lib.hid hgr2; clear hown2 hgr2 hat2 hlt2)
        have HB6 := Lib.hid ((HB5.out.alloc (by omega) _).grown HG6.out (by simp; omega) (fun i hi => (HO5.out.lt i hi).1))
        have hsz6 := HB6.out.size
        have hn2 : ∀ ad, (some (frA b off q c) : Option Addr) = some ad → ∀ j u, (hs.drop q)[j]? = some u → w6.cell? (ad.add j) = some u := fun ad e j u hu => by
          obtain rfl := Option.some.inj e
          have hj := (List.getElem?_eq_some_iff.1 hu).1
          rw [HLD.out] at hj
          rw [List.getElem?_drop] at hu
          have h2 := K3.out b off rfl (q + j) (by omega)
          rw [List.getD_eq_getElem?_getD, hu, Option.getD_some] at h2
          unfold frA
          rw [if_neg (by omega), add_off, Nat.add_assoc]
          exact (HB6.out.cell (p := ⟨b, off + (q + j), none⟩) (mem_lt h2)).trans h2
        have HN2 := Lib.hid hn2
        clear hn2
        go_wp2_with (at_builtin; go_loud (refine wpList_app_any _ rfl (.tmp 32) (.tmp 35) 46 rfl w.heap.size 22 i22 (.slice none 0 0) 24 under_tabs hi22 hz0 hz1 hz2 (by rfl) (.slice (some ⟨g2, 0, none⟩) (q + 1) c2) (q + 1) (hs.take q ++ [.slice pu m cu]) rfl HO6.out (some (frA b off q c)) (n - q) (c - q) (hs.drop q) rfl HLD.out (fun e => by cases e) HN2.out (fun u hu => K5.out u (List.mem_of_mem_drop hu)) (by unfold maxLen; omega) (by omega) (by omega) _ (by rfl) ?_); intro p7 c7 w7 ho7 hg7 hat7; have HO7 := Lib.hid ho7; have HG7 := Lib.hid hg7; clear ho7 hg7 hat7)
        go_ret
        have HB7 := HB6.out.grown HG7.out (by omega) (fun i hi => (HO6.out.lt i hi).1)
        exact putT_done HLE HLN.out HQ.out K1.out K4.out HU.out HB7 HO7.out
    · obtain rfl : q = k := (s3 (by rw [HLN.out]; omega)).symm
      obtain ⟨w3, hw3⟩ : ∃ w3, w3 = wr := ⟨_, rfl⟩
      subst hw3
      have HB3 := HB
      clear s1 s2 s3 hb
      cases p with
      | none =>
        obtain rfl : n = 0 := by
          rcases Nat.eq_zero_or_pos n with h | h
          · exact h
          · obtain ⟨b, off, e⟩ := K2.out h; cases e
        obtain rfl : q = 0 := by omega
        obtain rfl : c = 0 := hno rfl
        have hsz := HB3.out.size
        go_upto_region 6 with (at_builtin; refine wpList_app_any _ rfl (.tmp 23) (.tmp 26) 46 rfl w.heap.size 22 i22 (.slice none 0 0) 24 under_tabs hi22 hz0 hz1 hz2 (by rfl) (.slice none 0 0) 0 [] rfl (World.ownsRow_nil _ _ _ _) none 0 0 [] rfl rfl (fun _ => ⟨rfl, rfl⟩) (fun ad e => by cases e) (fun u hu => by cases hu) (by decide) (by decide) (by omega) _ (by rfl) ?_; intro p5 cap5 w5 ho5 hg5 hat5; simp only [Nat.zero_add, List.nil_append] at ho5 ⊢; have HO5 := Lib.hid ho5; have HG5 := Lib.hid (below_none hg5); clear ho5 hg5 hat5)
        have hsz5 := HG5.out.size
        have HB5 := Lib.hid (HB3.out.trans (HG5.out.mono hsz))
        go_upto_region 7 with (at_builtin; refine wpList_append_lies _ rfl (.tmp 28) (.tmp 30) 46 rfl w.heap.size 22 i22 (.slice none 0 0) 1 24 under_tabs hi22 hz0 hz1 hz2 rfl (by decide) _ 0 [] rfl (HO5.out.alloc _) ⟨w5.heap.size, 0, none⟩ 1 1 [.slice pu m cu] rfl rfl (World.news_of_block (cs := #[.slice pu m cu]) (t := 22) (fr := (0, 0)) (heap_alloc_new w5 _)) (by simp [Value.oneCell']) (by decide) (by unfold maxLen; omega) (by omega) (by simp; omega) (w5.heap.size + 1) (by simp) ?_; intro g2 c2 w6 hown2 hgr2 hat2 hlt2; have HO6 := Lib.hid hown2; have HG6 := Lib.hid hgr2; clear hown2 hgr2 hat2 hlt2)
        have HB6 := Lib.hid ((HB5.out.alloc (by omega) _).grown HG6.out (by simp; omega) (fun i hi => (HO5.out.lt i hi).1))
        have hsz6 := HB6.out.size
        have hfrom := run_from_none
        go_wp2_with (at_builtin; go_loud (refine wpList_app_any _ rfl (.tmp 32) (.tmp 35) 46 rfl w.heap.size 22 i22 (.slice none 0 0) 24 under_tabs hi22 hz0 hz1 hz2 (by rfl) (.slice (some ⟨g2, 0, none⟩) (0 + 1) c2) (0 + 1) ([] ++ [.slice pu m cu]) rfl HO6.out none 0 0 [] rfl rfl (fun _ => ⟨rfl, rfl⟩) (fun ad e => by cases e) (fun u hu => by cases hu) (by decide) (by decide) (by omega) _ (by rfl) ?_); intro p7 c7 w7 ho7 hg7 hat7; have HO7 := Lib.hid ho7; have HG7 := Lib.hid hg7; clear ho7 hg7 hat7)
        go_ret
        have HB7 := HB6.out.grown HG7.out (by omega) (fun i hi => (HO6.out.lt i hi).1)
        exact putT_done (hs := []) (n := 0) (q := 0) (Nat.zero_le _) HLN.out HQ.out rfl (fun i hi => absurd hi (by omega)) HU.out HB7 HO7.out
      | some ad =>
        by_cases hn0 : 0 < n
        · obtain ⟨b, off, e⟩ := K2.out hn0
          obtain rfl := Option.some.inj e
          have hsz := HB3.out.size
          have hlq : (hs.take q).length = q := by rw [List.length_take, K1.out]; omega
          have hld : (hs.drop q).length = n - q := by rw [List.length_drop, K1.out]
          have hn1 : ∀ ad, (some ⟨b, off, none⟩ : Option Addr) = some ad → ∀ j u, (hs.take q)[j]? = some u → w3.cell? (ad.add j) = some u := fun ad e j u hu => by
            obtain rfl := Option.some.inj e
            have hj := (List.getElem?_eq_some_iff.1 hu).1
            rw [hlq] at hj
            rw [List.getElem?_take, if_pos hj] at hu
            have h2 := K3.out b off rfl j (by omega)
            rw [List.getD_eq_getElem?_getD, hu, Option.getD_some] at h2
            rw [add_off]
            exact (HB3.out.cell (p := ⟨b, off + j, none⟩) (mem_lt h2)).trans h2
          have HN1 := Lib.hid hn1
          have HLQ := Lib.hid hlq
          have HLD := Lib.hid hld
          have hfrom := run_from_tabs b off n c q HLE
          clear hn1 hlq hld
          go_upto_region 6 with (at_builtin; refine wpList_app_any _ rfl (.tmp 23) (.tmp 26) 46 rfl w.heap.size 22 i22 (.slice none 0 0) 24 under_tabs hi22 hz0 hz1 hz2 (by rfl) (.slice none 0 0) 0 [] rfl (World.ownsRow_nil _ _ _ _) (some ⟨b, off, none⟩) q c (hs.take q) rfl HLQ.out (fun e => by cases e) HN1.out (fun u hu => K5.out u (List.mem_of_mem_take hu)) (by unfold maxLen; omega) (by omega) (by omega) _ (by rfl) ?_; intro p5 cap5 w5 ho5 hg5 hat5; simp only [Nat.zero_add, List.nil_append] at ho5 ⊢; have HO5 := Lib.hid ho5; have HG5 := Lib.hid (below_none hg5); clear ho5 hg5 hat5)
          have hsz5 := HG5.out.size
          have HB5 := Lib.hid (HB3.out.trans (HG5.out.mono hsz))
          go_upto_region 7 with (at_builtin; refine wpList_append_lies _ rfl (.tmp 28) (.tmp 30) 46 rfl w.heap.size 22 i22 (.slice none 0 0) 1 24 under_tabs hi22 hz0 hz1 hz2 rfl (by decide) _ q (hs.take q) rfl (HO5.out.alloc _) ⟨w5.heap.size, 0, none⟩ 1 1 [.slice pu m cu] rfl rfl (World.news_of_block (cs := #[.slice pu m cu]) (t := 22) (fr := (0, 0)) (heap_alloc_new w5 _)) (by simp [Value.oneCell']) (by decide) (by unfold maxLen; omega) (by omega) (by simp; omega) (w5.heap.size + 1) (by simp) ?_; intro g2 c2 w6 hown2 hgr2 hat2 hlt2; have HO6 := Lib.hid hown2; have HG6 := Lib.hid hgr2; clear hown2 hgr2 hat2 hlt2)
          have HB6 := Lib.hid ((HB5.out.alloc (by omega) _).grown HG6.out (by simp; omega) (fun i hi => (HO5.out.lt i hi).1))
          have hsz6 := HB6.out.size
          have hn2 : ∀ ad, (some (frA b off q c) : Option Addr) = some ad → ∀ j u, (hs.drop q)[j]? = some u → w6.cell? (ad.add j) = some u := fun ad e j u hu => by
            obtain rfl := Option.some.inj e
            have hj := (List.getElem?_eq_some_iff.1 hu).1
            rw [HLD.out] at hj
            rw [List.getElem?_drop] at hu
            have h2 := K3.out b off rfl (q + j) (by omega)
            rw [List.getD_eq_getElem?_getD, hu, Option.getD_some] at h2
            unfold frA
            rw [if_neg (by omega), add_off, Nat.add_assoc]
            exact (HB6.out.cell (p := ⟨b, off + (q + j), none⟩) (mem_lt h2)).trans h2
          have HN2 := Lib.hid hn2
          clear hn2
          go_wp2_with (at_builtin; go_loud (refine wpList_app_any _ rfl (.tmp 32) (.tmp 35) 46 rfl w.heap.size 22 i22 (.slice none 0 0) 24 under_tabs hi22 hz0 hz1 hz2 (by rfl) (.slice (some ⟨g2, 0, none⟩) (q + 1) c2) (q + 1) (hs.take q ++ [.slice pu m cu]) rfl HO6.out (some (frA b off q c)) (n - q) (c - q) (hs.drop q) rfl HLD.out (fun e => by cases e) HN2.out (fun u hu => K5.out u (List.mem_of_mem_drop hu)) (by unfold maxLen; omega) (by omega) (by omega) _ (by rfl) ?_); intro p7 c7 w7 ho7 hg7 hat7; have HO7 := Lib.hid ho7; have HG7 := Lib.hid hg7; clear ho7 hg7 hat7)
          go_ret
          have HB7 := HB6.out.grown HG7.out (by omega) (fun i hi => (HO6.out.lt i hi).1)
          exact putT_done HLE HLN.out HQ.out K1.out K4.out HU.out HB7 HO7.out
        · have h1 := HV0.out (List.length_eq_zero_iff.1 (by rw [HLN.out]; omega))
          cases h1

theorem TC.tabD_wide {n g k : Nat} (hn : 0 < n) {L : List (List Int)} (hL : ∀ p ∈ L, TC.PermL n p) (h0 : 0 < L.length) : ∀ X, X ≤ g → TC.Wide (2 * g) (TC.tabD L n (2 * g) k X) ∧ (TC.tabD L n (2 * g) k X).length = n := fun X => by
  induction X with
  | zero => exact fun _ => ⟨TC.zero_wide hn, by simp [TC.tabD, TC.zeroT]⟩
  | succ X ih =>
    intro hX
    obtain ⟨h1, h2⟩ := ih (by omega)
    have h3 := Nat.mod_lt (k / L.length ^ X) h0
    have hm : L.getD (k / L.length ^ X % L.length) [] ∈ L := by
      rw [List.getD_eq_getElem?_getD, List.getElem?_eq_getElem h3]
      exact List.getElem_mem h3
    obtain ⟨c1, c2, -⟩ := TC.colD_ok (hL _ hm) (show 2 * X + 1 < 2 * g by omega) h1 h2 n (Nat.le_refl _)
    exact ⟨c1, c2⟩
/-- a table in memory: its rows' heads and cells -/
theorem HasH.head {O W i n : Nat} {w : World} {g c : Nat} {hs : List Value} {T : List (List Int)} (h : HasH O w (.slice (some ⟨g, 0, none⟩) n c) T hs) (hw : TC.Wide W T) (hW : 0 < W) (hi : i < T.length) :
    ∃ gi ci, hs.getD i .nilIface = .slice (some ⟨gi, 0, none⟩) W ci ∧ O ≤ gi ∧ w.cell? ⟨g, i, none⟩ = some (.slice (some ⟨gi, 0, none⟩) W ci) ∧ (∀ k, k < W → ∃ z, w.cell? ⟨gi, k, none⟩ = some z) ∧ ∀ k, k < W → w.frozen? ⟨gi, k, none⟩ = false := by
  have hr := h.2.2.1 i hi
  have hl := hw.len i hi
  obtain ⟨gi, ci, he, hO, cur, hcur⟩ := hr.form (by rw [hl]; exact hW)
  rw [hl] at he
  refine ⟨gi, ci, he, hO, by rw [← he]; exact h.cellsAt i hi, fun k hk => ?_, fun k hk => by simp [World.frozen?, hcur]⟩
  rw [he] at hr
  exact ⟨_, hr.cellsAt k (by rw [hl]; exact hk)⟩
theorem IntO.zero {O : Nat} {w w' : World} {x : Nat} {v v' : Value} (h : IntO O w v (List.replicate x 0)) (h' : w'.ownsRow O 3 1 v' (x + 1) (intVs (List.replicate x 0) ++ [.int .i64 0])) : IntO O w' v' (List.replicate (x + 1) 0) := by
  unfold IntO
  rw [List.replicate_succ', List.length_append, List.length_replicate, List.length_singleton]
  unfold intVs at h' ⊢
  rw [List.map_append]
  exact h'
def zeroI (n W : Nat) : List (List Int) := List.replicate n (List.replicate W 0)
theorem zeroI_len (n W : Nat) : (zeroI n W).length = n := by simp [zeroI]
theorem zeroI_succ (n W : Nat) : zeroI (n + 1) W = zeroI n W ++ [List.replicate W 0] := by unfold zeroI; rw [List.replicate_succ']
def tabsM (n g : Nat) (rels : List (List Int)) (k : Nat) : List (List (List Int)) := TC.docL (TC.ordL n) n g (TC.goodD n (colsL rels)) k
def tabV (n W k g : Nat) : List (List Int) := TC.tabD (TC.ordL n) n W k g
theorem tabsM_yes {n g k : Nat} {rels : List (List Int)} (h : TC.goodD n (colsL rels) (tabV n (2 * g) k g) = true) : tabsM n g rels (k + 1) = TC.putT (tabsM n g rels k) (tabV n (2 * g) k g) := by
  unfold tabsM tabV at *
  conv => lhs; unfold TC.docL
  rw [if_pos h]
theorem tabsM_no {n g k : Nat} {rels : List (List Int)} (h : TC.goodD n (colsL rels) (tabV n (2 * g) k g) = false) : tabsM n g rels (k + 1) = tabsM n g rels k := by
  unfold tabsM tabV at *
  conv => lhs; unfold TC.docL
  rw [if_neg (by rw [h]; decide)]
theorem tabV_ok {n g k : Nat} (hn1 : 1 ≤ n) (hn : n ≤ 4) : TC.Wide (2 * g) (tabV n (2 * g) k g) ∧ (tabV n (2 * g) k g).length = n ∧ TabOk (2 * g) (tabV n (2 * g) k g) := by
  have h := TC.tabD_ok (g := g) (k := k) (by omega) (TC.permL_of (n := n)) (TC.ordL_pos (by omega))
  have hf := h.full (TC.tab_perm (k := k) (by omega))
  refine ⟨h.wide, h.len, fun i hi => ⟨h.wide.len i hi, fun j hj => ?_⟩⟩
  have hl := h.len
  have h1 := hf i (by unfold tabV at hi; omega) j hj
  have h2 := (h.wide.ent i j).2
  unfold tabV TC.ent at *
  exact ⟨(((TC.tabD (TC.ordL n) n (2 * g) k g).getD i []).getD j (-1)).toNat, by omega, by omega⟩
theorem wide_flat {W n : Nat} {T : List (List Int)} (hw : TC.Wide W T) (hl : T.length = n) : T.flatten.length = n * W := by
  rw [(TC.flat_at (A := T) (TC.Wide.rows hw)).1, hl]
theorem tabsM_small {n g k : Nat} {rels : List (List Int)} (hn1 : 1 ≤ n) (hn : n ≤ 4) (hg : g ≤ 5) : ∀ t ∈ tabsM n g rels k, t.length ≤ 1000 ∧ t.flatten.length ≤ 1000 := by
  induction k with
  | zero => intro t ht; cases ht
  | succ k ih =>
    intro t ht
    obtain ⟨h1, h2, -⟩ := tabV_ok (g := g) (k := k) hn1 hn
    have h3 := wide_flat h1 h2
    have h4 : n * (2 * g) ≤ 4 * 10 := Nat.mul_le_mul hn (by omega)
    cases c : TC.goodD n (colsL rels) (tabV n (2 * g) k g) with
    | false => rw [tabsM_no c] at ht; exact ih t ht
    | true =>
      rw [tabsM_yes c, putT_form] at ht
      simp only [List.append_assoc, List.mem_append, List.mem_singleton] at ht
      rcases ht with h | h | h
      · exact ih t (List.mem_of_mem_take h)
      · subst h; omega
      · exact ih t (List.mem_of_mem_drop h)
theorem tabsM_len (n g : Nat) (rels : List (List Int)) (k : Nat) : (tabsM n g rels k).length ≤ k := TC.docL_len _ _ _ _ k

set_option maxRecDepth 100000 in
set_option maxHeartbeats 64000000 in
theorem subOf_any (B g n : Nat) (rels : List (List Int)) (vr : Value) (w : World) (hB : B ≤ w.heap.size) (hr : ListsIn B w vr rels) (hn1 : 1 ≤ n) (hn : n ≤ 4) (hg : g ≤ 5)
    (hx : ∀ l ∈ rels, ∀ x ∈ l, x ≠ 0 ∧ -1000000 ≤ x ∧ x ≤ 1000000 ∧ colN x < 2 * g) (hlen : ∀ l ∈ rels, l.length ≤ 1000000) (hrl : rels.length ≤ 1000000) (hways : fctN n ^ g ≤ 20000) :
    Calls Tryd.prog 22 #[.agg #[.int .i64 (g : Int), vr], .int .i64 (n : Int)] w (PutTP B (tabsM n g rels (fctN n ^ g)) w) := by
  obtain ⟨i3, hi3, hy0, hy1, hy2⟩ := info_parts Tryd.info3
  obtain ⟨i39, hi39, hz0, hz1, hz2⟩ := info_parts Tryd.info27
  obtain ⟨pr, cr, hre, -⟩ := id hr
  obtain ⟨nr, hnr⟩ : ∃ nr, rels.length = nr := ⟨_, rfl⟩
  rw [hnr] at hre hrl
  subst hre
  have hb0 : Below w.heap.size w (w.alloc (.cells #[.int .i64 (g : Int), .slice pr nr cr] 24)) := (Below.refl _ _).alloc (Nat.le_refl _) _
  obtain ⟨w1, hw1⟩ : ∃ w1, w.alloc (.cells #[.int .i64 (g : Int), .slice pr nr cr] 24) = w1 := ⟨_, rfl⟩
  have hg1 := heap_alloc_new w (.cells #[.int .i64 (g : Int), .slice pr nr cr] 24)
  have hs1 : w1.heap.size = w.heap.size + 1 := by rw [← hw1]; simp
  rw [hw1] at hb0 hg1
  have HG1 := Lib.hid hg1
  have HB0 := Lib.hid hb0
  have HW1 := Lib.hid hw1
  have HR := Lib.hid (hr.below hb0 (Nat.le_refl _))
  have HLE := Lib.hid hlen
  have HNR := Lib.hid hnr
  have HBB := Lib.hid hB
  obtain ⟨F, hF⟩ : ∃ F, fctN n = F := ⟨_, rfl⟩
  have hol := ordL_fct hn
  have hff := fct_pos hn
  rw [hF] at hol hff hways ⊢
  obtain ⟨hf1, hf24⟩ := hff
  have HOL := Lib.hid hol
  have hwv : waysV n g = F ^ g := by unfold waysV; rw [hF, if_neg (by omega)]
  obtain ⟨N, hN⟩ : ∃ N, F ^ g = N := ⟨_, rfl⟩
  rw [hN] at hwv hways ⊢
  have HWV := Lib.hid hwv
  have HOW := Lib.hid (orders_any B n hn w1 (by omega))
  obtain ⟨W, hWg⟩ : ∃ W, 2 * g = W := ⟨_, rfl⟩
  have hW10 : W ≤ 10 := by omega
  have qW : (2 : Int) * (g : Int) = (W : Int) := by omega
  have HWG := Lib.hid hWg
  rw [hWg] at hx
  have HX := Lib.hid hx
  unfold ListPost at HOW
  unfold PutTP
  clear hr hb0 hw1 hx hlen hnr hF hol hwv hN hWg hg1 hB
  go_enter Tryd.func22, Tryd.ntmps22
  go_upto_region 1 with fail
  rw [HW1.out]
  go_wp2_with fail
  refine HOW.out.mono ?_
  rintro e w2 ⟨v2, rfl, hb2, hR2⟩
  obtain ⟨p2, c2, hv2, -⟩ := hR2.lists
  rw [HOL.out] at hv2
  subst hv2
  have HR2 := Lib.hid hR2.lists
  have HB2 := Lib.hid hb2
  have hbx := (hb2.block w.heap.size (by omega)).trans HG1.out
  have HBX2 := Lib.hid hbx
  obtain ⟨d0, d1⟩ := box_at hbx
  have HWY := Lib.hid (ways_any B g n (.slice pr nr cr) w2 hn (by omega) ⟨_, _, _, rfl⟩)
  unfold Gives at HWY
  rw [HWV.out] at HWY
  have hs2 := hb2.size
  clear hb2 hR2 hbx HOW
  go_wp2_with fail
  refine HWY.out.mono ?_
  rintro e w3 ⟨rfl, hb3⟩
  have HBX3 := Lib.hid ((hb3.block w.heap.size (by omega)).trans HBX2.out)
  have HR3 := Lib.hid (HR2.out.below hb3 (Nat.le_refl _))
  have HRL3 := Lib.hid ((HR.out.below HB2.out (Nat.le_refl _)).below hb3 (Nat.le_refl _))
  have HB3 := Lib.hid (HB0.out.trans ((HB2.out.trans (hb3.mono hs2)).mono (by omega)))
  have hs3 := hb3.size
  clear hb3 d0 d1 HWY HBX2 HR2
  go_wp2_with fail
  go_loopw [7, 8, 9, 10, 11, 12, 13, 14, 15, 16, 17] (fun s i _ _ _ _ _ _ _ _ _ wr => ∃ k : Nat, k ≤ N ∧ i = .int .i64 (k : Int) ∧ Below w3.heap.size w3 wr ∧ ∃ p c, s = .slice p (tabsM n g rels k).length c ∧ OutR B wr s (tabsM n g rels k) ∧ (tabsM n g rels k = [] → s = .slice none 0 0)) (fun _ i _ _ _ _ _ _ _ _ _ _ => N - (intOf i).toNat)
  case atStart => exact ⟨0, Nat.zero_le _, rfl, Below.refl _ _, _, _, rfl, OutR.nil _ _, fun _ => rfl⟩
  case round =>
    obtain ⟨k, hk, rfl, hb, ps, cs, rfl, hO, hOn⟩ := hrel
    obtain ⟨wo, rfl⟩ : ∃ wo : World, wo = wr := ⟨_, rfl⟩
    have HBO := Lib.hid hb
    have HOO := Lib.hid hO
    have HON := Lib.hid hOn
    have hso := hb.size
    have HBXO := Lib.hid ((hb.block w.heap.size (by omega)).trans HBX3.out)
    by_cases hkN : k < N
    · obtain ⟨O, hOe⟩ : ∃ O, wo.heap.size = O := ⟨_, rfl⟩
      have HOE := Lib.hid hOe
      have hwO : w.heap.size < O := by omega
      have hsO : w3.heap.size ≤ O := by omega
      have HRLO := Lib.hid (HRL3.out.below hb (Nat.le_refl _))
      have HRO := Lib.hid (HR3.out.below hb (Nat.le_refl _))
      have c0 := (box_at HBXO.out).1
      clear hb hO hOn hOe
      go_wp2_with fail
      go_loopw [9, 10, 11, 12] (fun s i _ _ wr => ∃ j : Nat, j ≤ n ∧ i = .int .i64 (j : Int) ∧ Below O wo wr ∧ ∃ hs, HasH O wr s (zeroI j W) hs) (fun _ i _ _ _ => n - (intOf i).toNat)
      case atStart => exact ⟨0, Nat.zero_le _, rfl, Below.refl _ _, [], World.ownsRow_nil _ _ _ _, rfl, fun i h => absurd h (by simp [zeroI]), fun i _ h => absurd h (by simp [zeroI])⟩
      case round =>
        obtain ⟨j, hj, rfl, hb, hs, hH⟩ := hrel
        obtain ⟨wi, rfl⟩ : ∃ wi : World, wi = wr := ⟨_, rfl⟩
        have HBI := Lib.hid hb
        have hsi := hb.size
        rw [HOE.out] at hsi
        obtain ⟨pt, ct, hve⟩ := hH.sliceOf
        rw [zeroI_len] at hve
        rename_i sT _ _ _
        subst hve
        have HHI := Lib.hid hH
        have HBXI := Lib.hid ((hb.block w.heap.size (by omega)).trans HBXO.out)
        by_cases hjn : j < n
        · clear hb hH
          go_wp2_with fail
          go_loopw [11, 12] (fun s i wr => ∃ x : Nat, x ≤ W ∧ i = .int .i64 (x : Int) ∧ Below wi.heap.size wi wr ∧ IntO wi.heap.size wr s (List.replicate x 0)) (fun _ i _ => W - (intOf i).toNat)
          case atStart => exact ⟨0, Nat.zero_le _, rfl, Below.refl _ _, IntO.nil _ _⟩
          case round =>
            obtain ⟨x, hxW, rfl, hb, hI⟩ := hrel
            have hsr := hb.size
            obtain ⟨pi, ci, hve⟩ := hI.sliceOf
            rw [List.length_replicate] at hve
            rename_i sI _
            subst hve
            have HBR := Lib.hid hb
            have HI := Lib.hid hI
            have c0 := (box_at ((hb.block w.heap.size (by omega)).trans HBXI.out)).1
            by_cases hxl : x < W
            · have hIr : wr.ownsRow wi.heap.size 3 1 (.slice pi x ci) x (intVs (List.replicate x 0)) := by have := hI; unfold IntO at this; rwa [List.length_replicate] at this
              have HIR := Lib.hid hIr
              clear hb hI hIr
              go_wp2_with (at_builtin; refine wpList_append_lies _ rfl (.tmp 40) (.tmp 41) 27 rfl wi.heap.size 3 i3 (.int .i64 0) 1 8 Tryd.underlying27 hi3 hy0 hy1 hy2 rfl (by decide) _ x (intVs (List.replicate x 0)) rfl (HIR.out.alloc _) ⟨wr.heap.size, 0, none⟩ 1 1 [.int .i64 0] rfl rfl (World.news_of_block (cs := #[.int .i64 0]) (t := 3) (fr := (0, 0)) (heap_alloc_new wr _)) (by simp [Value.oneCell']) (by decide) (by unfold maxLen; omega) (by omega) (by simp; omega) (wr.heap.size + 1) (by simp) ?_; intro g2 c2 w9 hown2 hgr2 hat2 hlt2; have HO2 := Lib.hid hown2; have HG2 := Lib.hid hgr2; clear hown2 hgr2 hat2 hlt2)
              go_roundw
              case rel => exact ⟨x + 1, hxl, by go_num, (HBR.out.alloc hsr _).grown HG2.out (by simp; omega) (fun i hi => (HIR.out.lt i hi).1), HI.out.zero HO2.out⟩
              case measure => simp [intOf]; omega
            · obtain rfl : x = W := by omega
              have h1 := HHI.out.below hb (Nat.le_refl _)
              have h2 := h1.1
              rw [zeroI_len] at h2
              have H1 := Lib.hid h1
              have H2 := Lib.hid h2
              have hb3 : Below wr.heap.size wr (wr.alloc (.cells #[.slice pi x ci] 27)) := (Below.refl _ _).alloc (Nat.le_refl _) _
              have HB3' := Lib.hid hb3
              clear hb hI h1 h2 hb3
              go_wp2_with (at_builtin; refine wpList_append_lies _ rfl (.tmp 43) (.tmp 45) 22 rfl O 27 i39 (.slice none 0 0) 1 24 Tryd.underlying22 hi39 hz0 hz1 hz2 rfl (by decide) _ j hs rfl (H2.out.alloc _) ⟨wr.heap.size, 0, none⟩ 1 1 [.slice pi x ci] rfl rfl (World.news_of_block (cs := #[.slice pi x ci]) (t := 27) (fr := (0, 0)) (heap_alloc_new wr _)) (by simp [Value.oneCell']) (by decide) (by unfold maxLen; omega) (by omega) (by simp; omega) (wr.heap.size + 1) (by simp) ?_; intro g2 c2 w9 hown2 hgr2 hat2 hlt2; have HO2 := Lib.hid hown2; have HG2 := Lib.hid hgr2; clear hown2 hgr2 hat2 hlt2)
              go_roundw
              case rel =>
                refine ⟨j + 1, hjn, by go_num, ((HBI.out.trans (HBR.out.mono hsi)).trans (HB3'.out.mono (by omega))).grown HG2.out (by simp; omega) (fun i hi => (H2.out.lt i hi).1), hs ++ [.slice pi x ci], ?_⟩
                rw [zeroI_succ]
                refine (H1.out.below HB3'.out (Nat.le_refl _)).push (by rw [zeroI_len]; exact HO2.out) HG2.out (Joins.ownsRow_le (HI.out.below HB3'.out (Nat.le_refl _)) hsi) fun i hi q hq e => ?_
                have q1 := ((HHI.out.2.2.1 i hi).lt q hq).2
                have q2 := (HI.out.lt q e).1
                omega
              case measure => simp [intOf]; omega
        · obtain rfl : j = n := by omega
          obtain ⟨gT, cT, hvT, hgT⟩ := hH.form (by rw [zeroI_len]; omega)
          rw [zeroI_len] at hvT
          obtain ⟨rfl, rfl⟩ : pt = some ⟨gT, 0, none⟩ ∧ ct = cT := by cases hvT; exact ⟨rfl, rfl⟩
          have HH0 : Hid (HasH O wi (.slice (some ⟨gT, 0, none⟩) j ct) (tabV j W k 0) hs) := hH
          have HWD := Lib.hid (fun X (hX : X ≤ g) => TC.tabD_wide (n := j) (g := g) (k := k) (by omega) (TC.permL_of (n := j)) (TC.ordL_pos (by omega)) X hX)
          rw [HWG.out] at HWD
          have HPOW := Lib.hid (fun x : Nat => (by rw [Nat.pow_succ, ← Nat.div_div_eq_div_mul] : k / F ^ (x + 1) = k / F ^ x / F))
          have HP0 : Hid (k / F ^ 0 = k) := by unfold Hid; rw [Nat.pow_zero, Nat.div_one]
          have HDL := Lib.hid (fun x : Nat => Nat.div_le_self k (F ^ x))
          clear hvT hb hH
          go_wp2_with fail
          go_loopw [13, 14, 15, 16] (fun r i _ _ wr => ∃ x : Nat, x ≤ g ∧ i = .int .i64 (x : Int) ∧ r = .int .i64 ((k / F ^ x : Nat) : Int) ∧ Below O wo wr ∧ HasH O wr (.slice (some ⟨gT, 0, none⟩) j ct) (tabV j W k x) hs) (fun _ i _ _ _ => g - (intOf i).toNat)
          case atStart => exact ⟨0, Nat.zero_le _, rfl, by rw [HP0.out], HBI.out, HH0.out⟩
          case round =>
            obtain ⟨x, hxg, rfl, rfl, hb, hH⟩ := hrel
            have HBC := Lib.hid hb
            have HHC := Lib.hid hH
            have hbxr := (hb.block w.heap.size hwO).trans HBXO.out
            have HBXR := Lib.hid hbxr
            obtain ⟨e0, e1⟩ := box_at hbxr
            have hszr := hb.size
            rw [HOE.out] at hszr
            by_cases hxl : x < g
            · have hdl := HDL.out x
              have hpw := HPOW.out x
              obtain ⟨R, hR⟩ : ∃ R, k / F ^ x = R := ⟨_, rfl⟩
              rw [hR] at hdl hpw ⊢
              have HRE := Lib.hid hR
              have hyF : R % F < F := Nat.mod_lt _ hf1
              have hq1 : (R : Int).tmod (F : Int) = ((R % F : Nat) : Int) := by rw [Int.tmod_eq_emod_of_nonneg (by omega)]; rfl
              have hq2 : (R : Int).tdiv (F : Int) = ((R / F : Nat) : Int) := by rw [Int.tdiv_eq_ediv_of_nonneg (by omega)]; rfl
              obtain ⟨y, hy⟩ : ∃ y, R % F = y := ⟨_, rfl⟩
              obtain ⟨R', hR'⟩ : ∃ R', R / F = R' := ⟨_, rfl⟩
              rw [hy] at hyF hq1
              rw [hR'] at hpw hq2
              have hRle : R' ≤ R := by rw [← hR']; exact Nat.div_le_self _ _
              have hyL : y < (TC.ordL j).length := by rw [HOL.out]; exact hyF
              have hm : (TC.ordL j).getD y [] ∈ TC.ordL j := getL_mem hyL
              have hPL := TC.permL_of _ hm
              obtain ⟨b, off, cO, hve⟩ := HRO.out.form (by omega)
              rw [HOL.out] at hve
              obtain ⟨rfl, rfl⟩ : p2 = some ⟨b, off, none⟩ ∧ c2 = cO := by cases hve; exact ⟨rfl, rfl⟩
              obtain ⟨pj, cj, hcj0, hij⟩ := cells_at HRO.out y hyL
              have hcj := (hb.cell (p := ⟨b, off + y, none⟩) (by rw [← HOE.out]; exact mem_lt hcj0)).trans hcj0
              obtain ⟨P, hP⟩ : ∃ P, (TC.ordL j).getD y [] = P := ⟨_, rfl⟩
              rw [hP] at hcj hcj0 hij hPL
              have hPn := hPL.len
              rw [hPn] at hcj hcj0 hij
              have HTS : Hid (tabV j W k (x + 1) = TC.colD P x j (tabV j W k x)) := by
                unfold Hid tabV
                rw [← hP, ← hy, ← hR, ← HOL.out]
                rfl
              have HWX := Lib.hid (fun c (hc : c ≤ j) => TC.colD_ok hPL (show 2 * x + 1 < W by have := HWG.out; omega) (HWD.out x hxg).1 (HWD.out x hxg).2 c hc)
              have HPL := Lib.hid hPL
              have HIJ := Lib.hid hij
              have HPW := Lib.hid hpw
              have hW1 : 2 * x + 1 < W := by have := HWG.out; omega
              have HPN := Lib.hid hPn
              clear hb hH hbxr hve hP hPL hij hcj0 hm hyL hR hy hR' hpw hPn
              go_wp2_with fail
              go_loopw [16] (fun i wr => ∃ c : Nat, c ≤ j ∧ i = .int .i64 (c : Int) ∧ Below O wo wr ∧ HasH O wr (.slice (some ⟨gT, 0, none⟩) j ct) (TC.colD P x c (tabV j W k x)) hs) (fun i _ => j - (intOf i).toNat)
              case atStart => exact ⟨0, Nat.zero_le _, rfl, HBC.out, HHC.out⟩
              case round =>
                obtain ⟨c, hcj', rfl, hb, hH⟩ := hrel
                have HBD := Lib.hid hb
                have HHD := Lib.hid hH
                by_cases hcl : c < j
                · obtain ⟨u, hu, hun⟩ := HPL.out.at hcl
                  obtain ⟨kw0, kl0, -⟩ := HWX.out c hcj'
                  have kw : TC.Wide W (TC.colD P x c (tabV j W k x)) := kw0
                  have kl : (TC.colD P x c (tabV j W k x)).length = j := kl0
                  clear kw0 kl0
                  obtain ⟨pp, cc, he, -, -, hxx⟩ := HIJ.out.below hb (by rw [HOE.out]; exact Nat.le_refl _)
                  obtain ⟨b2, off2, ep1, ep2, -⟩ := hxx c (by rw [HPN.out]; exact hcl)
                  obtain ⟨rfl, rfl⟩ : pj = pp ∧ cj = cc := by rw [HPN.out] at he; cases he; exact ⟨rfl, rfl⟩
                  subst ep1
                  rw [hu] at ep2
                  have HST : Hid (TC.colD P x (c + 1) (tabV j W k x) = TC.setE (TC.setE (TC.colD P x c (tabV j W k x)) c (2 * x) (u : Int)) u (2 * x + 1) (c : Int)) := by
                    unfold Hid
                    rw [show TC.colD P x (c + 1) (tabV j W k x) = TC.setE (TC.setE (TC.colD P x c (tabV j W k x)) c (2 * x) (P.getD c 0)) (P.getD c 0).toNat (2 * x + 1) (c : Int) from rfl, hu, Int.toNat_natCast]
                  obtain ⟨T, hT⟩ : ∃ T, TC.colD P x c (tabV j W k x) = T := ⟨_, rfl⟩
                  rw [hT] at HST hH kw kl
                  obtain ⟨X2, hX2⟩ : ∃ X2, 2 * x = X2 := ⟨_, rfl⟩
                  obtain ⟨X3, hX3⟩ : ∃ X3, X2 + 1 = X3 := ⟨_, rfl⟩
                  rw [hX2, hX3] at HST
                  have hXW : X3 < W := by omega
                  have qX2 : (2 : Int) * (x : Int) = (X2 : Int) := by omega
                  have qX3 : (X2 : Int) + 1 = (X3 : Int) := by omega
                  have hW0 : 0 < W := by omega
                  have hX2W : X2 < W := by omega
                  obtain ⟨gi, ci, hei, hOi, hci, hvi, hfi⟩ := hH.head kw hW0 (i := c) (by rw [kl]; exact hcl)
                  obtain ⟨z1, hz1⟩ := hvi X2 hX2W
                  have hf1' := hfi X2 hX2W
                  have hAp := (hH.put (k := X2) (i := c) (by rw [kl]; exact hcl) hei (u : Int)).1
                  have hA : HasH O (wr.setCell ⟨gi, X2, none⟩ (.int .i64 (u : Int))) (.slice (some ⟨gT, 0, none⟩) j ct) (TC.setE T c X2 (u : Int)) hs := hAp
                  have kwA : TC.Wide W (TC.setE T c X2 (u : Int)) := TC.setE_wide kw (by rw [kl]; exact hcl) hX2W (by rw [kl]; exact hun)
                  have klA : (TC.setE T c X2 (u : Int)).length = j := by rw [TC.setE_len]; exact kl
                  have hbA : Below O wo (wr.setCell ⟨gi, X2, none⟩ (.int .i64 (u : Int))) := hb.setCell hOi _
                  obtain ⟨gu, cu, heu, hOu, hcu, hvu, hfu⟩ := hA.head kwA hW0 (i := u) (by rw [klA]; exact hun)
                  obtain ⟨z2, hz2⟩ := hvu X3 hXW
                  have hf2 := hfu X3 hXW
                  have hB := (hA.put (k := X3) (i := u) (by rw [klA]; exact hun) heu (c : Int)).1
                  have hbB : Below O wo ((wr.setCell ⟨gi, X2, none⟩ (.int .i64 (u : Int))).setCell ⟨gu, X3, none⟩ (.int .i64 (c : Int))) := hbA.setCell hOu _
                  have hpA : (wr.setCell ⟨gi, X2, none⟩ (.int .i64 (u : Int))).cell? ⟨b2, off2 + c, none⟩ = some (.int .i64 (u : Int)) := by
                    have h0 := HIJ.out
                    obtain ⟨pp, cc, he, -, -, hxx⟩ := h0
                    obtain ⟨b3, off3, ep1, ep3, -⟩ := hxx c (by rw [HPN.out]; exact hcl)
                    obtain rfl : pp = some ⟨b2, off2, none⟩ := by rw [HPN.out] at he; cases he; rfl
                    cases ep1
                    rw [hu] at ep3
                    exact (hbA.cell (p := ⟨b2, off2 + c, none⟩) (by rw [← HOE.out]; exact mem_lt ep3)).trans ep3
                  have HBB := Lib.hid hB
                  have HbB := Lib.hid hbB
                  clear hb hH hxx he hu hei hvi hfi hAp hA kw kl hbA heu hvu hfu hB hbB kwA klA hT
                  go_upto_region 26 with fail
                  go_region
                  all_goals
                    go_wp2_with fail
                    go_roundw
                    case rel =>
                      refine ⟨c + 1, hcl, by go_num, ?_, ?_⟩
                      · first | exact HbB.out | exact HbB.out.drew
                      · rw [HST.out]
                        first | exact HBB.out | exact HasH.below (w := _) HBB.out ((Below.refl _ _).drew) (Nat.le_refl _)
                    case measure => simp [intOf]; omega
                · obtain rfl : c = j := by omega
                  have h := hH
                  rw [← HTS.out] at h
                  have HHN := Lib.hid h
                  clear hb hH h
                  go_wp2_with fail
                  go_roundw
                  case rel => exact ⟨x + 1, hxl, by go_num, by rw [HPW.out], HBD.out, HHN.out⟩
                  case measure => simp [intOf]; omega
            · obtain rfl : x = g := by omega
              obtain ⟨vw, vl, vok⟩ := tabV_ok (n := j) (g := x) (k := k) hn1 hn
              rw [HWG.out] at vw vl vok
              have HYE := Lib.hid (fun h : TC.goodD j (colsL rels) (tabV j (2 * x) k x) = true => tabsM_yes h)
              have HNO := Lib.hid (fun h : TC.goodD j (colsL rels) (tabV j (2 * x) k x) = false => tabsM_no h)
              rw [HWG.out] at HYE HNO
              obtain ⟨T, hT⟩ : ∃ T, tabV j W k x = T := ⟨_, rfl⟩
              rw [hT] at vw vl vok hH HYE HNO
              have hfl := wide_flat vw vl
              have hfl2 : j * W ≤ 4 * 10 := Nat.mul_le_mul hn hW10
              have hTL : ListsIn B wr (.slice (some ⟨gT, 0, none⟩) j ct) T := (HasO.rows ⟨hs, hH⟩).lists
              have HTL := Lib.hid hTL
              have HSD := Lib.hid (standard_gen B T (.slice (some ⟨gT, 0, none⟩) j ct) wr hTL (by omega) (fun i hi => by rw [vw.len i hi]; omega) (fun i hi q hq => by
                rw [vw.len i hi] at hq
                obtain ⟨u, hu, hul⟩ := (vok i hi).2 q hq
                rw [hu]; omega))
              unfold GivesK at HSD
              have HRLR := Lib.hid (HRLO.out.below hb (by rw [HOE.out]; exact Nat.le_refl _))
              have HHG := Lib.hid (holds_gen B W (x : Int) rels T (.slice pr nr cr) (.slice (some ⟨gT, 0, none⟩) j ct) wr HRLR.out hTL vok HX.out HLE.out (by rw [HNR.out]; omega) (by omega))
              unfold Gives at HHG
              rw [vl] at HHG
              have HOR := Lib.hid (HOO.out.below hb (by rw [HOE.out]; exact Nat.le_refl _))
              have htl := tabsM_len j x rels k
              have HSM := Lib.hid (tabsM_small (n := j) (g := x) (k := k) (rels := rels) hn1 hn hg)
              have HTT : Hid (T.length ≤ 1000 ∧ T.flatten.length ≤ 1000) := by unfold Hid; omega
              clear hb hH hbxr hT vw vok hTL hfl hfl2
              cases hst : TC.stdB T with
              | false =>
                have HE := HNO.out (by unfold TC.goodD; rw [hst]; rfl)
                rw [← HE] at HOR
                have HON' := HON
                rw [hst] at HSD
                rw [← HE] at HON'
                rw [← HE]
                have HOR' := HOR
                clear hst HE HOR
                go_wp2_with fail
                refine HSD.out.mono ?_
                rintro e w5 ⟨rfl, rfl⟩
                go_wp2_with fail
                go_roundw
                case rel => exact ⟨k + 1, hkN, by go_num, HBO.out.trans (HBC.out.mono (by omega)), _, _, rfl, HOR'.out, HON'.out⟩
                case measure => simp [intOf]; omega
              | true =>
                rw [hst] at HSD
                go_wp2_with fail
                refine HSD.out.mono ?_
                rintro e w5 ⟨rfl, rfl⟩
                cases hho : TC.holdT j (colsL rels) T with
                | false =>
                  have HE := HNO.out (by unfold TC.goodD; rw [hst, hho]; rfl)
                  rw [hho] at HHG
                  have HON' := HON
                  rw [← HE] at HOR HON' ⊢
                  clear hst hho HE
                  go_wp2_with fail
                  refine HHG.out.mono ?_
                  rintro e w6 ⟨rfl, hb6⟩
                  have HB6 := Lib.hid ((HBO.out.trans (HBC.out.mono (by omega))).trans (hb6.mono (by omega)))
                  have HOR' := Lib.hid (HOR.out.below hb6 (Nat.le_refl _))
                  clear hb6
                  go_wp2_with fail
                  go_roundw
                  case rel => exact ⟨k + 1, hkN, by go_num, HB6.out, _, _, rfl, HOR'.out, HON'.out⟩
                  case measure => simp [intOf]; omega
                | true =>
                  have HE := Lib.hid (HYE.out (by unfold TC.goodD; rw [hst, hho]; rfl))
                  rw [hho] at HHG
                  clear hst hho
                  go_wp2_with fail
                  refine HHG.out.mono ?_
                  rintro e w6 ⟨rfl, hb6⟩
                  have HB6 := Lib.hid ((HBO.out.trans (HBC.out.mono (by omega))).trans (hb6.mono (by omega)))
                  have HPT := Lib.hid (putTable_any B (tabsM j x rels k) T (.slice ps (tabsM j x rels k).length cs) (.slice (some ⟨gT, 0, none⟩) j ct) w6 (HOR.out.below hb6 (Nat.le_refl _)) HON.out (HTL.out.below hb6 (Nat.le_refl _)) (by omega) HSM.out HTT.out)
                  unfold PutTP at HPT
                  have hs6 := HB6.out.size
                  clear hb6
                  go_wp2_with fail
                  refine HPT.out.mono ?_
                  rintro e w7 ⟨p7, c7, rfl, hb7, hO7⟩
                  have HB7 := Lib.hid (HB6.out.trans (hb7.mono hs6))
                  have HO7 := Lib.hid hO7
                  have HNE : Hid (TC.putT (tabsM j x rels k) T ≠ []) := by unfold Hid; rw [putT_form]; simp
                  rw [← HE.out] at HO7 HNE ⊢
                  clear hb7 hO7
                  go_wp2_with fail
                  go_roundw
                  case rel => exact ⟨k + 1, hkN, by go_num, HB7.out, _, _, rfl, HO7.out, fun h => absurd h HNE.out⟩
                  case measure => simp [intOf]; omega
    · obtain rfl : k = N := by omega
      have HBF := Lib.hid (HB3.out.trans (hb.mono (by omega)))
      clear hb hO hOn
      go_wp2_with fail
      go_ret
      exact ⟨_, _, rfl, HBF.out, HOO.out⟩
end Go.Proofs.YtedehmknijlgpaaDoor
