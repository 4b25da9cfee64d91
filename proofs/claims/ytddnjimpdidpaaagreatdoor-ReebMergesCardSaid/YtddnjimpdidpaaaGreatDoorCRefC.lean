/-
  The references' Contains, PartOf, Ahead, SameLists by contracts.
  The references' Sorted by a contract: the numbers, rising, each once; whether each was there once.
  The references' Put by a contract: a face put into a sorted list of faces. Condition: the list reads as a sorted one.
-/
import Derived.Test.YtddnjimpdidpaaaGreatDoorRd
import Derived.Test.YtddnjimpdidpaaaGreatDoorCoded
import Derived.Test.YtddnjimpdidpaaaGreatDoorCelA
import Derived.Laws.AppendOwnNone
import Derived.OwnWalk

namespace Go.Proofs.YtddnjimpdidpaaaGreatDoor
open Go Go.RowKit

/-- what a call does that gives v and lays, perhaps, new blocks -/
def Gives (v : Value) (w : World) (e : Ending) (w' : World) : Prop := e = .returned v ∧ Below w.heap.size w w'
theorem Below.drewN (w : World) (n : Nat) : Below w.heap.size w (w.drewN n) := ⟨rfl, rfl, rfl, Nat.le_refl _, fun _ _ => rfl⟩
/-- a call that gives v and leaves the world as it is (but for draws) -/
def Same (v : Value) (w : World) (e : Ending) (w' : World) : Prop := e = .returned v ∧ w' = w
def Drew (v : Value) (w : World) (e : Ending) (w' : World) : Prop := e = .returned v ∧ ∃ n, w' = w.drewN n
theorem ret_bool {a b : Bool} (h : a = b) : Ending.returned (.bool a) = .returned (.bool b) := by rw [h]
theorem ret_num {k : IntKind} {a b : Int} (h : a = b) : Ending.returned (.int k a) = .returned (.int k b) := by rw [h]
theorem Below.refl' (w : World) : Below w.heap.size w w := Below.refl _ _

set_option maxHeartbeats 2000000 in
theorem contains_of (r : Bool) (xs : List Int) (v : Value) (x : Int) (w : World) (hr : r = xs.contains x) (hv : IntsAt w v xs) (hx : xs.length ≤ 1000000) :
    Calls Tryz.prog 45 #[v, .int .i64 x] w (Same (.bool r) w) := by
  have HR := Lib.hid hr
  clear hr
  have hv' := hv
  obtain ⟨p, c, rfl, -, -, hcells⟩ := hv
  have HC := Lib.hid hcells
  clear hcells hv'
  obtain ⟨n, hn⟩ : ∃ n, xs.length = n := ⟨_, rfl⟩
  rw [hn] at hx ⊢
  have HN := Lib.hid hn
  have HB : Hid (∀ k, k = n → (xs.take k).contains x = false → xs.contains x = false) := fun k hk h => by rwa [List.take_of_length_le (by rw [hn]; omega)] at h
  clear hn
  go_enter Tryz.func45, Tryz.ntmps45
  go_wp2_with fail
  go_loop [5] (fun i => ∃ k : Nat, k ≤ n ∧ i = .int .i64 k ∧ (xs.take k).contains x = false) (fun i => n - (intOf i).toNat)
  case atStart => exact ⟨0, Nat.zero_le _, rfl, rfl⟩
  case round =>
    obtain ⟨k, hk, rfl, hno⟩ := hrel
    have HNO := Lib.hid hno
    clear hno
    by_cases hlt : k < n
    · obtain ⟨b, off, rfl, hcell⟩ := HC.out k (by rw [HN.out]; exact hlt)
      have ht := take_snoc_getD 0 xs k (by rw [HN.out]; exact hlt)
      by_cases he : xs.getD k 0 = x
      · have hq : (xs.getD k 0 == x) = true := beq_iff_eq.2 he
        have hr : xs.contains x = true := by
          rw [List.contains_iff_mem, ← he, List.getD_eq_getElem?_getD, List.getElem?_eq_getElem (by rw [HN.out]; exact hlt)]
          exact List.getElem_mem _
        have HR1 := Lib.hid (HR.out.trans hr)
        generalize xs.getD k 0 = z at hcell hq
        clear ht he hr
        go_wp2_with fail
        go_ret
        exact ⟨ret_bool HR1.out.symm, rfl⟩
      · have hq : (xs.getD k 0 == x) = false := beq_eq_false_iff_ne.2 he
        have HNX : Hid ((xs.take (k + 1)).contains x = false) := by
          unfold Hid
          rw [ht, Bool.eq_false_iff]
          intro h
          rw [List.contains_iff_mem] at h
          rcases List.mem_append.1 h with h | h
          · have h2 := HNO.out
            rw [Bool.eq_false_iff] at h2
            exact h2 (List.contains_iff_mem.2 h)
          · exact he (List.mem_singleton.1 h).symm
        generalize xs.getD k 0 = z at hcell hq
        clear ht he
        go_wp2_with fail
        go_round
        case rel => exact ⟨k + 1, by omega, by go_num, HNX.out⟩
        case measure => simp [intOf]; omega
    · obtain rfl : k = n := by omega
      have hr := HB.out k rfl HNO.out
      have HR1 := Lib.hid (HR.out.trans hr)
      clear hr
      go_wp2_with fail
      go_ret
      exact ⟨ret_bool HR1.out.symm, rfl⟩

theorem contains_any (xs : List Int) (v : Value) (x : Int) (w : World) (hv : IntsAt w v xs) (hx : xs.length ≤ 1000000) :
    Calls Tryz.prog 45 #[v, .int .i64 x] w (Same (.bool (xs.contains x)) w) := contains_of _ xs v x w rfl hv hx

/-- is each of one's numbers the other's? -/
def partB (f g : List Int) : Bool := f.all fun x => g.contains x
theorem partB_snoc (f : List Int) (x : Int) (g : List Int) : partB (f ++ [x]) g = (partB f g && g.contains x) := by unfold partB; rw [List.all_append]; simp

set_option maxHeartbeats 2000000 in
theorem partOf_of (r : Bool) (xs ys : List Int) (u v : Value) (w : World) (hr : r = partB xs ys) (hu : IntsAt w u xs) (hv : IntsAt w v ys) (hx : xs.length ≤ 1000000) (hy : ys.length ≤ 1000000) :
    Calls Tryz.prog 134 #[u, v] w (Same (.bool r) w) := by
  have HR := Lib.hid hr
  clear hr
  have HCT := Lib.hid (fun x => contains_any ys v x w hv hy)
  clear hv hy
  obtain ⟨p, c, rfl, -, -, hcells⟩ := hu
  have HC := Lib.hid hcells
  clear hcells
  obtain ⟨n, hn⟩ : ∃ n, xs.length = n := ⟨_, rfl⟩
  rw [hn] at hx ⊢
  have HN := Lib.hid hn
  have HB : Hid (∀ k, k = n → partB (xs.take k) ys = true → partB xs ys = true) := fun k hk h => by rwa [List.take_of_length_le (by rw [hn]; omega)] at h
  clear hn
  go_enter Tryz.func134, Tryz.ntmps134
  go_wp2_with fail
  go_loop [5] (fun i => ∃ k : Nat, k ≤ n ∧ i = .int .i64 k ∧ partB (xs.take k) ys = true) (fun i => n - (intOf i).toNat)
  case atStart => exact ⟨0, Nat.zero_le _, rfl, rfl⟩
  case round =>
    obtain ⟨k, hk, rfl, hno⟩ := hrel
    have HNO := Lib.hid hno
    clear hno
    by_cases hlt : k < n
    · obtain ⟨b, off, rfl, hcell⟩ := HC.out k (by rw [HN.out]; exact hlt)
      have ht := take_snoc_getD 0 xs k (by rw [HN.out]; exact hlt)
      cases he : ys.contains (xs.getD k 0) with
      | false =>
        have HR1 : Hid (r = false) := by
          unfold Hid
          rw [HR.out, Bool.eq_false_iff]
          intro h
          have h2 := List.all_eq_true.1 h (xs.getD k 0) (by rw [List.getD_eq_getElem?_getD, List.getElem?_eq_getElem (by rw [HN.out]; exact hlt)]; exact List.getElem_mem _)
          rw [he] at h2; cases h2
        have HK := Lib.hid (HCT.out (xs.getD k 0))
        rw [he] at HK
        generalize xs.getD k 0 = z at hcell HK
        clear ht he
        go_wp2_with fail
        refine HK.out.mono ?_
        rintro e w' ⟨rfl, rfl⟩
        go_wp2_with fail
        go_ret
        exact ⟨ret_bool HR1.out.symm, rfl⟩
      | true =>
        have HNX : Hid (partB (xs.take (k + 1)) ys = true) := by
          unfold Hid
          rw [ht, partB_snoc, HNO.out, he]; rfl
        have HK := Lib.hid (HCT.out (xs.getD k 0))
        rw [he] at HK
        generalize xs.getD k 0 = z at hcell HK
        clear ht he
        go_wp2_with fail
        refine HK.out.mono ?_
        rintro e w' ⟨rfl, rfl⟩
        go_wp2_with fail
        go_round
        case rel => exact ⟨k + 1, by omega, by go_num, HNX.out⟩
        case measure => simp [intOf]; omega
    · obtain rfl : k = n := by omega
      have hr := HB.out k rfl HNO.out
      have HR1 := Lib.hid (HR.out.trans hr)
      clear hr
      go_wp2_with fail
      go_ret
      exact ⟨ret_bool HR1.out.symm, rfl⟩

theorem partOf_any (xs ys : List Int) (u v : Value) (w : World) (hu : IntsAt w u xs) (hv : IntsAt w v ys) (hx : xs.length ≤ 1000000) (hy : ys.length ≤ 1000000) :
    Calls Tryz.prog 134 #[u, v] w (Same (.bool (partB xs ys)) w) := partOf_of _ xs ys u v w rfl hu hv hx hy

theorem ah_app (p a b : List Int) : ah (p ++ a) (p ++ b) = ah a b := by
  induction p with
  | nil => rfl
  | cons x p ih => exact (if_pos rfl : ah (x :: (p ++ a)) (x :: (p ++ b)) = ah (p ++ a) (p ++ b)).trans ih
theorem ah_drop {xs ys : List Int} {k : Nat} (h : xs.take k = ys.take k) : ah xs ys = ah (xs.drop k) (ys.drop k) := by
  conv => lhs; rw [← List.take_append_drop k xs, ← List.take_append_drop k ys, h]
  exact ah_app _ _ _
theorem dropD {α : Type} (d : α) (xs : List α) (k : Nat) (h : k < xs.length) : xs.drop k = xs.getD k d :: xs.drop (k + 1) := by
  rw [List.drop_eq_getElem_cons h, List.getD_eq_getElem?_getD, List.getElem?_eq_getElem h]; rfl
theorem ah_at {xs ys : List Int} {k : Nat} (h : xs.take k = ys.take k) (hx : k < xs.length) (hy : k < ys.length) (hne : xs.getD k 0 ≠ ys.getD k 0) : ah xs ys = decide (xs.getD k 0 < ys.getD k 0) := by
  rw [ah_drop h, dropD 0 xs k hx, dropD 0 ys k hy]
  unfold ah
  rw [if_neg hne]
theorem ah_end {xs ys : List Int} {k : Nat} (h : xs.take k = ys.take k) (he : xs.length ≤ k ∨ ys.length ≤ k) : ah xs ys = decide (xs.length < ys.length) := by
  rw [ah_drop h]
  have hlen := congrArg List.length h
  rw [List.length_take, List.length_take] at hlen
  rcases he with he | he
  · rw [List.drop_of_length_le he]
    by_cases hy : ys.length ≤ k
    · rw [List.drop_of_length_le hy, decide_eq_false (by omega)]; rfl
    · rw [dropD 0 ys k (by omega), decide_eq_true (by omega)]; rfl
  · rw [List.drop_of_length_le he]
    by_cases hx : xs.length ≤ k
    · rw [List.drop_of_length_le hx, decide_eq_false (by omega)]; rfl
    · rw [dropD 0 xs k (by omega), decide_eq_false (by omega)]; rfl

set_option maxHeartbeats 4000000 in
theorem ahead_of (r : Bool) (xs ys : List Int) (u v : Value) (w : World) (hr : r = ah xs ys) (hu : IntsAt w u xs) (hv : IntsAt w v ys) (hx : xs.length ≤ 1000000) (hy : ys.length ≤ 1000000) :
    Calls Tryz.prog 98 #[u, v] w (Drew (.bool r) w) := by
  have HR0 := Lib.hid hr
  clear hr
  obtain ⟨p, c, rfl, -, -, hc1⟩ := hu
  obtain ⟨q, d, rfl, -, -, hc2⟩ := hv
  have H1 := Lib.hid hc1
  have H2 := Lib.hid hc2
  clear hc1 hc2
  obtain ⟨n, hn⟩ : ∃ n, xs.length = n := ⟨_, rfl⟩
  obtain ⟨m, hm⟩ : ∃ m, ys.length = m := ⟨_, rfl⟩
  rw [hn] at hx ⊢
  rw [hm] at hy ⊢
  have HN := Lib.hid hn
  have HM := Lib.hid hm
  clear hn hm
  go_enter Tryz.func98, Tryz.ntmps98
  go_wp2_with fail
  go_loopw [5] (fun i wr => ∃ k z : Nat, k ≤ n ∧ k ≤ m ∧ i = .int .i64 k ∧ xs.take k = ys.take k ∧ wr = w.drewN z) (fun i _ => n - (intOf i).toNat)
  case atStart => exact ⟨0, 0, Nat.zero_le _, Nat.zero_le _, rfl, rfl, rfl⟩
  case round =>
    obtain ⟨k, z, hk, hk2, rfl, htk, rfl⟩ := hrel
    have HT := Lib.hid htk
    clear htk
    by_cases hlt : k < n ∧ k < m
    · obtain ⟨hl1, hl2⟩ := hlt
      have g1 : decide (k < n) = true := decide_eq_true hl1
      have g2 : decide (k < m) = true := decide_eq_true hl2
      obtain ⟨b1, o1, rfl, hcell1⟩ := H1.out k (by rw [HN.out]; exact hl1)
      obtain ⟨b2, o2, rfl, hcell2⟩ := H2.out k (by rw [HM.out]; exact hl2)
      by_cases he : xs.getD k 0 = ys.getD k 0
      · have HNX : Hid (xs.take (k + 1) = ys.take (k + 1)) := by
          unfold Hid
          rw [take_snoc_getD 0 _ _ (by rw [HN.out]; exact hl1), take_snoc_getD 0 _ _ (by rw [HM.out]; exact hl2), HT.out, he]
        rw [he] at hcell1
        generalize ys.getD k 0 = y at hcell1 hcell2
        clear he
        go_wp2_with fail
        go_quiet (fail)
        go_wp2_with fail
        go_roundw
        case rel => exact ⟨k + 1, _, by omega, by omega, by go_num, HNX.out, rfl⟩
        case measure => simp [intOf]; omega
      · have HR := Lib.hid (HR0.out.trans <| ah_at HT.out (by rw [HN.out]; exact hl1) (by rw [HM.out]; exact hl2) he)
        have hbe : (xs.getD k 0 != ys.getD k 0) = true := by rw [bne_iff_ne]; exact he
        generalize xs.getD k 0 = z1 at hcell1 hbe HR
        generalize ys.getD k 0 = z2 at hcell2 hbe HR
        clear he
        go_wp2_with fail
        go_quiet (fail)
        go_wp2_with fail
        go_quiet (fail)
        go_wp2_with fail
        go_ret
        exact ⟨ret_bool HR.out.symm, _, by rw [World.drewN_drewN, World.drewN_drewN]⟩
    · have HR := Lib.hid (HR0.out.trans <| ah_end HT.out (by rw [HN.out, HM.out]; omega))
      rw [HN.out, HM.out] at HR
      by_cases hl1 : k < n
      · have hl2 : ¬ k < m := fun h => hlt ⟨hl1, h⟩
        have g1 : decide (k < n) = true := decide_eq_true hl1
        have g2 : decide (k < m) = false := decide_eq_false hl2
        clear hlt
        go_wp2_with fail
        go_ret
        exact ⟨ret_bool HR.out.symm, _, rfl⟩
      · have g1 : decide (k < n) = false := decide_eq_false hl1
        clear hlt
        go_wp2_with fail
        go_ret
        exact ⟨ret_bool HR.out.symm, _, rfl⟩
theorem ahead_any (xs ys : List Int) (u v : Value) (w : World) (hu : IntsAt w u xs) (hv : IntsAt w v ys) (hx : xs.length ≤ 1000000) (hy : ys.length ≤ 1000000) :
    Calls Tryz.prog 98 #[u, v] w (Drew (.bool (ah xs ys)) w) := ahead_of _ xs ys u v w rfl hu hv hx hy

def insU (l : List Int) (x : Int) : List Int := if x ∈ l then l else (l.filter fun y => decide (y < x)) ++ x :: l.filter fun y => decide (x < y)
theorem mem_insU {l : List Int} {x y : Int} : y ∈ insU l x ↔ y ∈ l ∨ y = x := by
  unfold insU
  by_cases h : x ∈ l
  · rw [if_pos h]
    exact ⟨Or.inl, fun h' => h'.elim id fun e => e ▸ h⟩
  · rw [if_neg h, List.mem_append, List.mem_cons, List.mem_filter, List.mem_filter, decide_eq_true_eq, decide_eq_true_eq]
    constructor
    · rintro (h' | h' | h')
      · exact Or.inl h'.1
      · exact Or.inr h'
      · exact Or.inl h'.1
    · rintro (h' | h')
      · have hne : y ≠ x := fun e => h (e ▸ h')
        rcases Int.lt_or_gt_of_ne hne with k | k
        · exact Or.inl ⟨h', k⟩
        · exact Or.inr (Or.inr ⟨h', k⟩)
      · exact Or.inr (Or.inl h')
theorem rise_insU {l : List Int} (h : Rise l) (x : Int) : Rise (insU l x) := by
  unfold insU
  by_cases hm : x ∈ l
  · rw [if_pos hm]; exact h
  · rw [if_neg hm]
    refine List.pairwise_append.2 ⟨h.sublist List.filter_sublist, List.pairwise_cons.2 ⟨fun g hg => by simpa using (List.mem_filter.1 hg).2, h.sublist List.filter_sublist⟩, fun a ha b hb => ?_⟩
    have k1 : a < x := by simpa using (List.mem_filter.1 ha).2
    rcases List.mem_cons.1 hb with e | hb
    · rw [e]; exact k1
    · have : x < b := by simpa using (List.mem_filter.1 hb).2
      omega
theorem insU_len (l : List Int) (x : Int) : (insU l x).length ≤ l.length + 1 := by
  unfold insU
  split
  · omega
  · rw [List.length_append, List.length_cons]
    have h : ∀ l : List Int, (l.filter fun y => decide (y < x)).length + (l.filter fun y => decide (x < y)).length ≤ l.length := by
      intro l
      induction l with
      | nil => simp
      | cons y r ih =>
        rw [List.filter_cons, List.filter_cons]
        by_cases h1 : y < x
        · have h2 : ¬ x < y := by omega
          simp [h1, h2]; omega
        · by_cases h2 : x < y
          · simp [h1, h2]; omega
          · simp [h1, h2]; omega
    have := h l
    omega
/-- the place of a number in a rising list -/
theorem insU_take {l : List Int} (h : Rise l) (x : Int) (k : Nat) (hk : k ≤ l.length) (h1 : ∀ i, i < k → l.getD i 0 < x) (h2 : k < l.length → x < l.getD k 0) : x ∉ l ∧ insU l x = l.take k ++ x :: l.drop k := by
  have hs : l = l.take k ++ l.drop k := (List.take_append_drop k l).symm
  have ht : ∀ g ∈ l.take k, g < x := fun g hg => by
    obtain ⟨i, hi, rfl⟩ := List.getElem_of_mem hg
    rw [List.length_take] at hi
    have := h1 i (by omega)
    rw [List.getD_eq_getElem?_getD, List.getElem?_eq_getElem (show i < l.length by omega)] at this
    rw [List.getElem_take]; exact this
  have hd : ∀ g ∈ l.drop k, x < g := fun g hg => by
    obtain ⟨i, hi, rfl⟩ := List.getElem_of_mem hg
    rw [List.length_drop] at hi
    have h3 := h2 (by omega)
    rw [List.getD_eq_getElem?_getD, List.getElem?_eq_getElem (show k < l.length by omega)] at h3
    rw [List.getElem_drop]
    rcases Nat.eq_zero_or_pos i with rfl | hp
    · exact h3
    · have := List.pairwise_iff_getElem.1 h k (k + i) (by omega) (by omega) (by omega)
      exact Int.lt_trans h3 this
  have hm : x ∉ l := by
    intro hm2
    rw [hs] at hm2
    rcases List.mem_append.1 hm2 with q | q
    · have := ht x q; omega
    · have := hd x q; omega
  refine ⟨hm, ?_⟩
  unfold insU
  rw [if_neg hm]
  conv => lhs; rw [hs]
  rw [List.filter_append, List.filter_append, List.filter_eq_self.2 (fun g hg => decide_eq_true (ht g hg)), List.filter_eq_nil_iff.2 (fun g hg => by have := hd g hg; simp; omega), List.filter_eq_nil_iff.2 (fun g hg => by have := ht g hg; simp; omega), List.filter_eq_self.2 (fun g hg => decide_eq_true (hd g hg))]
  simp
/-- the numbers of a list, rising, each once -/
def setL (l : List Int) : List Int := l.foldl insU []
theorem foldl_insU : ∀ (l s : List Int), Rise s → Rise (l.foldl insU s) ∧ ∀ y, y ∈ l.foldl insU s ↔ y ∈ s ∨ y ∈ l
  | [], s, h => ⟨h, fun y => by simp⟩
  | x :: r, s, h => by
    obtain ⟨a, b⟩ := foldl_insU r (insU s x) (rise_insU h x)
    refine ⟨a, fun y => ?_⟩
    show y ∈ r.foldl insU (insU s x) ↔ _
    rw [b, mem_insU, List.mem_cons]
    constructor
    · rintro ((h | h) | h)
      · exact Or.inl h
      · exact Or.inr (Or.inl h)
      · exact Or.inr (Or.inr h)
    · rintro (h | h | h)
      · exact Or.inl (Or.inl h)
      · exact Or.inl (Or.inr h)
      · exact Or.inr h
theorem rise_setL (l : List Int) : Rise (setL l) := (foldl_insU l [] List.Pairwise.nil).1
theorem mem_setL {l : List Int} {y : Int} : y ∈ setL l ↔ y ∈ l := by unfold setL; rw [(foldl_insU l [] List.Pairwise.nil).2]; simp
theorem setL_snoc (l : List Int) (x : Int) : setL (l ++ [x]) = insU (setL l) x := by unfold setL; rw [List.foldl_append]; rfl
theorem setL_len : ∀ l : List Int, (setL l).length ≤ l.length := by
  have h : ∀ (l s : List Int), (l.foldl insU s).length ≤ s.length + l.length := by
    intro l
    induction l with
    | nil => intro s; simp
    | cons x r ih =>
      intro s
      have h1 := ih (insU s x)
      have h2 := insU_len s x
      simp only [List.foldl_cons, List.length_cons]
      omega
  intro l
  have := h l []
  simpa [setL] using this
theorem setL_nodup {l : List Int} (h : l.Nodup) : setL l = sortI l := rise_ext (rise_setL l) (rise_sortI h) fun y => by rw [mem_setL, mem_sortI]
/-- is each number there once? -/
def onceB (l : List Int) : Bool := decide l.Nodup
theorem onceB_snoc (l : List Int) (x : Int) : onceB (l ++ [x]) = (onceB l && !decide (x ∈ l)) := by
  unfold onceB
  rw [Bool.eq_iff_iff]
  simp only [decide_eq_true_eq, Bool.and_eq_true, Bool.not_eq_true', decide_eq_false_iff_not]
  rw [List.nodup_append]
  constructor
  · rintro ⟨h1, -, h3⟩
    exact ⟨h1, fun hx => h3 x hx x (by simp) rfl⟩
  · rintro ⟨h1, h2⟩
    exact ⟨h1, by simp, fun a ha b hb => by
      obtain rfl := List.mem_singleton.1 hb
      exact fun e => h2 (e ▸ ha)⟩

/-- the address of s[k:] -/
def fromA (b off k cap : Nat) : Addr := if cap = k then ⟨b, off, none⟩ else ⟨b, off + k, none⟩
theorem fromA_lt {b off k cap : Nat} (h : k < cap) : fromA b off k cap = ⟨b, off + k, none⟩ := by unfold fromA; rw [if_neg (by omega)]
theorem run_from_ints (b off m cap k : Nat) (hk : k ≤ m) (w : World) :
    (Instr.slice 23 (.slice (some ⟨b, off, none⟩) m cap) (some (.int .i64 (k : Int))) none none).run Tryz.prog w = .ok (.slice (some (fromA b off k cap)) (m - k) (cap - k)) w := by
  have h1 : (0 : Int) ≤ (k : Int) ∧ (k : Int) ≤ (m : Int) := by omega
  have h2 : ¬ m < k := by omega
  unfold fromA
  by_cases hc : cap = k
  · simp [Instr.slice, Instr.sliceBounds, Instr.sliceBound, asIntOf, run_underlying Tryz.underlying23, h1, h2, hc]
  · simp [Instr.slice, Instr.sliceBounds, Instr.sliceBound, asIntOf, run_underlying Tryz.underlying23, h1, h2, hc, add_off]

theorem ret_ob {v : Value} {a b : Bool} (h : a = b) : Ending.returned (.tuple #[v, .bool a]) = .returned (.tuple #[v, .bool b]) := by rw [h]
def SortedPost (xs : List Int) (w : World) (e : Ending) (w' : World) : Prop :=
  ∃ v, e = .returned (.tuple #[v, .bool (onceB xs)]) ∧ Below w.heap.size w w' ∧ w'.ownsRow w.heap.size 3 1 v (setL xs).length (intVs (setL xs))

set_option maxRecDepth 100000 in
set_option maxHeartbeats 8000000 in
theorem sorted_any (xs : List Int) (u : Value) (w : World) (hu : IntsAt w u xs) (hx : xs.length ≤ 1000000) : Calls Tryz.prog 57 #[u] w (SortedPost xs w) := by
  obtain ⟨i3, hi3, hz30, hz31, hz32⟩ := info_parts Tryz.info3
  obtain ⟨p, c, rfl, -, -, hcells⟩ := hu
  have HC := Lib.hid hcells
  clear hcells
  obtain ⟨n, hn⟩ : ∃ n, xs.length = n := ⟨_, rfl⟩
  rw [hn] at hx ⊢
  have HN := Lib.hid hn
  clear hn
  go_enter Tryz.func57, Tryz.ntmps57
  go_wp2_with fail
  go_loopw [4, 5, 6] (fun v ob i wr => ∃ j : Nat, j ≤ n ∧ i = .int .i64 j ∧ ob = .bool (onceB (xs.take j)) ∧ Below w.heap.size w wr ∧ wr.ownsRow w.heap.size 3 1 v (setL (xs.take j)).length (intVs (setL (xs.take j)))) (fun _ _ i _ => n - (intOf i).toNat)
  case atStart => exact ⟨0, Nat.zero_le _, rfl, rfl, Below.refl _ _, World.ownsRow_nil _ _ _ _⟩
  case round =>
    obtain ⟨j, hj, rfl, rfl, hb, hown⟩ := hrel
    by_cases hjn : j < n
    · obtain ⟨b, off, rfl, hcell0⟩ := HC.out j (by rw [HN.out]; exact hjn)
      have hcell := (hb.cell (p := ⟨b, off + j, none⟩) (mem_lt hcell0)).trans hcell0
      have ht := take_snoc_getD 0 xs j (by rw [HN.out]; exact hjn)
      have hU := setL_snoc (xs.take j) (xs.getD j 0)
      have hO := onceB_snoc (xs.take j) (xs.getD j 0)
      rw [← ht] at hU hO
      have HU := Lib.hid hU
      have HO := Lib.hid hO
      have hmem : ∀ y, y ∈ setL (xs.take j) ↔ y ∈ xs.take j := fun y => mem_setL
      have HM := Lib.hid hmem
      have HR := Lib.hid (rise_setL (xs.take j))
      have hsl : (setL (xs.take j)).length ≤ 1000000 := by have := setL_len (xs.take j); rw [List.length_take] at this; omega
      generalize xs.getD j 0 = x at hcell HU HO
      generalize hoo : onceB (xs.take j) = oo at HO
      obtain ⟨U, hUU⟩ : ∃ U, setL (xs.take j) = U := ⟨_, rfl⟩
      rw [hUU] at HU HM HR hsl hown
      clear ht hU hO hmem hUU hcell0
      have HJ := Lib.hid (show x ∈ xs.take j ↔ x ∈ U from (HM.out x).symm)
      -- what comes of a number that is there, and of one that is not
      have hIN : ∀ k, k < U.length → U.getD k 0 = x → setL (xs.take (j + 1)) = U ∧ onceB (xs.take (j + 1)) = false := fun k hk e => by
        have hm : x ∈ U := by rw [← e, List.getD_eq_getElem?_getD, List.getElem?_eq_getElem hk]; exact List.getElem_mem _
        refine ⟨by rw [HU.out]; unfold insU; rw [if_pos hm], ?_⟩
        rw [HO.out, decide_eq_true (HJ.out.2 hm)]; simp
      have HIN := Lib.hid hIN
      have hOUT : ∀ k, k ≤ U.length → (∀ i, i < k → U.getD i 0 < x) → (k < U.length → x < U.getD k 0) → setL (xs.take (j + 1)) = U.take k ++ x :: U.drop k ∧ onceB (xs.take (j + 1)) = oo := fun k hk h1 h2 => by
        obtain ⟨e1, e2⟩ := insU_take HR.out x k hk h1 h2
        refine ⟨by rw [HU.out]; exact e2, ?_⟩
        rw [HO.out, decide_eq_false (fun h => e1 (HJ.out.1 h))]; simp
      have HOUT := Lib.hid hOUT
      clear hIN hOUT HU HO HM HJ
      obtain ⟨m, hm⟩ : ∃ m, U.length = m := ⟨_, rfl⟩
      rw [hm] at hown hsl HIN HOUT
      have HML := Lib.hid hm
      have HB := Lib.hid hb
      have hbs := hb.size
      clear hb hm
      rcases Joins.ownsRow_forms hown with ⟨rfl, hm0⟩ | ⟨g, cap, rfl⟩
      · subst hm0
        obtain ⟨e1, e2⟩ := HOUT.out 0 (Nat.le_refl _) (fun i h => absurd h (by omega)) (fun h => absurd h (by omega))
        obtain rfl : U = [] := List.length_eq_zero_iff.1 HML.out
        rw [show ([] : List Int).take 0 ++ x :: ([] : List Int).drop 0 = [x] from rfl] at e1
        have E1 := Lib.hid e1
        have E2 := Lib.hid e2
        clear e1 e2 HIN HOUT HML HR
        go_wp2_with fail
        go_loopw [7] (fun kk wx => kk = .int .i64 0 ∧ wx = wr) (fun kk _ => 0)
        case atStart => exact ⟨rfl, rfl⟩
        case round =>
          obtain ⟨rfl, rfl⟩ := hrel
          go_wp2_with fail
          go_quiet (fail)
          have hbq : Below wr.heap.size wr (wr.drewN nq) := Below.drewN _ _
          generalize wr.drewN nq = wq at hbq ⊢
          go_wp2_with fail
          go_quiet (fail)
          have hbq2 : Below wr.heap.size wr (wq.drewN nq) := hbq.trans ((Below.drewN wq nq).mono hbq.size)
          generalize wq.drewN nq = wz at hbq2 ⊢
          have HBZ := Lib.hid (HB.out.trans (hbq2.mono HB.out.size))
          have hcz := (hbq2.cell (p := ⟨b, off + j, none⟩) (mem_lt hcell)).trans hcell
          have hsz := HBZ.out.size
          clear hbq hbq2 hcell
          go_upto_region 13 with (at_builtin; refine wpList_append_own_none rfl _ _ 23 rfl w.heap.size 3 i3 1 Tryz.underlying23 hi3 _ 0 [] rfl (World.ownsRow_nil _ _ _ _) rfl ?_)
          go_upto_region 14 with (at_builtin; go_must (refine wpList_append_own _ rfl _ _ 23 rfl w.heap.size 3 i3 (.int .i64 0) 1 8 Tryz.underlying23 hi3 hz30 hz31 hz32 rfl (by decide) _ 0 [] rfl (World.ownsRow_nil _ _ _ _) ⟨wz.heap.size, 0, none⟩ 1 1 [.int .i64 x] rfl rfl (cells_new _ _ _) (fun u hu => by simp at hu; subst hu; rfl) (by unfold maxLen; omega) (by omega) (by simp; omega) ?_); intro v1 w1 hown1 hgr1 _)
          have HO1 := Lib.hid (show w1.ownsRow w.heap.size 3 1 v1 1 [.int .i64 x] by simpa using hown1)
          have HB1 := Lib.hid ((HBZ.out.alloc hsz _).grown hgr1 (by simp; omega) (fun k hk => by cases hk))
          clear hown1 hgr1 hcz
          obtain ⟨g1, c1, rfl⟩ := Joins.ownsRow_form HO1.out (by decide)
          go_wp2_with (at_builtin; refine wpList_append_own_none rfl _ _ 23 rfl w.heap.size 3 i3 1 Tryz.underlying23 hi3 _ 1 _ rfl HO1.out rfl ?_)
          go_roundw
          case rel => exact ⟨j + 1, by omega, by go_num, by rw [E2.out], HB1.out, by rw [E1.out]; exact HO1.out⟩
          case measure => simp [intOf]; omega
      · have hcap : m ≤ cap := by
          rcases hown.2 with ⟨he, _⟩ | ⟨g', cap', cur, he, _, _, hle, _⟩
          · cases he
          · cases he; exact hle
        have hgB := (hown.lt g rfl).1
        have hUc : ∀ i, i < m → wr.cell? ⟨g, i, none⟩ = some (.int .i64 (U.getD i 0)) := fun i hi => by
          have := hown.cells (g := g) rfl i (.int .i64 (U.getD i 0)) (by simp [intVs, List.getElem?_eq_getElem (show i < U.length by rw [HML.out]; exact hi), List.getD_eq_getElem?_getD])
          rwa [add_zero] at this
        have HUC := Lib.hid hUc
        have HOW := Lib.hid hown
        have HX := Lib.hid hcell
        clear hown hUc hcell
        go_wp2_with fail
        obtain ⟨wo, rfl⟩ : ∃ wo : World, wo = wr := ⟨_, rfl⟩
        go_loopw [7] (fun kk wx => ∃ k : Nat, k ≤ m ∧ kk = .int .i64 k ∧ (∀ i, i < k → U.getD i 0 < x) ∧ Below wo.heap.size wo wx) (fun kk _ => m - (intOf kk).toNat)
        case atStart => exact ⟨0, Nat.zero_le _, rfl, fun i h => absurd h (by omega), Below.refl _ _⟩
        case round =>
          obtain ⟨k, hk, rfl, hlo, hbx⟩ := hrel
          have HLO := Lib.hid hlo
          clear hlo
          rcases (show (k < m ∧ U.getD k 0 < x) ∨ (k < m ∧ U.getD k 0 = x) ∨ (k < m → x < U.getD k 0) by omega) with ⟨hkm, hlt⟩ | ⟨hkm, heq⟩ | hgt
          · have hc1 : wr.cell? ⟨g, k, none⟩ = some (.int .i64 (U.getD k 0)) := (hbx.cell (p := ⟨g, k, none⟩) (mem_lt (HUC.out k hkm))).trans (HUC.out k hkm)
            have hc2 : wr.cell? ⟨b, off + j, none⟩ = some (.int .i64 x) := (hbx.cell (p := ⟨b, off + j, none⟩) (mem_lt HX.out)).trans HX.out
            have HY := Lib.hid (HUC.out k hkm)
            have g1 : decide (k < m) = true := decide_eq_true hkm
            have q : decide (U.getD k 0 < x) = true := decide_eq_true hlt
            have HNX : Hid (∀ i, i < k + 1 → U.getD i 0 < x) := fun i hi => by
              rcases (show i < k ∨ i = k by omega) with h | rfl
              · exact HLO.out i h
              · exact hlt
            generalize U.getD k 0 = y at hc1 q HY
            clear hlt
            go_wp2_with fail
            go_quiet (fail)
            have hbq : Below wr.heap.size wr (wr.drewN nq) := Below.drewN _ _
            generalize wr.drewN nq = wq at hbq ⊢
            have hbq1 := hbx.trans (hbq.mono hbx.size)
            clear hbq hc1 hc2
            go_wp2_with fail
            go_roundw
            case rel => exact ⟨k + 1, by omega, by go_num, HNX.out, hbq1⟩
            case measure => simp [intOf]; omega
          · have hc1 : wr.cell? ⟨g, k, none⟩ = some (.int .i64 (U.getD k 0)) := (hbx.cell (p := ⟨g, k, none⟩) (mem_lt (HUC.out k hkm))).trans (HUC.out k hkm)
            have hc2 : wr.cell? ⟨b, off + j, none⟩ = some (.int .i64 x) := (hbx.cell (p := ⟨b, off + j, none⟩) (mem_lt HX.out)).trans HX.out
            have HY := Lib.hid (HUC.out k hkm)
            have g1 : decide (k < m) = true := decide_eq_true hkm
            have q : decide (U.getD k 0 < x) = false := decide_eq_false (by omega)
            have q2 : (U.getD k 0 == x) = true := beq_iff_eq.2 heq
            obtain ⟨e1, e2⟩ := HIN.out k hkm heq
            have E1 := Lib.hid e1
            have E2 := Lib.hid e2
            generalize U.getD k 0 = y at hc1 q q2 HY
            clear heq e1 e2
            go_wp2_with fail
            go_quiet (fail)
            have hbq : Below wr.heap.size wr (wr.drewN nq) := Below.drewN _ _
            generalize wr.drewN nq = wq at hbq ⊢
            have hbq1 := hbx.trans (hbq.mono hbx.size)
            clear hbq hc1 hc2
            have hc1 : wq.cell? ⟨g, k, none⟩ = some (.int .i64 y) := (hbq1.cell (p := ⟨g, k, none⟩) (mem_lt HY.out)).trans HY.out
            have hc2 : wq.cell? ⟨b, off + j, none⟩ = some (.int .i64 x) := (hbq1.cell (p := ⟨b, off + j, none⟩) (mem_lt HX.out)).trans HX.out
            go_wp2_with fail
            go_quiet (fail)
            have hbq : Below wq.heap.size wq (wq.drewN nq) := Below.drewN _ _
            generalize wq.drewN nq = wz at hbq ⊢
            have HBZ := Lib.hid (hbq1.trans (hbq.mono hbq1.size))
            clear hbq hbq1 hc1 hc2 hbx
            go_wp2_with fail
            go_roundw
            case rel => exact ⟨j + 1, by omega, by go_num, by rw [E2.out], HB.out.trans (HBZ.out.mono HB.out.size), by rw [E1.out, HML.out]; exact owns_keep HOW.out fun i hi => HBZ.out.block i (HOW.out.lt i hi).2⟩
            case measure => simp [intOf]; omega
          · obtain ⟨e1, e2⟩ := HOUT.out k hk HLO.out hgt
            have E1 := Lib.hid e1
            have E2 := Lib.hid e2
            clear e1 e2
            by_cases hkm : k < m
            focus
              have hc1 : wr.cell? ⟨g, k, none⟩ = some (.int .i64 (U.getD k 0)) := (hbx.cell (p := ⟨g, k, none⟩) (mem_lt (HUC.out k hkm))).trans (HUC.out k hkm)
              have hc2 : wr.cell? ⟨b, off + j, none⟩ = some (.int .i64 x) := (hbx.cell (p := ⟨b, off + j, none⟩) (mem_lt HX.out)).trans HX.out
              have HY := Lib.hid (HUC.out k hkm)
              have g1 : decide (k < m) = true := decide_eq_true hkm
              have q : decide (U.getD k 0 < x) = false := decide_eq_false (by have := hgt hkm; omega)
              have q2 : (U.getD k 0 == x) = false := beq_eq_false_iff_ne.2 (by have := hgt hkm; omega)
              generalize U.getD k 0 = y at hc1 q q2 HY hgt
              clear hgt
              go_wp2_with fail
              go_quiet (fail)
              have hbq : Below wr.heap.size wr (wr.drewN nq) := Below.drewN _ _
              generalize wr.drewN nq = wq at hbq ⊢
              have hbq1 := hbx.trans (hbq.mono hbx.size)
              clear hbq hc1 hc2
              have hc1 : wq.cell? ⟨g, k, none⟩ = some (.int .i64 y) := (hbq1.cell (p := ⟨g, k, none⟩) (mem_lt HY.out)).trans HY.out
              have hc2 : wq.cell? ⟨b, off + j, none⟩ = some (.int .i64 x) := (hbq1.cell (p := ⟨b, off + j, none⟩) (mem_lt HX.out)).trans HX.out
              go_wp2_with fail
              go_quiet (fail)
              have hbq : Below wq.heap.size wq (wq.drewN nq) := Below.drewN _ _
              generalize wq.drewN nq = wz at hbq ⊢
              have HBZ := Lib.hid (hbq1.trans (hbq.mono hbq1.size))
              clear hbq hbq1 hc1 hc2 hbx
              clear q q2 HY g1 hkm
            rotate_left
            focus
              have g1 : decide (k < m) = false := decide_eq_false hkm
              clear hgt
              go_wp2_with fail
              go_quiet (fail)
              have hbq : Below wr.heap.size wr (wr.drewN nq) := Below.drewN _ _
              generalize wr.drewN nq = wq at hbq ⊢
              have hbq1 := hbx.trans (hbq.mono hbx.size)
              clear hbq
              go_wp2_with fail
              go_quiet (fail)
              have hbq : Below wq.heap.size wq (wq.drewN nq) := Below.drewN _ _
              generalize wq.drewN nq = wz at hbq ⊢
              have HBZ := Lib.hid (hbq1.trans (hbq.mono hbq1.size))
              clear hbq hbq1 hbx
              clear g1 hkm
            all_goals
              have HBA := Lib.hid (HB.out.trans (HBZ.out.mono HB.out.size))
              have hsz := HBA.out.size
              have hcu : ∀ i, i < m → wz.cell? ⟨g, i, none⟩ = some (.int .i64 (U.getD i 0)) := fun i hi => (HBZ.out.cell (p := ⟨g, i, none⟩) (mem_lt (HUC.out i hi))).trans (HUC.out i hi)
              have hn1 : ∀ q u, (intVs (U.take k))[q]? = some u → wz.cell? ((⟨g, 0, none⟩ : Addr).add q) = some u := fun q u hu => by
                have hq : q < k := by
                  have := (List.getElem?_eq_some_iff.1 hu).1
                  simp [intVs] at this
                  omega
                rw [add_zero, hcu q (by omega)]
                simp [intVs, List.getElem?_take, hq, List.getElem?_eq_getElem (show q < U.length by rw [HML.out]; omega)] at hu
                rw [← hu, List.getD_eq_getElem?_getD, List.getElem?_eq_getElem (show q < U.length by rw [HML.out]; omega)]
                rfl
              have HN1 := Lib.hid hn1
              have hl1 : (intVs (U.take k)).length = k := by simp [intVs, HML.out]; omega
              have HL1 := Lib.hid hl1
              have HCU := Lib.hid hcu
              clear hcu hn1 hl1
              go_upto_region 13 with (at_builtin; go_must (refine wpList_append_own _ rfl _ _ 23 rfl wz.heap.size 3 i3 (.int .i64 0) 1 8 Tryz.underlying23 hi3 hz30 hz31 hz32 rfl (by decide) _ 0 [] rfl (World.ownsRow_nil _ _ _ _) ⟨g, 0, none⟩ k cap (intVs (U.take k)) rfl (by rw [HL1.out]; omega) HN1.out (intVs_one _) (by unfold maxLen; omega) (by omega) (Nat.le_refl _) ?_); intro v1 w1 hown1 hgr1 _)
              have HO1 := Lib.hid (show w1.ownsRow wz.heap.size 3 1 v1 k (intVs (U.take k)) by simpa using hown1)
              have hb1 : Below wz.heap.size wz w1 := (Below.refl _ _).grown hgr1 (Nat.le_refl _) (fun k hk => by cases hk)
              have hx1 : w1.cell? ⟨b, off + j, none⟩ = some (.int .i64 x) := ((HBZ.out.trans (hb1.mono HBZ.out.size)).cell (p := ⟨b, off + j, none⟩) (mem_lt HX.out)).trans HX.out
              have HB1 := Lib.hid hb1
              have hs1 := hb1.size
              clear hown1 hgr1 hb1
              go_upto_region 14 with (at_builtin; go_must (refine wpList_append_own _ rfl _ _ 23 rfl wz.heap.size 3 i3 (.int .i64 0) 1 8 Tryz.underlying23 hi3 hz30 hz31 hz32 rfl (by decide) _ k _ rfl (HO1.out.alloc _) ⟨w1.heap.size, 0, none⟩ 1 1 [.int .i64 x] rfl rfl (cells_new _ _ _) (fun u hu => by simp at hu; subst hu; rfl) (by unfold maxLen; omega) (by omega) (by simp; omega) ?_); intro v2 w2 hown2 hgr2 _)
              have HO2 := Lib.hid hown2
              have hb2 : Below wz.heap.size wz w2 := (HB1.out.alloc hs1 _).grown hgr2 (by simp; omega) (fun i hi => (HO1.out.lt i hi).1)
              have HB2 := Lib.hid hb2
              have hs2 := hb2.size
              have hn2 : ∀ q u, (intVs (U.drop k))[q]? = some u → w2.cell? ((fromA g 0 k cap).add q) = some u := fun q u hu => by
                have hq : q < m - k := by
                  have := (List.getElem?_eq_some_iff.1 hu).1
                  simp [intVs, HML.out] at this
                  omega
                rw [fromA_lt (by omega), add_off, Nat.zero_add]
                have h1 := HCU.out (k + q) (by omega)
                rw [hb2.cell (p := ⟨g, k + q, none⟩) (mem_lt h1), h1]
                simp [intVs, List.getElem?_drop, List.getElem?_eq_getElem (show k + q < U.length by rw [HML.out]; omega)] at hu
                rw [← hu, List.getD_eq_getElem?_getD, List.getElem?_eq_getElem (show k + q < U.length by rw [HML.out]; omega)]
                rfl
              have HN2 := Lib.hid hn2
              have HL2 := Lib.hid (show (intVs (U.drop k)).length = (m - k) * 1 by simp [intVs, HML.out])
              have hfrom := run_from_ints g 0 m cap k hk
              clear hown2 hgr2 hb2 hn2 hx1
              go_wp2_with (at_builtin; go_must (refine wpList_append_own _ rfl _ _ 23 rfl wz.heap.size 3 i3 (.int .i64 0) 1 8 Tryz.underlying23 hi3 hz30 hz31 hz32 rfl (by decide) _ (k + 1) _ rfl HO2.out (fromA g 0 k cap) (m - k) (cap - k) (intVs (U.drop k)) rfl HL2.out HN2.out (intVs_one _) (by unfold maxLen; omega) (by omega) hs2 ?_); intro v3 w3 hown3 hgr3 _; have HB3 := Lib.hid (HBA.out.trans ((HB2.out.grown hgr3 hs2 (fun i hi => (HO2.out.lt i hi).1)).mono HBA.out.size)); have HO3 := Lib.hid hown3; clear hown3 hgr3 hfrom)
              go_roundw
              case rel =>
                refine ⟨j + 1, by omega, by go_num, by rw [E2.out], HB3.out, ?_⟩
                rw [E1.out]
                have e1 : (U.take k ++ x :: U.drop k).length = k + 1 + (m - k) := by simp [HML.out]; omega
                have e2 : intVs (U.take k ++ x :: U.drop k) = intVs (U.take k) ++ [.int .i64 x] ++ intVs (U.drop k) := by simp [intVs]
                rw [e1, e2]
                exact Joins.ownsRow_le HO3.out hsz
              case measure => simp [intOf]; omega
    · obtain rfl : j = n := by omega
      have hfull : xs.take j = xs := List.take_of_length_le (by rw [HN.out]; exact Nat.le_refl _)
      have HF := Lib.hid hfull
      have HOW := Lib.hid hown
      have HB := Lib.hid hb
      clear hfull hown hb
      go_wp2_with fail
      go_ret2
      refine ⟨_, ret_ob (congrArg onceB HF.out), HB.out, ?_⟩
      have := HOW.out
      rw [HF.out] at this
      exact this

theorem run_from_lists (b off m cap k : Nat) (hk : k ≤ m) (w : World) :
    (Instr.slice 22 (.slice (some ⟨b, off, none⟩) m cap) (some (.int .i64 (k : Int))) none none).run Tryz.prog w = .ok (.slice (some (fromA b off k cap)) (m - k) (cap - k)) w := by
  have h1 : (0 : Int) ≤ (k : Int) ∧ (k : Int) ≤ (m : Int) := by omega
  have h2 : ¬ m < k := by omega
  unfold fromA
  by_cases hc : cap = k
  · simp [Instr.slice, Instr.sliceBounds, Instr.sliceBound, asIntOf, run_underlying Tryz.underlying22, h1, h2, hc]
  · simp [Instr.slice, Instr.sliceBounds, Instr.sliceBound, asIntOf, run_underlying Tryz.underlying22, h1, h2, hc, add_off]

def PutPost (B : Nat) (L : List (List Int)) (f : List Int) (w : World) (e : Ending) (w' : World) : Prop :=
  ∃ v, e = .returned v ∧ Below w.heap.size w w' ∧ ListsIn B w' v (putF L f)

theorem getL_mem {L : List (List Int)} {i : Nat} (h : i < L.length) : L.getD i [] ∈ L := by
  rw [List.getD_eq_getElem?_getD, List.getElem?_eq_getElem h]; exact List.getElem_mem _
theorem sorted_lt {L : List (List Int)} (h : SortedF L) {i j : Nat} (hij : i < j) (hj : j < L.length) : ah (L.getD i []) (L.getD j []) = true := by
  have := List.pairwise_iff_getElem.1 h i j (by omega) hj hij
  rw [List.getD_eq_getElem?_getD, List.getElem?_eq_getElem (show i < L.length by omega), List.getD_eq_getElem?_getD, List.getElem?_eq_getElem hj]
  exact this
theorem getD_take {α : Type} {d : α} {L : List α} {k i : Nat} (h : i < k) : (L.take k).getD i d = L.getD i d := by
  rw [List.getD_eq_getElem?_getD, List.getD_eq_getElem?_getD, List.getElem?_take, if_pos h]
theorem getD_drop {α : Type} {d : α} {L : List α} {k i : Nat} : (L.drop k).getD i d = L.getD (k + i) d := by
  rw [List.getD_eq_getElem?_getD, List.getD_eq_getElem?_getD, List.getElem?_drop]

set_option maxRecDepth 100000 in
set_option maxHeartbeats 4000000 in
theorem put_nil (B : Nat) (f : List Int) (u : Value) (w : World) (hB : B ≤ w.heap.size) (hu : IntsIn B w u f) : Calls Tryz.prog 58 #[.slice none 0 0, u] w (PutPost B [] f w) := by
  obtain ⟨i39, hi39, hz0, hz1, hz2⟩ := info_parts Tryz.info23
  obtain ⟨pu, cu, hue⟩ := hu.len
  obtain ⟨nf, hnf⟩ : ∃ nf, f.length = nf := ⟨_, rfl⟩
  rw [hnf] at hue
  subst hue
  have HU := Lib.hid hu
  have HB := Lib.hid hB
  clear hu hB
  go_enter Tryz.func58, Tryz.ntmps58
  go_wp2_with fail
  go_loopw [5, 6] (fun lo hi wr => lo = .int .i64 0 ∧ hi = .int .i64 0 ∧ wr = w) (fun _ _ _ => 0)
  case atStart => exact ⟨rfl, rfl, rfl⟩
  case round =>
    obtain ⟨rfl, rfl, rfl⟩ := hrel
    go_upto_region 13 with (at_builtin; refine wpList_append_own_none rfl _ _ 22 rfl wr.heap.size 23 i39 1 Tryz.underlying22 hi39 _ 0 [] rfl (World.ownsRow_nil _ _ _ _) rfl ?_)
    go_upto_region 14 with (at_builtin; go_must (refine wpList_append_own _ rfl _ _ 22 rfl wr.heap.size 23 i39 (.slice none 0 0) 1 24 Tryz.underlying22 hi39 hz0 hz1 hz2 rfl (by decide) _ 0 [] rfl (World.ownsRow_nil _ _ _ _) ⟨wr.heap.size, 0, none⟩ 1 1 [.slice pu nf cu] rfl rfl (cells_new _ _ _) (fun u' hu' => by simp at hu'; subst hu'; exact HU.out.one) (by unfold maxLen; omega) (by omega) (by simp) ?_); intro v1 w1 hown1 hgr1 _)
    have hb1 : Below wr.heap.size wr (wr.alloc (.cells #[.slice pu nf cu] 23)) := (Below.refl _ _).alloc (Nat.le_refl _) _
    have HO1 := Lib.hid (show w1.ownsRow wr.heap.size 23 1 v1 1 [.slice pu nf cu] by simpa using hown1)
    have HB1 := Lib.hid (hb1.grown hgr1 (by simp) (fun k hk => by cases hk))
    have HR := Lib.hid (rowsO_push (L := []) HB.out (World.ownsRow_nil _ _ _ _) rfl (fun i h => absurd h (by simp)) (HU.out.below hb1 (Nat.le_refl _)) (by simpa using hown1) hgr1)
    clear hown1 hgr1 hb1
    obtain ⟨g1, c1, rfl⟩ := Joins.ownsRow_form HO1.out (by decide)
    go_wp2_with (at_builtin; refine wpList_append_own_none rfl _ _ 22 rfl wr.heap.size 23 i39 1 Tryz.underlying22 hi39 _ 1 _ rfl HO1.out rfl ?_)
    go_ret
    exact ⟨_, rfl, HB1.out, HR.out.lists⟩

set_option maxRecDepth 100000 in
set_option maxHeartbeats 8000000 in
theorem put_any (B : Nat) (L : List (List Int)) (f : List Int) (v u : Value) (w : World) (hB : B ≤ w.heap.size) (hs : SortedF L) (hv : ListsIn B w v L) (hv0 : L = [] → v = .slice none 0 0) (hu : IntsIn B w u f) (hn : L.length ≤ 1000000)
    (hl : ∀ g ∈ L, g.length ≤ 1000000) (hf : f.length ≤ 1000000) : Calls Tryz.prog 58 #[v, u] w (PutPost B L f w) := by
  rcases Nat.eq_zero_or_pos L.length with h0 | hpos
  · obtain rfl : L = [] := List.length_eq_zero_iff.1 h0
    rw [hv0 rfl]
    exact put_nil B f u w hB hu
  obtain ⟨i39, hi39, hz0, hz1, hz2⟩ := info_parts Tryz.info23
  obtain ⟨b, off, c, hds, rfl, hc, hhl, hcell, hin, hone⟩ := hv.src hpos
  obtain ⟨pu, cu, hue⟩ := hu.len
  obtain ⟨nf, hnf⟩ : ∃ nf, f.length = nf := ⟨_, rfl⟩
  rw [hnf] at hue
  subst hue
  have HNF := Lib.hid hnf
  clear hnf
  obtain ⟨n, hLn⟩ : ∃ n, L.length = n := ⟨_, rfl⟩
  rw [hLn] at hc hhl hin hn hpos ⊢
  have hblt : b < w.heap.size := by
    obtain ⟨x, hx⟩ : ∃ x, hds[0]? = some x := ⟨hds[0], List.getElem?_eq_getElem (by omega)⟩
    exact mem_lt (hcell 0 x hx)
  have HLN := Lib.hid hLn
  have HU := Lib.hid hu
  have HB := Lib.hid hB
  have HCE := Lib.hid hcell
  have HIN := Lib.hid hin
  have HHL := Lib.hid hhl
  have HON := Lib.hid hone
  have HLE := Lib.hid hl
  have HFL := Lib.hid hf
  have HSO := Lib.hid hs
  have HV := Lib.hid hv
  clear hLn hu hB hcell hin hhl hone hl hf hs hv hv0
  go_enter Tryz.func58, Tryz.ntmps58
  go_wp2_with fail
  go_loopw [5, 6] (fun slo shi wr => ∃ lo hi : Nat, lo ≤ hi ∧ hi ≤ n ∧ slo = .int .i64 lo ∧ shi = .int .i64 hi ∧ (∀ i, i < lo → ah (L.getD i []) f = true) ∧ (∀ i, hi ≤ i → i < n → ah (L.getD i []) f = false) ∧ Below w.heap.size w wr) (fun slo shi _ => (intOf shi).toNat - (intOf slo).toNat)
  case atStart => exact ⟨0, n, Nat.zero_le _, Nat.le_refl _, rfl, rfl, fun i h => absurd h (by omega), fun i h h' => absurd h (by omega), Below.refl _ _⟩
  case round =>
    obtain ⟨lo, hi, hlh, hhn, rfl, rfl, hlo, hhi, hb⟩ := hrel
    have HLO := Lib.hid hlo
    have HHI := Lib.hid hhi
    have HBR := Lib.hid hb
    clear hlo hhi hb
    by_cases hlt : lo < hi
    · obtain ⟨m, hm⟩ : ∃ m, m = (lo + hi) / 2 := ⟨_, rfl⟩
      have hml : lo ≤ m ∧ m < hi := by omega
      have hmid : ((lo : Int) + (hi : Int)) / 2 = (m : Int) := by omega
      have hmn : m < n := by omega
      obtain ⟨x, hx⟩ : ∃ x, hds[m]? = some x := ⟨hds[m]'(by rw [HHL.out]; exact hmn), List.getElem?_eq_getElem (by rw [HHL.out]; exact hmn)⟩
      have hc0 := HCE.out m x hx
      have hcx := (HBR.out.cell (p := ⟨b, off + m, none⟩) (mem_lt hc0)).trans hc0
      have hix : IntsIn B w x (L.getD m []) := by
        have := HIN.out m hmn
        rwa [List.getD_eq_getElem?_getD, hx] at this
      have HA := Lib.hid (ahead_any (L.getD m []) f x _ wr ((hix.below HBR.out (Nat.le_refl _)).at) ((HU.out.below HBR.out (Nat.le_refl _)).at) (HLE.out _ (getL_mem (by rw [HLN.out]; exact hmn))) HFL.out)
      clear hm hc0 hix hx
      cases hah : ah (L.getD m []) f with
      | true =>
        have HLO' : Hid (∀ i, i < m + 1 → ah (L.getD i []) f = true) := fun i hi => by
          rcases (show i < m ∨ i = m by omega) with h | rfl
          · exact ah_trans (sorted_lt HSO.out h (by rw [HLN.out]; exact hmn)) hah
          · exact hah
        rw [hah] at HA
        clear hah
        go_wp2_with fail
        refine HA.out.mono ?_
        rintro e w' ⟨rfl, z, rfl⟩
        have HBQ := Lib.hid (HBR.out.trans ((Below.drewN wr z).mono HBR.out.size))
        go_wp2_with fail
        go_roundw
        case rel => exact ⟨m + 1, hi, by omega, by omega, by go_num, rfl, HLO'.out, HHI.out, HBQ.out⟩
        case measure => simp [intOf]; omega
      | false =>
        have HHI' : Hid (∀ i, m ≤ i → i < n → ah (L.getD i []) f = false) := fun i h1 h2 => by
          rcases (show m = i ∨ m < i by omega) with rfl | h
          · exact hah
          · cases hq : ah (L.getD i []) f with
            | false => rfl
            | true => rw [ah_trans (sorted_lt HSO.out h (by rw [HLN.out]; exact h2)) hq] at hah; cases hah
        rw [hah] at HA
        clear hah
        go_wp2_with fail
        refine HA.out.mono ?_
        rintro e w' ⟨rfl, z, rfl⟩
        have HBQ := Lib.hid (HBR.out.trans ((Below.drewN wr z).mono HBR.out.size))
        go_wp2_with fail
        go_roundw
        case rel => exact ⟨lo, m, by omega, by omega, rfl, rfl, HLO.out, HHI'.out, HBQ.out⟩
        case measure => simp [intOf]; omega
    · obtain rfl : lo = hi := by omega
      have hP := putF_take HSO.out f lo (by rw [HLN.out]; exact hhn) HLO.out (fun i h1 h2 => HHI.out i h1 (by rw [← HLN.out]; exact h2))
      rw [HLN.out] at hP
      rcases hP with ⟨hln, heq, hput⟩ | ⟨hne, hput⟩
      · have HPUT := Lib.hid hput
        obtain ⟨x, hx⟩ : ∃ x, hds[lo]? = some x := ⟨hds[lo]'(by rw [HHL.out]; exact hln), List.getElem?_eq_getElem (by rw [HHL.out]; exact hln)⟩
        have hc0 := HCE.out lo x hx
        have hcx := (HBR.out.cell (p := ⟨b, off + lo, none⟩) (mem_lt hc0)).trans hc0
        have hix : IntsIn B w x (L.getD lo []) := by
          have := HIN.out lo hln
          rwa [List.getD_eq_getElem?_getD, hx] at this
        rw [heq] at hix
        have HA := Lib.hid (sameInts_any x _ f f wr ((hix.below HBR.out (Nat.le_refl _)).at) ((HU.out.below HBR.out (Nat.le_refl _)).at) (Nat.le_trans HFL.out (by omega)) (Nat.le_trans HFL.out (by omega)))
        rw [decide_eq_true (rfl : f = f)] at HA
        have g1 : decide (lo < n) = true := decide_eq_true hln
        clear hc0 hix hx heq hput
        go_wp2_with fail
        refine HA.out.mono ?_
        rintro e w' ⟨rfl, z, rfl⟩
        have HBQ := Lib.hid (HBR.out.trans ((Below.drewN wr z).mono HBR.out.size))
        go_wp2_with fail
        go_ret
        exact ⟨_, rfl, HBQ.out, by rw [HPUT.out]; have h := HV.out.below HBQ.out (Nat.le_refl _); rw [HLN.out] at h; exact h⟩
      · have HPUT := Lib.hid hput
        clear hput
        by_cases hln : lo < n
        focus
          obtain ⟨x, hx⟩ : ∃ x, hds[lo]? = some x := ⟨hds[lo]'(by rw [HHL.out]; exact hln), List.getElem?_eq_getElem (by rw [HHL.out]; exact hln)⟩
          have hc0 := HCE.out lo x hx
          have hcx := (HBR.out.cell (p := ⟨b, off + lo, none⟩) (mem_lt hc0)).trans hc0
          have hix : IntsIn B w x (L.getD lo []) := by
            have := HIN.out lo hln
            rwa [List.getD_eq_getElem?_getD, hx] at this
          have HA := Lib.hid (sameInts_any x _ (L.getD lo []) f wr ((hix.below HBR.out (Nat.le_refl _)).at) ((HU.out.below HBR.out (Nat.le_refl _)).at) (Nat.le_trans (HLE.out _ (getL_mem (by rw [HLN.out]; exact hln))) (by omega)) (Nat.le_trans HFL.out (by omega)))
          rw [decide_eq_false (hne lo rfl hln)] at HA
          have g1 : decide (lo < n) = true := decide_eq_true hln
          clear hc0 hix hx hne
          go_wp2_with fail
          refine HA.out.mono ?_
          rintro e w' ⟨rfl, z, rfl⟩
          have hbq := HBR.out.trans ((Below.drewN wr z).mono HBR.out.size)
          generalize wr.drewN z = wz at hbq ⊢
          have HBZ := Lib.hid hbq
          clear hbq hcx HA g1 hln
        rotate_left
        focus
          have g1 : decide (lo < n) = false := decide_eq_false hln
          clear hne
          obtain ⟨wz, hwz⟩ : ∃ wz, wz = wr := ⟨_, rfl⟩
          have HBZ := HBR
          rw [← hwz] at HBZ ⊢
          clear hwz hln
        all_goals
          have hsz := HBZ.out.size
          have hn1 : ∀ q y, (hds.take lo)[q]? = some y → wz.cell? ((⟨b, off, none⟩ : Addr).add q) = some y := fun q y hy => by
            rw [add_off]
            have h1 : hds[q]? = some y := by
              rw [List.getElem?_take] at hy
              split at hy
              · exact hy
              · cases hy
            have h2 := HCE.out q y h1
            rw [HBZ.out.cell (p := ⟨b, off + q, none⟩) (mem_lt h2)]; exact h2
          have HN1 := Lib.hid hn1
          have HL1 := Lib.hid (show (hds.take lo).length = lo * 1 by rw [List.length_take, HHL.out]; omega)
          have HIZ := Lib.hid (fun i (hi : i < n) => (HIN.out i hi).below HBZ.out (Nat.le_refl _))
          have HUZ := Lib.hid (HU.out.below HBZ.out (Nat.le_refl _))
          have HBB := Lib.hid (Nat.le_trans HB.out hsz)
          clear hn1
          go_upto_region 13 with (at_builtin; go_must (refine wpList_append_own _ rfl _ _ 22 rfl wz.heap.size 23 i39 (.slice none 0 0) 1 24 Tryz.underlying22 hi39 hz0 hz1 hz2 rfl (by decide) _ 0 [] rfl (World.ownsRow_nil _ _ _ _) ⟨b, off, none⟩ lo c (hds.take lo) rfl HL1.out HN1.out (fun y hy => HON.out y (List.mem_of_mem_take hy)) (by unfold maxLen; omega) (by omega) (Nat.le_refl _) ?_); intro v1 w1 hown1 hgr1 _)
          have hb1 : Below wz.heap.size wz w1 := (Below.refl _ _).grown hgr1 (Nat.le_refl _) (fun k hk => by cases hk)
          have hR1 := rowsO_app (L := []) (M := L.take lo) (xs := hds.take lo) HBB.out (World.ownsRow_nil _ _ _ _) rfl (fun i h => absurd h (by simp)) (by rw [List.length_take, List.length_take, HHL.out, HLN.out]) (fun i hi => by
            rw [List.length_take, HLN.out] at hi
            rw [getD_take (by omega), getD_take (by omega)]; exact HIZ.out i (by omega)) (by rw [List.length_take, HLN.out, Nat.min_eq_left hhn]; simpa using hown1) hgr1
          obtain ⟨hs1, ho1, hl1, hi1⟩ := hR1
          have e1 : ([] ++ L.take lo).length = lo := by rw [List.nil_append, List.length_take, HLN.out]; omega
          rw [e1] at ho1
          have HE1 := Lib.hid e1
          have HO1 := Lib.hid ho1
          have HI1 := Lib.hid hi1
          have HL1' := Lib.hid hl1
          have HB1 := Lib.hid hb1
          have HU1 := Lib.hid (HUZ.out.below hb1 (Nat.le_refl _))
          have HIZ1 := Lib.hid (fun i (hi : i < n) => (HIZ.out i hi).below hb1 (Nat.le_refl _))
          have hss1 := hb1.size
          clear hown1 hgr1 hb1 ho1 hi1 hl1 e1
          go_upto_region 14 with (at_builtin; go_must (refine wpList_append_own _ rfl _ _ 22 rfl wz.heap.size 23 i39 (.slice none 0 0) 1 24 Tryz.underlying22 hi39 hz0 hz1 hz2 rfl (by decide) _ lo _ rfl (HO1.out.alloc _) ⟨w1.heap.size, 0, none⟩ 1 1 [.slice pu nf cu] rfl rfl (cells_new _ _ _) (fun u' hu' => by simp at hu'; subst hu'; exact HU1.out.one) (by unfold maxLen; omega) (by omega) (by simp; omega) ?_); intro v2 w2 hown2 hgr2 _)
          have hbA : Below w1.heap.size w1 (w1.alloc (.cells #[.slice pu nf cu] 23)) := (Below.refl _ _).alloc (Nat.le_refl _) _
          have hR2 := rowsO_push (L := [] ++ L.take lo) (w := w1.alloc (.cells #[.slice pu nf cu] 23)) (hs := hs1) HBB.out (by rw [HE1.out]; exact HO1.out.alloc _) HL1'.out (fun i hi => (HI1.out i hi).below hbA (Nat.le_refl _)) (HU1.out.below hbA (Nat.le_refl _)) (by rw [HE1.out]; exact hown2) hgr2
          obtain ⟨hs2, ho2, hl2, hi2⟩ := hR2
          have e2 : ([] ++ L.take lo ++ [f]).length = lo + 1 := by simp [HLN.out]; omega
          rw [e2] at ho2
          have HE2 := Lib.hid e2
          have HO2 := Lib.hid ho2
          have HI2 := Lib.hid hi2
          have HL2' := Lib.hid hl2
          have hb2 : Below wz.heap.size wz w2 := (HB1.out.alloc hss1 _).grown hgr2 (by simp; omega) (fun i hi => (HO1.out.lt i hi).1)
          have HB2 := Lib.hid hb2
          have hss2 := hb2.size
          have HIZ2 := Lib.hid (fun i (hi : i < n) => (HIZ.out i hi).below hb2 (Nat.le_refl _))
          have hn2 : ∀ q y, (hds.drop lo)[q]? = some y → w2.cell? ((fromA b off lo c).add q) = some y := fun q y hy => by
            rw [List.getElem?_drop] at hy
            have hlt2 := (List.getElem?_eq_some_iff.1 hy).1
            rw [HHL.out] at hlt2
            rw [fromA_lt (by omega), add_off]
            have h2 := HCE.out (lo + q) y hy
            have h3 := HBZ.out.trans (hb2.mono hsz)
            rw [Nat.add_assoc, h3.cell (p := ⟨b, off + (lo + q), none⟩) (mem_lt h2)]; exact h2
          have HN2 := Lib.hid hn2
          have HL2 := Lib.hid (show (hds.drop lo).length = (n - lo) * 1 by rw [List.length_drop, HHL.out]; omega)
          have hfrom := run_from_lists b off n c lo hhn
          clear hown2 hgr2 hb2 hbA hn2 ho2 hi2 hl2 e2
          go_wp2_with (at_builtin; go_must (refine wpList_append_own _ rfl _ _ 22 rfl wz.heap.size 23 i39 (.slice none 0 0) 1 24 Tryz.underlying22 hi39 hz0 hz1 hz2 rfl (by decide) _ (lo + 1) _ rfl HO2.out (fromA b off lo c) (n - lo) (c - lo) (hds.drop lo) rfl HL2.out HN2.out (fun y hy => HON.out y (List.mem_of_mem_drop hy)) (by unfold maxLen; omega) (by omega) hss2 ?_); intro v3 w3 hown3 hgr3 _; have HG3 := Lib.hid hgr3; have HO3 := Lib.hid hown3; clear hown3 hgr3 hfrom)
          go_ret
          have hb3 := HBZ.out.trans ((HB2.out.grown HG3.out hss2 (fun i hi => (HO2.out.lt i hi).1)).mono hsz)
          have hR3 := rowsO_app (L := [] ++ L.take lo ++ [f]) (M := L.drop lo) (hs := hs2) (xs := hds.drop lo) HBB.out (by rw [HE2.out]; exact HO2.out) HL2'.out HI2.out (by rw [List.length_drop, List.length_drop, HHL.out, HLN.out]) (fun i hi => by
            rw [List.length_drop, HLN.out] at hi
            rw [getD_drop, getD_drop]; exact HIZ2.out (lo + i) (by omega)) (by rw [HE2.out, List.length_drop, HLN.out]; exact HO3.out) HG3.out
          refine ⟨_, rfl, hb3, ?_⟩
          rw [HPUT.out]
          have e : L.take lo ++ f :: L.drop lo = [] ++ L.take lo ++ [f] ++ L.drop lo := by simp
          rw [e]
          exact hR3.lists
end Go.Proofs.YtddnjimpdidpaaaGreatDoor
