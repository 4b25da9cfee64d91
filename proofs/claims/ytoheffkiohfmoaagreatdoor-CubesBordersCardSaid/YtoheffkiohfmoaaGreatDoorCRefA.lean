/-
  The references' Contains, PartOf, Ahead, SameLists by contracts.
-/
import Derived.Test.YtoheffkiohfmoaaGreatDoorRd
import Derived.Test.YtoheffkiohfmoaaGreatDoorCmp
import Derived.Test.YtoheffkiohfmoaaGreatDoorCelA
namespace Go.Proofs.YtoheffkiohfmoaaGreatDoor
open Go Go.RowKit

/-- what a call does that gives v and lays, perhaps, new blocks -/
def Gives (v : Value) (w : World) (e : Ending) (w' : World) : Prop := e = .returned v ∧ Below w.heap.size w w'
theorem Below.drewN (w : World) (n : Nat) : Below w.heap.size w (w.drewN n) := ⟨rfl, rfl, rfl, Nat.le_refl _, fun _ _ => rfl⟩
/-- a call that gives v and leaves the world as it is (but for draws) -/
def Same (v : Value) (w : World) (e : Ending) (w' : World) : Prop := e = .returned v ∧ w' = w
def Drew (v : Value) (w : World) (e : Ending) (w' : World) : Prop := e = .returned v ∧ ∃ n, w' = w.drewN n
theorem ret_bool {a b : Bool} (h : a = b) : Ending.returned (.bool a) = .returned (.bool b) := by rw [h]
theorem ret_num {k : IntKind} {a b : Int} (h : a = b) : Ending.returned (.int k a) = .returned (.int k b) := by rw [h]
theorem Below.refl' (w : World) : Below w.heap.size w w := Below.refl _ _

set_option maxHeartbeats 2000000 in
theorem contains_of (r : Bool) (xs : List Int) (v : Value) (x : Int) (w : World) (hr : r = xs.contains x) (hv : IntsAt w v xs) (hx : xs.length ≤ 1000000) :
    Calls Tryz.prog 86 #[v, .int .i64 x] w (Same (.bool r) w) := by
  have HR := Lib.hid hr
  clear hr
  have hv' := hv
  obtain ⟨p, c, rfl, -, -, hcells⟩ := hv
  have HC := Lib.hid hcells
  clear hcells hv'
  obtain ⟨n, hn⟩ : ∃ n, xs.length = n := ⟨_, rfl⟩
  rw [hn] at hx ⊢
  have HN := Lib.hid hn
  have HB : Hid (∀ k, k = n → (xs.take k).contains x = false → xs.contains x = false) := fun k hk h => by rwa [List.take_of_length_le (by rw [hn]; omega)] at h
  clear hn
  go_enter Tryz.func86, Tryz.ntmps86
  go_wp2_with fail
  go_loop [5] (fun i => ∃ k : Nat, k ≤ n ∧ i = .int .i64 k ∧ (xs.take k).contains x = false) (fun i => n - (intOf i).toNat)
  case atStart => exact ⟨0, Nat.zero_le _, rfl, rfl⟩
  case round =>
    obtain ⟨k, hk, rfl, hno⟩ := hrel
    have HNO := Lib.hid hno
    clear hno
    by_cases hlt : k < n
    · obtain ⟨b, off, rfl, hcell⟩ := HC.out k (by rw [HN.out]; exact hlt)
      have ht := take_snoc_getD 0 xs k (by rw [HN.out]; exact hlt)
      by_cases he : xs.getD k 0 = x
      · have hq : (xs.getD k 0 == x) = true := beq_iff_eq.2 he
        have hr : xs.contains x = true := by
          rw [List.contains_iff_mem, ← he, List.getD_eq_getElem?_getD, List.getElem?_eq_getElem (by rw [HN.out]; exact hlt)]
          exact List.getElem_mem _
        have HR1 := Lib.hid (HR.out.trans hr)
        generalize xs.getD k 0 = z at hcell hq
        clear ht he hr
        go_wp2_with fail
        go_ret
        exact ⟨ret_bool HR1.out.symm, rfl⟩
      · have hq : (xs.getD k 0 == x) = false := beq_eq_false_iff_ne.2 he
        have HNX : Hid ((xs.take (k + 1)).contains x = false) := by
          unfold Hid
          rw [ht, Bool.eq_false_iff]
          intro h
          rw [List.contains_iff_mem] at h
          rcases List.mem_append.1 h with h | h
          · have h2 := HNO.out
            rw [Bool.eq_false_iff] at h2
            exact h2 (List.contains_iff_mem.2 h)
          · exact he (List.mem_singleton.1 h).symm
        generalize xs.getD k 0 = z at hcell hq
        clear ht he
        go_wp2_with fail
        go_round
        case rel => exact ⟨k + 1, by omega, by go_num, HNX.out⟩
        case measure => simp [intOf]; omega
    · obtain rfl : k = n := by omega
      have hr := HB.out k rfl HNO.out
      have HR1 := Lib.hid (HR.out.trans hr)
      clear hr
      go_wp2_with fail
      go_ret
      exact ⟨ret_bool HR1.out.symm, rfl⟩

theorem contains_any (xs : List Int) (v : Value) (x : Int) (w : World) (hv : IntsAt w v xs) (hx : xs.length ≤ 1000000) :
    Calls Tryz.prog 86 #[v, .int .i64 x] w (Same (.bool (xs.contains x)) w) := contains_of _ xs v x w rfl hv hx

/-- is each of one's numbers the other's? -/
def partB (f g : List Int) : Bool := f.all fun x => g.contains x
theorem partB_snoc (f : List Int) (x : Int) (g : List Int) : partB (f ++ [x]) g = (partB f g && g.contains x) := by unfold partB; rw [List.all_append]; simp

set_option maxHeartbeats 2000000 in
theorem partOf_of (r : Bool) (xs ys : List Int) (u v : Value) (w : World) (hr : r = partB xs ys) (hu : IntsAt w u xs) (hv : IntsAt w v ys) (hx : xs.length ≤ 1000000) (hy : ys.length ≤ 1000000) :
    Calls Tryz.prog 82 #[u, v] w (Same (.bool r) w) := by
  have HR := Lib.hid hr
  clear hr
  have HCT := Lib.hid (fun x => contains_any ys v x w hv hy)
  clear hv hy
  obtain ⟨p, c, rfl, -, -, hcells⟩ := hu
  have HC := Lib.hid hcells
  clear hcells
  obtain ⟨n, hn⟩ : ∃ n, xs.length = n := ⟨_, rfl⟩
  rw [hn] at hx ⊢
  have HN := Lib.hid hn
  have HB : Hid (∀ k, k = n → partB (xs.take k) ys = true → partB xs ys = true) := fun k hk h => by rwa [List.take_of_length_le (by rw [hn]; omega)] at h
  clear hn
  go_enter Tryz.func82, Tryz.ntmps82
  go_wp2_with fail
  go_loop [5] (fun i => ∃ k : Nat, k ≤ n ∧ i = .int .i64 k ∧ partB (xs.take k) ys = true) (fun i => n - (intOf i).toNat)
  case atStart => exact ⟨0, Nat.zero_le _, rfl, rfl⟩
  case round =>
    obtain ⟨k, hk, rfl, hno⟩ := hrel
    have HNO := Lib.hid hno
    clear hno
    by_cases hlt : k < n
    · obtain ⟨b, off, rfl, hcell⟩ := HC.out k (by rw [HN.out]; exact hlt)
      have ht := take_snoc_getD 0 xs k (by rw [HN.out]; exact hlt)
      cases he : ys.contains (xs.getD k 0) with
      | false =>
        have HR1 : Hid (r = false) := by
          unfold Hid
          rw [HR.out, Bool.eq_false_iff]
          intro h
          have h2 := List.all_eq_true.1 h (xs.getD k 0) (by rw [List.getD_eq_getElem?_getD, List.getElem?_eq_getElem (by rw [HN.out]; exact hlt)]; exact List.getElem_mem _)
          rw [he] at h2; cases h2
        have HK := Lib.hid (HCT.out (xs.getD k 0))
        rw [he] at HK
        generalize xs.getD k 0 = z at hcell HK
        clear ht he
        go_wp2_with fail
        refine HK.out.mono ?_
        rintro e w' ⟨rfl, rfl⟩
        go_wp2_with fail
        go_ret
        exact ⟨ret_bool HR1.out.symm, rfl⟩
      | true =>
        have HNX : Hid (partB (xs.take (k + 1)) ys = true) := by
          unfold Hid
          rw [ht, partB_snoc, HNO.out, he]; rfl
        have HK := Lib.hid (HCT.out (xs.getD k 0))
        rw [he] at HK
        generalize xs.getD k 0 = z at hcell HK
        clear ht he
        go_wp2_with fail
        refine HK.out.mono ?_
        rintro e w' ⟨rfl, rfl⟩
        go_wp2_with fail
        go_round
        case rel => exact ⟨k + 1, by omega, by go_num, HNX.out⟩
        case measure => simp [intOf]; omega
    · obtain rfl : k = n := by omega
      have hr := HB.out k rfl HNO.out
      have HR1 := Lib.hid (HR.out.trans hr)
      clear hr
      go_wp2_with fail
      go_ret
      exact ⟨ret_bool HR1.out.symm, rfl⟩

theorem partOf_any (xs ys : List Int) (u v : Value) (w : World) (hu : IntsAt w u xs) (hv : IntsAt w v ys) (hx : xs.length ≤ 1000000) (hy : ys.length ≤ 1000000) :
    Calls Tryz.prog 82 #[u, v] w (Same (.bool (partB xs ys)) w) := partOf_of _ xs ys u v w rfl hu hv hx hy

theorem ah_app (p a b : List Int) : ah (p ++ a) (p ++ b) = ah a b := by
  induction p with
  | nil => rfl
  | cons x p ih => exact (if_pos rfl : ah (x :: (p ++ a)) (x :: (p ++ b)) = ah (p ++ a) (p ++ b)).trans ih
theorem ah_drop {xs ys : List Int} {k : Nat} (h : xs.take k = ys.take k) : ah xs ys = ah (xs.drop k) (ys.drop k) := by
  conv => lhs; rw [← List.take_append_drop k xs, ← List.take_append_drop k ys, h]
  exact ah_app _ _ _
theorem dropD {α : Type} (d : α) (xs : List α) (k : Nat) (h : k < xs.length) : xs.drop k = xs.getD k d :: xs.drop (k + 1) := by
  rw [List.drop_eq_getElem_cons h, List.getD_eq_getElem?_getD, List.getElem?_eq_getElem h]; rfl
theorem ah_at {xs ys : List Int} {k : Nat} (h : xs.take k = ys.take k) (hx : k < xs.length) (hy : k < ys.length) (hne : xs.getD k 0 ≠ ys.getD k 0) : ah xs ys = decide (xs.getD k 0 < ys.getD k 0) := by
  rw [ah_drop h, dropD 0 xs k hx, dropD 0 ys k hy]
  unfold ah
  rw [if_neg hne]
theorem ah_end {xs ys : List Int} {k : Nat} (h : xs.take k = ys.take k) (he : xs.length ≤ k ∨ ys.length ≤ k) : ah xs ys = decide (xs.length < ys.length) := by
  rw [ah_drop h]
  have hlen := congrArg List.length h
  rw [List.length_take, List.length_take] at hlen
  rcases he with he | he
  · rw [List.drop_of_length_le he]
    by_cases hy : ys.length ≤ k
    · rw [List.drop_of_length_le hy, decide_eq_false (by omega)]; rfl
    · rw [dropD 0 ys k (by omega), decide_eq_true (by omega)]; rfl
  · rw [List.drop_of_length_le he]
    by_cases hx : xs.length ≤ k
    · rw [List.drop_of_length_le hx, decide_eq_false (by omega)]; rfl
    · rw [dropD 0 xs k (by omega), decide_eq_false (by omega)]; rfl

set_option maxHeartbeats 4000000 in
theorem ahead_of (r : Bool) (xs ys : List Int) (u v : Value) (w : World) (hr : r = ah xs ys) (hu : IntsAt w u xs) (hv : IntsAt w v ys) (hx : xs.length ≤ 1000000) (hy : ys.length ≤ 1000000) :
    Calls Tryz.prog 81 #[u, v] w (Drew (.bool r) w) := by
  have HR0 := Lib.hid hr
  clear hr
  obtain ⟨p, c, rfl, -, -, hc1⟩ := hu
  obtain ⟨q, d, rfl, -, -, hc2⟩ := hv
  have H1 := Lib.hid hc1
  have H2 := Lib.hid hc2
  clear hc1 hc2
  obtain ⟨n, hn⟩ : ∃ n, xs.length = n := ⟨_, rfl⟩
  obtain ⟨m, hm⟩ : ∃ m, ys.length = m := ⟨_, rfl⟩
  rw [hn] at hx ⊢
  rw [hm] at hy ⊢
  have HN := Lib.hid hn
  have HM := Lib.hid hm
  clear hn hm
  go_enter Tryz.func81, Tryz.ntmps81
  go_wp2_with fail
  go_loopw [5] (fun i wr => ∃ k z : Nat, k ≤ n ∧ k ≤ m ∧ i = .int .i64 k ∧ xs.take k = ys.take k ∧ wr = w.drewN z) (fun i _ => n - (intOf i).toNat)
  case atStart => exact ⟨0, 0, Nat.zero_le _, Nat.zero_le _, rfl, rfl, rfl⟩
  case round =>
    obtain ⟨k, z, hk, hk2, rfl, htk, rfl⟩ := hrel
    have HT := Lib.hid htk
    clear htk
    by_cases hlt : k < n ∧ k < m
    · obtain ⟨hl1, hl2⟩ := hlt
      have g1 : decide (k < n) = true := decide_eq_true hl1
      have g2 : decide (k < m) = true := decide_eq_true hl2
      obtain ⟨b1, o1, rfl, hcell1⟩ := H1.out k (by rw [HN.out]; exact hl1)
      obtain ⟨b2, o2, rfl, hcell2⟩ := H2.out k (by rw [HM.out]; exact hl2)
      by_cases he : xs.getD k 0 = ys.getD k 0
      · have HNX : Hid (xs.take (k + 1) = ys.take (k + 1)) := by
          unfold Hid
          rw [take_snoc_getD 0 _ _ (by rw [HN.out]; exact hl1), take_snoc_getD 0 _ _ (by rw [HM.out]; exact hl2), HT.out, he]
        rw [he] at hcell1
        generalize ys.getD k 0 = y at hcell1 hcell2
        clear he
        go_wp2_with fail
        go_quiet (fail)
        go_wp2_with fail
        go_roundw
        case rel => exact ⟨k + 1, _, by omega, by omega, by go_num, HNX.out, rfl⟩
        case measure => simp [intOf]; omega
      · have HR := Lib.hid (HR0.out.trans <| ah_at HT.out (by rw [HN.out]; exact hl1) (by rw [HM.out]; exact hl2) he)
        have hbe : (xs.getD k 0 != ys.getD k 0) = true := by rw [bne_iff_ne]; exact he
        generalize xs.getD k 0 = z1 at hcell1 hbe HR
        generalize ys.getD k 0 = z2 at hcell2 hbe HR
        clear he
        go_wp2_with fail
        go_quiet (fail)
        go_wp2_with fail
        go_quiet (fail)
        go_wp2_with fail
        go_ret
        exact ⟨ret_bool HR.out.symm, _, by rw [World.drewN_drewN, World.drewN_drewN]⟩
    · have HR := Lib.hid (HR0.out.trans <| ah_end HT.out (by rw [HN.out, HM.out]; omega))
      rw [HN.out, HM.out] at HR
      by_cases hl1 : k < n
      · have hl2 : ¬ k < m := fun h => hlt ⟨hl1, h⟩
        have g1 : decide (k < n) = true := decide_eq_true hl1
        have g2 : decide (k < m) = false := decide_eq_false hl2
        clear hlt
        go_wp2_with fail
        go_ret
        exact ⟨ret_bool HR.out.symm, _, rfl⟩
      · have g1 : decide (k < n) = false := decide_eq_false hl1
        clear hlt
        go_wp2_with fail
        go_ret
        exact ⟨ret_bool HR.out.symm, _, rfl⟩
theorem ahead_any (xs ys : List Int) (u v : Value) (w : World) (hu : IntsAt w u xs) (hv : IntsAt w v ys) (hx : xs.length ≤ 1000000) (hy : ys.length ≤ 1000000) :
    Calls Tryz.prog 81 #[u, v] w (Drew (.bool (ah xs ys)) w) := ahead_of _ xs ys u v w rfl hu hv hx hy
end Go.Proofs.YtoheffkiohfmoaaGreatDoor
