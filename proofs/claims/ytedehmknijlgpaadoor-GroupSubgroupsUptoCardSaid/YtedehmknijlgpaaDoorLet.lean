/-
  Group.letters, Group.Valid by contracts.
-/
import Derived.Test.YtedehmknijlgpaaDoorCatG
set_option linter.unusedSimpArgs false
set_option linter.unusedVariables false
namespace Go.Proofs.YtedehmknijlgpaaDoor
open Go Go.RowKit Go.Maps

/-- a function of one number, by a closure with one box -/
def FnI (w0 : World) (c : Value) (p : Int → Bool) : Prop := ∀ w, Below w0.heap.size w0 w → ∀ x, Calls Tryd.prog 48 #[.int .i64 x, c] w (fun e w' => e = .returned (.bool (p x)) ∧ Below w.heap.size w w')
def AnyPost (r : Bool) (w : World) (e : Ending) (w' : World) : Prop := ∃ x : Int, e = .returned (.int .i64 x) ∧ Below w.heap.size w w' ∧ r = decide (0 ≤ x)

set_option maxRecDepth 100000 in
set_option maxHeartbeats 8000000 in
theorem indexI_any (c : Value) (p : Int → Bool) (xs : List Int) (v : Value) (w : World) (hf : FnI w c p) (hv : IntsAt w v xs) (hn : xs.length ≤ 1000000) :
    Calls Tryd.prog 59 #[v, .func (.func 48) #[] #[c]] w (AnyPost (xs.any p) w) := by
  obtain ⟨pv, cv, hve, -⟩ := id hv
  obtain ⟨n, hLn⟩ : ∃ n, xs.length = n := ⟨_, rfl⟩
  rw [hLn] at hve hn
  subst hve
  have HLN := Lib.hid hLn
  have HV := Lib.hid hv
  have HF := Lib.hid hf
  unfold FnI at HF
  clear hLn hv hf
  go_enter Tryd.func59, Tryd.ntmps59
  go_wp2_with fail
  go_loopw [5, 8] (fun _ i wr => ∃ j : Nat, j ≤ n ∧ i = .int .i64 j ∧ Below w.heap.size w wr ∧ ∀ k, k < j → p (xs.getD k 0) = false) (fun _ i _ => n - (intOf i).toNat)
  case atStart => exact ⟨0, Nat.zero_le _, rfl, Below.refl _ _, fun k h => absurd h (by omega)⟩
  case round =>
    obtain ⟨j, hj, rfl, hb, hno⟩ := hrel
    have HB := Lib.hid hb
    have HNO := Lib.hid hno
    have hIA := HV.out.below hb (Nat.le_refl _)
    clear hb hno
    by_cases hjn : j < n
    · have hjL : j < xs.length := by rw [HLN.out]; exact hjn
      obtain ⟨p', c', hv', -, -, hx⟩ := id hIA
      obtain ⟨b, off, e1, e2⟩ := hx j hjL
      cases hv'
      subst e1
      have HC := Lib.hid (HF.out wr HB.out (xs.getD j 0))
      have HM : Hid (xs.getD j 0 ∈ xs) := by unfold Hid; rw [List.getD_eq_getElem?_getD, List.getElem?_eq_getElem hjL]; exact List.getElem_mem _
      obtain ⟨x, hxx⟩ : ∃ x, xs.getD j 0 = x := ⟨_, rfl⟩
      rw [hxx] at e2 HC HM
      obtain ⟨r, hr⟩ : ∃ r, p x = r := ⟨_, rfl⟩
      rw [hr] at HC
      have HX := Lib.hid hxx
      have HR := Lib.hid hr
      clear hx hxx hr hIA hjL
      cases r with
      | true =>
        go_wp2_with fail
        refine HC.out.mono ?_
        rintro e w1 ⟨rfl, hb1⟩
        have HB1 := Lib.hid (HB.out.trans (hb1.mono HB.out.size))
        clear hb1
        go_wp2_with fail
        go_ret
        refine ⟨_, rfl, HB1.out, ?_⟩
        rw [List.any_eq_true.2 ⟨x, HM.out, HR.out⟩]
        exact (decide_eq_true (by omega)).symm
      | false =>
        go_wp2_with fail
        refine HC.out.mono ?_
        rintro e w1 ⟨rfl, hb1⟩
        have HB1 := Lib.hid (HB.out.trans (hb1.mono HB.out.size))
        clear hb1
        go_wp2_with fail
        go_roundw
        case rel =>
          refine ⟨j + 1, by omega, by go_num, HB1.out, fun k hk => ?_⟩
          rcases (show k < j ∨ k = j by omega) with h | rfl
          · exact HNO.out k h
          · rw [HX.out]; exact HR.out
        case measure => simp [intOf]; omega
    · obtain rfl : j = n := by omega
      have HA : Hid (xs.any p = false) := by
        unfold Hid
        rw [List.any_eq_false]
        intro x hm
        obtain ⟨k, hk, rfl⟩ := List.getElem_of_mem hm
        have := HNO.out k (by rw [← HLN.out]; exact hk)
        rw [List.getD_eq_getElem?_getD, List.getElem?_eq_getElem hk] at this
        simpa using this
      go_wp2_with fail
      go_ret
      refine ⟨_, rfl, HB.out, ?_⟩
      rw [HA.out]
      exact (decide_eq_false (by decide)).symm

set_option maxHeartbeats 4000000 in
theorem containsI_any (c : Value) (p : Int → Bool) (xs : List Int) (v : Value) (w : World) (hf : FnI w c p) (hv : IntsAt w v xs) (hn : xs.length ≤ 1000000) :
    Calls Tryd.prog 47 #[v, .func (.func 48) #[] #[c]] w (Gives (.bool (xs.any p)) w) := by
  have HC := Lib.hid (indexI_any c p xs v w hf hv hn)
  unfold AnyPost at HC
  obtain ⟨r, hr⟩ : ∃ r, xs.any p = r := ⟨_, rfl⟩
  rw [hr] at HC ⊢
  clear hf hv hn hr
  go_enter Tryd.func47, Tryd.ntmps47
  go_wp2_with fail
  refine HC.out.mono ?_
  rintro e w1 ⟨x, rfl, hb, hrx⟩
  have HB := Lib.hid hb
  have HRX := Lib.hid hrx
  clear hb hrx
  go_wp2_with fail
  go_ret
  exact ⟨ret_bool HRX.out.symm, HB.out⟩


/-- no letter of a group's -/
def badL (G : Nat) (x : Int) : Bool := decide (x = 0 ∨ (G : Int) < x ∨ x < -(G : Int))
theorem letters1_any (G b : Nat) (u : Value) (t : TypeId) (x : Int) (w : World) (hG : G ≤ 1000) (hb : w.heap[b]? = some (.cells #[.int .i64 (G : Int), u] t (0, 0))) :
    Calls Tryd.prog 48 #[.int .i64 x, .pointer (some ⟨b, 0, none⟩)] w (fun e w' => e = .returned (.bool (badL G x)) ∧ Below w.heap.size w w') := by
  have c0 : w.cell? ⟨b, 0, none⟩ = some (.int .i64 (G : Int)) := by simp [World.cell?, hb]
  unfold badL
  clear hb
  by_cases h0 : x = 0
  · have q0 : (x == 0) = true := beq_iff_eq.2 h0
    rw [decide_eq_true (.inl h0)]
    subst h0
    go_enter Tryd.func48, Tryd.ntmps48
    go_wp2_with fail
    go_ret
    exact ⟨rfl, Below.refl _ _⟩
  · have q0 : (x == 0) = false := beq_eq_false_iff_ne.2 h0
    by_cases h1 : (G : Int) < x
    · rw [decide_eq_true (.inr (.inl h1))]
      clear h0
      go_enter Tryd.func48, Tryd.ntmps48
      go_wp2_with fail
      go_ret
      exact ⟨rfl, Below.refl _ _⟩
    · by_cases h2 : x < -(G : Int)
      · rw [decide_eq_true (.inr (.inr h2))]
        clear h0
        go_enter Tryd.func48, Tryd.ntmps48
        go_wp2_with fail
        go_ret
        exact ⟨rfl, Below.refl _ _⟩
      · rw [decide_eq_false (by omega)]
        clear h0
        go_enter Tryd.func48, Tryd.ntmps48
        go_wp2_with fail
        go_ret
        exact ⟨rfl, Below.refl _ _⟩
set_option maxHeartbeats 4000000 in
theorem letters_any (G : Nat) (u v : Value) (xs : List Int) (w : World) (hG : G ≤ 1000) (hv : IntsAt w v xs) (hn : xs.length ≤ 1000000) :
    Calls Tryd.prog 26 #[.agg #[.int .i64 (G : Int), u], v] w (Gives (.bool (!xs.any (badL G))) w) := by
  have hb : Below w.heap.size w (w.alloc (.cells #[.int .i64 (G : Int), u] 33)) := (Below.refl _ _).alloc (Nat.le_refl _) _
  have HB := Lib.hid hb
  have HC := Lib.hid (containsI_any (.pointer (some ⟨w.heap.size, 0, none⟩)) (badL G) xs v (w.alloc (.cells #[.int .i64 (G : Int), u] 33)) (fun w' hb' x => letters1_any G w.heap.size u _ x w' hG ((hb'.block _ (by simp)).trans (heap_alloc_new w _))) (hv.in.below hb (Nat.le_refl _)).at hn)
  unfold Gives at HC ⊢
  obtain ⟨r, hr⟩ : ∃ r, xs.any (badL G) = r := ⟨_, rfl⟩
  rw [hr] at HC ⊢
  clear hb hv hr
  go_enter Tryd.func26, Tryd.ntmps26
  go_wp2_with fail
  refine HC.out.mono ?_
  rintro e w1 ⟨rfl, hb1⟩
  have HB1 := Lib.hid (HB.out.trans (hb1.mono (by simp)))
  clear hb1
  go_wp2_with fail
  go_ret
  exact ⟨rfl, HB1.out⟩

/-- the two sentinels that groups give -/
def errG (a : Addr) : Value := .iface 129 (.pointer (some a))
structure Sen (w : World) (a1 a2 : Addr) : Prop where
  b : w.cell? ⟨0, 0, none⟩ = some (.iface 129 (.pointer (some a1)))
  s : w.cell? ⟨1, 0, none⟩ = some (.iface 129 (.pointer (some a2)))
theorem Sen.below {w w' : World} {a1 a2 : Addr} {B : Nat} (h : Sen w a1 a2) (hb : Below B w w') (hB : w.heap.size ≤ B) : Sen w' a1 a2 :=
  ⟨(hb.cell (Nat.lt_of_lt_of_le (mem_lt h.b) hB)).trans h.b, (hb.cell (Nat.lt_of_lt_of_le (mem_lt h.s) hB)).trans h.s⟩
/-- a group's error, as a number: 0, 1 (bound), 3 (shape) -/
def groupErr (G : Int) (L : List (List Int)) : Nat := if G < 0 ∨ 12 < G ∨ 400 < L.flatten.length ∨ 400 < L.length then 1 else if L.flatten.any (badL G.toNat) = true then 2 else 0
def errV (a1 a2 : Addr) (c : Nat) : Value := if c = 0 then .nilIface else if c = 1 then errG a1 else errG a2
def ValidP (a1 a2 : Addr) (c : Nat) (w : World) (e : Ending) (w' : World) : Prop := e = .returned (errV a1 a2 c) ∧ Below w.heap.size w w'
set_option maxRecDepth 100000 in
set_option maxHeartbeats 8000000 in
theorem valid_any (B : Nat) (G : Int) (L : List (List Int)) (v : Value) (a1 a2 : Addr) (w : World) (hS : Sen w a1 a2) (hv : ListsIn B w v L) (hn : L.length ≤ 1000000) (hs : L.flatten.length ≤ 1000000) :
    Calls Tryd.prog 24 #[.agg #[.int .i64 G, v]] w (ValidP a1 a2 (groupErr G L) w) := by
  obtain ⟨pv, cv, hve, -⟩ := id hv
  obtain ⟨n, hLn⟩ : ∃ n, L.length = n := ⟨_, rfl⟩
  rw [hLn] at hve hn
  subst hve
  have hb0 : Below w.heap.size w (w.alloc (.cells #[.int .i64 G, .slice pv n cv] 33)) := (Below.refl _ _).alloc (Nat.le_refl _) _
  obtain ⟨w1, hw1⟩ : ∃ w1, w.alloc (.cells #[.int .i64 G, .slice pv n cv] 33) = w1 := ⟨_, rfl⟩
  have hg1 := heap_alloc_new w (.cells #[.int .i64 G, .slice pv n cv] 33)
  rw [hw1] at hb0 hg1
  have HG1 := Lib.hid hg1
  have HB0 := Lib.hid hb0
  have HW1 := Lib.hid hw1
  have HC := Lib.hid (catI_any B L (.slice pv n cv) w1 (hv.below hb0 (Nat.le_refl _)) (by rw [hLn]; exact hn) hs)
  unfold CatP at HC
  obtain ⟨m, hm⟩ : ∃ m, L.flatten.length = m := ⟨_, rfl⟩
  rw [hm] at HC hs
  have HM := Lib.hid hm
  have HLN := Lib.hid hLn
  have HS := Lib.hid (hS.below hb0 (Nat.le_refl _))
  unfold ValidP
  clear hS hv hb0 hg1 hw1 hm hLn
  have c0 : w1.cell? ⟨w.heap.size, 0, none⟩ = some (.int .i64 G) := by simp [World.cell?, HG1.out]
  have c1 : w1.cell? ⟨w.heap.size, 1, none⟩ = some (.slice pv n cv) := by simp [World.cell?, HG1.out]
  go_enter Tryd.func24, Tryd.ntmps24
  go_upto_region 1 with fail
  rw [HW1.out]
  go_wp2_with fail
  refine HC.out.mono ?_
  rintro e w2 ⟨p, c, rfl, hb2, ho2⟩
  have d0 := (hb2.cell (p := ⟨w.heap.size, 0, none⟩) (mem_lt c0)).trans c0
  have d1 := (hb2.cell (p := ⟨w.heap.size, 1, none⟩) (mem_lt c1)).trans c1
  have hS2 := HS.out.below hb2 (Nat.le_refl _)
  have HB2 := Lib.hid (HB0.out.trans (hb2.mono HB0.out.size))
  have HI := Lib.hid (ints_owned (B := B) (xs := L.flatten) ho2 HM.out.symm).at
  have e1 := hS2.b
  have e2 := hS2.s
  clear hb2 ho2 hS2 c0 c1
  by_cases hbad : G < 0 ∨ 12 < G ∨ 400 < m ∨ 400 < n
  · have HE : Hid (errV a1 a2 (groupErr G L) = errG a1) := by unfold Hid groupErr errV; rw [HM.out, HLN.out, if_pos hbad, if_neg (by decide), if_pos rfl]
    clear e2
    by_cases k1 : G < 0
    · clear hbad
      go_wp2_with fail
      go_ret
      rw [HE.out]
      exact ⟨rfl, HB2.out⟩
    · by_cases k2 : 12 < G
      · clear hbad
        go_wp2_with fail
        go_ret
        rw [HE.out]
        exact ⟨rfl, HB2.out⟩
      · by_cases k3 : 400 < m
        · clear hbad
          go_wp2_with fail
          go_ret
          rw [HE.out]
          exact ⟨rfl, HB2.out⟩
        · have k4 : 400 < n := by omega
          clear hbad
          go_wp2_with fail
          go_ret
          rw [HE.out]
          exact ⟨rfl, HB2.out⟩
  · obtain ⟨g, rfl⟩ : ∃ g : Nat, G = (g : Int) := ⟨G.toNat, by omega⟩
    have hg : g ≤ 12 := by omega
    have k3 : m ≤ 400 := by omega
    have k4 : n ≤ 400 := by omega
    have HE : Hid (groupErr (g : Int) L = if L.flatten.any (badL g) = true then 2 else 0) := by unfold Hid groupErr; rw [HM.out, HLN.out, if_neg hbad, Int.toNat_natCast]
    have HLT := Lib.hid (letters_any g (.slice pv n cv) (.slice p m c) L.flatten w2 (by omega) HI.out (by rw [HM.out]; omega))
    unfold Gives at HLT
    obtain ⟨r, hr⟩ : ∃ r, L.flatten.any (badL g) = r := ⟨_, rfl⟩
    rw [hr] at HLT HE
    clear hbad hr
    cases r with
    | true =>
      have HE2 : Hid (errV a1 a2 (groupErr (g : Int) L) = .iface 129 (.pointer (some a2))) := by unfold Hid; rw [HE.out]; rfl
      have HS2 : Hid (w2.cell? ⟨1, 0, none⟩ = some (.iface 129 (.pointer (some a2)))) := e2
      clear e1 e2 HE
      go_wp2_with fail
      refine HLT.out.mono ?_
      rintro e w3 ⟨rfl, hb3⟩
      have e2 := (hb3.cell (p := ⟨1, 0, none⟩) (mem_lt HS2.out)).trans HS2.out
      have HB3 := Lib.hid (HB2.out.trans (hb3.mono HB2.out.size))
      clear hb3 d0 d1
      go_wp2_with fail
      go_ret
      rw [HE2.out]
      exact ⟨rfl, HB3.out⟩
    | false =>
      have HE2 : Hid (errV a1 a2 (groupErr (g : Int) L) = .nilIface) := by unfold Hid; rw [HE.out]; rfl
      clear e1 e2 HE
      go_wp2_with fail
      refine HLT.out.mono ?_
      rintro e w3 ⟨rfl, hb3⟩
      have HB3 := Lib.hid (HB2.out.trans (hb3.mono HB2.out.size))
      clear hb3 d0 d1
      go_wp2_with fail
      go_ret
      rw [HE2.out]
      exact ⟨rfl, HB3.out⟩
end Go.Proofs.YtedehmknijlgpaaDoor
