/-
  Cosets in memory; of, column by contracts.
-/
import Derived.Test.YtedehmknijlgpaaDoorRowG
import Derived.Test.YtedehmknijlgpaaDoorTcF
set_option linter.unusedSimpArgs false
set_option linter.unusedVariables false
namespace Go.Proofs.YtedehmknijlgpaaDoor
open Go Go.RowKit Go.Maps

def natI (S : List Nat) : List Int := S.map Int.ofNat
theorem natI_len (S : List Nat) : (natI S).length = S.length := List.length_map ..
theorem natI_at {S : List Nat} {k : Nat} (hk : k < S.length) : (natI S).getD k 0 = ((S.getD k k : Nat) : Int) := by
  unfold natI
  rw [List.getD_eq_getElem?_getD, List.getD_eq_getElem?_getD, List.getElem?_map, List.getElem?_eq_getElem hk]; rfl
theorem natI_set (S : List Nat) (k x : Nat) : (natI S).set k (x : Int) = natI (S.set k x) := by unfold natI; rw [List.map_set]; rfl
theorem natI_app (S : List Nat) (x : Nat) : natI S ++ [(x : Int)] = natI (S ++ [x]) := by unfold natI; rw [List.map_append]; rfl

/-- a *cosets in memory: at cb; its rows, what stands for what -/
structure CosH (O cb : Nat) (w : World) (m : TC.St) (vR vS : Value) (hs : List Value) : Prop where
  blk : w.heap[cb]? = some (.cells #[vR, vS, .bool m.full] 58 (0, 0))
  rows : HasH O w vR m.R hs
  same : IntO O w vS (natI m.S)
  low : cb < O
  apart : ∀ i, i < m.R.length → ∀ k, (hs.getD i .nilIface).ownBlock = some k → vS.ownBlock ≠ some k
theorem CosH.below {O cb C : Nat} {w w' : World} {m : TC.St} {vR vS : Value} {hs : List Value} (h : CosH O cb w m vR vS hs) (hb : Below C w w') (hC : w.heap.size ≤ C) : CosH O cb w' m vR vS hs :=
  ⟨by rw [hb.block cb (Nat.lt_of_lt_of_le (Array.getElem?_eq_some_iff.1 h.blk).1 hC)]; exact h.blk, h.rows.below hb hC, h.same.below hb hC, h.low, h.apart⟩
theorem three_at {w : World} {b : Nat} {x y z : Value} {t : TypeId} (h : w.heap[b]? = some (.cells #[x, y, z] t (0, 0))) : w.cell? ⟨b, 0, none⟩ = some x ∧ w.cell? ⟨b, 1, none⟩ = some y ∧ w.cell? ⟨b, 2, none⟩ = some z ∧ w.frozen? ⟨b, 0, none⟩ = false ∧ w.frozen? ⟨b, 1, none⟩ = false ∧ w.frozen? ⟨b, 2, none⟩ = false := by simp [World.cell?, World.frozen?, h]

def GivesK (v : Value) (w : World) (e : Ending) (w' : World) : Prop := e = .returned v ∧ w' = w
set_option maxHeartbeats 4000000 in
theorem of_any (O cb k : Nat) (m : TC.St) (vR vS : Value) (hs : List Value) (w : World) (h : CosH O cb w m vR vS hs) (hW : TC.Wfs m.S) (hk : k < m.S.length) (hn : m.S.length ≤ 5000) :
    Calls Tryd.prog 29 #[.pointer (some ⟨cb, 0, none⟩), .int .i64 (k : Int)] w (GivesK (.int .i64 ((TC.rep m.S k : Nat) : Int)) w) := by
  obtain ⟨g, c, hve, -, -⟩ := h.same.form (by rw [natI_len]; omega)
  rw [natI_len] at hve
  have hS := h.same
  rw [hve] at hS
  have hblk := h.blk
  rw [hve] at hblk
  have HC := Lib.hid (fun (j : Nat) (hj : j < m.S.length) => (by have := hS.cellsAt j (by rw [natI_len]; exact hj); rwa [natI_at hj] at this : w.cell? ⟨g, j, none⟩ = some (.int .i64 ((m.S.getD j j : Nat) : Int))))
  have c1 := (three_at hblk).2.1
  obtain ⟨n, hnn⟩ : ∃ n, m.S.length = n := ⟨_, rfl⟩
  rw [hnn] at hk hn c1
  have HN := Lib.hid hnn
  have HW := Lib.hid hW
  unfold GivesK
  clear h hve hS hblk hW hnn
  go_enter Tryd.func29, Tryd.ntmps29
  go_wp2_with fail
  go_loopw [1] (fun s wr => ∃ j : Nat, j < n ∧ s = .int .i64 (j : Int) ∧ wr = w ∧ TC.rep m.S j = TC.rep m.S k) (fun s _ => (intOf s).toNat)
  case atStart => exact ⟨k, hk, rfl, rfl, rfl⟩
  case round =>
    obtain ⟨j, hj, rfl, rfl, hr⟩ := hrel
    have cj := HC.out j (by rw [HN.out]; exact hj)
    have hle := HW.out j
    have HST := Lib.hid (TC.rep_step HW.out j)
    have HSF := Lib.hid (fun e => TC.rep_self (S := m.S) (k := j) e)
    have HR := Lib.hid hr
    generalize m.S.getD j j = x at cj hle HST HSF
    clear hr
    by_cases hx : x = j
    · have HX : Hid (TC.rep m.S k = j) := by unfold Hid; rw [← HR.out]; exact HSF.out hx
      subst hx
      go_wp2_with fail
      go_ret
      exact ⟨by rw [HX.out]; rfl, rfl⟩
    · have q1 : ((x : Int) != (j : Int)) = true := by simp; omega
      have HX : Hid (TC.rep m.S x = TC.rep m.S k) := by unfold Hid; rw [← HST.out]; exact HR.out
      have hxl : x < j := by omega
      clear hx
      go_wp2_with fail
      go_roundw
      case rel => exact ⟨x, by omega, rfl, (by first | rfl | trivial), HX.out⟩
      case measure => simp [intOf]; omega

/-- a letter's column -/
def colN (x : Int) : Nat := if 0 < x then (2 * (x - 1)).toNat else (2 * (-x - 1) + 1).toNat
theorem column_any (x : Int) (w : World) (h0 : x ≠ 0) (hx : -1000000 ≤ x ∧ x ≤ 1000000) : Calls Tryd.prog 49 #[.int .i64 x] w (GivesK (.int .i64 ((colN x : Nat) : Int)) w) := by
  unfold GivesK colN
  by_cases hp : 0 < x
  · have e1 : (((if 0 < x then (2 * (x - 1)).toNat else (2 * (-x - 1) + 1).toNat : Nat)) : Int) = 2 * (x - 1) := by rw [if_pos hp]; omega
    rw [e1]
    obtain ⟨h1, h2⟩ := hx
    clear e1
    go_enter Tryd.func49, Tryd.ntmps49
    go_wp2_with fail
    go_ret
    exact ⟨rfl, rfl⟩
  · have e1 : (((if 0 < x then (2 * (x - 1)).toNat else (2 * (-x - 1) + 1).toNat : Nat)) : Int) = 2 * (-x - 1) + 1 := by rw [if_neg hp]; omega
    rw [e1]
    obtain ⟨h1, h2⟩ := hx
    have hp2 : x < 0 := by omega
    clear e1
    go_enter Tryd.func49, Tryd.ntmps49
    go_wp2_with fail
    go_ret
    exact ⟨rfl, rfl⟩
end Go.Proofs.YtedehmknijlgpaaDoor
