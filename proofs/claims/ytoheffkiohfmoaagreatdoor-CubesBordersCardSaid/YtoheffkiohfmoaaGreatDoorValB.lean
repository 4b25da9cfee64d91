/-
  cubes.Valid by a contract: the error's number.
-/
import Derived.Test.YtoheffkiohfmoaaGreatDoorValA
import Derived.Test.YtoheffkiohfmoaaGreatDoorErrsD
set_option linter.unusedSimpArgs false
set_option linter.unusedVariables false
namespace Go.Proofs.YtoheffkiohfmoaaGreatDoor
open Go Go.RowKit Go.Maps FL

theorem bytes_ext {r : ByteArray} (h : r.data.toList = []) : r = ⟨#[]⟩ := by
  cases r; rename_i d; cases d; simp at h; subst h; rfl
def errOf (a : Nat → Addr) (c : Int) : Value := if c = 0 then .nilIface else errE (a (c - 1).toNat)
theorem errOf_zero (a : Nat → Addr) : errOf a 0 = .nilIface := rfl
theorem errOf_at {a : Nat → Addr} {w : World} {c : Int} (h0 : 0 ≤ c) (h1 : c ≤ 8) : ErrAt a w (errOf a c) c (-1) := by
  unfold errOf
  by_cases h : c = 0
  · subst h; exact ErrAt.nil a w
  · rw [if_neg h]
    have := ErrAt.sent a w (c - 1).toNat (by omega)
    rwa [show (((c - 1).toNat : Nat) : Int) + 1 = c by omega] at this
def errV (ms : List ByteArray) : Int := errI 2 3 1 ms
theorem any_row {ms : List ByteArray} {p : ByteArray → Bool} : ms.any p = true ↔ ∃ j, j < ms.length ∧ p (rowB ms j) = true := by
  rw [List.any_eq_true]
  constructor
  · rintro ⟨r, hr, hp⟩
    obtain ⟨j, hj, rfl⟩ := List.getElem_of_mem hr
    exact ⟨j, hj, by unfold rowB; rw [List.getD_eq_getElem?_getD, List.getElem?_eq_getElem hj]; exact hp⟩
  · rintro ⟨j, hj, hp⟩
    unfold rowB at hp
    rw [List.getD_eq_getElem?_getD, List.getElem?_eq_getElem hj] at hp
    exact ⟨_, List.getElem_mem hj, hp⟩
theorem any_row_no {ms : List ByteArray} {p : ByteArray → Bool} (h : ∀ j, j < ms.length → p (rowB ms j) = false) : ms.any p = false := by
  rw [Bool.eq_false_iff]
  intro h1
  obtain ⟨j, hj, hp⟩ := any_row.1 h1
  rw [h j hj] at hp; cases hp
theorem errV_len {ms : List ByteArray} (h : 24 < ms.length) : errV ms = 2 := by unfold errV errI bigI; simp [h]
theorem errV_wide {ms : List ByteArray} {j : Nat} (hj : j < ms.length) (h : 24 < (rowB ms j).size) : errV ms = 2 := by
  have : ms.any (fun r => decide (24 < r.size)) = true := any_row.2 ⟨j, hj, by simpa using h⟩
  unfold errV errI bigI; rw [this]; simp
theorem big_no {ms : List ByteArray} (h : ¬ 24 < ms.length) (h2 : ∀ j, j < ms.length → (rowB ms j).size ≤ 24) : bigI ms = false := by
  unfold bigI
  rw [any_row_no (fun j hj => by have := h2 j hj; simp; omega)]
  simp; omega
theorem errV_uneven {ms : List ByteArray} (hb : bigI ms = false) {j : Nat} (hj : j < ms.length) (h : (rowB ms j).size ≠ (rowB ms 0).size) : errV ms = 3 := by
  have : unevenI ms = true := any_row.2 ⟨j, hj, by simpa using h⟩
  unfold errV errI; rw [hb, this]; rfl
theorem uneven_no {ms : List ByteArray} (h2 : ∀ j, j < ms.length → (rowB ms j).size = (rowB ms 0).size) : unevenI ms = false := any_row_no (fun j hj => by simpa using h2 j hj)
theorem errV_other {ms : List ByteArray} (hb : bigI ms = false) (hu : unevenI ms = false) {j : Nat} (hj : j < ms.length) (h : ¬ ∀ b ∈ (rowB ms j).data.toList, dotB b = true) : errV ms = 1 := by
  have : otherI ms = true := any_row.2 ⟨j, hj, by
    rw [List.any_eq_true]
    refine Classical.byContradiction fun hc => h fun b hbm => ?_
    cases hd : dotB b with
    | true => rfl
    | false => exact absurd ⟨b, hbm, by rw [hd]; rfl⟩ hc⟩
  unfold errV errI; rw [hb, hu, this]; rfl
theorem errV_none {ms : List ByteArray} (hb : bigI ms = false) (hu : unevenI ms = false) (h : ∀ j, j < ms.length → ∀ b ∈ (rowB ms j).data.toList, dotB b = true) : errV ms = 0 := by
  have : otherI ms = false := any_row_no (fun j hj => by
    rw [Bool.eq_false_iff]
    intro h1
    obtain ⟨b, hbm, hd⟩ := List.any_eq_true.1 h1
    rw [h j hj b hbm] at hd; cases hd)
  unfold errV errI; rw [hb, hu, this]; rfl
theorem errV_range (ms : List ByteArray) : 0 ≤ errV ms ∧ errV ms ≤ 8 := by
  unfold errV errI
  split
  · omega
  · split
    · omega
    · split <;> omega

theorem errV_zero {ms : List ByteArray} (h : errV ms = 0) : ms.length ≤ 24 ∧ (∀ j, j < ms.length → (rowB ms j).size = wideI ms) ∧ wideI ms ≤ 24 := by
  have hb : bigI ms = false := by
    cases hb : bigI ms with
    | false => rfl
    | true => unfold errV errI at h; rw [hb] at h; simp at h
  have hu : unevenI ms = false := by
    cases hu : unevenI ms with
    | false => rfl
    | true => unfold errV errI at h; rw [hb, hu] at h; simp at h
  unfold bigI at hb
  rw [Bool.or_eq_false_iff] at hb
  have h1 : ms.length ≤ 24 := by have := of_decide_eq_false hb.1; omega
  have h2 : ∀ j, j < ms.length → (rowB ms j).size ≤ 24 := fun j hj => by
    refine Classical.byContradiction fun hc => ?_
    have := any_row (p := fun r : ByteArray => decide (24 < r.size)).2 ⟨j, hj, decide_eq_true (show 24 < (rowB ms j).size by omega)⟩
    rw [hb.2] at this; cases this
  have h3 : ∀ j, j < ms.length → (rowB ms j).size = (rowB ms 0).size := fun j hj => by
    refine Classical.byContradiction fun hc => ?_
    have := any_row (p := fun r : ByteArray => decide (r.size ≠ (rowB ms 0).size)).2 ⟨j, hj, decide_eq_true hc⟩
    unfold unevenI at hu
    rw [hu] at this; cases this
  refine ⟨h1, fun j hj => ?_, ?_⟩
  · unfold wideI; rw [if_neg (by omega)]; exact h3 j hj
  · unfold wideI
    by_cases h0 : ms.length = 0
    · rw [if_pos h0]; omega
    · rw [if_neg h0]; exact h2 0 (by omega)
theorem errOf_iface {a : Nat → Addr} {c : Int} (h : c ≠ 0) : ∃ t p, errOf a c = .iface t p := by
  unfold errOf errE
  rw [if_neg h]
  exact ⟨_, _, rfl⟩
def ValP (a : Nat → Addr) (ms : List ByteArray) (w : World) (e : Ending) (w' : World) : Prop := e = .returned (errOf a (errV ms)) ∧ Below w.heap.size w w'
set_option maxRecDepth 100000 in
set_option maxHeartbeats 8000000 in
theorem valid_any (a : Nat → Addr) (ms : List ByteArray) (v : Value) (w : World) (hS : Sents w a) (h : StrsAt w v ms) (hsz : ∀ j, (rowB ms j).size ≤ 9223372036854775807) :
    Calls Tryz.prog 63 #[v] w (ValP a ms w) := by
  obtain ⟨pv, cv, hve, -⟩ := id h
  obtain ⟨n, hn⟩ : ∃ n, ms.length = n := ⟨_, rfl⟩
  rw [hn] at hve
  subst hve
  have g0 := hS.g 0 (by decide)
  have g1 := hS.g 1 (by decide)
  have g2 := hS.g 2 (by decide)
  simp only [gnum] at g0 g1 g2
  have HG0 := Lib.hid g0
  have HN := Lib.hid hn
  have HST := Lib.hid h
  have HSZ := Lib.hid hsz
  have HE : Hid (∀ k, (errV ms : Int) = k → errOf a k = errOf a (errV ms)) := fun k e => by rw [e]
  have E1 : errOf a 1 = .iface 251 (.pointer (some (a 0))) := rfl
  have E2 : errOf a 2 = .iface 251 (.pointer (some (a 1))) := rfl
  have E3 : errOf a 3 = .iface 251 (.pointer (some (a 2))) := rfl
  rw [E1.symm] at g0
  have HE1 := Lib.hid E1
  have HE2 := Lib.hid E2
  have HE3 := Lib.hid E3
  clear hS h hsz hn g0 E1 E2 E3
  unfold ValP
  by_cases h24 : 24 < n
  · have HV := Lib.hid (errV_len (ms := ms) (by rw [HN.out]; exact h24))
    go_enter Tryz.func63, Tryz.ntmps63
    go_wp2_with fail
    go_ret
    exact ⟨by rw [HV.out, HE2.out]; rfl, Below.refl _ _⟩
  · have HN24 := Lib.hid h24
    have q24 : decide ((24 : Int) < (n : Int)) = false := decide_eq_false (by omega)
    have hn24 : n ≤ 24 := by omega
    clear h24
    go_enter Tryz.func63, Tryz.ntmps63
    go_wp2_with fail
    go_loop [15] (fun i => ∃ k : Nat, k ≤ n ∧ i = .int .i64 k ∧ ∀ j, j < k → (rowB ms j).size ≤ 24) (fun i => n - (intOf i).toNat)
    case atStart => exact ⟨0, Nat.zero_le _, rfl, fun j hj => by omega⟩
    case round =>
      obtain ⟨k, hk, rfl, hno⟩ := hrel
      have HNO := Lib.hid hno
      clear hno
      by_cases hlt : k < n
      · obtain ⟨b, off, rfl, hcell⟩ := HST.out.at (i := k) (by rw [HN.out]; exact hlt)
        obtain ⟨s, hs⟩ : ∃ s, rowB ms k = s := ⟨_, rfl⟩
        rw [hs] at hcell
        have HS := Lib.hid hs
        clear hs
        by_cases hs24 : 24 < s.size
        · have q1 : decide ((24 : Int) < (s.size : Int)) = true := decide_eq_true (by omega)
          have HV := Lib.hid (errV_wide (ms := ms) (j := k) (by rw [HN.out]; exact hlt) (by rw [HS.out]; exact hs24))
          clear hs24
          go_wp2_with fail
          go_ret
          exact ⟨by rw [HV.out, HE2.out]; rfl, Below.refl _ _⟩
        · have q1 : decide ((24 : Int) < (s.size : Int)) = false := decide_eq_false (by omega)
          have q2 : decide (24 < s.size) = false := decide_eq_false hs24
          have HNX : Hid (∀ j, j < k + 1 → (rowB ms j).size ≤ 24) := fun j hj => by
            rcases Nat.lt_or_ge j k with h1 | h1
            · exact HNO.out j h1
            · rw [show j = k by omega, HS.out]; omega
          clear hs24
          go_wp2_with fail
          go_round
          case rel => exact ⟨k + 1, hlt, by go_num, HNX.out⟩
          case measure => simp [intOf]; omega
      · obtain rfl : k = n := by omega
        have HBIG := Lib.hid (big_no (ms := ms) (by rw [HN.out]; exact HN24.out) (by rw [HN.out]; exact HNO.out))
        clear HNO hlt
        go_wp2_with fail
        go_loop [26] (fun i => ∃ j : Nat, j ≤ k ∧ i = .int .i64 j ∧ ∀ l, l < j → (rowB ms l).size = (rowB ms 0).size) (fun i => k - (intOf i).toNat)
        case atStart => exact ⟨0, Nat.zero_le _, rfl, fun j hj => by omega⟩
        case round =>
          obtain ⟨j, hj, rfl, hno⟩ := hrel
          have HNO := Lib.hid hno
          clear hno
          by_cases hlt : j < k
          · obtain ⟨b, off, rfl, hcell⟩ := HST.out.at (i := j) (by rw [HN.out]; exact hlt)
            obtain ⟨b', off', he', hcell0⟩ := HST.out.at (i := 0) (by rw [HN.out]; omega)
            cases he'
            rw [Nat.add_zero] at hcell0
            have h0k : 0 < k := by omega
            obtain ⟨s, hs⟩ : ∃ s, rowB ms j = s := ⟨_, rfl⟩
            obtain ⟨s0, hs0⟩ : ∃ s, rowB ms 0 = s := ⟨_, rfl⟩
            rw [hs] at hcell
            rw [hs0] at hcell0
            have HS := Lib.hid hs
            have HS0 := Lib.hid hs0
            clear hs hs0
            by_cases hss : s.size = s0.size
            · have q1 : ((s.size : Int) == (s0.size : Int)) = true := beq_iff_eq.2 (by omega)
              have q2 : (s.size == s0.size) = true := beq_iff_eq.2 hss
              have q3 : ((s.size : Int) != (s0.size : Int)) = false := by rw [bne, q1]; rfl
              have HNX : Hid (∀ l, l < j + 1 → (rowB ms l).size = (rowB ms 0).size) := fun l hl => by
                rcases Nat.lt_or_ge l j with h1 | h1
                · exact HNO.out l h1
                · rw [show l = j by omega, HS.out, HS0.out]; exact hss
              have HSS := Lib.hid hss
              clear hss
              go_wp2_with fail
              go_round
              case rel => exact ⟨j + 1, hlt, by go_num, HNX.out⟩
              case measure => simp [intOf]; omega
            · have q1 : ((s.size : Int) == (s0.size : Int)) = false := beq_eq_false_iff_ne.2 (by omega)
              have q2 : (s.size == s0.size) = false := beq_eq_false_iff_ne.2 hss
              have q3 : ((s.size : Int) != (s0.size : Int)) = true := by rw [bne, q1]; rfl
              have HV := Lib.hid (errV_uneven (ms := ms) HBIG.out (j := j) (by rw [HN.out]; exact hlt) (by rw [HS.out, HS0.out]; exact hss))
              clear hss
              go_wp2_with fail
              go_ret
              exact ⟨by rw [HV.out, HE3.out]; rfl, Below.refl _ _⟩
          · obtain rfl : j = k := by omega
            have HUN := Lib.hid (uneven_no (ms := ms) (by rw [HN.out]; exact HNO.out))
            clear HNO hlt
            go_wp2_with fail
            go_loopw [41] (fun i wr => ∃ l : Nat, l ≤ j ∧ i = .int .i64 l ∧ Below w.heap.size w wr ∧ ∀ m, m < l → ∀ b ∈ (rowB ms m).data.toList, dotB b = true) (fun i _ => j - (intOf i).toNat)
            case atStart => exact ⟨0, Nat.zero_le _, rfl, Below.refl _ _, fun m hm => by omega⟩
            case round =>
              obtain ⟨l, hl, rfl, hb, hno⟩ := hrel
              have HB := Lib.hid hb
              have HNO := Lib.hid hno
              have f0 := (hb.cell (mem_lt HG0.out)).trans HG0.out
              clear hno g1 g2
              by_cases hlt : l < j
              · obtain ⟨b, off, rfl, hcell⟩ := (HST.out.below hb (Nat.le_refl _)).at (i := l) (by rw [HN.out]; exact hlt)
                obtain ⟨s, hs⟩ : ∃ s, rowB ms l = s := ⟨_, rfl⟩
                rw [hs] at hcell
                have HS := Lib.hid hs
                have hT := trim_any s wr (by have := HSZ.out l; rw [HS.out] at this; exact this)
                clear hs hb
                by_cases hd : ∀ b ∈ s.data.toList, dotB b = true
                · rw [(trim_dots _).2 hd] at hT
                  have HT := Lib.hid hT
                  have HC := Lib.hid (fun wx => contains_dots s wx hd)
                  have HD := Lib.hid hd
                  clear hT hd
                  go_wp2_with fail
                  refine HT.out.mono ?_
                  rintro e w1 ⟨rfl, hb1⟩
                  have HB1 := Lib.hid (HB.out.trans (hb1.mono HB.out.size))
                  clear hb1 hcell f0
                  go_wp2_with fail
                  refine (HC.out _).mono ?_
                  rintro e w2 ⟨rfl, hb2⟩
                  have HB2 := Lib.hid (HB1.out.trans (hb2.mono HB1.out.size))
                  clear hb2
                  go_wp2_with fail
                  go_roundw
                  case rel =>
                    refine ⟨l + 1, hlt, by go_num, HB2.out, fun m hm => ?_⟩
                    rcases Nat.lt_or_ge m l with h1 | h1
                    · exact HNO.out m h1
                    · rw [show m = l by omega, HS.out]; exact HD.out
                  case measure => simp [intOf]; omega
                · obtain ⟨r, hr⟩ : ∃ r : ByteArray, (⟨(Lib.trimS s.data.toList [35, 46]).toArray⟩ : ByteArray) = r := ⟨_, rfl⟩
                  have hne : r ≠ ⟨#[]⟩ := fun e => hd ((trim_dots _).1 (by
                    rw [← hr] at e
                    have := congrArg (fun x : ByteArray => x.data.toList) e
                    simpa using this))
                  rw [hr] at hT
                  have HT := Lib.hid hT
                  have q1 : r.toList.isEmpty = false := by
                    rw [Bool.eq_false_iff]
                    intro h1
                    refine hne ?_
                    have h2 : r.data.toList = [] := by rw [List.isEmpty_iff, ByteArray.toList_eq] at h1; exact h1
                    exact bytes_ext h2
                  have HV := Lib.hid (errV_other (ms := ms) HBIG.out HUN.out (j := l) (by rw [HN.out]; exact hlt) (by rw [HS.out]; exact hd))
                  clear hT hd hr
                  go_wp2_with fail
                  refine HT.out.mono ?_
                  rintro e w1 ⟨rfl, hb1⟩
                  have HB1 := Lib.hid (HB.out.trans (hb1.mono HB.out.size))
                  have f1 := (HB1.out.cell (mem_lt HG0.out)).trans HG0.out
                  clear hb1 hcell f0
                  go_wp2_with fail
                  go_ret
                  exact ⟨by rw [HV.out, HE1.out]; rfl, HB1.out⟩
              · obtain rfl : l = j := by omega
                have HV := Lib.hid (errV_none (ms := ms) HBIG.out HUN.out (by rw [HN.out]; exact HNO.out))
                clear hb hlt f0
                go_wp2_with fail
                go_ret
                exact ⟨by rw [HV.out]; rfl, HB.out⟩
end Go.Proofs.YtoheffkiohfmoaaGreatDoor
