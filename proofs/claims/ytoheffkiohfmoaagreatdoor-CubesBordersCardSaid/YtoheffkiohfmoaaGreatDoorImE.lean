/-
  The document's ImageError by a contract.
-/
import Derived.Test.YtoheffkiohfmoaaGreatDoorValB
import Derived.Deep.QuietTactic
import Derived.BigQuiet
import Derived.Deep.DeepCutAuto
set_option linter.unusedSimpArgs false
set_option linter.unusedVariables false
namespace Go.Proofs.YtoheffkiohfmoaaGreatDoor
open Go Go.RowKit Go.Maps FL

def bigR (r : ByteArray) : Bool := decide (24 < r.size)
def unR (ms : List ByteArray) (r : ByteArray) : Bool := decide (r.size ≠ (rowB ms 0).size)
def otR (r : ByteArray) : Bool := r.data.toList.any fun b => !dotB b
theorem any_take {ms : List ByteArray} {p : ByteArray → Bool} {i : Nat} (h : i < ms.length) : (ms.take (i + 1)).any p = ((ms.take i).any p || p (rowB ms i)) := by
  have e : ms.take (i + 1) = ms.take i ++ [rowB ms i] := by
    unfold rowB
    rw [List.getD_eq_getElem?_getD, List.getElem?_eq_getElem h]
    rw [List.take_add_one, List.getElem?_eq_getElem h]; rfl
  rw [e, List.any_append]; simp
theorem any_takeB {l : List UInt8} {p : UInt8 → Bool} {i : Nat} (h : i < l.length) : (l.take (i + 1)).any p = ((l.take i).any p || p (l[i]'h)) := by
  have e : l.take (i + 1) = l.take i ++ [l[i]'h] := by rw [List.take_add_one, List.getElem?_eq_getElem h]; rfl
  rw [e, List.any_append]; simp
set_option maxRecDepth 100000 in
set_option maxHeartbeats 8000000 in
theorem imageError_any (ms : List ByteArray) (v : Value) (w : World) (h : StrsAt w v ms) (hsz : ∀ j, (rowB ms j).size ≤ 9223372036854775807) (hlen : ms.length ≤ 1000000000) :
    Calls Tryz.prog 34 #[v] w fun e w' => e = .returned (.int .i64 (errV ms)) ∧ Below w.heap.size w w' := by
  obtain ⟨pv, cv, hve, -⟩ := id h
  obtain ⟨n, hn⟩ : ∃ n, ms.length = n := ⟨_, rfl⟩
  rw [hn] at hve hlen
  subst hve
  have HN := Lib.hid hn
  have HST := Lib.hid h
  have HSZ := Lib.hid hsz
  obtain ⟨bl, hbl⟩ : ∃ bl, decide ((24 : Int) < (n : Int)) = bl := ⟨_, rfl⟩
  have HBL : Hid (decide (24 < ms.length) = bl) := by unfold Hid; rw [hn, ← hbl, decide_eq_decide]; omega
  have HEND : Hid (∀ b u o, b = (bl || (ms.take n).any bigR) → u = (ms.take n).any (unR ms) → o = (ms.take n).any otR → errV ms = if b then 2 else if u then 3 else if o then 1 else 0) := fun b u o hb hu ho => by
    have ht : ms.take n = ms := by rw [← hn]; exact List.take_length
    rw [ht] at hb hu ho
    unfold errV errI bigI unevenI otherI
    rw [HBL.out, hb, hu, ho]; rfl
  clear h hsz hn
  go_enter Tryz.func34, Tryz.ntmps34
  go_wp2_with fail
  go_loopw [3, 4, 5, 6] (fun s3 s4 s5 s6 wr => ∃ (i : Nat) (b u o : Bool), i ≤ n ∧ s3 = .bool b ∧ s4 = .bool u ∧ s5 = .bool o ∧ s6 = .int .i64 (i : Int) ∧ Below w.heap.size w wr ∧ b = (bl || (ms.take i).any bigR) ∧ u = (ms.take i).any (unR ms) ∧ o = (ms.take i).any otR) (fun _ _ _ s6 _ => n - (intOf s6).toNat)
  case atStart => exact ⟨0, bl, false, false, Nat.zero_le _, by first | rfl | rw [← hbl] | (rw [← hbl]; simp), rfl, rfl, rfl, Below.refl _ _, by simp, by simp, by simp⟩
  case round =>
    clear hbl
    obtain ⟨i, b, u, o, hi, rfl, rfl, rfl, rfl, hb, hbb, huu, hoo⟩ := hrel
    have HB := Lib.hid hb
    have HBB := Lib.hid hbb
    have HUU := Lib.hid huu
    have HOO := Lib.hid hoo
    clear hb hbb huu hoo
    by_cases hlt : i < n
    · obtain ⟨bk, off, rfl, hcell⟩ := (HST.out.below HB.out (Nat.le_refl _)).at (i := i) (by rw [HN.out]; exact hlt)
      obtain ⟨bk', off', he', hcell0⟩ := (HST.out.below HB.out (Nat.le_refl _)).at (i := 0) (by rw [HN.out]; omega)
      cases he'
      rw [Nat.add_zero] at hcell0
      have h0n : 0 < n := by omega
      obtain ⟨s, hs⟩ : ∃ s, rowB ms i = s := ⟨_, rfl⟩
      obtain ⟨s0, hs0⟩ : ∃ s, rowB ms 0 = s := ⟨_, rfl⟩
      rw [hs] at hcell
      rw [hs0] at hcell0
      have HC := Lib.hid hcell
      have HC0 := Lib.hid hcell0
      have hss : s.size ≤ 9223372036854775807 := by have := HSZ.out i; rw [hs] at this; exact this
      have HTB := Lib.hid (any_take (ms := ms) (p := bigR) (i := i) (by rw [HN.out]; exact hlt))
      have HTU := Lib.hid (any_take (ms := ms) (p := unR ms) (i := i) (by rw [HN.out]; exact hlt))
      have HTO := Lib.hid (any_take (ms := ms) (p := otR) (i := i) (by rw [HN.out]; exact hlt))
      rw [hs] at HTB HTU HTO
      have hun : unR ms s = decide (s.size ≠ s0.size) := by unfold unR; rw [hs0]
      rw [hun] at HTU
      have HS := Lib.hid hs
      clear hs hs0 hun hcell hcell0
      go_upto_region 7 with fail
      go_cut [3] (fun s3 wx => s3 = .bool (b || bigR s) ∧ wx = wr)
      case first =>
        have hcell := HC.out
        cases b with
        | true =>
          go_wp2_with fail
          go_meet
          exact ⟨rfl, rfl⟩
        | false =>
          by_cases h24 : 24 < s.size
          · have q1 : decide ((24 : Int) < (s.size : Int)) = true := decide_eq_true (by omega)
            have HQ : Hid (bigR s = true) := by unfold Hid bigR; exact decide_eq_true h24
            clear h24
            go_wp2_with fail
            go_meet
            exact ⟨by rw [HQ.out]; rfl, rfl⟩
          · have q1 : decide ((24 : Int) < (s.size : Int)) = false := decide_eq_false (by omega)
            have q2 : decide (24 < s.size) = false := decide_eq_false h24
            have HQ : Hid (bigR s = false) := by unfold Hid bigR; exact decide_eq_false h24
            clear h24
            go_wp2_with fail
            go_meet
            exact ⟨by rw [HQ.out]; rfl, rfl⟩
      case rest =>
      obtain ⟨hs3, hwx⟩ := hcut
      subst hs3
      subst hwx
      go_upto_region 8 with fail
      go_cut [4] (fun s4 wx => ∃ m, s4 = .bool (u || decide (s.size ≠ s0.size)) ∧ wx = wc.drewN m)
      case first =>
        have hcell := HC.out
        have hcell0 := HC0.out
        have hi0 : (0 : Int) ≤ (i : Int) := by omega
        have hin : (i : Int) < (n : Int) := by omega
        have hn0 : (0 : Int) < (n : Int) := by omega
        cases u with
        | true =>
          go_quiet (fail)
          go_wp2_with fail
          go_meet
          exact ⟨_, rfl, rfl⟩
        | false =>
          by_cases he : s.size = s0.size
          · have q1 : ((s.size : Int) == (s0.size : Int)) = true := beq_iff_eq.2 (by omega)
            have q2 : (s.size == s0.size) = true := beq_iff_eq.2 he
            have q3 : ((s.size : Int) != (s0.size : Int)) = false := by rw [bne, q1]; rfl
            have HQ : Hid (decide (s.size ≠ s0.size) = false) := by unfold Hid; simp [he]
            clear he
            go_quiet (fail)
            go_wp2_with fail
            go_meet
            exact ⟨_, by rw [HQ.out]; rfl, rfl⟩
          · have q1 : ((s.size : Int) == (s0.size : Int)) = false := beq_eq_false_iff_ne.2 (by omega)
            have q2 : (s.size == s0.size) = false := beq_eq_false_iff_ne.2 he
            have q3 : ((s.size : Int) != (s0.size : Int)) = true := by rw [bne, q1]; rfl
            have HQ : Hid (decide (s.size ≠ s0.size) = true) := by unfold Hid; simp [he]
            clear he
            go_quiet (fail)
            go_wp2_with fail
            go_meet
            exact ⟨_, by rw [HQ.out]; rfl, rfl⟩
      case rest =>
      obtain ⟨m8, hs4, hwx⟩ := hcut
      subst hs4
      have HB9 : Hid (Below w.heap.size w wc) := by unfold Hid; rw [hwx]; exact ⟨HB.out.os, HB.out.tape, HB.out.output, HB.out.size, HB.out.block⟩
      clear hwx HC HC0
      go_wp2_with fail
      go_loopw [5, 7] (fun s5 s7 wr => ∃ (k : Nat) (o' : Bool), k ≤ s.size ∧ s5 = .bool o' ∧ s7 = .int .i64 (k : Int) ∧ Below w.heap.size w wr ∧ o' = (o || (s.data.toList.take k).any fun b => !dotB b)) (fun _ s7 _ => s.size - (intOf s7).toNat)
      case atStart => exact ⟨0, o, Nat.zero_le _, rfl, rfl, HB9.out, by simp⟩
      case round =>
        obtain ⟨k, o', hk, rfl, rfl, hb, hoo⟩ := hrel
        have hcell : wr.cell? ⟨bk, off + i, none⟩ = some (.string s) := by
          obtain ⟨b2, off2, e2, hc2⟩ := (HST.out.below hb (Nat.le_refl _)).at (i := i) (by rw [HN.out]; exact hlt)
          cases e2
          rw [HS.out] at hc2; exact hc2
        have HB10 := Lib.hid hb
        have HOK := Lib.hid hoo
        clear hb hoo
        by_cases hks : k < s.size
        · obtain ⟨z, hz⟩ : ∃ z, (s[k]'hks).toNat = z := ⟨_, rfl⟩
          have hks2 : k < s.data.toList.length := hks
          have HTK := Lib.hid (any_takeB (l := s.data.toList) (p := fun b => !dotB b) (i := k) hks2)
          have hdz : (!dotB (s.data.toList[k]'hks2)) = (!(z == 35) && !(z == 46)) := by
            have e1 : (s.data[k]'hks).toNat = z := hz
            have hu : ∀ (x y : UInt8), (x = y) ↔ x.toNat = y.toNat := fun x y => ⟨fun e => by rw [e], fun e => UInt8.toNat.inj e⟩
            unfold dotB
            rw [Bool.eq_iff_iff]
            simp [hu, e1]
          have HDZ := Lib.hid hdz
          clear hdz
          cases o' with
          | true =>
            go_wp2_with fail
            go_roundw
            case rel => exact ⟨k + 1, _, hks, rfl, by go_num, HB10.out, by rw [HTK.out, ← Bool.or_assoc, ← HOK.out]; rfl⟩
            case measure => simp [intOf]; omega
          | false =>
            by_cases h35 : z = 35
            · have n1 : ((z : Int) == 35) = true := beq_iff_eq.2 (by omega)
              have n2 : (z == 35) = true := beq_iff_eq.2 h35
              have n3 : ((z : Int) != 35) = false := by rw [bne, n1]; rfl
              have n4 : (z : Int) = 35 := by omega
              have HQ : Hid ((!(z == 35) && !(z == 46)) = false) := by unfold Hid; rw [n2]; rfl
              clear h35
              go_wp2_with fail
              go_roundw
              case rel => exact ⟨k + 1, _, hks, rfl, by go_num, HB10.out, by rw [HTK.out, ← Bool.or_assoc, ← HOK.out, HDZ.out, HQ.out]; rfl⟩
              case measure => simp [intOf]; omega
            · have n1 : ((z : Int) == 35) = false := beq_eq_false_iff_ne.2 (by omega)
              have n2 : (z == 35) = false := beq_eq_false_iff_ne.2 h35
              have n3 : ((z : Int) != 35) = true := by rw [bne, n1]; rfl
              have n4 : ¬ ((z : Int) = 35) := by omega
              by_cases h46 : z = 46
              · have m1 : ((z : Int) == 46) = true := beq_iff_eq.2 (by omega)
                have m2 : (z == 46) = true := beq_iff_eq.2 h46
                have m3 : ((z : Int) != 46) = false := by rw [bne, m1]; rfl
                have HQ : Hid ((!(z == 35) && !(z == 46)) = false) := by unfold Hid; rw [n2, m2]; rfl
                clear h35 h46
                go_wp2_with fail
                go_roundw
                case rel => exact ⟨k + 1, _, hks, rfl, by go_num, HB10.out, by rw [HTK.out, ← Bool.or_assoc, ← HOK.out, HDZ.out, HQ.out]; rfl⟩
                case measure => simp [intOf]; omega
              · have m1 : ((z : Int) == 46) = false := beq_eq_false_iff_ne.2 (by omega)
                have m2 : (z == 46) = false := beq_eq_false_iff_ne.2 h46
                have m3 : ((z : Int) != 46) = true := by rw [bne, m1]; rfl
                have m4 : ¬ ((z : Int) = 46) := by omega
                have HQ : Hid ((!(z == 35) && !(z == 46)) = true) := by unfold Hid; rw [n2, m2]; rfl
                clear h35 h46
                go_wp2_with fail
                go_roundw
                case rel => exact ⟨k + 1, _, hks, rfl, by go_num, HB10.out, by rw [HTK.out, ← Bool.or_assoc, ← HOK.out, HDZ.out, HQ.out]; rfl⟩
                case measure => simp [intOf]; omega
        · obtain rfl : k = s.size := by omega
          have HFIN : Hid (o' = (o || otR s)) := by
            have h1 := HOK.out
            have h2 : s.data.toList.take s.size = s.data.toList := List.take_length
            rw [h2] at h1
            exact h1
          go_wp2_with fail
          go_roundw
          case rel =>
            refine ⟨i + 1, _, _, _, hlt, rfl, rfl, rfl, by go_num, HB10.out, ?_, ?_, ?_⟩
            · rw [HTB.out, HBB.out, Bool.or_assoc]
            · rw [HTU.out, HUU.out]
            · rw [HTO.out, HFIN.out, HOO.out]
          case measure => simp [intOf]; omega
    · obtain rfl : i = n := by omega
      have HV := Lib.hid (HEND.out b u o HBB.out HUU.out HOO.out)
      cases b with
      | true =>
        go_wp2_with fail
        go_ret
        exact ⟨by rw [HV.out]; rfl, HB.out⟩
      | false =>
        cases u with
        | true =>
          go_wp2_with fail
          go_ret
          exact ⟨by rw [HV.out]; rfl, HB.out⟩
        | false =>
          cases o with
          | true =>
            go_wp2_with fail
            go_ret
            exact ⟨by rw [HV.out]; rfl, HB.out⟩
          | false =>
            go_wp2_with fail
            go_ret
            exact ⟨by rw [HV.out]; rfl, HB.out⟩
end Go.Proofs.YtoheffkiohfmoaaGreatDoor
