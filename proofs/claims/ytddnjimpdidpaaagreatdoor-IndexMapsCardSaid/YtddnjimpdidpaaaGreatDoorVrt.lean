/-
  The document's VerticesOf by a contract.
-/
import Derived.Test.YtddnjimpdidpaaaGreatDoorJnC
set_option linter.unusedSimpArgs false
set_option linter.unusedVariables false
namespace Go.Proofs.YtddnjimpdidpaaaGreatDoor
open Go Go.RowKit Go.Maps

set_option maxRecDepth 100000 in
set_option maxHeartbeats 8000000 in
theorem verticesOf_any (B : Nat) (A : List (List Int)) (v : Value) (w : World) (hv : ListsIn B w v A) (hn : A.length ≤ 100000) (hl : ∀ l ∈ A, l.length ≤ 100000) :
    Calls Tryz.prog 15 #[v] w (NumsP B (vertR A) w) := by
  obtain ⟨i3, hi3, hy0, hy1, hy2⟩ := info_parts Tryz.info3
  obtain ⟨pv, cv, hve, -⟩ := id hv
  obtain ⟨n, hLn⟩ : ∃ n, A.length = n := ⟨_, rfl⟩
  rw [hLn] at hve hn
  subst hve
  have HLN := Lib.hid hLn
  have HV := Lib.hid hv
  have HL := Lib.hid hl
  clear hLn hv hl
  go_enter Tryz.func15, Tryz.ntmps15
  go_wp2_with fail
  go_loopw [3, 4] (fun s i wr => ∃ j : Nat, j ≤ n ∧ i = .int .i64 j ∧ Below w.heap.size w wr ∧ wr.ownsRow w.heap.size 3 1 s (vertR (A.take j)).length (intVs (vertR (A.take j)))) (fun _ i _ => n - (intOf i).toNat)
  case atStart => exact ⟨0, Nat.zero_le _, rfl, Below.refl _ _, World.ownsRow_nil _ _ _ _⟩
  case round =>
    obtain ⟨j, hj, rfl, hb, hO⟩ := hrel
    have HB := Lib.hid hb
    have hsw := hb.size
    by_cases hjn : j < n
    · have hjL : j < A.length := by rw [HLN.out]; exact hjn
      obtain ⟨b, off, c', hve⟩ := HV.out.form (by omega)
      rw [HLN.out] at hve
      obtain ⟨rfl, rfl⟩ : pv = some ⟨b, off, none⟩ ∧ cv = c' := by cases hve; exact ⟨rfl, rfl⟩
      obtain ⟨pj, cj, hcj, hij⟩ := cells_at (HV.out.below hb (Nat.le_refl _)) j hjL
      have hlj := HL.out _ (getL_mem hjL)
      have HST := Lib.hid (vertR_step hjL)
      obtain ⟨x, hx⟩ : ∃ x, A.getD j [] = x := ⟨_, rfl⟩
      rw [hx] at hcj hij hlj HST
      obtain ⟨nx, hnx⟩ : ∃ nx, x.length = nx := ⟨_, rfl⟩
      rw [hnx] at hcj hij hlj
      have HNX := Lib.hid hnx
      obtain ⟨k, hk⟩ : ∃ k, (vertR (A.take j)).length = k := ⟨_, rfl⟩
      rw [hk] at hO
      have hkn : k ≤ 100000 := by
        rw [← hk]
        have h1 := vertR_len (A.take j)
        rw [List.length_take] at h1
        omega
      have HK := Lib.hid hk
      have HO := Lib.hid hO
      by_cases h1 : nx = 1
      · have q1 : ((nx : Int) == 1) = true := beq_iff_eq.2 (by omega)
        have q2 : (nx == 1) = true := beq_iff_eq.2 h1
        obtain ⟨pp, cc, he, -, -, hxx⟩ := id hij
        obtain ⟨b2, off2, e1, e2, -⟩ := hxx 0 (by rw [HNX.out]; omega)
        obtain ⟨rfl, rfl⟩ : pj = pp ∧ cj = cc := by rw [HNX.out] at he; cases he; exact ⟨rfl, rfl⟩
        subst e1
        rw [Nat.add_zero] at e2
        obtain ⟨z, hz⟩ : ∃ z, x.getD 0 0 = z := ⟨_, rfl⟩
        rw [hz] at e2
        have HZ := Lib.hid hz
        have HN1 := Lib.hid h1
        have hpos : 0 < nx := by omega
        clear hve hij hjL hx hnx hb hO hk he hxx hz h1
        go_wp2_with (at_builtin; refine wpList_append_lies _ rfl (.tmp 17) (.tmp 24) 23 rfl w.heap.size 3 i3 (.int .i64 0) 1 8 Tryz.underlying23 hi3 hy0 hy1 hy2 rfl (by decide) _ k (intVs (vertR (A.take j))) rfl (HO.out.alloc _) ⟨wr.heap.size, 0, none⟩ 1 1 [.int .i64 z] rfl rfl (World.news_of_block (cs := #[.int .i64 z]) (t := 3) (fr := (0, 0)) (heap_alloc_new wr _)) (by simp [Value.oneCell']) (by decide) (by unfold maxLen; omega) (by omega) (by simp; omega) (wr.heap.size + 1) (by simp) ?_; intro g2 c2 w9 hown2 hgr2 hat2 hlt2; have HO2 := Lib.hid hown2; have HG2 := Lib.hid hgr2; clear hown2 hgr2 hat2 hlt2)
        go_roundw
        case rel =>
          refine ⟨j + 1, by omega, by go_num, (HB.out.alloc hsw _).grown HG2.out (by simp; omega) (fun i hi => (HO.out.lt i hi).1), ?_⟩
          rw [HST.out, if_pos (by rw [HNX.out]; exact HN1.out), HZ.out, List.length_append, intVs_snoc, HK.out]
          exact HO2.out
        case measure => simp [intOf]; omega
      · have q1 : ((nx : Int) == 1) = false := beq_eq_false_iff_ne.2 (by omega)
        have q2 : (nx == 1) = false := beq_eq_false_iff_ne.2 h1
        have HN1 := Lib.hid h1
        clear hve hij hjL hx hnx hb hO hk h1
        go_wp2_with fail
        go_roundw
        case rel =>
          refine ⟨j + 1, by omega, by go_num, HB.out, ?_⟩
          rw [HST.out, if_neg (by rw [HNX.out]; exact HN1.out), List.append_nil, HK.out]
          exact HO.out
        case measure => simp [intOf]; omega
    · obtain rfl : n = j := by omega
      have hT : A.take n = A := by rw [← HLN.out, List.take_length]
      rw [hT] at hO
      have hI := ints_owned (B := B) hO rfl
      obtain ⟨p3, c3, hv3⟩ := hI.len
      rw [hv3] at hI
      obtain ⟨s, hs⟩ : ∃ s, (vertR A).length = s := ⟨_, rfl⟩
      rw [hs] at hI hv3
      subst hv3
      have HI := Lib.hid hI
      have HSS := Lib.hid hs
      clear hb hO hI hs hT
      go_wp2_with fail
      go_ret
      refine ⟨p3, c3, ?_, HB.out, ?_⟩
      · rw [HSS.out]; rfl
      · rw [HSS.out]; exact HI.out

end Go.Proofs.YtddnjimpdidpaaaGreatDoor
