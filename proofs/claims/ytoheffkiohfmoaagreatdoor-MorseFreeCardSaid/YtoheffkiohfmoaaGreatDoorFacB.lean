/-
  The document's OfDim, TopOf, EulerOf, IndexOf by contracts.
  cells.Faces, Vector, Euler by contracts.
-/
import Derived.Test.YtoheffkiohfmoaaGreatDoorTabB
set_option linter.unusedSimpArgs false
set_option linter.unusedVariables false
namespace Go.Proofs.YtoheffkiohfmoaaGreatDoor
open Go Go.RowKit Go.Maps

def dimF (A : List (List Int)) (dim : Int) : List (List Int) := A.filter fun f => decide ((f.length : Int) - 1 = dim)
theorem dimF_snoc {A : List (List Int)} {f : List Int} {dim : Int} : dimF (A ++ [f]) dim = dimF A dim ++ (if (f.length : Int) - 1 = dim then [f] else []) := by
  unfold dimF
  rw [List.filter_append]
  by_cases h : (f.length : Int) - 1 = dim <;> simp [h]
theorem dimF_len (A : List (List Int)) (dim : Int) : (dimF A dim).length ≤ A.length := List.length_filter_le _ _
theorem dimF_nat (A : List (List Int)) (d : Nat) : dimF A (d : Int) = rowF A d := by
  unfold dimF rowF
  congr 1
  funext f
  exact decide_eq_decide.2 (by omega)

set_option maxRecDepth 100000 in
set_option maxHeartbeats 8000000 in
theorem ofDim_any (B : Nat) (A : List (List Int)) (dim : Int) (v : Value) (w : World) (hB : B ≤ w.heap.size) (hv : ListsIn B w v A) (hn : A.length ≤ 100000) (hl : ∀ l ∈ A, l.length ≤ 100000) :
    Calls Tryz.prog 50 #[v, .int .i64 dim] w (ListPost B (dimF A dim) w) := by
  obtain ⟨i39, hi39, hz0, hz1, hz2⟩ := info_parts Tryz.info51
  obtain ⟨pv, cv, hve, -⟩ := id hv
  obtain ⟨n, hLn⟩ : ∃ n, A.length = n := ⟨_, rfl⟩
  rw [hLn] at hve hn
  subst hve
  have HLN := Lib.hid hLn
  have HV := Lib.hid hv
  have HB := Lib.hid hB
  have HL := Lib.hid hl
  clear hLn hv hB hl
  go_enter Tryz.func50, Tryz.ntmps50
  go_wp2_with fail
  go_loopw [5, 6] (fun s i wr => ∃ j : Nat, j ≤ n ∧ i = .int .i64 j ∧ Below w.heap.size w wr ∧ RowsO w.heap.size B wr s (dimF (A.take j) dim)) (fun _ i _ => n - (intOf i).toNat)
  case atStart => exact ⟨0, Nat.zero_le _, rfl, Below.refl _ _, RowsO.nil _ _ _⟩
  case round =>
    obtain ⟨j, hj, rfl, hb, hR⟩ := hrel
    have HBR := Lib.hid hb
    have HR := Lib.hid hR
    have hws := hb.size
    clear hb hR
    by_cases hjn : j < n
    · obtain ⟨b, off, c, hve⟩ := HV.out.form (by rw [HLN.out]; omega)
      rw [HLN.out] at hve
      obtain ⟨rfl, rfl⟩ : pv = some ⟨b, off, none⟩ ∧ cv = c := by cases hve; exact ⟨rfl, rfl⟩
      have hjL : j < A.length := by rw [HLN.out]; exact hjn
      obtain ⟨pj, cj, hcj, hij⟩ := cells_at (HV.out.below HBR.out (Nat.le_refl _)) j hjL
      have hlj := HL.out _ (getL_mem hjL)
      have HTK := Lib.hid (take_snoc_getD [] A j hjL)
      obtain ⟨nf, hnf⟩ : ∃ nf, (A.getD j []).length = nf := ⟨_, rfl⟩
      rw [hnf] at hij hcj hlj
      have HNF := Lib.hid hnf
      have HIJ := Lib.hid hij
      obtain ⟨hs, h1, h2, h3⟩ := HR.out
      obtain ⟨k, hk⟩ : ∃ k, (dimF (A.take j) dim).length = k := ⟨_, rfl⟩
      have hkn : k ≤ 100000 := by
        have e1 := dimF_len (A.take j) dim
        rw [List.length_take] at e1
        omega
      rw [hk] at h1
      have HK := Lib.hid hk
      have H1 := Lib.hid h1
      have H2 := Lib.hid h2
      have H3 := Lib.hid h3
      clear hve hij hnf h1 h2 h3 hk hjL
      by_cases hd : (nf : Int) - 1 = dim
      · have q1 : ((nf : Int) - 1 == dim) = true := beq_iff_eq.2 hd
        have HD := Lib.hid hd
        clear hd
        go_wp2_with (at_builtin; refine wpList_append_lies _ rfl (.tmp 21) (.tmp 26) 22 rfl w.heap.size 51 i39 (.slice none 0 0) 1 24 Tryz.underlying22 hi39 hz0 hz1 hz2 rfl (by decide) _ k hs rfl (H1.out.alloc _) ⟨wr.heap.size, 0, none⟩ 1 1 [.slice pj nf cj] rfl rfl (World.news_of_block (cs := #[.slice pj nf cj]) (t := 51) (fr := (0, 0)) (heap_alloc_new wr _)) (by simp [Value.oneCell']) (by decide) (by unfold maxLen; omega) (by omega) (by simp; omega) (wr.heap.size + 1) (by simp) ?_; intro g2 c2 w9 hown2 hgr2 hat2 hlt2; have HO2 := Lib.hid hown2; have HG2 := Lib.hid hgr2; clear hown2 hgr2 hat2 hlt2)
        go_roundw
        case rel =>
          have hbA : Below wr.heap.size wr (wr.alloc (.cells #[.slice pj nf cj] 51)) := (Below.refl _ _).alloc (Nat.le_refl _) _
          refine ⟨j + 1, by omega, by go_num, (HBR.out.alloc hws _).grown HG2.out (by simp; omega) (fun i hi => (H1.out.lt i hi).1), ?_⟩
          rw [HTK.out, dimF_snoc, if_pos (by rw [HNF.out]; exact HD.out)]
          exact rowsO_push (w := wr.alloc (.cells #[.slice pj nf cj] 51)) (hs := hs) HB.out (by rw [HK.out]; exact H1.out.alloc _) H2.out (fun i hi => (H3.out i hi).below hbA (Nat.le_refl _)) (HIJ.out.below hbA (Nat.le_refl _)) (by rw [HK.out]; exact HO2.out) HG2.out
        case measure => simp [intOf]; omega
      · have q1 : ((nf : Int) - 1 == dim) = false := beq_eq_false_iff_ne.2 hd
        have HD := Lib.hid hd
        clear hd
        go_wp2_with fail
        go_roundw
        case rel =>
          refine ⟨j + 1, by omega, by go_num, HBR.out, ?_⟩
          rw [HTK.out, dimF_snoc, if_neg (by rw [HNF.out]; exact HD.out), List.append_nil]
          exact HR.out
        case measure => simp [intOf]; omega
    · obtain rfl : j = n := by omega
      have HFULL : Hid (A.take j = A) := by unfold Hid; rw [← HLN.out, List.take_length]
      go_wp2_with fail
      go_ret
      refine ⟨_, rfl, HBR.out, ?_⟩
      rw [← HFULL.out]
      exact HR.out

theorem topN_snoc : ∀ (A : List (List Int)) (f : List Int), topN (A ++ [f]) = max (topN A) f.length
  | [], f => by simp [topN]
  | g :: A, f => by
    show max g.length (topN (A ++ [f])) = max (max g.length (topN A)) f.length
    rw [topN_snoc A f, Nat.max_assoc]

set_option maxRecDepth 100000 in
set_option maxHeartbeats 8000000 in
theorem topOf_any (B : Nat) (A : List (List Int)) (v : Value) (w : World) (hv : ListsIn B w v A) (hn : A.length ≤ 100000) (hl : ∀ l ∈ A, l.length ≤ 100000) :
    Calls Tryz.prog 49 #[v] w (Same (.int .i64 ((topN A : Int) - 1)) w) := by
  obtain ⟨pv, cv, hve, -⟩ := id hv
  obtain ⟨n, hLn⟩ : ∃ n, A.length = n := ⟨_, rfl⟩
  rw [hLn] at hve hn
  subst hve
  have HLN := Lib.hid hLn
  have HV := Lib.hid hv
  have HL := Lib.hid hl
  clear hLn hv hl
  go_enter Tryz.func49, Tryz.ntmps49
  go_wp2_with fail
  go_loop [3, 4] (fun t i => ∃ j : Nat, j ≤ n ∧ i = .int .i64 j ∧ ∃ k : Nat, k ≤ 100000 ∧ topN (A.take j) = k ∧ t = .int .i64 ((k : Int) - 1)) (fun _ i => n - (intOf i).toNat)
  case atStart => exact ⟨0, Nat.zero_le _, rfl, 0, by decide, rfl, rfl⟩
  case round =>
    obtain ⟨j, hj, rfl, k, hk5, hk, rfl⟩ := hrel
    have HK := Lib.hid hk
    clear hk
    by_cases hjn : j < n
    · obtain ⟨b, off, c, hve⟩ := HV.out.form (by rw [HLN.out]; omega)
      rw [HLN.out] at hve
      obtain ⟨rfl, rfl⟩ : pv = some ⟨b, off, none⟩ ∧ cv = c := by cases hve; exact ⟨rfl, rfl⟩
      have hjL : j < A.length := by rw [HLN.out]; exact hjn
      obtain ⟨pj, cj, hcj, hij⟩ := cells_at HV.out j hjL
      have hlj := HL.out _ (getL_mem hjL)
      have HTK := Lib.hid (take_snoc_getD [] A j hjL)
      obtain ⟨nf, hnf⟩ : ∃ nf, (A.getD j []).length = nf := ⟨_, rfl⟩
      rw [hnf] at hcj hlj
      have HNF := Lib.hid hnf
      clear hve hij hnf hjL
      by_cases hd : k < nf
      · have q1 : decide ((k : Int) - 1 < (nf : Int) - 1) = true := decide_eq_true (by omega)
        have q2 : decide (k < nf) = true := decide_eq_true hd
        go_wp2_with fail
        go_round
        case rel => exact ⟨j + 1, by omega, by go_num, nf, hlj, by rw [HTK.out, topN_snoc, HK.out, HNF.out]; omega, rfl⟩
        case measure => simp [intOf]; omega
      · have q1 : decide ((k : Int) - 1 < (nf : Int) - 1) = false := decide_eq_false (by omega)
        have q2 : decide (k < nf) = false := decide_eq_false hd
        go_wp2_with fail
        go_round
        case rel => exact ⟨j + 1, by omega, by go_num, k, hk5, by rw [HTK.out, topN_snoc, HK.out, HNF.out]; omega, rfl⟩
        case measure => simp [intOf]; omega
    · obtain rfl : j = n := by omega
      have HT : Hid (k = topN A) := by
        have := HK.out
        rw [← HLN.out, List.take_length] at this
        exact this.symm
      go_wp2_with fail
      go_ret
      exact ⟨ret_i (by rw [HT.out]), rfl⟩

theorem table_any (a : Nat → Addr) (B : Nat) (L : List (List Int)) (v : Value) (w : World) (hS : Sents w a) (hB : B ≤ w.heap.size) (hv : ListsIn B w v L) (hn : L.length ≤ 100000) (hl : ∀ l ∈ L, l.length ≤ 100000) :
    Calls Tryz.prog 69 #[.agg #[v]] w (TabPost a B L w) := by
  by_cases he : errX L = 0
  · exact table_ok a B L v w hS hB hv hn hl he
  · exact table_bad a B L v w hS hB hv hn hl he
theorem topN_7 {L : List (List Int)} (h : errC L = 0) : topN (allF L) ≤ 7 := by
  rcases topN_mem (allF L) with h0 | ⟨f, hf, e⟩
  · omega
  · rw [← e]; exact allF_bd h f hf
theorem dimF_none {L : List (List Int)} {dim : Int} (h : dim < 0 ∨ (topN (allF L) : Int) ≤ dim) : dimF (allF L) dim = [] := by
  unfold dimF
  rw [List.filter_eq_nil_iff]
  intro f hf
  have h1 := topN_ge hf
  have h2 := List.length_pos_iff.2 (mem_allF.1 hf).1
  simp only [decide_eq_true_eq]
  omega
end Go.Proofs.YtoheffkiohfmoaaGreatDoor
