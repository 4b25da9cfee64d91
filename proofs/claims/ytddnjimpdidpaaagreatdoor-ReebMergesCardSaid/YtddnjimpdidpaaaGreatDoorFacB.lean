/-
  The document's OfDim, TopOf, EulerOf, IndexOf by contracts.
  cells.Faces, Vector, Euler by contracts.
-/
import Derived.Test.YtddnjimpdidpaaaGreatDoorTabB
set_option linter.unusedSimpArgs false
set_option linter.unusedVariables false
namespace Go.Proofs.YtddnjimpdidpaaaGreatDoor
open Go Go.RowKit Go.Maps

def dimF (A : List (List Int)) (dim : Int) : List (List Int) := A.filter fun f => decide ((f.length : Int) - 1 = dim)
theorem dimF_snoc {A : List (List Int)} {f : List Int} {dim : Int} : dimF (A ++ [f]) dim = dimF A dim ++ (if (f.length : Int) - 1 = dim then [f] else []) := by
  unfold dimF
  rw [List.filter_append]
  by_cases h : (f.length : Int) - 1 = dim <;> simp [h]
theorem dimF_len (A : List (List Int)) (dim : Int) : (dimF A dim).length ≤ A.length := List.length_filter_le _ _
theorem dimF_nat (A : List (List Int)) (d : Nat) : dimF A (d : Int) = rowF A d := by
  unfold dimF rowF
  congr 1
  funext f
  exact decide_eq_decide.2 (by omega)

set_option maxRecDepth 100000 in
set_option maxHeartbeats 8000000 in
theorem ofDim_any (B : Nat) (A : List (List Int)) (dim : Int) (v : Value) (w : World) (hB : B ≤ w.heap.size) (hv : ListsIn B w v A) (hn : A.length ≤ 100000) (hl : ∀ l ∈ A, l.length ≤ 100000) :
    Calls Tryz.prog 42 #[v, .int .i64 dim] w (ListPost B (dimF A dim) w) := by
  obtain ⟨i39, hi39, hz0, hz1, hz2⟩ := info_parts Tryz.info23
  obtain ⟨pv, cv, hve, -⟩ := id hv
  obtain ⟨n, hLn⟩ : ∃ n, A.length = n := ⟨_, rfl⟩
  rw [hLn] at hve hn
  subst hve
  have HLN := Lib.hid hLn
  have HV := Lib.hid hv
  have HB := Lib.hid hB
  have HL := Lib.hid hl
  clear hLn hv hB hl
  go_enter Tryz.func42, Tryz.ntmps42
  go_wp2_with fail
  go_loopw [5, 6] (fun s i wr => ∃ j : Nat, j ≤ n ∧ i = .int .i64 j ∧ Below w.heap.size w wr ∧ RowsO w.heap.size B wr s (dimF (A.take j) dim)) (fun _ i _ => n - (intOf i).toNat)
  case atStart => exact ⟨0, Nat.zero_le _, rfl, Below.refl _ _, RowsO.nil _ _ _⟩
  case round =>
    obtain ⟨j, hj, rfl, hb, hR⟩ := hrel
    have HBR := Lib.hid hb
    have HR := Lib.hid hR
    have hws := hb.size
    clear hb hR
    by_cases hjn : j < n
    · obtain ⟨b, off, c, hve⟩ := HV.out.form (by rw [HLN.out]; omega)
      rw [HLN.out] at hve
      obtain ⟨rfl, rfl⟩ : pv = some ⟨b, off, none⟩ ∧ cv = c := by cases hve; exact ⟨rfl, rfl⟩
      have hjL : j < A.length := by rw [HLN.out]; exact hjn
      obtain ⟨pj, cj, hcj, hij⟩ := cells_at (HV.out.below HBR.out (Nat.le_refl _)) j hjL
      have hlj := HL.out _ (getL_mem hjL)
      have HTK := Lib.hid (take_snoc_getD [] A j hjL)
      obtain ⟨nf, hnf⟩ : ∃ nf, (A.getD j []).length = nf := ⟨_, rfl⟩
      rw [hnf] at hij hcj hlj
      have HNF := Lib.hid hnf
      have HIJ := Lib.hid hij
      obtain ⟨hs, h1, h2, h3⟩ := HR.out
      obtain ⟨k, hk⟩ : ∃ k, (dimF (A.take j) dim).length = k := ⟨_, rfl⟩
      have hkn : k ≤ 100000 := by
        have e1 := dimF_len (A.take j) dim
        rw [List.length_take] at e1
        omega
      rw [hk] at h1
      have HK := Lib.hid hk
      have H1 := Lib.hid h1
      have H2 := Lib.hid h2
      have H3 := Lib.hid h3
      clear hve hij hnf h1 h2 h3 hk hjL
      by_cases hd : (nf : Int) - 1 = dim
      · have q1 : ((nf : Int) - 1 == dim) = true := beq_iff_eq.2 hd
        have HD := Lib.hid hd
        clear hd
        go_wp2_with (at_builtin; refine wpList_append_lies _ rfl (.tmp 21) (.tmp 26) 22 rfl w.heap.size 23 i39 (.slice none 0 0) 1 24 Tryz.underlying22 hi39 hz0 hz1 hz2 rfl (by decide) _ k hs rfl (H1.out.alloc _) ⟨wr.heap.size, 0, none⟩ 1 1 [.slice pj nf cj] rfl rfl (World.news_of_block (cs := #[.slice pj nf cj]) (t := 23) (fr := (0, 0)) (heap_alloc_new wr _)) (by simp [Value.oneCell']) (by decide) (by unfold maxLen; omega) (by omega) (by simp; omega) (wr.heap.size + 1) (by simp) ?_; intro g2 c2 w9 hown2 hgr2 hat2 hlt2; have HO2 := Lib.hid hown2; have HG2 := Lib.hid hgr2; clear hown2 hgr2 hat2 hlt2)
        go_roundw
        case rel =>
          have hbA : Below wr.heap.size wr (wr.alloc (.cells #[.slice pj nf cj] 23)) := (Below.refl _ _).alloc (Nat.le_refl _) _
          refine ⟨j + 1, by omega, by go_num, (HBR.out.alloc hws _).grown HG2.out (by simp; omega) (fun i hi => (H1.out.lt i hi).1), ?_⟩
          rw [HTK.out, dimF_snoc, if_pos (by rw [HNF.out]; exact HD.out)]
          exact rowsO_push (w := wr.alloc (.cells #[.slice pj nf cj] 23)) (hs := hs) HB.out (by rw [HK.out]; exact H1.out.alloc _) H2.out (fun i hi => (H3.out i hi).below hbA (Nat.le_refl _)) (HIJ.out.below hbA (Nat.le_refl _)) (by rw [HK.out]; exact HO2.out) HG2.out
        case measure => simp [intOf]; omega
      · have q1 : ((nf : Int) - 1 == dim) = false := beq_eq_false_iff_ne.2 hd
        have HD := Lib.hid hd
        clear hd
        go_wp2_with fail
        go_roundw
        case rel =>
          refine ⟨j + 1, by omega, by go_num, HBR.out, ?_⟩
          rw [HTK.out, dimF_snoc, if_neg (by rw [HNF.out]; exact HD.out), List.append_nil]
          exact HR.out
        case measure => simp [intOf]; omega
    · obtain rfl : j = n := by omega
      have HFULL : Hid (A.take j = A) := by unfold Hid; rw [← HLN.out, List.take_length]
      go_wp2_with fail
      go_ret
      refine ⟨_, rfl, HBR.out, ?_⟩
      rw [← HFULL.out]
      exact HR.out

theorem topN_snoc : ∀ (A : List (List Int)) (f : List Int), topN (A ++ [f]) = max (topN A) f.length
  | [], f => by simp [topN]
  | g :: A, f => by
    show max g.length (topN (A ++ [f])) = max (max g.length (topN A)) f.length
    rw [topN_snoc A f, Nat.max_assoc]

set_option maxRecDepth 100000 in
set_option maxHeartbeats 8000000 in
theorem topOf_any (B : Nat) (A : List (List Int)) (v : Value) (w : World) (hv : ListsIn B w v A) (hn : A.length ≤ 100000) (hl : ∀ l ∈ A, l.length ≤ 100000) :
    Calls Tryz.prog 99 #[v] w (Same (.int .i64 ((topN A : Int) - 1)) w) := by
  obtain ⟨pv, cv, hve, -⟩ := id hv
  obtain ⟨n, hLn⟩ : ∃ n, A.length = n := ⟨_, rfl⟩
  rw [hLn] at hve hn
  subst hve
  have HLN := Lib.hid hLn
  have HV := Lib.hid hv
  have HL := Lib.hid hl
  clear hLn hv hl
  go_enter Tryz.func99, Tryz.ntmps99
  go_wp2_with fail
  go_loop [3, 4] (fun t i => ∃ j : Nat, j ≤ n ∧ i = .int .i64 j ∧ ∃ k : Nat, k ≤ 100000 ∧ topN (A.take j) = k ∧ t = .int .i64 ((k : Int) - 1)) (fun _ i => n - (intOf i).toNat)
  case atStart => exact ⟨0, Nat.zero_le _, rfl, 0, by decide, rfl, rfl⟩
  case round =>
    obtain ⟨j, hj, rfl, k, hk5, hk, rfl⟩ := hrel
    have HK := Lib.hid hk
    clear hk
    by_cases hjn : j < n
    · obtain ⟨b, off, c, hve⟩ := HV.out.form (by rw [HLN.out]; omega)
      rw [HLN.out] at hve
      obtain ⟨rfl, rfl⟩ : pv = some ⟨b, off, none⟩ ∧ cv = c := by cases hve; exact ⟨rfl, rfl⟩
      have hjL : j < A.length := by rw [HLN.out]; exact hjn
      obtain ⟨pj, cj, hcj, hij⟩ := cells_at HV.out j hjL
      have hlj := HL.out _ (getL_mem hjL)
      have HTK := Lib.hid (take_snoc_getD [] A j hjL)
      obtain ⟨nf, hnf⟩ : ∃ nf, (A.getD j []).length = nf := ⟨_, rfl⟩
      rw [hnf] at hcj hlj
      have HNF := Lib.hid hnf
      clear hve hij hnf hjL
      by_cases hd : k < nf
      · have q1 : decide ((k : Int) - 1 < (nf : Int) - 1) = true := decide_eq_true (by omega)
        have q2 : decide (k < nf) = true := decide_eq_true hd
        go_wp2_with fail
        go_round
        case rel => exact ⟨j + 1, by omega, by go_num, nf, hlj, by rw [HTK.out, topN_snoc, HK.out, HNF.out]; omega, rfl⟩
        case measure => simp [intOf]; omega
      · have q1 : decide ((k : Int) - 1 < (nf : Int) - 1) = false := decide_eq_false (by omega)
        have q2 : decide (k < nf) = false := decide_eq_false hd
        go_wp2_with fail
        go_round
        case rel => exact ⟨j + 1, by omega, by go_num, k, hk5, by rw [HTK.out, topN_snoc, HK.out, HNF.out]; omega, rfl⟩
        case measure => simp [intOf]; omega
    · obtain rfl : j = n := by omega
      have HT : Hid (k = topN A) := by
        have := HK.out
        rw [← HLN.out, List.take_length] at this
        exact this.symm
      go_wp2_with fail
      go_ret
      exact ⟨ret_i (by rw [HT.out]), rfl⟩

def sgnF (f : List Int) : Int := if f.length % 2 = 1 then 1 else -1
def eulF (A : List (List Int)) : Int := (A.map sgnF).sum
theorem eulF_snoc (A : List (List Int)) (f : List Int) : eulF (A ++ [f]) = eulF A + sgnF f := by unfold eulF; simp
theorem eulF_bd : ∀ A : List (List Int), -(A.length : Int) ≤ eulF A ∧ eulF A ≤ A.length
  | [] => by simp [eulF]
  | f :: A => by
    have h := eulF_bd A
    have e : eulF (f :: A) = sgnF f + eulF A := by unfold eulF; simp
    have e2 : sgnF f = 1 ∨ sgnF f = -1 := by unfold sgnF; split <;> simp
    rw [e]
    simp only [List.length_cons]
    omega

set_option maxRecDepth 100000 in
set_option maxHeartbeats 8000000 in
theorem eulerOf_any (B : Nat) (A : List (List Int)) (v : Value) (w : World) (hv : ListsIn B w v A) (hn : A.length ≤ 100000) (hl : ∀ l ∈ A, l.length ≤ 100000) :
    Calls Tryz.prog 54 #[v] w (Same (.int .i64 (eulF A)) w) := by
  obtain ⟨pv, cv, hve, -⟩ := id hv
  obtain ⟨n, hLn⟩ : ∃ n, A.length = n := ⟨_, rfl⟩
  rw [hLn] at hve hn
  subst hve
  have HLN := Lib.hid hLn
  have HV := Lib.hid hv
  have HL := Lib.hid hl
  clear hLn hv hl
  go_enter Tryz.func54, Tryz.ntmps54
  go_wp2_with fail
  go_loop [3, 4] (fun t i => ∃ j : Nat, j ≤ n ∧ i = .int .i64 j ∧ ∃ k : Int, -(j : Int) ≤ k ∧ k ≤ j ∧ eulF (A.take j) = k ∧ t = .int .i64 k) (fun _ i => n - (intOf i).toNat)
  case atStart => exact ⟨0, Nat.zero_le _, rfl, 0, by decide, by decide, rfl, rfl⟩
  case round =>
    obtain ⟨j, hj, rfl, k, hk1, hk2, hk, rfl⟩ := hrel
    have HK := Lib.hid hk
    clear hk
    by_cases hjn : j < n
    · obtain ⟨b, off, c, hve⟩ := HV.out.form (by rw [HLN.out]; omega)
      rw [HLN.out] at hve
      obtain ⟨rfl, rfl⟩ : pv = some ⟨b, off, none⟩ ∧ cv = c := by cases hve; exact ⟨rfl, rfl⟩
      have hjL : j < A.length := by rw [HLN.out]; exact hjn
      obtain ⟨pj, cj, hcj, hij⟩ := cells_at HV.out j hjL
      have hlj := HL.out _ (getL_mem hjL)
      have HTK := Lib.hid (take_snoc_getD [] A j hjL)
      obtain ⟨nf, hnf⟩ : ∃ nf, (A.getD j []).length = nf := ⟨_, rfl⟩
      rw [hnf] at hcj hlj
      have HNF := Lib.hid hnf
      clear hve hij hnf hjL
      by_cases hd : nf % 2 = 1
      · have HS1 : Hid (sgnF (A.getD j []) = 1) := by unfold Hid sgnF; rw [HNF.out]; exact if_pos hd
        have q1 : ((nf : Int) % 2 == 1) = true := beq_iff_eq.2 (by omega)
        have q2 : (nf % 2 == 1) = true := beq_iff_eq.2 hd
        clear hd
        go_wp2_with fail
        go_round
        case rel => exact ⟨j + 1, by omega, by go_num, k + 1, by omega, by omega, by rw [HTK.out, eulF_snoc, HK.out, HS1.out], rfl⟩
        case measure => simp [intOf]; omega
      · have HS1 : Hid (sgnF (A.getD j []) = -1) := by unfold Hid sgnF; rw [HNF.out]; exact if_neg hd
        have q1 : ((nf : Int) % 2 == 1) = false := beq_eq_false_iff_ne.2 (by omega)
        have q2 : (nf % 2 == 1) = false := beq_eq_false_iff_ne.2 hd
        clear hd
        go_wp2_with fail
        go_round
        case rel => exact ⟨j + 1, by omega, by go_num, k - 1, by omega, by omega, by rw [HTK.out, eulF_snoc, HK.out, HS1.out]; rfl, rfl⟩
        case measure => simp [intOf]; omega
    · obtain rfl : j = n := by omega
      have HT : Hid (k = eulF A) := by
        have := HK.out
        rw [← HLN.out, List.take_length] at this
        exact this.symm
      go_wp2_with fail
      go_ret
      exact ⟨ret_i (by rw [HT.out]), rfl⟩

def IdxPost (A : List (List Int)) (f : List Int) (w : World) (e : Ending) (w' : World) : Prop := ∃ r : Int, e = .returned (.int .i64 r) ∧ (∃ n, w' = w.drewN n) ∧ (0 ≤ r ↔ f ∈ A) ∧ -1 ≤ r
theorem drewN_add (w : World) (a b : Nat) : (w.drewN a).drewN b = w.drewN (a + b) := by
  unfold World.drewN
  simp [Nat.add_assoc]

set_option maxRecDepth 100000 in
set_option maxHeartbeats 8000000 in
theorem indexOf_any (B : Nat) (A : List (List Int)) (f : List Int) (v u : Value) (w : World) (hv : ListsIn B w v A) (hu : IntsAt w u f) (hn : A.length ≤ 100000) (hl : ∀ l ∈ A, l.length ≤ 100000) (hf : f.length ≤ 100000) :
    Calls Tryz.prog 59 #[v, u] w (IdxPost A f w) := by
  obtain ⟨pv, cv, hve, -⟩ := id hv
  obtain ⟨n, hLn⟩ : ∃ n, A.length = n := ⟨_, rfl⟩
  rw [hLn] at hve hn
  subst hve
  have HLN := Lib.hid hLn
  have HV := Lib.hid hv
  have HU := Lib.hid hu
  have HL := Lib.hid hl
  have HF := Lib.hid hf
  clear hLn hv hl hu hf
  go_enter Tryz.func59, Tryz.ntmps59
  go_wp2_with fail
  go_loopw [5] (fun i wr => ∃ j : Nat, j ≤ n ∧ i = .int .i64 j ∧ (∃ q, wr = w.drewN q) ∧ ∀ k, k < j → A.getD k [] ≠ f) (fun i _ => n - (intOf i).toNat)
  case atStart => exact ⟨0, Nat.zero_le _, rfl, ⟨0, rfl⟩, fun k h => absurd h (by omega)⟩
  case round =>
    obtain ⟨j, hj, rfl, ⟨q, rfl⟩, hno⟩ := hrel
    have HNO := Lib.hid hno
    clear hno
    by_cases hjn : j < n
    · obtain ⟨b, off, c, hve⟩ := HV.out.form (by rw [HLN.out]; omega)
      rw [HLN.out] at hve
      obtain ⟨rfl, rfl⟩ : pv = some ⟨b, off, none⟩ ∧ cv = c := by cases hve; exact ⟨rfl, rfl⟩
      have hjL : j < A.length := by rw [HLN.out]; exact hjn
      obtain ⟨pj, cj, hcj, hij⟩ := cells_at (w := w.drewN q) (HV.out.drewN q) j hjL
      have hlj := HL.out _ (getL_mem hjL)
      have HMEM := Lib.hid (getL_mem hjL)
      obtain ⟨r, hr⟩ : ∃ r, decide (A.getD j [] = f) = r := ⟨_, rfl⟩
      have HSI := Lib.hid (sameInts_any _ u (A.getD j []) f (w.drewN q) hij.at (show IntsAt (w.drewN q) u f from HU.out) (by omega) (by have := HF.out; omega))
      rw [hr] at HSI
      have HR := Lib.hid hr
      generalize (A.getD j []).length = nf at hcj hlj HSI
      clear hve hij hjL hr
      cases r with
      | true =>
        go_wp2_with fail
        refine HSI.out.mono ?_
        rintro e w' ⟨rfl, q2, rfl⟩
        go_wp2_with fail
        go_ret
        refine ⟨(j : Int), rfl, ⟨q + q2, by first | rfl | exact drewN_add w q q2⟩, ⟨fun _ => ?_, fun _ => by omega⟩, by omega⟩
        rw [← of_decide_eq_true HR.out]
        exact HMEM.out
      | false =>
        go_wp2_with fail
        refine HSI.out.mono ?_
        rintro e w' ⟨rfl, q2, rfl⟩
        rw [drewN_add]
        go_wp2_with fail
        go_roundw
        case rel =>
          refine ⟨j + 1, by omega, by go_num, ⟨q + q2, rfl⟩, fun k hk => ?_⟩
          rcases (show k < j ∨ k = j by omega) with h | rfl
          · exact HNO.out k h
          · exact of_decide_eq_false HR.out
        case measure => simp [intOf]; omega
    · obtain rfl : j = n := by omega
      have HA : Hid (f ∉ A) := fun hm => by
        obtain ⟨k, hk, rfl⟩ := List.getElem_of_mem hm
        refine HNO.out k (by rw [← HLN.out]; exact hk) ?_
        rw [List.getD_eq_getElem?_getD, List.getElem?_eq_getElem hk]; rfl
      go_wp2_with fail
      go_ret
      exact ⟨-1, rfl, ⟨q, rfl⟩, ⟨fun h => absurd h (by decide), fun h => absurd h HA.out⟩, by decide⟩

theorem table_any (a : Nat → Addr) (B : Nat) (L : List (List Int)) (v : Value) (w : World) (hS : Sents w a) (hB : B ≤ w.heap.size) (hv : ListsIn B w v L) (hn : L.length ≤ 100000) (hl : ∀ l ∈ L, l.length ≤ 100000) :
    Calls Tryz.prog 48 #[.agg #[v]] w (TabPost a B L w) := by
  by_cases he : errX L = 0
  · exact table_ok a B L v w hS hB hv hn hl he
  · exact table_bad a B L v w hS hB hv hn hl he
theorem topN_7 {L : List (List Int)} (h : errC L = 0) : topN (allF L) ≤ 7 := by
  rcases topN_mem (allF L) with h0 | ⟨f, hf, e⟩
  · omega
  · rw [← e]; exact allF_bd h f hf
theorem dimF_none {L : List (List Int)} {dim : Int} (h : dim < 0 ∨ (topN (allF L) : Int) ≤ dim) : dimF (allF L) dim = [] := by
  unfold dimF
  rw [List.filter_eq_nil_iff]
  intro f hf
  have h1 := topN_ge hf
  have h2 := List.length_pos_iff.2 (mem_allF.1 hf).1
  simp only [decide_eq_true_eq]
  omega

/-- a result that is a value and an error -/
def FacPost (a : Nat → Addr) (L : List (List Int)) (P : World → Value → Prop) (z : Value) (w : World) (e : Ending) (w' : World) : Prop :=
  Below w.heap.size w w' ∧
  ((errX L = 0 ∧ ∃ v, e = .returned (.tuple #[v, .nilIface]) ∧ P w' v) ∨ (∃ k, k < 8 ∧ errX L = k + 1 ∧ e = .returned (.tuple #[z, errE (a k)])))

theorem FacPost.ok {a : Nat → Addr} {L : List (List Int)} {P : World → Value → Prop} {z v : Value} {w w' : World} (hb : Below w.heap.size w w') (he : errX L = 0) (hp : P w' v) : FacPost a L P z w (.returned (.tuple #[v, .nilIface])) w' := ⟨hb, Or.inl ⟨he, v, rfl, hp⟩⟩
theorem FacPost.err {a : Nat → Addr} {L : List (List Int)} {P : World → Value → Prop} {z : Value} {w w' : World} {k : Nat} (hb : Below w.heap.size w w') (hk : k < 8) (he : errX L = k + 1) : FacPost a L P z w (.returned (.tuple #[z, errE (a k)])) w' := ⟨hb, Or.inr ⟨k, hk, he, rfl⟩⟩

set_option maxRecDepth 100000 in
set_option maxHeartbeats 8000000 in
theorem faces_any (a : Nat → Addr) (B : Nat) (L : List (List Int)) (dim : Int) (v : Value) (w : World) (hS : Sents w a) (hB : B ≤ w.heap.size) (hv : ListsIn B w v L) (hn : L.length ≤ 100000) (hl : ∀ l ∈ L, l.length ≤ 100000) :
    Calls Tryz.prog 76 #[.agg #[v], .int .i64 dim] w (FacPost a L (fun w' u => ListsIn B w' u (dimF (allF L) dim)) (.slice none 0 0) w) := by
  obtain ⟨pv, cv, hve, -⟩ := id hv
  obtain ⟨n, hLn⟩ : ∃ n, L.length = n := ⟨_, rfl⟩
  rw [hLn] at hve
  subst hve
  have hb0 : Below w.heap.size w (w.alloc (.cells #[.slice pv n cv] 34)) := (Below.refl _ _).alloc (Nat.le_refl _) _
  have HB0 := Lib.hid hb0
  have HC := Lib.hid (table_any a B L (.slice pv n cv) _ (hS.below hb0 (Nat.le_refl _)) (Nat.le_trans hB hb0.size) (hv.below hb0 (Nat.le_refl _)) hn hl)
  unfold TabPost at HC
  unfold FacPost
  clear hS hB hv hn hl hb0 hLn
  have hcase : dim < 0 ∨ (topN (allF L) : Int) ≤ dim ∨ (0 ≤ dim ∧ dim < topN (allF L)) := by omega
  have HCASE := Lib.hid hcase
  clear hcase
  by_cases hd : dim < 0
  all_goals
    go_enter Tryz.func76, Tryz.ntmps76
    go_wp2_with fail
    refine HC.out.mono ?_
    rintro e w1 ⟨hb1, ⟨he, v1, rfl, hT⟩ | ⟨k, hk, hek, rfl⟩⟩
    rotate_left
    · have HB1 := Lib.hid (HB0.out.trans (hb1.mono HB0.out.size))
      have HEK := Lib.hid hek
      clear hb1 hek
      unfold errE
      go_wp2_with fail
      go_ret2
      exact ⟨HB1.out, Or.inr ⟨k, hk, HEK.out, rfl⟩⟩
    have HB1 := Lib.hid (HB0.out.trans (hb1.mono HB0.out.size))
    have HE := Lib.hid he
    have hm7 := topN_7 (errX_ok he).1
    have hti := hT.tab
    obtain ⟨p1, c1, hve, -⟩ := id hti
    rw [tableF_len] at hve
    obtain ⟨m, hm⟩ : ∃ m, topN (allF L) = m := ⟨_, rfl⟩
    rw [hm] at hve hm7
    have HM := Lib.hid hm
    have HTI := Lib.hid hti
    subst hve
    clear hb1 he hT hti hm
  · have q1 : decide (dim < 0) = true := decide_eq_true hd
    go_wp2_with fail
    go_ret2
    refine ⟨HB1.out, Or.inl ⟨HE.out, _, rfl, ?_⟩⟩
    rw [dimF_none (Or.inl hd)]
    exact ListsIn.nil _ _
  · have q1 : decide (dim < 0) = false := decide_eq_false (by omega)
    by_cases hd2 : (m : Int) ≤ dim
    · have q2 : decide ((m : Int) ≤ dim) = true := decide_eq_true hd2
      go_wp2_with fail
      go_ret2
      refine ⟨HB1.out, Or.inl ⟨HE.out, _, rfl, ?_⟩⟩
      rw [dimF_none (Or.inr (by rw [HM.out]; exact hd2))]
      exact ListsIn.nil _ _
    · have q2 : decide ((m : Int) ≤ dim) = false := decide_eq_false hd2
      obtain ⟨d, rfl⟩ : ∃ d : Nat, dim = d := ⟨dim.toNat, by omega⟩
      have hdm : d < m := by omega
      obtain ⟨p', c', hv', hle, hnn, hx⟩ := id HTI.out
      obtain ⟨b, off, u, e1, e2, e3⟩ := hx d (by rw [tableF_len, HM.out]; exact hdm)
      rw [tableF_at (by rw [HM.out]; exact hdm), ← dimF_nat] at e3
      cases hv'
      subst e1
      have HX := Lib.hid e3
      clear hx e3 hd hd2 hle hnn
      go_wp2_with fail
      go_ret2
      exact ⟨HB1.out, Or.inl ⟨HE.out, _, rfl, HX.out⟩⟩

def vecF (A : List (List Int)) : List Int := (List.range (topN A)).map fun d => ((rowF A d).length : Int)
theorem vecF_len (A : List (List Int)) : (vecF A).length = topN A := by simp [vecF]
theorem vecF_at {A : List (List Int)} {d : Nat} (h : d < topN A) : (vecF A).getD d 0 = (rowF A d).length := by simp [vecF, List.getD_eq_getElem?_getD, h]
theorem intVs_snoc (xs : List Int) (x : Int) : intVs (xs ++ [x]) = intVs xs ++ [.int .i64 x] := by simp [intVs]

set_option maxRecDepth 100000 in
set_option maxHeartbeats 8000000 in
theorem vector_any (a : Nat → Addr) (B : Nat) (L : List (List Int)) (v : Value) (w : World) (hS : Sents w a) (hB : B ≤ w.heap.size) (hv : ListsIn B w v L) (hn : L.length ≤ 100000) (hl : ∀ l ∈ L, l.length ≤ 100000) :
    Calls Tryz.prog 55 #[.agg #[v]] w (FacPost a L (fun w' u => IntsIn B w' u (vecF (allF L))) (.slice none 0 0) w) := by
  obtain ⟨i3, hi3, hy0, hy1, hy2⟩ := info_parts Tryz.info3
  obtain ⟨pv, cv, hve, -⟩ := id hv
  obtain ⟨n, hLn⟩ : ∃ n, L.length = n := ⟨_, rfl⟩
  rw [hLn] at hve
  subst hve
  have hb0 : Below w.heap.size w (w.alloc (.cells #[.slice pv n cv] 34)) := (Below.refl _ _).alloc (Nat.le_refl _) _
  have HB0 := Lib.hid hb0
  have HC := Lib.hid (table_any a B L (.slice pv n cv) _ (hS.below hb0 (Nat.le_refl _)) (Nat.le_trans hB hb0.size) (hv.below hb0 (Nat.le_refl _)) hn hl)
  unfold TabPost at HC
  unfold FacPost
  clear hS hB hv hn hl hb0 hLn
  go_enter Tryz.func55, Tryz.ntmps55
  go_wp2_with fail
  refine HC.out.mono ?_
  rintro e w1 ⟨hb1, ⟨he, v1, rfl, hT⟩ | ⟨k, hk, hek, rfl⟩⟩
  rotate_left
  · have HB1 := Lib.hid (HB0.out.trans (hb1.mono HB0.out.size))
    have HEK := Lib.hid hek
    clear hb1 hek
    unfold errE
    go_wp2_with fail
    refine wp_loop_rounds 1 ?_
    rw [rounds_succ]
    go_wp2_with fail
    go_ret2
    exact ⟨HB1.out, Or.inr ⟨k, hk, HEK.out, rfl⟩⟩
  have HB1 := Lib.hid (HB0.out.trans (hb1.mono HB0.out.size))
  have hs1 := HB1.out.size
  have HE := Lib.hid he
  have hm7 := topN_7 (errX_ok he).1
  have hti := hT.tab
  obtain ⟨p1, c1, hve, -⟩ := id hti
  rw [tableF_len] at hve
  obtain ⟨m, hm⟩ : ∃ m, topN (allF L) = m := ⟨_, rfl⟩
  rw [hm] at hve hm7
  have HM := Lib.hid hm
  have HTI := Lib.hid hti
  subst hve
  clear hb1 he hT hti hm
  go_wp2_with fail
  go_loopw [6, 8, 16] (fun u _ i wr => ∃ j : Nat, j ≤ m ∧ i = .int .i64 j ∧ Below w1.heap.size w1 wr ∧ wr.ownsRow w1.heap.size 3 1 u j (intVs ((vecF (allF L)).take j))) (fun _ _ i _ => m - (intOf i).toNat)
  case atStart => exact ⟨0, Nat.zero_le _, rfl, Below.refl _ _, World.ownsRow_nil _ _ _ _⟩
  case round =>
    obtain ⟨j, hj, rfl, hb, hO⟩ := hrel
    have HBR := Lib.hid hb
    have HO := Lib.hid hO
    have hsr := hb.size
    clear hb hO
    by_cases hjm : j < m
    · obtain ⟨p', c', hv', hle, hnn, hx⟩ := id (HTI.out.below HBR.out (Nat.le_refl _))
      obtain ⟨b, off, u, e1, e2, e3⟩ := hx j (by rw [tableF_len, HM.out]; exact hjm)
      rw [tableF_at (by rw [HM.out]; exact hjm)] at e3
      cases hv'
      subst e1
      obtain ⟨pr, cr, hue, -⟩ := id e3
      have hlen : (rowF (allF L) j).length ≤ 600 := Nat.le_trans (rowF_len _ _) (errC_ok (errX_ok HE.out).1).2.2
      have HAT := Lib.hid (vecF_at (A := allF L) (d := j) (by rw [HM.out]; exact hjm))
      obtain ⟨nr, hnr⟩ : ∃ nr, (rowF (allF L) j).length = nr := ⟨_, rfl⟩
      rw [hnr] at hue hlen HAT
      subst hue
      clear hx e3 hle hnn hnr
      go_wp2_with (at_builtin; refine wpList_append_lies _ rfl (.tmp 20) (.tmp 23) 23 rfl w1.heap.size 3 i3 (.int .i64 0) 1 8 Tryz.underlying23 hi3 hy0 hy1 hy2 rfl (by decide) _ j (intVs ((vecF (allF L)).take j)) rfl (HO.out.alloc _) ⟨wr.heap.size, 0, none⟩ 1 1 [.int .i64 nr] rfl rfl (World.news_of_block (cs := #[.int .i64 nr]) (t := 3) (fr := (0, 0)) (heap_alloc_new wr _)) (by simp [Value.oneCell']) (by decide) (by unfold maxLen; omega) (by omega) (by simp; omega) (wr.heap.size + 1) (by simp) ?_; intro g2 c2 w9 hown2 hgr2 hat2 hlt2; have HO2 := Lib.hid hown2; have HG2 := Lib.hid hgr2; clear hown2 hgr2 hat2 hlt2)
      go_roundw
      case rel =>
        refine ⟨j + 1, by omega, by go_num, (HBR.out.alloc hsr _).grown HG2.out (by simp; omega) (fun i hi => (HO.out.lt i hi).1), ?_⟩
        rw [take_snoc_getD 0 _ j (by rw [vecF_len, HM.out]; exact hjm), HAT.out, intVs_snoc]
        exact HO2.out
      case measure => simp [intOf]; omega
    · obtain rfl : j = m := by omega
      go_wp2_with fail
      go_ret2
      refine ⟨HB1.out.trans (HBR.out.mono hs1), Or.inl ⟨HE.out, _, rfl, ?_⟩⟩
      have h := HO.out
      rw [List.take_of_length_le (by rw [vecF_len, HM.out]; exact Nat.le_refl _)] at h
      exact ints_owned (B := B) h (by rw [vecF_len, HM.out])

def eulT (A : List (List Int)) : Nat → Int
  | 0 => 0
  | d + 1 => eulT A d + (rowF A d).length * (if d % 2 = 0 then 1 else -1)
theorem eulT_step (A : List (List Int)) (d : Nat) : eulT A (d + 1) = eulT A d + (rowF A d).length * (if d % 2 = 0 then 1 else -1) := rfl
theorem eulT_bd {A : List (List Int)} (h : A.length ≤ 600) : ∀ d : Nat, -(600 * (d : Int)) ≤ eulT A d ∧ eulT A d ≤ 600 * d
  | 0 => by simp [eulT]
  | d + 1 => by
    have h1 := eulT_bd h d
    have h2 := rowF_len A d
    rw [eulT_step]
    split <;> simp <;> omega
theorem eul_filter (A : List (List Int)) (m : Nat) : ((A.filter fun f => decide (1 ≤ f.length ∧ f.length ≤ m + 1)).map sgnF).sum = ((A.filter fun f => decide (1 ≤ f.length ∧ f.length ≤ m)).map sgnF).sum + (rowF A m).length * (if m % 2 = 0 then 1 else -1) := by
  induction A with
  | nil => simp [rowF]
  | cons f A ih =>
    unfold rowF at ih ⊢
    simp only [List.filter_cons]
    by_cases h1 : f.length = m + 1
    · have e1 : decide (1 ≤ f.length ∧ f.length ≤ m + 1) = true := decide_eq_true (by omega)
      have e2 : decide (1 ≤ f.length ∧ f.length ≤ m) = false := decide_eq_false (by omega)
      have e3 : decide (f.length = m + 1) = true := decide_eq_true h1
      have e4 : sgnF f = if m % 2 = 0 then 1 else -1 := by
        unfold sgnF
        by_cases h : m % 2 = 0
        · rw [if_pos h, if_pos (by omega)]
        · rw [if_neg h, if_neg (by omega)]
      rw [e1, e2, e3]
      simp only [if_true, List.map_cons, List.sum_cons, List.length_cons, ih, e4]
      split <;> simp <;> omega
    · have e3 : decide (f.length = m + 1) = false := decide_eq_false h1
      rw [e3]
      by_cases h2 : 1 ≤ f.length ∧ f.length ≤ m
      · have e1 : decide (1 ≤ f.length ∧ f.length ≤ m + 1) = true := decide_eq_true (by omega)
        have e2 : decide (1 ≤ f.length ∧ f.length ≤ m) = true := decide_eq_true h2
        rw [e1, e2]
        simp only [if_true, List.map_cons, List.sum_cons, ih]
        simp only [Bool.false_eq_true, if_false]
        omega
      · have e1 : decide (1 ≤ f.length ∧ f.length ≤ m + 1) = false := decide_eq_false (by omega)
        have e2 : decide (1 ≤ f.length ∧ f.length ≤ m) = false := decide_eq_false h2
        rw [e1, e2]
        simp only [Bool.false_eq_true, if_false, ih]
theorem eulT_filter (A : List (List Int)) : ∀ m, eulT A m = ((A.filter fun f => decide (1 ≤ f.length ∧ f.length ≤ m)).map sgnF).sum
  | 0 => by
    rw [List.filter_eq_nil_iff.2 (fun f _ => by simp only [decide_eq_true_eq]; omega)]
    rfl
  | m + 1 => by rw [eulT_step, eulT_filter A m, eul_filter]
theorem eulT_top {A : List (List Int)} (h : ∀ f ∈ A, f ≠ []) : eulT A (topN A) = eulF A := by
  rw [eulT_filter, List.filter_eq_self.2 (fun f hf => decide_eq_true ⟨List.length_pos_iff.2 (h f hf), topN_ge hf⟩)]
  rfl

set_option maxRecDepth 100000 in
set_option maxHeartbeats 8000000 in
theorem euler_any (a : Nat → Addr) (B : Nat) (L : List (List Int)) (v : Value) (w : World) (hS : Sents w a) (hB : B ≤ w.heap.size) (hv : ListsIn B w v L) (hn : L.length ≤ 100000) (hl : ∀ l ∈ L, l.length ≤ 100000) :
    Calls Tryz.prog 22 #[.agg #[v]] w (FacPost a L (fun _ u => u = .int .i64 (eulF (allF L))) (.int .i64 0) w) := by
  obtain ⟨pv, cv, hve, -⟩ := id hv
  obtain ⟨n, hLn⟩ : ∃ n, L.length = n := ⟨_, rfl⟩
  rw [hLn] at hve
  subst hve
  have hb0 : Below w.heap.size w (w.alloc (.cells #[.slice pv n cv] 34)) := (Below.refl _ _).alloc (Nat.le_refl _) _
  have HB0 := Lib.hid hb0
  have HC := Lib.hid (vector_any a B L (.slice pv n cv) _ (hS.below hb0 (Nat.le_refl _)) (Nat.le_trans hB hb0.size) (hv.below hb0 (Nat.le_refl _)) hn hl)
  unfold FacPost at HC
  clear hS hB hv hn hl hb0 hLn
  go_enter Tryz.func22, Tryz.ntmps22
  go_wp2_with fail
  refine HC.out.mono ?_
  rintro e w1 ⟨hb1, ⟨he, v1, rfl, hT⟩ | ⟨k, hk, hek, rfl⟩⟩
  rotate_left
  · have HB1 := Lib.hid (HB0.out.trans (hb1.mono HB0.out.size))
    have HEK := Lib.hid hek
    clear hb1 hek
    unfold errE
    go_wp2_with fail
    refine wp_loop_rounds 1 ?_
    rw [rounds_succ]
    go_wp2_with fail
    go_ret2
    exact FacPost.err HB1.out hk HEK.out
  have HB1 := Lib.hid (HB0.out.trans (hb1.mono HB0.out.size))
  have HE := Lib.hid he
  have hm7 := topN_7 (errX_ok he).1
  obtain ⟨p1, c1, hve, -⟩ := id hT
  rw [vecF_len] at hve
  obtain ⟨m, hm⟩ : ∃ m, topN (allF L) = m := ⟨_, rfl⟩
  rw [hm] at hve hm7
  have HM := Lib.hid hm
  have HTI := Lib.hid hT
  subst hve
  clear hb1 he hT hm
  go_wp2_with fail
  go_loop [6, 7, 8, 16] (fun s _ _ i => ∃ j : Nat, j ≤ m ∧ i = .int .i64 j ∧ ∃ x : Int, eulT (allF L) j = x ∧ -(600 * (j : Int)) ≤ x ∧ x ≤ 600 * j ∧ s = .int .i64 x) (fun _ _ _ i => m - (intOf i).toNat)
  case atStart => exact ⟨0, Nat.zero_le _, rfl, 0, rfl, by decide, by decide, rfl⟩
  case round =>
    obtain ⟨j, hj, rfl, x, hx, hx1, hx2, rfl⟩ := hrel
    have HX := Lib.hid hx
    clear hx
    by_cases hjm : j < m
    · obtain ⟨p', c', hv', hle, hnn, hxx⟩ := id HTI.out.at
      obtain ⟨b, off, e1, e2⟩ := hxx j (by rw [vecF_len, HM.out]; exact hjm)
      rw [vecF_at (by rw [HM.out]; exact hjm)] at e2
      cases hv'
      subst e1
      have hlen : (rowF (allF L) j).length ≤ 600 := Nat.le_trans (rowF_len _ _) (errC_ok (errX_ok HE.out).1).2.2
      have HST := Lib.hid (eulT_step (allF L) j)
      have hbd := eulT_bd (errC_ok (errX_ok HE.out).1).2.2 (j + 1)
      obtain ⟨nr, hnr⟩ : ∃ nr, (rowF (allF L) j).length = nr := ⟨_, rfl⟩
      rw [hnr] at e2 hlen HST
      clear hxx hle hnn hnr
      by_cases hj2 : j % 2 = 0
      · have HN2 : Hid (eulT (allF L) (j + 1) = x + nr) := by unfold Hid; rw [HST.out, HX.out, if_pos hj2, Int.mul_one]
        have hmod : (j : Int) % 2 = 0 := by omega
        have HBD := Lib.hid hbd
        clear hbd hj2
        go_wp2_with fail
        go_round
        case rel => exact ⟨j + 1, by omega, by go_num, x + nr, HN2.out, by omega, by omega, rfl⟩
        case measure => simp [intOf]; omega
      · have HN2 : Hid (eulT (allF L) (j + 1) = x + -(nr : Int)) := by unfold Hid; rw [HST.out, HX.out, if_neg hj2, Int.mul_neg, Int.mul_one]
        have hmod : (j : Int) % 2 = 1 := by omega
        have HBD := Lib.hid hbd
        clear hbd hj2
        go_wp2_with fail
        go_round
        case rel => exact ⟨j + 1, by omega, by go_num, x + -(nr : Int), HN2.out, by omega, by omega, by first | rfl | go_num⟩
        case measure => simp [intOf]; omega
    · obtain rfl : j = m := by omega
      have HF : Hid (x = eulF (allF L)) := by
        unfold Hid
        rw [← HX.out, ← HM.out]
        exact eulT_top fun f hf => (mem_allF.1 hf).1
      go_wp2_with fail
      go_ret2
      exact FacPost.ok HB1.out HE.out (by rw [← HF.out]; rfl)
end Go.Proofs.YtddnjimpdidpaaaGreatDoor
