/-
  The law's wheel: index.Winding at four complex points.
-/
import Derived.Test.YtddnjimpdidpaaaGreatDoorIxA
import Derived.WalkLawsBesides
import Derived.Laws.FloatArith
set_option linter.unusedSimpArgs false
set_option linter.unusedVariables false
namespace Go.Proofs.YtddnjimpdidpaaaGreatDoor
open Go Go.RowKit Go.Maps

def PtB (b : Nat) (n : Int) : Prop := (b = 0 ∧ n = 0) ∨ (b = 4607182418800017408 ∧ n = 1) ∨ (b = 13830554455654793216 ∧ n = -1)
theorem PtB.far {b : Nat} {n : Int} (hb : PtB b n) : (FloatKind.f64.format.order b 4697254411347427328 == some Ordering.lt || FloatKind.f64.format.order b 4697254411347427328 == some Ordering.eq) = true := by
  rcases hb with ⟨rfl, rfl⟩ | ⟨rfl, rfl⟩ | ⟨rfl, rfl⟩ <;> kernel_rfl
theorem PtB.raf {b : Nat} {n : Int} (hb : PtB b n) : (FloatKind.f64.format.order b 13920626448202203136 == some Ordering.gt || FloatKind.f64.format.order b 13920626448202203136 == some Ordering.eq) = true := by
  rcases hb with ⟨rfl, rfl⟩ | ⟨rfl, rfl⟩ | ⟨rfl, rfl⟩ <;> kernel_rfl
theorem PtB.self {b : Nat} {n : Int} (hb : PtB b n) : (FloatKind.f64.format.order b b == some Ordering.eq) = true := by
  rcases hb with ⟨rfl, rfl⟩ | ⟨rfl, rfl⟩ | ⟨rfl, rfl⟩ <;> kernel_rfl
set_option maxRecDepth 100000 in
theorem whole_at (b : Nat) (n : Int) (hb : PtB b n) (w : World) :
    Calls Tryz.prog 87 #[.float .f64 b] w fun e w' => e = .returned (.bool true) ∧ w' = w := by
  have c1 : ∀ w, (convert 132 3 (.float .f64 b)).run Tryz.prog w = .ok (.int .i64 n) w := by
    rcases hb with ⟨rfl, rfl⟩ | ⟨rfl, rfl⟩ | ⟨rfl, rfl⟩ <;> intro w <;> kernel_rfl
  have c2 : ∀ w, (convert 3 132 (.int .i64 n)).run Tryz.prog w = .ok (.float .f64 b) w := by
    rcases hb with ⟨rfl, rfl⟩ | ⟨rfl, rfl⟩ | ⟨rfl, rfl⟩ <;> intro w <;> kernel_rfl
  have c3 := hb.self
  have c4 := hb.far
  have c5 := hb.raf
  clear hb
  go_enter Tryz.func87, Tryz.ntmps87
  go_wp2_with (simp only [c1, c2])
  all_goals (go_ret; simp only [c3, c4, c5, Bool.and_true, Array.getD]; refine ⟨?_, ?_⟩ <;> first | rfl | trivial)
set_option maxRecDepth 100000 in
theorem windOne_at (b c : Nat) (m n : Int) (hb : PtB b m) (hc : PtB c n) (w : World) :
    Calls Tryz.prog 86 #[.complex .f64 b c] w fun e w' => e = .returned (.bool false) ∧ w' = w := by
  have c4 := hb.far
  have c5 := hb.raf
  have d4 := hc.far
  have d5 := hc.raf
  have H1 := Lib.hid (fun w => whole_at b m hb w)
  have H2 := Lib.hid (fun w => whole_at c n hc w)
  clear hb hc
  go_enter Tryz.func86, Tryz.ntmps86
  go_wp2_with fail
  refine (H1.out _).mono ?_
  rintro e w1 ⟨rfl, rfl⟩
  go_wp2_with fail
  refine (H2.out _).mono ?_
  rintro e w1 ⟨rfl, rfl⟩
  go_wp2_with fail
  all_goals (go_ret; exact ⟨rfl, rfl⟩)
set_option maxRecDepth 100000 in
theorem cross_at (a b c d p q r : Nat) (h1 : floatBits .mul .f64 a d = some p) (h2 : floatBits .mul .f64 b c = some q) (h3 : floatBits .sub .f64 p q = some r) (w : World) :
    Calls Tryz.prog 88 #[.complex .f64 a b, .complex .f64 c d] w fun e w' => e = .returned (.float .f64 r) ∧ w' = w := by
  have c1 : ∀ t w, (binOp .mul t (.float .f64 a) (.float .f64 d)).run Tryz.prog w = .ok (.float .f64 p) w := fun t w => run_float_arith w .mul t .f64 a d p h1
  have c2 : ∀ t w, (binOp .mul t (.float .f64 b) (.float .f64 c)).run Tryz.prog w = .ok (.float .f64 q) w := fun t w => run_float_arith w .mul t .f64 b c q h2
  have c3 : ∀ t w, (binOp .sub t (.float .f64 p) (.float .f64 q)).run Tryz.prog w = .ok (.float .f64 r) w := fun t w => run_float_arith w .sub t .f64 p q r h3
  clear h1 h2 h3
  go_enter Tryz.func88, Tryz.ntmps88
  go_wp2_with (simp only [c1, c2, c3])
  all_goals (go_ret; exact ⟨rfl, rfl⟩)

def reP (i : Nat) : Nat := match i with | 0 => 4607182418800017408 | 2 => 13830554455654793216 | _ => 0
def imP (i : Nat) : Nat := match i with | 1 => 4607182418800017408 | 3 => 13830554455654793216 | _ => 0
theorem reP_b : ∀ i, i < 4 → ∃ n, PtB (reP i) n
  | 0, _ => ⟨1, Or.inr (Or.inl ⟨rfl, rfl⟩)⟩
  | 1, _ => ⟨0, Or.inl ⟨rfl, rfl⟩⟩
  | 2, _ => ⟨-1, Or.inr (Or.inr ⟨rfl, rfl⟩)⟩
  | 3, _ => ⟨0, Or.inl ⟨rfl, rfl⟩⟩
  | n + 4, h => absurd h (by omega)
theorem imP_b : ∀ i, i < 4 → ∃ n, PtB (imP i) n
  | 0, _ => ⟨0, Or.inl ⟨rfl, rfl⟩⟩
  | 1, _ => ⟨1, Or.inr (Or.inl ⟨rfl, rfl⟩)⟩
  | 2, _ => ⟨0, Or.inl ⟨rfl, rfl⟩⟩
  | 3, _ => ⟨-1, Or.inr (Or.inr ⟨rfl, rfl⟩)⟩
  | n + 4, h => absurd h (by omega)
/-- the four points lie in a block -/
def Four (w : World) (b : Nat) : Prop := ∀ i, i < 4 → w.cell? ⟨b, i, none⟩ = some (.complex .f64 (reP i) (imP i))
set_option maxRecDepth 100000 in
theorem indexFuncC_at (b : Nat) (w : World) (hF : Four w b) :
    Calls Tryz.prog 126 #[.slice (some ⟨b, 0, none⟩) 4 4, .func (.func 86) #[] #[]] w fun e w' => e = .returned (.int .i64 (-1)) ∧ w' = w := by
  have HF := Lib.hid hF
  clear hF
  go_enter Tryz.func126, Tryz.ntmps126
  go_wp2_with fail
  go_loopw [8] (fun i wr => ∃ (j : Nat), j ≤ 4 ∧ i = .int .i64 (j : Int) ∧ wr = w) (fun i _ => 4 - (intOf i).toNat)
  case atStart => exact ⟨0, by omega, rfl, rfl⟩
  case round =>
    obtain ⟨j, hj, rfl, rfl⟩ := hrel
    by_cases hjn : j < 4
    · have e2 := HF.out j hjn
      obtain ⟨m, h1⟩ := reP_b j hjn
      obtain ⟨n, h2⟩ := imP_b j hjn
      have HC := Lib.hid (windOne_at (reP j) (imP j) m n h1 h2 wr)
      generalize reP j = x at e2 HC
      generalize imP j = y at e2 HC
      clear h1 h2
      go_wp2_with fail
      refine HC.out.mono ?_
      rintro e w2 ⟨rfl, rfl⟩
      clear HC
      go_wp2_with fail
      go_roundw
      case rel => exact ⟨j + 1, by omega, by go_num, by first | rfl | trivial⟩
      case measure => simp [intOf]; omega
    · obtain rfl : j = 4 := by omega
      go_wp2_with fail
      go_ret
      exact ⟨rfl, rfl⟩
set_option maxRecDepth 100000 in
theorem containsFuncC_at (b : Nat) (w : World) (hF : Four w b) :
    Calls Tryz.prog 85 #[.slice (some ⟨b, 0, none⟩) 4 4, .func (.func 86) #[] #[]] w fun e w' => e = .returned (.bool false) ∧ w' = w := by
  have HC := Lib.hid (indexFuncC_at b w hF)
  clear hF
  go_enter Tryz.func85, Tryz.ntmps85
  go_wp2_with fail
  refine HC.out.mono ?_
  rintro e w2 ⟨rfl, rfl⟩
  go_wp2_with fail
  go_ret
  exact ⟨rfl, rfl⟩
theorem crossP : ∀ i, i < 4 → ∀ w, Calls Tryz.prog 88 #[.complex .f64 (reP i) (imP i), .complex .f64 (reP ((i + 1) % 4)) (imP ((i + 1) % 4))] w fun e w' => e = .returned (.float .f64 4607182418800017408) ∧ w' = w
  | 0, _ => fun w => cross_at _ _ _ _ 4607182418800017408 0 4607182418800017408 (by kernel_rfl) (by kernel_rfl) (by kernel_rfl) w
  | 1, _ => fun w => cross_at _ _ _ _ 0 13830554455654793216 4607182418800017408 (by kernel_rfl) (by kernel_rfl) (by kernel_rfl) w
  | 2, _ => fun w => cross_at _ _ _ _ 4607182418800017408 0 4607182418800017408 (by kernel_rfl) (by kernel_rfl) (by kernel_rfl) w
  | 3, _ => fun w => cross_at _ _ _ _ 0 13830554455654793216 4607182418800017408 (by kernel_rfl) (by kernel_rfl) (by kernel_rfl) w
  | n + 4, h => absurd h (by omega)

def cntP (i : Nat) : Int := if i = 4 then 1 else 0
set_option maxRecDepth 100000 in
set_option maxHeartbeats 4000000 in
theorem winding_at (b : Nat) (w : World) (hF : Four w b) :
    Calls Tryz.prog 47 #[.slice (some ⟨b, 0, none⟩) 4 4] w fun e w' => e = .returned (.tuple #[.int .i64 1, .nilIface]) ∧ w' = w := by
  have HC := Lib.hid (containsFuncC_at b w hF)
  have HF := Lib.hid hF
  clear hF
  go_enter Tryz.func47, Tryz.ntmps47
  go_wp2_with fail
  refine HC.out.mono ?_
  rintro e w2 ⟨rfl, rfl⟩
  clear HC
  go_wp2_with fail
  go_loopw [4, 22] (fun n i wr => ∃ (j : Nat), j ≤ 4 ∧ i = .int .i64 (j : Int) ∧ n = .int .i64 (cntP j) ∧ wr = w2) (fun _ i _ => 4 - (intOf i).toNat)
  case atStart => exact ⟨0, by omega, rfl, rfl, rfl⟩
  case round =>
    obtain ⟨j, hj, rfl, rfl, rfl⟩ := hrel
    rcases (show j = 0 ∨ j = 1 ∨ j = 2 ∨ j = 3 ∨ j = 4 by omega) with rfl | rfl | rfl | rfl | rfl
    · have e2 := HF.out 0 (by decide)
      have e3 := HF.out 1 (by decide)
      have HX := Lib.hid (crossP 0 (by decide) wr)
      go_wp2_with fail
      refine HX.out.mono ?_
      rintro e w2 ⟨rfl, rfl⟩
      go_wp2_with fail
      all_goals exact ⟨⟨1, by omega, rfl, rfl, trivial⟩, by decide⟩
    · have e2 := HF.out 1 (by decide)
      have e3 := HF.out 2 (by decide)
      have HX := Lib.hid (crossP 1 (by decide) wr)
      go_wp2_with fail
      refine HX.out.mono ?_
      rintro e w2 ⟨rfl, rfl⟩
      go_wp2_with fail
      all_goals exact ⟨⟨2, by omega, rfl, rfl, trivial⟩, by decide⟩
    · have e2 := HF.out 2 (by decide)
      have e3 := HF.out 3 (by decide)
      have HX := Lib.hid (crossP 2 (by decide) wr)
      go_wp2_with fail
      refine HX.out.mono ?_
      rintro e w2 ⟨rfl, rfl⟩
      go_wp2_with fail
      refine HX.out.mono ?_
      rintro e w2 ⟨rfl, rfl⟩
      go_wp2_with fail
      all_goals exact ⟨⟨3, by omega, rfl, rfl, trivial⟩, by decide⟩
    · have e2 := HF.out 3 (by decide)
      have e3 := HF.out 0 (by decide)
      have HX := Lib.hid (crossP 3 (by decide) wr)
      go_wp2_with fail
      refine HX.out.mono ?_
      rintro e w2 ⟨rfl, rfl⟩
      go_wp2_with fail
      refine HX.out.mono ?_
      rintro e w2 ⟨rfl, rfl⟩
      go_wp2_with fail
      all_goals exact ⟨⟨4, by omega, rfl, by kernel_rfl, trivial⟩, by decide⟩
    · go_wp2_with fail
      go_ret2
      exact ⟨rfl, rfl⟩
set_option maxRecDepth 100000 in
set_option maxHeartbeats 4000000 in
theorem wheel_any (w : World) :
    Calls Tryz.prog 18 #[] w fun e w' => e = .returned (.bool true) ∧ Below w.heap.size w w' := by
  have hb0 : Below w.heap.size w _ := (Below.refl w.heap.size w).alloc (Nat.le_refl _) (.cells #[.complex .f64 4607182418800017408 0, .complex .f64 0 4607182418800017408, .complex .f64 13830554455654793216 0, .complex .f64 0 13830554455654793216] 88)
  have hF : Four (w.alloc (.cells #[.complex .f64 4607182418800017408 0, .complex .f64 0 4607182418800017408, .complex .f64 13830554455654793216 0, .complex .f64 0 13830554455654793216] 88)) w.heap.size := fun i hi => by
    have h := heap_alloc_new w (.cells #[.complex .f64 4607182418800017408 0, .complex .f64 0 4607182418800017408, .complex .f64 13830554455654793216 0, .complex .f64 0 13830554455654793216] 88)
    simp only [World.cell?, h]
    match i, hi with
    | 0, _ => rfl
    | 1, _ => rfl
    | 2, _ => rfl
    | 3, _ => rfl
    | n + 4, h => exact absurd h (by omega)
  have HB := Lib.hid hb0
  have HW := Lib.hid (winding_at _ _ hF)
  clear hF hb0
  go_enter Tryz.func18, Tryz.ntmps18
  go_wp2_with fail
  refine HW.out.mono ?_
  rintro e w1 ⟨rfl, rfl⟩
  clear HW
  go_wp2_with fail
  go_ret
  exact ⟨rfl, HB.out⟩
end Go.Proofs.YtddnjimpdidpaaaGreatDoor
