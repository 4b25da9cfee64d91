/-
  The law LabelOdd: its labels, made out of the seeds such as may be there.
-/
import Derived.Test.YtnijedeopnjklaaDoorOddR
import Derived.StillTailTactics
namespace Go.Proofs.YtnijedeopnjklaaDoor
open Go Go.RowKit Sper

/-- may a point bear a label? -/
def okLab (p : Nat × Nat × Nat) (x : Int) : Prop := (x = 0 ∧ p.1 ≠ 0) ∨ (x = 1 ∧ p.2.1 ≠ 0) ∨ (x = 2 ∧ p.2.2 ≠ 0)
def LabsTo (P : List (Nat × Nat × Nat)) (k : Nat) (xs : List Int) : Prop := xs.length = k ∧ ∀ i, i < k → okLab (tri P i) (xs.getD i 0)
theorem labsTo_nil (P : List (Nat × Nat × Nat)) : LabsTo P 0 [] := ⟨rfl, fun i h => absurd h (by omega)⟩
theorem labsTo_push {P : List (Nat × Nat × Nat)} {k : Nat} {xs : List Int} {x : Int} (h : LabsTo P k xs) (hx : okLab (tri P k) x) : LabsTo P (k + 1) (xs ++ [x]) := by
  obtain ⟨h1, h2⟩ := h
  refine ⟨by simp [h1], fun i hi => ?_⟩
  rcases (show i < k ∨ i = k by omega) with h | rfl
  · have := h2 i h
    rwa [List.getD_eq_getElem?_getD, List.getElem?_append_left (by omega), ← List.getD_eq_getElem?_getD]
  · rw [List.getD_eq_getElem?_getD, List.getElem?_append_right (by omega), h1]
    simpa using hx
theorem labs_labels {P : List (Nat × Nat × Nat)} {xs : List Int} (h : LabsTo P P.length xs) : Labels P (labF xs) := by
  have hh : ∀ k, k < P.length → okLab (tri P k) (labF xs k) := h.2
  refine ⟨fun k hk => ?_, fun k hk he => ?_, fun k hk he => ?_, fun k hk he => ?_⟩
  · rcases hh k hk with ⟨h, -⟩ | ⟨h, -⟩ | ⟨h, -⟩
    · exact Or.inl h
    · exact Or.inr (Or.inl h)
    · exact Or.inr (Or.inr h)
  all_goals
    have h2 := hh k hk
    rw [he] at h2
    unfold okLab tri at h2
    first
      | (unfold i0; exact beq_eq_false_iff_ne.2 (by omega))
      | (unfold j0; exact beq_eq_false_iff_ne.2 (by omega))
      | (unfold k0; exact beq_eq_false_iff_ne.2 (by omega))
/-- how many steps to a label that may be there -/
def labM (a b c : Nat) (v : Value) : Nat :=
  match intOf v with
  | 0 => if a ≠ 0 then 0 else if b ≠ 0 then 1 else 2
  | 1 => if b ≠ 0 then 0 else if c ≠ 0 then 1 else 2
  | _ => if c ≠ 0 then 0 else if a ≠ 0 then 1 else 2
theorem labM_0 {a b c : Nat} (h : a = 0) (hs : 1 ≤ a + b + c) : labM a b c (.int .i64 1) < labM a b c (.int .i64 0) := by
  show (if b ≠ 0 then 0 else if c ≠ 0 then 1 else 2) < (if a ≠ 0 then 0 else if b ≠ 0 then 1 else 2)
  repeat' split
  all_goals omega
theorem labM_1 {a b c : Nat} (h : b = 0) (hs : 1 ≤ a + b + c) : labM a b c (.int .i64 2) < labM a b c (.int .i64 1) := by
  show (if c ≠ 0 then 0 else if a ≠ 0 then 1 else 2) < (if b ≠ 0 then 0 else if c ≠ 0 then 1 else 2)
  repeat' split
  all_goals omega
theorem labM_2 {a b c : Nat} (h : c = 0) (hs : 1 ≤ a + b + c) : labM a b c (.int .i64 0) < labM a b c (.int .i64 2) := by
  show (if a ≠ 0 then 0 else if b ≠ 0 then 1 else 2) < (if c ≠ 0 then 0 else if a ≠ 0 then 1 else 2)
  repeat' split
  all_goals omega
theorem pts_sum (n : Nat) : ∀ p ∈ ptsL n, p.1 + p.2.1 + p.2.2 = n := by
  intro p hp
  unfold ptsL ptsTo at hp
  obtain ⟨i, hi, hp⟩ := List.mem_flatMap.1 hp
  unfold rowTo at hp
  obtain ⟨q, hq, rfl⟩ := List.mem_map.1 hp
  have := List.mem_range.1 hi
  have := List.mem_range.1 hq
  simp only
  omega
theorem cells_at {w : World} {e D g cap : Nat} {L : List (Nat × Nat × Nat)} (h : w.ownsRow D e 3 (.slice (some ⟨g, 0, none⟩) L.length cap) L.length (cells3 L)) (k : Nat) (hk : k < L.length) :
    w.cell? ⟨g, k * 3, none⟩ = some (.int .i64 ((tri L k).1 : Int)) ∧ w.cell? ⟨g, k * 3 + 1, none⟩ = some (.int .i64 ((tri L k).2.1 : Int)) ∧ w.cell? ⟨g, k * 3 + 2, none⟩ = some (.int .i64 ((tri L k).2.2 : Int)) := by
  have hadd : ∀ b j, (⟨b, 0, none⟩ : Addr).add j = ⟨b, j, none⟩ := fun b j => by unfold Addr.add; split <;> simp_all
  have hg : ∀ j, j < 3 → (cells3 L)[k * 3 + j]? = (enc3 (tri L k))[j]? := fun j hj => by
    rw [cells3_flat, flat_get enc3_len (by decide) L (k * 3 + j) (by omega)]
    rw [show (k * 3 + j) / 3 = k from by omega, show (k * 3 + j) % 3 = j from by omega]
    unfold tri
    congr 2
    simp [hk, List.getD_eq_getElem?_getD]
  refine ⟨?_, ?_, ?_⟩
  · have := h.cells (g := g) rfl (k * 3 + 0) _ (hg 0 (by omega)); rwa [hadd] at this
  · have := h.cells (g := g) rfl (k * 3 + 1) _ (hg 1 (by omega)); rwa [hadd] at this
  · have := h.cells (g := g) rfl (k * 3 + 2) _ (hg 2 (by omega)); rwa [hadd] at this

theorem int_cells {w : World} {D g n cap : Nat} {xs : List Int} (h : w.ownsRow D 3 1 (.slice (some ⟨g, 0, none⟩) n cap) n (intVs xs)) : ∀ i, i < n → w.cell? ⟨g, 0 + i, none⟩ = some (.int .i64 (xs.getD i 0)) := by
  intro i hi
  have hl : n = xs.length := by have := h.1; rw [Nat.mul_one] at this; rw [← this]; simp [intVs]
  have h1 : (intVs xs)[i]? = some (.int .i64 (xs.getD i 0)) := by
    simp [intVs, List.getElem?_eq_getElem (show i < xs.length by omega), List.getD_eq_getElem?_getD]
  have h2 := h.cells (g := g) rfl i _ h1
  have e : (⟨g, 0, none⟩ : Addr).add i = ⟨g, 0 + i, none⟩ := by
    cases i with
    | zero => rfl
    | succ j => simp [Addr.add]
  rwa [e] at h2

theorem ints_own {w : World} {D g n c : Nat} {xs : List Int} (h : w.ownsRow D 3 1 (.slice (some ⟨g, 0, none⟩) n c) n (intVs xs)) : IntsAt w (.slice (some ⟨g, 0, none⟩) xs.length c) xs := by
  have hl : n = xs.length := by have := h.1; rw [Nat.mul_one] at this; rw [← this]; simp [intVs]
  subst hl
  have hcap : xs.length ≤ c := by
    rcases h.2 with ⟨h, -⟩ | ⟨g', c', cur, h, -, -, h3, -⟩
    · cases h
    · cases h; exact h3
  exact ⟨_, c, rfl, hcap, fun h => (by cases h), fun i hi => ⟨g, 0, rfl, int_cells h i hi⟩⟩
theorem trip_at {p : Nat × Nat × Nat} {w : World} {g : Nat} (h : w.heap[g]? = some (.cells #[.int .i64 (p.1 : Int), .int .i64 (p.2.1 : Int), .int .i64 (p.2.2 : Int)] 36 (0, 0))) : IntsAt w (.slice (some ⟨g, 0, none⟩) 3 3) (tripL p) :=
  ⟨_, 3, rfl, Nat.le_refl _, fun h => (by cases h), fun i hi => ⟨g, 0, rfl, by
    have hi3 : i < 3 := hi
    rcases (show i = 0 ∨ i = 1 ∨ i = 2 by omega) with rfl | rfl | rfl <;> simp [World.cell?, h, tripL]⟩⟩
/-- an owned row of ints, later on: its cells; its first ones as a list -/
theorem walk_cells {w wr : World} {D g c K : Nat} {T : Nat → Nat} (h : w.ownsRow D 3 1 (.slice (some ⟨g, 0, none⟩) (K + 1) c) (K + 1) (intVs ((List.range (K + 1)).map fun i => (T i : Int)))) (hb : Below w.heap.size w wr) :
    (∀ i, i < K + 1 → wr.cell? ⟨g, i, none⟩ = some (.int .i64 (T i : Int))) ∧ ∀ j, j ≤ K + 1 → IntsAt wr (.slice (some ⟨g, 0, none⟩) j c) ((List.range j).map fun i => (T i : Int)) := by
  have h1 : ∀ i, i < K + 1 → wr.cell? ⟨g, i, none⟩ = some (.int .i64 (T i : Int)) := fun i hi => by
    have h2 := int_cells h i hi
    rw [Nat.zero_add, List.getD_eq_getElem?_getD, List.getElem?_map, List.getElem?_range hi] at h2
    exact (hb.cell (p := ⟨g, i, none⟩) (mem_lt h2)).trans h2
  have hcap : K + 1 ≤ c := by
    rcases h.2 with ⟨h, -⟩ | ⟨g', c', cur, h, -, -, h3, -⟩
    · cases h
    · cases h; exact h3
  refine ⟨h1, fun j hj => ⟨_, c, by rw [List.length_map, List.length_range], by rw [List.length_map, List.length_range]; omega, fun h => (by cases h), fun i hi => ⟨g, 0, rfl, ?_⟩⟩⟩
  rw [List.length_map, List.length_range] at hi
  rw [Nat.zero_add, List.getD_eq_getElem?_getD, List.getElem?_map, List.getElem?_range hi]
  exact h1 i (by omega)

set_option maxRecDepth 100000 in
set_option maxHeartbeats 16000000 in
theorem odd_in (n : Nat) (hn1 : 1 ≤ n) (hn : n ≤ 12) (ss : List Int) (b off cap : Nat) (w : World) (hpos : 0 < ss.length)
    (hc : ∀ i, i < ss.length → w.cell? ⟨b, off + i, none⟩ = some (.int .i64 (ss.getD i 0))) (hwf : ∀ i, -9223372036854775808 ≤ ss.getD i 0 ∧ ss.getD i 0 ≤ 9223372036854775807) :
    Calls Tryd.prog 3 #[.int .i64 (n : Int), .slice (some ⟨b, off, none⟩) ss.length cap] w (TruePost w) := by
  obtain ⟨i3, hi3, hz30, hz31, hz32⟩ := info_parts Tryd.info3
  have d1 : decide ((n : Int) < 1) = false := decide_eq_false (by omega)
  have d2 : decide ((12 : Int) < (n : Int)) = false := decide_eq_false (by omega)
  have d3 : ((ss.length : Int) == 0) = false := beq_eq_false_iff_ne.2 (by omega)
  have HC := Lib.hid hc
  have HWF := Lib.hid hwf
  have HPL := Lib.hid (pts_len n hn)
  have hpp := pts_pos n
  clear hc hwf
  go_enter Tryd.func3, Tryd.ntmps3
  go_wp2_with fail
  refine (corner_any _).mono ?_
  rintro e w1 ⟨rfl, hb1⟩
  have HB1 := Lib.hid hb1
  clear hb1
  go_wp2_with fail
  refine (spots_nat n hn _).mono ?_
  rintro e w2 ⟨va, rfl, hb2, ho⟩
  obtain ⟨g, cL, rfl⟩ := Joins.ownsRow_form ho hpp
  have HB2 := Lib.hid (HB1.out.trans (hb2.mono HB1.out.size))
  have HO := Lib.hid ho
  clear hb2 ho d1 d2 d3
  go_wp2_with fail
  go_loopw [7, 8] (fun v i wr => ∃ k : Nat, k ≤ (ptsL n).length ∧ i = .int .i64 k ∧ Below w2.heap.size w2 wr ∧ ∃ xs, LabsTo (ptsL n) k xs ∧ wr.ownsRow w2.heap.size 3 1 v k (intVs xs)) (fun _ i _ => (ptsL n).length - (intOf i).toNat)
  case atStart => exact ⟨0, Nat.zero_le _, rfl, Below.refl _ _, [], labsTo_nil _, by simpa [intVs] using World.ownsRow_nil w2 w2.heap.size 3 1⟩
  case round =>
    obtain ⟨k, hk, rfl, hb, xs, hxs, hown⟩ := hrel
    have HXS := Lib.hid hxs
    have HBR := Lib.hid hb
    clear hxs hb
    by_cases hks : k < (ptsL n).length
    · have hoL := owns_keep (w' := wr) HO.out fun j hj => HBR.out.block j (HO.out.lt j hj).2
      obtain ⟨c0, c1, c2⟩ := cells_at hoL k hks
      have hsum := pts_sum n (tri (ptsL n) k) (tri_mem hks)
      have hkm : k % ss.length < ss.length := Nat.mod_lt _ hpos
      have hcs := ((HB2.out.trans (HBR.out.mono HB2.out.size)).cell (p := ⟨b, off + k % ss.length, none⟩) (mem_lt (HC.out _ hkm))).trans (HC.out _ hkm)
      obtain ⟨s1, s2⟩ := HWF.out (k % ss.length)
      obtain ⟨s, hs⟩ : ∃ s, ss.getD (k % ss.length) 0 = s := ⟨_, rfl⟩
      rw [hs] at hcs s1 s2
      obtain ⟨⟨pa, pb, pc⟩, hp⟩ : ∃ p, tri (ptsL n) k = p := ⟨_, rfl⟩
      rw [hp] at c0 c1 c2 hsum
      simp only at c0 c1 c2 hsum
      have HP := Lib.hid hp
      clear hoL hs hp
      have t3a := Int.tmod_lt_of_pos s (show (0 : Int) < 3 by decide)
      have t3b := Int.lt_tmod_of_pos s (show (0 : Int) < 3 by decide)
      go_upto_if 55 with fail
      go_cut [9] (fun s9 wx => ∃ x : Int, 0 ≤ x ∧ x ≤ 2 ∧ s9 = .int .i64 x ∧ wx = wr)
      case first =>
        go_wp2_with fail
        all_goals go_meet
        · exact ⟨s.tmod 3 + 3, by omega, by omega, rfl, rfl⟩
        · exact ⟨s.tmod 3, by omega, by omega, rfl, rfl⟩
      case rest =>
        obtain ⟨x, hx0, hx2, rfl, rfl⟩ := hcut
        clear t3a t3b hcs s1 s2
        go_wp2_with fail
        go_region
        obtain ⟨wa, hwa⟩ : ∃ wa, wa = (wc.alloc (.cells #[.int .i64 (pa : Int), .int .i64 (pb : Int), .int .i64 (pc : Int)] 3)).drew := ⟨_, rfl⟩
        rw [← hwa]
        have hba : Below wc.heap.size wc wa := by rw [hwa]; exact ((Below.refl _ _).alloc (Nat.le_refl _) _).drew
        have hblk : wa.heap[wc.heap.size]? = some (.cells #[.int .i64 (pa : Int), .int .i64 (pb : Int), .int .i64 (pc : Int)] 3 (0, 0)) := by rw [hwa]; exact heap_alloc_new wc _
        have a0 : wa.cell? ⟨wc.heap.size, 0, none⟩ = some (.int .i64 (pa : Int)) := by simp [World.cell?, hblk]
        have a1 : wa.cell? ⟨wc.heap.size, 1, none⟩ = some (.int .i64 (pb : Int)) := by simp [World.cell?, hblk]
        have a2 : wa.cell? ⟨wc.heap.size, 2, none⟩ = some (.int .i64 (pc : Int)) := by simp [World.cell?, hblk]
        have hown4 := owns_keep (w' := wa) hown fun j hj => hba.block j (hown.lt j hj).2
        have HBA := Lib.hid (HBR.out.trans (hba.mono HBR.out.size))
        have hsz4 : w2.heap.size ≤ wa.heap.size := HBA.out.size
        have hkb : k ≤ 1000 := by have := HPL.out; omega
        clear hwa hblk hba hown c0 c1 c2
        go_wp2_with fail
        go_loop [9] (fun s9 => ∃ x : Int, 0 ≤ x ∧ x ≤ 2 ∧ s9 = .int .i64 x) (labM pa pb pc)
        case atStart => exact ⟨x, hx0, hx2, rfl⟩
        case round =>
          obtain ⟨y, hy0, hy2, rfl⟩ := hrel
          have hy : (y = 0 ∧ pa = 0) ∨ (y = 1 ∧ pb = 0) ∨ (y = 2 ∧ pc = 0) ∨ okLab (pa, pb, pc) y := by unfold okLab; simp only; omega
          rcases hy with ⟨rfl, h0⟩ | ⟨rfl, h0⟩ | ⟨rfl, h0⟩ | hok
          · have q0 : ((pa : Int) == 0) = true := beq_iff_eq.2 (by omega)
            have hm := labM_0 (a := pa) (b := pb) (c := pc) h0 (by omega)
            have HM := Lib.hid hm
            clear hm
            go_wp2_with fail
            go_round
            case rel => exact ⟨1, by omega, by omega, rfl⟩
            case measure => exact HM.out
          · have q0 : ((pb : Int) == 0) = true := beq_iff_eq.2 (by omega)
            have hm := labM_1 (a := pa) (b := pb) (c := pc) h0 (by omega)
            have HM := Lib.hid hm
            clear hm
            go_wp2_with fail
            go_round
            case rel => exact ⟨2, by omega, by omega, rfl⟩
            case measure => exact HM.out
          · have q0 : ((pc : Int) == 0) = true := beq_iff_eq.2 (by omega)
            have hm := labM_2 (a := pa) (b := pb) (c := pc) h0 (by omega)
            have HM := Lib.hid hm
            clear hm
            go_wp2_with fail
            go_round
            case rel => exact ⟨0, by omega, by omega, rfl⟩
            case measure => exact HM.out
          · have HOK := Lib.hid hok
            have HAP := Lib.hid (fun (v' : Value) (w5 : World) (ho5 : w5.ownsRow w2.heap.size 3 1 v' (k + 1) (intVs xs ++ [.int .i64 y])) => (⟨xs ++ [y], labsTo_push HXS.out (by rw [HP.out]; exact HOK.out), by simpa [intVs] using ho5⟩ : ∃ xs, LabsTo (ptsL n) (k + 1) xs ∧ w5.ownsRow w2.heap.size 3 1 v' (k + 1) (intVs xs)))
            have q : (y = 0 ∧ ((pa : Int) == 0) = false) ∨ (y = 1 ∧ ((pb : Int) == 0) = false) ∨ (y = 2 ∧ ((pc : Int) == 0) = false) := by
              unfold okLab at hok
              simp only at hok
              rcases hok with ⟨h, h'⟩ | ⟨h, h'⟩ | ⟨h, h'⟩
              · exact Or.inl ⟨h, beq_eq_false_iff_ne.2 (by omega)⟩
              · exact Or.inr (Or.inl ⟨h, beq_eq_false_iff_ne.2 (by omega)⟩)
              · exact Or.inr (Or.inr ⟨h, beq_eq_false_iff_ne.2 (by omega)⟩)
            clear hok
            rcases q with ⟨rfl, q0⟩ | ⟨rfl, q0⟩ | ⟨rfl, q0⟩
            all_goals
              go_wp2_with (at_builtin; go_must (refine wpList_append_own _ rfl _ _ 22 rfl w2.heap.size 3 i3 (.int .i64 0) 1 8 Tryd.underlying22 hi3 hz30 hz31 hz32 rfl (by decide) _ _ _ rfl (hown4.alloc _) ⟨wa.heap.size, 0, none⟩ 1 1 _ rfl rfl (cells_new _ _ _) (fun u hu => by simp at hu; subst hu; rfl) (by unfold maxLen; omega) (by omega) (by simp; omega) ?_); intro v' w5 hown' hgrow hiff
                           have hb5 := Lib.hid ((HBA.out.alloc hsz4 _).grown hgrow (by simp; omega) (fun j hj => (hown4.lt j hj).1))
                           have hres := Lib.hid (HAP.out v' w5 hown')
                           clear hiff hgrow hown' hown4)
              go_roundw
              case rel => exact ⟨k + 1, by omega, by go_num, hb5.out, hres.out⟩
              case measure => simp [intOf]; omega
    · obtain rfl : k = (ptsL n).length := by omega
      obtain ⟨gl, cl, rfl⟩ := Joins.ownsRow_form hown hpp
      have hlen := HXS.out.1
      have hlab := labs_labels HXS.out
      have hcl := int_cells hown
      rw [← hlen] at hcl
      have HF := Lib.hid (full_ok n hn1 hn xs gl 0 cl wr hlen hlab hcl)
      unfold FullPost at HF
      have hodd := full_len_odd hn1 hn hlab
      have HGS := Lib.hid (good_some hn1 hn hlab)
      have HLB := Lib.hid hlab
      have HLN := Lib.hid hlen
      have HCL := Lib.hid hcl
      have HBW := Lib.hid (HB2.out.trans (HBR.out.mono HB2.out.size))
      rw [HLN.out] at HF
      clear hlen hlab hcl hown
      go_wp2_with fail
      refine HF.out.mono ?_
      rintro e w3 ⟨vf, rfl, hb3, hof⟩
      have hfp : 0 < (fullTo (smallL n) xs (smallL n).length).length := by omega
      obtain ⟨gf, cf, rfl⟩ := Joins.ownsRow_form hof hfp
      have HB3 := Lib.hid (HBW.out.trans (hb3.mono HBW.out.size))
      have HOF := Lib.hid hof
      have hcl3 : ∀ i, i < xs.length → w3.cell? ⟨gl, 0 + i, none⟩ = some (.int .i64 (xs.getD i 0)) := fun i hi => (hb3.cell (p := ⟨gl, 0 + i, none⟩) (mem_lt (HCL.out i hi))).trans (HCL.out i hi)
      have HW := Lib.hid (walk_ok n hn1 hn xs gl 0 cl w3 HLN.out HLB.out hcl3 HGS.out)
      unfold WalkPost at HW
      rw [HLN.out] at HW
      have HOD := Lib.hid hodd
      clear hb3 hof HF hcl3 hodd
      go_wp2_with fail
      refine HW.out.mono ?_
      rintro e w4 ⟨vw, T, E, K, i0, rfl, hb4, how, -, -, hWK, -, hDE, -⟩
      obtain ⟨gw, cw, rfl⟩ := Joins.ownsRow_form how (Nat.succ_pos K)
      have HB4 := Lib.hid (HB3.out.trans (hb4.mono HB3.out.size))
      have HOF4 := Lib.hid (owns_keep (w' := w4) HOF.out fun j hj => hb4.block j (HOF.out.lt j hj).2)
      have HOW := Lib.hid how
      have HWK := Lib.hid hWK
      have HDE := Lib.hid hDE
      clear hb4 how hWK hDE HW
      go_wp2_with fail
      refine (small2_any n hn1 hn w4).mono ?_
      rintro e w5 ⟨vs, rfl, hb5, hos⟩
      obtain ⟨gs, cs, rfl⟩ := Joins.ownsRow_form hos (small_pos n)
      have HB5 := Lib.hid (HB4.out.trans (hb5.mono HB4.out.size))
      have HOF5 := Lib.hid (owns_keep (w' := w5) HOF4.out fun j hj => hb5.block j (HOF4.out.lt j hj).2)
      have HOW5 := Lib.hid (owns_keep (w' := w5) HOW.out fun j hj => hb5.block j (HOW.out.lt j hj).2)
      have HOS := Lib.hid hos
      clear hb5 hos
      obtain ⟨NF, hNF⟩ : ∃ NF, (fullTo (smallL n) xs (smallL n).length).length = NF := ⟨_, rfl⟩
      rw [hNF] at HOD
      rw [hNF]
      have m1 : ((NF : Int) % 2 != 1) = false := by have := HOD.out; simp; omega
      have m1' : ((NF : Int) % 2 == 1) = true := by have := HOD.out; simp; omega
      have m2 : (((K + 1 : Nat) : Int) == 0) = false := beq_eq_false_iff_ne.2 (by omega)
      have m2' : ((K : Int) + 1 == 0) = false := beq_eq_false_iff_ne.2 (by omega)
      have HNF := Lib.hid hNF
      clear hNF
      go_wp2_with fail
      clear m1 m1' m2 m2'
      have HSZ := Lib.hid (HB5.out.size)
      have hK1000 : K ≤ 1000 := by have := HWK.out.short (N := (smallL n).length) (fun t e h => h.1); have := raw_len n hn; omega
      have hs1000 := raw_len n hn
      go_loopw [17] (fun i wr => ∃ j : Nat, j ≤ K + 1 ∧ i = .int .i64 j ∧ Below w5.heap.size w5 wr) (fun i _ => K + 1 - (intOf i).toNat)
      case atStart => exact ⟨0, Nat.zero_le _, rfl, Below.refl _ _⟩
      case round =>
        obtain ⟨j, hj, rfl, hb6⟩ := hrel
        have HB6 := Lib.hid hb6
        clear hb6
        have HWL := Lib.hid (walk_cells HOW5.out HB6.out)
        by_cases hjK : j < K + 1
        · have hTj := (HWK.out.has j (by omega)).1
          have hq0 : (0 : Int) ≤ (T j : Int) := by omega
          have hq1 : decide ((T j : Int) < 0) = false := decide_eq_false (by omega)
          have hq2 : decide ((smallL n).length ≤ T j) = false := decide_eq_false (by omega)
          have hq3 : decide (((smallL n).length : Int) ≤ (T j : Int)) = false := decide_eq_false (by omega)
          have hcj := HWL.out.1 j hjK
          have hjc : j ≤ cw := by
            rcases HOW5.out.2 with ⟨h, -⟩ | ⟨g', c', cur, h, -, -, h3, -⟩
            · cases h
            · cases h; omega
          have HCT := Lib.hid (fun (d : Nat) => contains_any ((List.range j).map fun i => (T i : Int)) (.slice (some ⟨gw, 0, none⟩) j cw) (T j : Int) (wr.drewN d) ((HWL.out.2 j (by omega)).below (B := wr.heap.size) ⟨rfl, rfl, rfl, Nat.le_refl _, fun _ _ => rfl⟩ (Nat.le_refl _)) (by simp; omega))
          have hno : ((List.range j).map fun i => (T i : Int)).contains (T j : Int) = false := by
            rw [Bool.eq_false_iff, ne_eq, List.contains_iff_mem]
            intro h
            obtain ⟨i, hi, he⟩ := List.mem_map.1 h
            have hi' := List.mem_range.1 hi
            have := HWK.out.inj i j (by omega) (by omega) (by omega)
            omega
          rw [hno] at HCT
          clear hno
          by_cases hj0 : j = 0
          · subst hj0
            go_wp2_with fail
            go_quiet ((go_at_call 10; exact Calls.quiet_of_same (HCT.out _)))
            clear HCT
            go_wp2_with fail
            go_roundw
            case rel => exact ⟨1, by omega, by go_num, HB6.out.trans ⟨rfl, rfl, rfl, Nat.le_refl _, fun _ _ => rfl⟩⟩
            case measure => simp [intOf]
          · have hjp : (0 : Int) < (j : Int) := by omega
            have hjp' : decide (0 < j) = true := decide_eq_true (by omega)
            have hTi := (HWK.out.has (j - 1) (by omega)).1
            have hone : (minusL (tripL (tri (smallL n) (T j))) (tripL (tri (smallL n) (T (j - 1))))).length = 1 := by
              obtain ⟨o1, o2, -⟩ := chk_tri (chk_all n hn1 hn) _ (tri_mem hTj)
              obtain ⟨o3, o4, -⟩ := chk_tri (chk_all n hn1 hn) _ (tri_mem hTi)
              have h1 := (HWK.out.has j (by omega)).2.1
              have h2 := ((house (smallL n) (ptsL n) (rim n) (labF xs) (chk_all n hn1 hn)).od_has (HWK.out.door (j - 1) (by omega))).2.1.2.1
              rw [show j - 1 + 1 = j from by omega] at h2
              exact minus_one o1 o2 o3 o4 h1 h2 (tri_ne (small_sorted n hn1 hn) hTj hTi (fun h => by have := HWK.out.inj j (j - 1) (by omega) (by omega) h; omega))
            have HONE := Lib.hid hone
            clear hone
            go_wp2_with fail
            go_quiet ((go_at_call 10; exact Calls.quiet_of_same (HCT.out _)))
            clear HCT hcj
            have hbq : Below wr.heap.size wr (wr.drewN nq) := ⟨rfl, rfl, rfl, Nat.le_refl _, fun _ _ => rfl⟩
            generalize wr.drewN nq = wq at hbq ⊢
            have HB7 := Lib.hid (HB6.out.trans (hbq.mono HB6.out.size))
            have HWQ := walk_cells HOW5.out HB7.out
            have hcj := HWQ.1 j hjK
            have hcj1 := HWQ.1 (j - 1) (by omega)
            have hoS := owns_keep (w' := wq) HOS.out fun q hq => HB7.out.block q (HOS.out.lt q hq).2
            obtain ⟨c0, c1, c2⟩ := tri_cells hoS (T j) hTj
            obtain ⟨e0, e1, e2⟩ := tri_cells hoS (T (j - 1)) hTi
            have hgs := (hoS.lt gs rfl).2
            have hgw := mem_lt hcj1
            simp only at hgw
            clear hoS HWQ hbq
            generalize tri (smallL n) (T j) = A at *
            generalize tri (smallL n) (T (j - 1)) = B at *
            obtain ⟨A0, A1, A2⟩ := A
            obtain ⟨B0, B1, B2⟩ := B
            simp only at c0 c1 c2 e0 e1 e2
            go_wp2_with fail
            obtain ⟨W2, hW2⟩ : ∃ W2, W2 = (wq.alloc (.cells #[.int .i64 (A0 : Int), .int .i64 (A1 : Int), .int .i64 (A2 : Int)] 36)).alloc (.cells #[.int .i64 (B0 : Int), .int .i64 (B1 : Int), .int .i64 (B2 : Int)] 36) := ⟨_, rfl⟩
            rw [← hW2]
            have hbA : W2.heap[wq.heap.size]? = some (.cells #[.int .i64 (A0 : Int), .int .i64 (A1 : Int), .int .i64 (A2 : Int)] 36 (0, 0)) := by rw [hW2]; exact heap_alloc2_old wq _ _
            have hbB : W2.heap[wq.heap.size + 1]? = some (.cells #[.int .i64 (B0 : Int), .int .i64 (B1 : Int), .int .i64 (B2 : Int)] 36 (0, 0)) := by rw [hW2]; exact heap_alloc2_new wq _ _
            have hb2q : Below wq.heap.size wq W2 := by rw [hW2]; exact ((Below.refl _ _).alloc (Nat.le_refl _) _).alloc (by simp) _
            clear hW2 c0 c1 c2 e0 e1 e2 hgs hgw hcj hcj1
            go_still_tail 2, (by kernel_rfl)
            change wpList _ _ _ _ _ W2.drew
            have hbd : Below W2.heap.size W2 W2.drew := (Below.refl _ _).drew
            have HB8 := Lib.hid (HB7.out.trans (hb2q.mono HB7.out.size))
            have HB9 := Lib.hid (HB8.out.trans (hbd.mono HB8.out.size))
            have hA3 := trip_at (p := (A0, A1, A2)) (w := W2.drew) hbA
            have hB3 := trip_at (p := (B0, B1, B2)) (w := W2.drew) hbB
            generalize W2.drew = W3 at hA3 hB3 HB9 ⊢
            have HMN := Lib.hid (minus_any (tripL (A0, A1, A2)) (tripL (B0, B1, B2)) _ _ W3 hA3 hB3 (by simp [tripL]) (by simp [tripL]) (by simp [tripL]))
            rw [HONE.out] at HMN
            clear hbA hbB hb2q hbd hA3 hB3
            go_wp2_with fail
            refine HMN.out.mono ?_
            rintro e w6 ⟨v, rfl, hb6, hov⟩
            obtain ⟨gv, cv, rfl⟩ := Joins.ownsRow_form hov (by decide)
            have HBF := Lib.hid (HB9.out.trans (hb6.mono HB9.out.size))
            clear hb6 hov HMN
            go_wp2_with fail
            go_roundw
            case rel => exact ⟨j + 1, by omega, by go_num, HBF.out⟩
            case measure => simp [intOf]; omega
        · obtain rfl : j = K + 1 := by omega
          have hTK := (HWK.out.has K (Nat.le_refl _)).1
          have hcK := HWL.out.1 K (by omega)
          have hcon : (fullTo (smallL n) xs (smallL n).length).contains (T K : Int) = true := full_has _ _ hTK (dead_full (chk_all n hn1 hn) HLB.out (HWK.out.has K (Nat.le_refl _)) HDE.out)
          have HOF6 := owns_keep (w' := wr) HOF5.out fun q hq => HB6.out.block q (HOF5.out.lt q hq).2
          have hIF := ints_own HOF6
          have HCT := Lib.hid (contains_any (fullTo (smallL n) xs (smallL n).length) _ (T K : Int) wr hIF (by have := fullTo_length (smallL n) xs (smallL n).length; omega))
          rw [HNF.out, hcon] at HCT
          have HBF := Lib.hid (HB5.out.trans (HB6.out.mono HB5.out.size))
          clear hIF HOF6 hcon
          go_wp2_with fail
          refine HCT.out.mono ?_
          rintro e w6 ⟨rfl, rfl⟩
          go_wp2_with fail
          go_ret
          exact ⟨rfl, HBF.out⟩
end Go.Proofs.YtnijedeopnjklaaDoor
