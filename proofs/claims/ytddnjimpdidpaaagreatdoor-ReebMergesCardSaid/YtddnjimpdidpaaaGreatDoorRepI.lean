/-
  slices.Repeat of a row of one: a row that holds the same all over. (Printed by tools/gen_rep.sh.)
-/
import Derived.Test.YtddnjimpdidpaaaGreatDoorRd
import Derived.Test.YtddnjimpdidpaaaGreatDoorShelf
import Derived.Laws.CopyOwn
set_option linter.unusedSimpArgs false
set_option linter.unusedVariables false
namespace Go.Proofs.YtddnjimpdidpaaaGreatDoor
open Go Go.RowKit Go.Maps

theorem infoI : (Tryz.prog.info? 3).map (fun i => (i.zero, i.size, i.bytes)) = some (some (Value.int .i64 0), 1, 8) := by kernel_rfl
theorem underI : Tryz.prog.underlying 23 = some (.slice 3) := by kernel_rfl
/-- a row of W places, the first n hold x -/
def sameI (x : Value) (n W : Nat) : List Value := List.replicate n x ++ List.replicate (W - n) (Value.int .i64 0)
theorem sameI_len {x : Value} {n W : Nat} (h : n ≤ W) : (sameI x n W).length = W := by unfold sameI; simp; omega
theorem sameI_splice {x : Value} {n k W : Nat} (h : n + k ≤ W) : splice (sameI x n W) n (List.replicate k x) = sameI x (n + k) W := by
  unfold splice sameI
  rw [List.take_left' (by simp), List.drop_append, List.drop_eq_nil_of_le (by simp), List.nil_append, List.length_replicate, List.length_replicate, List.drop_replicate, ← List.append_assoc, List.replicate_append_replicate]
  congr 2
  omega
theorem sameI_at {x : Value} {n W k : Nat} (hk : k < n) : (sameI x n W)[k]? = some x := by
  unfold sameI
  rw [List.getElem?_append_left (by simpa using hk)]
  simp [hk]
theorem sameI_all (x : Value) (W : Nat) : sameI x W W = List.replicate W x := by unfold sameI; simp
theorem make_I (N : Nat) (hN : N ≤ 400000) (w : World) : Sem.run Tryz.prog (Instr.makeSlice 23 (.int .i64 (N : Int)) (.int .i64 (N : Int))) w = .ok (.slice (some ⟨w.heap.size, 0, none⟩) N N) (w.alloc (.cells (sameI (Value.int .i64 0) 0 N).toArray 3)) := by
  obtain ⟨i3, hi3, hy0, hy1, hy2⟩ := info_parts infoI
  have h := run_make (P := Tryz.prog) w 23 3 i3 (Value.int .i64 0) underI hi3 hy0 .i64 .i64 (N : Int) (N : Int) (by omega) (by omega) (by rw [hy2]; omega) (by omega)
  rw [Int.toNat_natCast, hy1, Nat.mul_one] at h
  have e : (sameI (Value.int .i64 0) 0 N).toArray = Array.replicate N (Value.int .i64 0) := by unfold sameI; simp
  rw [e]
  have e2 : madeCells (Value.int .i64 0 : Value).cells N = Array.replicate N (Value.int .i64 0) := by
    apply Array.ext
    · simp [madeCells]
    · intro i h1 h2; simp [madeCells, Value.cells, Nat.mod_one]
  rw [← e2]
  exact h
def RepI (x : Value) (W : Nat) (w : World) (e : Ending) (w' : World) : Prop := ∃ g, w.heap.size ≤ g ∧ e = .returned (.slice (some ⟨g, 0, none⟩) W W) ∧ w'.heap[g]? = some (.cells (List.replicate W x).toArray 3 (0, 0)) ∧ Below w.heap.size w w'
set_option maxRecDepth 100000 in
set_option maxHeartbeats 8000000 in
theorem repI_any (x : Value) (hx1 : x.oneCell' = true) (W : Nat) (hW : W ≤ 1000) (w : World) (p : Addr) (c : Nat) (hp : w.cell? p = some x) (hpl : p.block < w.heap.size) : Calls Tryz.prog 49 #[.slice (some p) 1 c, .int .i64 (W : Int)] w (RepI x W w) := by
  have HM := Lib.hid (Tryz.bits_Mul 1 W (by omega) (by omega) w)
  have h1 : (1 * W / 18446744073709551616 : Nat) = 0 := by omega
  have h2 : (1 * W % 18446744073709551616 : Nat) = W := by omega
  rw [h1, h2] at HM
  have e0 : sameI (Value.int .i64 0) 0 W = sameI x 0 W := by unfold sameI; simp
  have hk0 := make_I W (by omega) w
  rw [e0] at hk0
  have HK := Lib.hid hk0
  have HP := Lib.hid hp
  have HX1 := Lib.hid hx1
  unfold RepI
  rw [← sameI_all]
  clear h1 h2 hp e0 hk0
  go_enter Tryz.func49, Tryz.ntmps49
  go_wp2_with fail
  refine HM.out.mono ?_
  rintro e w2 ⟨rfl, rfl⟩
  have hmk := HK.out
  go_upto_region 7 with fail
  have hb0 : Below w2.heap.size w2 (w2.alloc (.cells (sameI x 0 W).toArray 3)) := (Below.refl _ _).alloc (Nat.le_refl _) _
  have hg0 : (w2.alloc (.cells (sameI x 0 W).toArray 3)).heap[w2.heap.size]? = some (.cells (sameI x 0 W).toArray 3 (0, 0)) := heap_alloc_new _ _
  have hsrc : (w2.alloc (.cells (sameI x 0 W).toArray 3)).cell? p = some x := (hb0.cell hpl).trans HP.out
  obtain ⟨w3, hw3⟩ : ∃ w3, w2.alloc (.cells (sameI x 0 W).toArray 3) = w3 := ⟨_, rfl⟩
  rw [hw3] at hb0 hg0 hsrc ⊢
  have HB := Lib.hid hb0
  obtain ⟨i3, hi3, hy0, hy1, hy2⟩ := info_parts infoI
  have hsz : (Tryz.prog.info? 3).map (·.size) = some 1 := by rw [hi3, ← hy1]; rfl
  have hpos : 0 < (List.replicate (min 1 W) x).length → some (⟨w2.heap.size, 0, none⟩ : Addr) = some ⟨w2.heap.size, 0, none⟩ ∧ ∃ ad, some p = some ad ∧ ∀ (j : Nat) v, (List.replicate (min 1 W) x)[j]? = some v → w3.cell? (ad.add j) = some v := by
    intro _
    refine ⟨rfl, p, rfl, fun j v hv => ?_⟩
    obtain ⟨hj, rfl⟩ := List.getElem?_eq_some_iff.1 hv
    rw [List.length_replicate] at hj
    obtain rfl : j = 0 := by omega
    rw [List.getElem_replicate]
    exact hsrc
  have hlp : (List.replicate (min 1 W) x).length = min 1 W := List.length_replicate
  have hsp := sameI_splice (x := x) (n := 0) (k := min 1 W) (W := W) (by omega)
  rw [Nat.zero_add] at hsp
  obtain ⟨xs, hxs⟩ : ∃ xs, List.replicate (min 1 W) x = xs := ⟨_, rfl⟩
  rw [hxs] at hpos hlp hsp
  have hone : ∀ v ∈ xs, v.oneCell' = true := by intro v hv; rw [← hxs] at hv; rw [(List.mem_replicate.1 hv).2]; exact hx1
  have hfit : 0 + xs.length ≤ (sameI x 0 W).length := by rw [sameI_len (Nat.zero_le _), hlp]; omega
  have hmin : xs.length = Nat.min 1 W := hlp
  have HSP := Lib.hid hsp
  have HLP := Lib.hid hlp
  clear hxs hsrc hw3 hmk hlp hsp hx1
  go_wp2_with (refine wpList_copy_splice (o := ⟨some 33, _, _, _, _, _⟩) rfl (.tmp 31) (.tmp 32) 23 23 rfl 3 underI hsz _ _ _ _ _ _ rfl rfl w2.heap.size 0 (sameI x 0 W) 3 hg0 xs hmin hpos hfit hone w2.heap.size w2 hb0 (Nat.le_refl _) ?_; intro w4 hg4 hb4)
  rw [HSP.out] at hg4
  have HG4 := hg4
  have HB4 := Lib.hid hb4
  clear hg4 hb4 hpos hone hfit hmin HSP HLP hg0 hb0 HB
  go_loopw [8] (fun s wr => ∃ n : Nat, n ≤ W ∧ min 1 W ≤ n ∧ s = .int .i64 (n : Int) ∧ wr.heap[w2.heap.size]? = some (.cells (sameI x n W).toArray 3 (0, 0)) ∧ Below w2.heap.size w2 wr) (fun s _ => W - (intOf s).toNat)
  case atStart => exact ⟨min 1 W, by omega, Nat.le_refl _, rfl, HG4.out, HB4.out⟩
  case round =>
    obtain ⟨n, hn, hmn, rfl, hr, hb⟩ := hrel
    by_cases hlt : n < W
    · have hm1 : 1 ≤ n := by omega
      obtain ⟨k, hk⟩ : ∃ k, min (W - n) n = k := ⟨_, rfl⟩
      have hk1 : 1 ≤ k := by omega
      have hkw : n + k ≤ W := by omega
      have hsp := sameI_splice (x := x) (n := n) (k := k) (W := W) hkw
      have hkl : (List.replicate k x).length = k := List.length_replicate
      have hk2 : (List.replicate k x).length = Nat.min n (W - n) := by rw [hkl, ← hk]; exact Nat.min_comm _ _
      have hsrc : ∀ (j : Nat) v, (List.replicate k x)[j]? = some v → wr.drew.cell? ((⟨w2.heap.size, 0, none⟩ : Addr).add j) = some v := by
        intro j v hv
        obtain ⟨hj, rfl⟩ := List.getElem?_eq_some_iff.1 hv
        rw [List.length_replicate] at hj
        rw [List.getElem_replicate, add_zero]
        have := sameI_at (x := x) (n := n) (W := W) (k := j) (by omega)
        show wr.cell? ⟨w2.heap.size, j, none⟩ = _
        simpa [World.cell?, hr] using this
      obtain ⟨xs, hxs⟩ : ∃ xs, List.replicate k x = xs := ⟨_, rfl⟩
      rw [hxs] at hsrc hkl hk2 hsp
      have hone : ∀ v ∈ xs, v.oneCell' = true := by intro v hv; rw [← hxs] at hv; rw [(List.mem_replicate.1 hv).2]; exact HX1.out
      have hfit : n + xs.length ≤ (sameI x n W).length := by rw [sameI_len hn, hkl]; exact hkw
      have HSP := Lib.hid hsp
      have HKL := Lib.hid hkl
      have HSR := Lib.hid hsrc
      have HFI := Lib.hid hfit
      have HON := Lib.hid hone
      have HK2 := Lib.hid hk2
      have HR := Lib.hid hr
      have HBB := Lib.hid hb
      have s1 : IntKind.i64.wrap ((n : Int) + (k : Int)) = ((n + k : Nat) : Int) := by rw [IntWalk.i64_in _ (by omega)]; omega
      clear hxs hsp hkl hk hsrc hfit hone hk2 hr hb
      go_wp2_with fail
      go_region_law (refine step_copy_splice (by rfl) (.tmp 41) (.tmp 44) 23 23 (by rfl) 3 underI hsz _ (some ⟨w2.heap.size, 0, none⟩) (W - n) (W - n) n W (by rfl) (by rfl) w2.heap.size n (sameI x n W) 3 HR.out xs HK2.out (fun _ => ⟨if_neg (by omega), _, rfl, HSR.out⟩) HFI.out HON.out w2.heap.size w2 HBB.out.drew (Nat.le_refl _) ?_; intro w4 hg4 hb4; rw [HKL.out])
      all_goals
        rw [HSP.out] at hg4
        have HG5 := hg4
        have HB5 := Lib.hid hb4
        clear hg4 hb4
        go_wp2_with fail
        go_roundw
        case rel => exact ⟨n + k, hkw, by omega, rfl, HG5.out, HB5.out⟩
        case measure => simp [intOf]; omega
    · obtain rfl : n = W := by omega
      have HR := Lib.hid hr
      have HBB := Lib.hid hb
      clear hr hb
      go_wp2_with fail
      go_ret
      exact ⟨_, Nat.le_refl _, rfl, HR.out, HBB.out⟩
end Go.Proofs.YtddnjimpdidpaaaGreatDoor
