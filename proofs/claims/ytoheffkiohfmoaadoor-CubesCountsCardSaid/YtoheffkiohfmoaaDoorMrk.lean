/-
  Marks of squares (rows of ints in place): read, set; the document's grid of zeros by a contract.
-/
import Derived.Test.YtoheffkiohfmoaaDoorRowG
import Derived.Test.YtoheffkiohfmoaaDoorStr
import Derived.Maps.AppendAt
import Derived.Laws.MakeOwn
set_option linter.unusedSimpArgs false
set_option linter.unusedVariables false
namespace Go.Proofs.YtoheffkiohfmoaaDoor
open Go Go.RowKit Go.Maps FL

def mrk (T : List (List Int)) (q : Sq) : Int := (T.getD q.2 []).getD q.1 0
/-- so many rows, so wide -/
def WideT (W H : Nat) (T : List (List Int)) : Prop := T.length = H ∧ ∀ y, y < H → (T.getD y []).length = W
def putT (T : List (List Int)) (q : Sq) (n : Int) : List (List Int) := T.set q.2 ((T.getD q.2 []).set q.1 n)
theorem putT_wide {W H : Nat} {T : List (List Int)} (h : WideT W H T) (q : Sq) (n : Int) : WideT W H (putT T q n) := by
  refine ⟨by unfold putT; rw [List.length_set]; exact h.1, fun y hy => ?_⟩
  unfold putT
  by_cases e : q.2 = y
  · subst e
    rw [getD_setS (by rw [h.1]; exact hy), List.length_set]; exact h.2 _ hy
  · rw [getD_setO e]; exact h.2 y hy
theorem mrk_put {W H : Nat} {T : List (List Int)} (h : WideT W H T) {q : Sq} (h1 : q.1 < W) (h2 : q.2 < H) (n : Int) (r : Sq) : mrk (putT T q n) r = if r = q then n else mrk T r := by
  unfold mrk putT
  by_cases e2 : q.2 = r.2
  · rw [← e2, getD_setS (by rw [h.1]; exact h2)]
    by_cases e1 : q.1 = r.1
    · rw [← e1, getD_setS (by rw [h.2 _ h2]; exact h1), if_pos (Prod.ext e1.symm e2.symm)]
    · rw [getD_setO e1, if_neg (fun e => e1 (by rw [e]))]
  · rw [getD_setO e2, if_neg (fun e => e2 (by rw [e]))]
theorem make_zero (N : Nat) (hN : N ≤ 400000) (w : World) : Sem.run Tryd.prog (Instr.makeSlice 79 (.int .i64 (N : Int)) (.int .i64 (N : Int))) w = .ok (.slice (some ⟨w.heap.size, 0, none⟩) N N) (w.alloc (.cells (Array.replicate N (.int .i64 0)) 3)) := by
  obtain ⟨i3, hi3, hy0, hy1, hy2⟩ := info_parts Tryd.info3
  have h := run_make (P := Tryd.prog) w 79 3 i3 (.int .i64 0) Tryd.underlying79 hi3 hy0 .i64 .i64 (N : Int) (N : Int) (by omega) (by omega) (by rw [hy2]; omega) (by omega)
  rw [Int.toNat_natCast, hy1, Nat.mul_one] at h
  have e2 : madeCells (Value.int IntKind.i64 0).cells N = Array.replicate N (.int .i64 0) := by
    apply Array.ext
    · simp [madeCells]
    · intro i h1 h2; simp [madeCells, Value.cells, Nat.mod_one]
  rw [← e2]
  exact h
theorem intO_zero {O g N : Nat} {w : World} (hO : O ≤ g) (hN : N ≤ 400000) (h : w.heap[g]? = some (.cells (Array.replicate N (.int .i64 0)) 3 (0, 0))) : IntO O w (.slice (some ⟨g, 0, none⟩) N N) (List.replicate N 0) := by
  unfold IntO
  rw [List.length_replicate]
  refine ⟨by simp [intVs], Or.inr ⟨g, N, _, rfl, hO, h, Nat.le_refl _, by unfold maxLen; omega, by simp, ?_⟩⟩
  unfold intVs
  simp
theorem HasH.sliceM {O : Nat} {w : World} {v : Value} {T : List (List Int)} {hs : List Value} (h : HasH O w v T hs) : ∃ p c, v = .slice p T.length c := by
  rcases h.1.2 with ⟨rfl, h0⟩ | ⟨g, cap, cur, rfl, hb, -⟩
  · exact ⟨none, 0, by rw [h0]⟩
  · exact ⟨_, _, rfl⟩
/-- rows of zeros, as long as the image's -/
def zerosT (ms : List ByteArray) (y : Nat) : List (List Int) := (List.range y).map fun j => List.replicate (rowB ms j).size 0
theorem zerosT_succ (ms : List ByteArray) (y : Nat) : zerosT ms (y + 1) = zerosT ms y ++ [List.replicate (rowB ms y).size 0] := by unfold zerosT; rw [List.range_succ, List.map_append]; rfl
theorem zerosT_len (ms : List ByteArray) (y : Nat) : (zerosT ms y).length = y := by unfold zerosT; simp
def GrdP (ms : List ByteArray) (w : World) (e : Ending) (w' : World) : Prop := ∃ v hs, e = .returned v ∧ Below w.heap.size w w' ∧ HasH w.heap.size w' v (zerosT ms ms.length) hs
set_option maxRecDepth 100000 in
set_option maxHeartbeats 8000000 in
theorem gridR_any (ms : List ByteArray) (v : Value) (w : World) (h : StrsAt w v ms) (hsz : ∀ j, (rowB ms j).size ≤ 1000) (hH : ms.length ≤ 1000) : Calls Tryd.prog 39 #[v] w (GrdP ms w) := by
  obtain ⟨i3, hi3, hz0, hz1, hz2⟩ := info_parts Tryd.info79
  obtain ⟨pm, cm, hve, -⟩ := id h
  obtain ⟨gr, hgr⟩ : ∃ gr, w.heap.size = gr := ⟨_, rfl⟩
  obtain ⟨n, hn⟩ : ∃ n, ms.length = n := ⟨_, rfl⟩
  rw [hn] at hve hH
  subst hve
  have HST := Lib.hid h
  have HN := Lib.hid hn
  have HGR := Lib.hid hgr
  have HSZ := Lib.hid hsz
  unfold GrdP
  rw [hgr, hn]
  clear h hn hgr hsz
  go_enter Tryd.func39, Tryd.ntmps39
  go_wp2_with fail
  go_loopw [3, 4] (fun s3 s4 wr => ∃ (y : Nat) (hs : List Value), y ≤ n ∧ s4 = .int .i64 (y : Int) ∧ Below gr w wr ∧ HasH gr wr s3 (zerosT ms y) hs) (fun _ s4 _ => n - (intOf s4).toNat)
  case atStart => exact ⟨0, [], Nat.zero_le _, rfl, Below.refl _ _, ⟨World.ownsRow_nil _ _ _ _, rfl, (fun i hi => absurd hi (by simp [zerosT])), (fun i j hi => absurd hi (by simp [zerosT]))⟩⟩
  case round =>
    obtain ⟨y, hs, hy, rfl, hb, hH'⟩ := hrel
    obtain ⟨pv, cv, rfl⟩ := hH'.sliceM
    rw [zerosT_len] at hH' ⊢
    have HB := Lib.hid hb
    have HH := Lib.hid hH'
    clear hb hH'
    by_cases hyl : y < n
    · obtain ⟨bk, off, rfl, hcell⟩ := (HST.out.below HB.out (by rw [HGR.out]; exact Nat.le_refl _)).at (i := y) (by rw [HN.out]; exact hyl)
      obtain ⟨s, hs'⟩ : ∃ s, rowB ms y = s := ⟨_, rfl⟩
      rw [hs'] at hcell
      have hss : s.size ≤ 1000 := by have := HSZ.out y; rw [hs'] at this; exact this
      have hmk := make_zero s.size (by omega) wr
      have hba := (Below.refl wr.heap.size wr).alloc (Nat.le_refl _) (.cells (Array.replicate s.size (.int .i64 0)) 3)
      have hblk := heap_alloc_new wr (.cells (Array.replicate s.size (.int .i64 0)) 3)
      obtain ⟨w1, hw1⟩ : ∃ w1, wr.alloc (.cells (Array.replicate s.size (.int .i64 0)) 3) = w1 := ⟨_, rfl⟩
      rw [hw1] at hmk hba hblk
      have hgw : gr ≤ wr.heap.size := by have := HB.out.size; have := HGR.out; omega
      have hu : IntO gr w1 (.slice (some ⟨wr.heap.size, 0, none⟩) s.size s.size) (List.replicate s.size 0) := intO_zero hgw (by omega) hblk
      obtain ⟨gq, hgq⟩ : ∃ gq, wr.heap.size = gq := ⟨_, rfl⟩
      have hba2 := (Below.refl w1.heap.size w1).alloc (Nat.le_refl _) (.cells #[.slice (some ⟨wr.heap.size, 0, none⟩) s.size s.size] 79)
      have hH3 := (HH.out.below hba (Nat.le_refl _)).below hba2 (Nat.le_refl _)
      have hu3 := hu.below hba2 (Nat.le_refl _)
      have hdis : ∀ i, i < y → ∀ k, (hs.getD i .nilIface).ownBlock = some k → (Value.slice (some ⟨wr.heap.size, 0, none⟩) s.size s.size).ownBlock ≠ some k := fun i hi k hk e => by
        have h1 := ((HH.out.2.2.1 i (by rw [zerosT_len]; exact hi)).lt k hk).2
        have h2 := Option.some.inj e
        simp only at h2
        omega
      have hpush : ∀ v' w', w'.ownsRow gr 79 1 v' (y + 1) (hs ++ [.slice (some ⟨wr.heap.size, 0, none⟩) s.size s.size]) → (w1.alloc (.cells #[.slice (some ⟨wr.heap.size, 0, none⟩) s.size s.size] 79)).grownBy w' (Value.slice pv y cv).ownBlock →
          Below gr w w' ∧ HasH gr w' v' (zerosT ms (y + 1)) (hs ++ [.slice (some ⟨wr.heap.size, 0, none⟩) s.size s.size]) := fun v' w' h1 h2 => by
        refine ⟨?_, ?_⟩
        · have hB := (HB.out.trans (hba.mono hgw)).trans (hba2.mono (Nat.le_trans hgw hba.size))
          exact ⟨h2.os.trans hB.os, h2.tape.trans hB.tape, h2.output.trans hB.output, Nat.le_trans hB.size h2.size, fun k hk => by
            rw [h2.block k (by have := hba.size; have := hba2.size; omega) (fun e => by have := (HH.out.1.lt k e.symm).1; omega)]
            exact hB.block k hk⟩
        · rw [zerosT_succ, hs']
          exact HasH.push hH3 (by rw [zerosT_len]; exact h1) h2 hu3 (fun i hi => hdis i (by rw [zerosT_len] at hi; exact hi))
      have hR := hH3.1
      rw [zerosT_len] at hR
      have hbase : gr ≤ (w1.alloc (.cells #[.slice (some ⟨wr.heap.size, 0, none⟩) s.size s.size] 79)).heap.size := Nat.le_trans hgw (Nat.le_trans hba.size hba2.size)
      have hnw := World.news_of_block (cs := #[.slice (some ⟨wr.heap.size, 0, none⟩) s.size s.size]) (t := 79) (fr := (0, 0)) (heap_alloc_new w1 (.cells #[.slice (some ⟨wr.heap.size, 0, none⟩) s.size s.size] 79))
      have HPUSH := Lib.hid hpush
      have HR := Lib.hid hR
      have HBASE := Lib.hid hbase
      have HNW := Lib.hid hnw
      clear hs' hw1 hba hblk hgw hu hgq hba2 hH3 hu3 hdis hpush hR hbase hnw
      go_wp2_with (at_builtin; refine wpList_append_own_at _ rfl (.tmp 11) (.tmp 18) 77 rfl gr 79 i3 (.slice none 0 0) 1 24 Tryd.underlying77 hi3 hz0 hz1 hz2 rfl (by decide) _ y hs rfl HR.out ⟨_, 0, none⟩ 1 1 [.slice (some ⟨wr.heap.size, 0, none⟩) s.size s.size] rfl rfl HNW.out (fun u hu => by simp at hu; rw [hu]; rfl) (by unfold maxLen; omega) (by omega) HBASE.out ?_; intro v' w' hown hgw hnil hat; have HP := Lib.hid (HPUSH.out v' w' hown hgw); clear hown hgw hnil hat)
      go_roundw
      case rel => exact ⟨y + 1, _, hyl, by go_num, HP.out.1, HP.out.2⟩
      case measure => simp [intOf]; omega
    · obtain rfl : y = n := by omega
      go_wp2_with fail
      go_ret
      exact ⟨_, _, rfl, HB.out, HH.out⟩
end Go.Proofs.YtoheffkiohfmoaaDoor
