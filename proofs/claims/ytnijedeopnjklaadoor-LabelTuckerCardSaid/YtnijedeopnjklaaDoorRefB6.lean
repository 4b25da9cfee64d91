/-
  OppositeOf at some n, the labels right (written by a program of mine).
-/
import Derived.Test.YtnijedeopnjklaaDoorRefA
namespace Go.Proofs.YtnijedeopnjklaaDoor
open Go Go.RowKit

set_option maxRecDepth 100000 in
set_option maxHeartbeats 8000000 in
theorem ref_6 (xs : List Int) (b off cap : Nat) (w : World)
    (hc : ∀ i, i < 169 → w.cell? ⟨b, off + i, none⟩ = some (.int .i64 (xs.getD i 0)))
    (hbd : ∀ i, i < 169 → -2 ≤ xs.getD i 0 ∧ xs.getD i 0 ≤ 2) :
    Calls Tryd.prog 15 #[.int .i64 6, .slice (some ⟨b, off, none⟩) 169 cap] w (RefPost 6 xs w) := by
  obtain ⟨i3, hi3, hz30, hz31, hz32⟩ := info_parts Tryd.info3
  obtain ⟨i22, hi22, hz220, hz221, hz222⟩ := info_parts Tryd.info22
  have hblt : b < w.heap.size := mem_lt (hc 0 (by omega))
  have HC := Lib.hid hc
  have HBD := Lib.hid hbd
  clear hc hbd
  go_enter Tryd.func15, Tryd.ntmps15
  go_wp2
  go_loopw [6, 7] (fun v i wr => ∃ k : Nat, k ≤ 169 ∧ i = .int .i64 k ∧ RefSt w wr v (refTo 6 xs 169 k)) (fun _ i _ => 169 - (intOf i).toNat)
  case atStart => exact ⟨0, Nat.zero_le _, rfl, RowsAt.nil _ _ _ _, Below.refl _ _⟩
  case round =>
    obtain ⟨k, hk, rfl, hst⟩ := hrel
    obtain ⟨wo, rfl⟩ : ∃ wo : World, wo = wr := ⟨_, rfl⟩
    by_cases hks : k < 169
    · have hd1 : decide ((k : Int) < 169) = true := decide_eq_true (by omega)
      go_wp2
      go_loopw [6, 8] (fun v i wr => ∃ q : Nat, k + 1 ≤ q ∧ q ≤ 169 ∧ i = .int .i64 q ∧ RefSt w wr v (refTo 6 xs 169 k ++ refRow 6 xs k (q - (k + 1)))) (fun _ i _ => 169 - (intOf i).toNat)
      case atStart => exact ⟨k + 1, Nat.le_refl _, by omega, by go_num, by simpa [refRow] using hst⟩
      case round =>
        obtain ⟨q, hq0, hq, rfl, hst2⟩ := hrel
        clear hst
        by_cases hlq : q < 169
        · have hlen : (refTo 6 xs 169 k ++ refRow 6 xs k (q - (k + 1))).length ≤ 100000 := ref_len 6 xs 169 k q hk hq (by omega)
          have HROW := Lib.hid (refRow_succ 6 xs k q hq0)
          go_wp2_with fail
          go_cut [9] (fun s9 wx => s9 = .bool (sidedB ((k : Int) % 13 - 6) ((k : Int) / 13 - 6) ((q : Int) % 13 - 6) ((q : Int) / 13 - 6)) ∧ ∃ n1, wx = wr.drewN n1)
          case first =>
            go_quiet ((go_at_call 26; refine Calls.quiet_of_same ((sided_any _ _ _ _ _ ?_ ?_ ?_ ?_).mono fun e w' h => ⟨h.1, h.2.symm⟩) <;> omega))
            go_wp2_with fail
            go_meet
            exact ⟨rfl, nq, rfl⟩
          case rest =>
            obtain ⟨rfl, n1, hwx⟩ := hcut
            subst hwx
            by_cases hj : joinedB 6 k q = true
            · have hjj := hj
              unfold joinedB at hj
              rw [show sidedB ((k : Int) % 13 - 6) ((k : Int) / 13 - 6) ((q : Int) % 13 - 6) ((q : Int) / 13 - 6) = true from hj]
              clear hj
              obtain ⟨x, hx⟩ : ∃ x, xs.getD k 0 = x := ⟨_, rfl⟩
              obtain ⟨y, hy⟩ : ∃ y, xs.getD q 0 = y := ⟨_, rfl⟩
              have hxb := HBD.out k hks
              have hyb := HBD.out q hlq
              have cx := HC.out k hks
              have cy := HC.out q hlq
              rw [hx] at hxb cx
              rw [hy] at hyb cy
              obtain ⟨hx1, hx2⟩ := hxb
              obtain ⟨hy1, hy2⟩ := hyb
              by_cases h0 : x + y = 0
              · have hONE : refOne 6 xs k q = [[(k : Int), (q : Int)]] := by unfold refOne; rw [if_pos ⟨hjj, by rw [hx, hy]; exact h0⟩]
                rw [hONE] at HROW
                have cx1 : wr.cell? ⟨b, off + k, none⟩ = some (.int .i64 x) := (hst2.2.cell (p := ⟨b, off + k, none⟩) hblt).trans cx
                have cy1 : wr.cell? ⟨b, off + q, none⟩ = some (.int .i64 y) := (hst2.2.cell (p := ⟨b, off + q, none⟩) hblt).trans cy
                have hq : (x + y == 0) = true := beq_iff_eq.2 h0
                clear cx cy h0 hONE hx hy hjj
                have hRN := fun nz => hst2.drewN nz
                clear hst2
                generalize hL : refTo 6 xs 169 k ++ refRow 6 xs k (q - (k + 1)) = L at hRN hlen
                have HL := Lib.hid hL
                clear hL
                go_wp2_with fail
                go_quiet (fail)
                obtain ⟨hR, hb⟩ := hRN (n1 + nq)
                clear hRN cx1 cy1 hq
                go_wp2_with (first
                  | (at_builtin
                     (refine wpList_append_own _ rfl _ _ 46 rfl w.heap.size 22 i22 (.slice none 0 0) 1 24 Tryd.underlying46 hi22 hz220 hz221 hz222 rfl (by decide) _ _ _ rfl (h1.alloc _) ⟨w1.heap.size, 0, none⟩ 1 1 [.slice (some ⟨g1, 0, none⟩) 2 c1] rfl rfl (cells_new _ _ _) (fun u hu => by simp at hu; subst hu; rfl) (by unfold maxLen; omega) (by omega) (by have := hb1.size; simp; omega) ?_)
                     intro v2 w2 hown2 hgr2 _)
                  | (at_builtin
                     go_must (refine wpList_append_own _ rfl _ _ 22 rfl w.heap.size 3 i3 (.int .i64 0) 1 8 Tryd.underlying22 hi3 hz30 hz31 hz32 rfl (by decide) _ 0 [] rfl (World.ownsRow_nil _ _ _ _) ⟨wr.heap.size, 0, none⟩ 2 2 [.int .i64 (k : Int), .int .i64 (q : Int)] rfl rfl (cells_new _ _ _) (fun u hu => by simp at hu; rcases hu with rfl | rfl <;> rfl) (by unfold maxLen; omega) (by omega) (by have hbs : w.heap.size ≤ wr.heap.size := hb.size; simp; omega) ?_)
                     intro v1 w1 hown1 hgr1 _
                     obtain ⟨g1, c1, rfl⟩ := Joins.ownsRow_form hown1 (by decide)
                     have hr1 := ((hR.grown_none (World.grownBy_alloc _ (.cells #[.int .i64 (k : Int), .int .i64 (q : Int)] 3) none)).grown_none hgr1)
                     have hb1 : Below w.heap.size w w1 := (hb.alloc hb.size _).grown hgr1 (by have hbs : w.heap.size ≤ wr.heap.size := hb.size; simp; omega) (fun j hj => by cases hj)
                     obtain ⟨hs, h1, h2, h3⟩ := hr1
                     clear hgr1 hR hb))
                have hpush := rows_push (xs := [(k : Int), (q : Int)]) (by decide) (h1.alloc _) h2 (fun i hi => (h3 i hi).alloc _) (hown1.alloc _) hown2 hgr2
                have hb2 : Below w.heap.size w w2 := (hb1.alloc hb1.size _).grown hgr2 (by have := hb1.size; simp; omega) (fun j hj => (h1.lt j hj).1)
                clear hgr2 hown2 h1 h2 h3 hown1 hb1
                go_wp2
                go_roundw
                case rel => exact ⟨q + 1, by omega, by omega, by go_num, by rw [HROW.out, ← List.append_assoc, HL.out]; exact ⟨hpush, hb2⟩⟩
                case measure => simp [intOf]; omega
              · have hONE : refOne 6 xs k q = [] := by unfold refOne; rw [if_neg (fun h => h0 (by have := h.2; rw [hx, hy] at this; exact this))]
                rw [hONE, List.append_nil] at HROW
                have cx1 : wr.cell? ⟨b, off + k, none⟩ = some (.int .i64 x) := (hst2.2.cell (p := ⟨b, off + k, none⟩) hblt).trans cx
                have cy1 : wr.cell? ⟨b, off + q, none⟩ = some (.int .i64 y) := (hst2.2.cell (p := ⟨b, off + q, none⟩) hblt).trans cy
                have hq : (x + y == 0) = false := beq_eq_false_iff_ne.2 h0
                clear cx cy h0 hONE hx hy hjj
                go_wp2_with fail
                go_quiet (fail)
                go_wp2_with fail
                go_roundw
                case rel => exact ⟨q + 1, by omega, by omega, by go_num, by rw [HROW.out]; exact hst2.drewN _⟩
                case measure => simp [intOf]; omega
            · have hjf : joinedB 6 k q = false := by simpa using hj
              have hONE : refOne 6 xs k q = [] := by unfold refOne; rw [if_neg (fun h => hj h.1)]
              rw [hONE, List.append_nil] at HROW
              unfold joinedB at hjf
              rw [show sidedB ((k : Int) % 13 - 6) ((k : Int) / 13 - 6) ((q : Int) % 13 - 6) ((q : Int) / 13 - 6) = false from hjf]
              clear hj hjf hONE
              go_wp2_with fail
              go_quiet (fail)
              go_wp2_with fail
              go_roundw
              case rel => exact ⟨q + 1, by omega, by omega, by go_num, by rw [HROW.out]; exact hst2.drewN _⟩
              case measure => simp [intOf]; omega
        · obtain rfl : q = 169 := by omega
          rw [← refTo_succ] at hst2
          go_wp2
          go_roundw
          case rel => exact ⟨k + 1, by omega, by go_num, hst2⟩
          case measure => simp [intOf]; omega
    · obtain rfl : k = 169 := by omega
      go_wp2
      go_ret
      exact ⟨_, rfl, hst.2, hst.1⟩
end Go.Proofs.YtnijedeopnjklaaDoor
