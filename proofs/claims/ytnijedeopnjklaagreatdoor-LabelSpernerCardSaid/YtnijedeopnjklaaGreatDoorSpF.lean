/-
  IsFull and FullOf of the references, at right labels.
-/
import Derived.Test.YtnijedeopnjklaaGreatDoorSpE
namespace Go.Proofs.YtnijedeopnjklaaGreatDoor
open Go Go.RowKit Sper

theorem rows_tri {w : World} {B : Nat} {v : Value} {L : List (Nat × Nat × Nat)} (h : RowsAt 22 3 w B v (L.map tripL)) (i : Nat) (hi : i < L.length) :
    ∃ g cap gi ci, v = .slice (some ⟨g, 0, none⟩) L.length cap ∧ w.cell? ⟨g, i, none⟩ = some (.slice (some ⟨gi, 0, none⟩) 3 ci) ∧ 3 ≤ ci ∧ 
      w.cell? ⟨gi, 0, none⟩ = some (.int .i64 ((tri L i).1 : Int)) ∧ w.cell? ⟨gi, 1, none⟩ = some (.int .i64 ((tri L i).2.1 : Int)) ∧ w.cell? ⟨gi, 2, none⟩ = some (.int .i64 ((tri L i).2.2 : Int)) := by
  have e : (L.map tripL).getD i [] = tripL (tri L i) := by
    unfold tri
    simp [List.getD_eq_getElem?_getD, List.getElem?_eq_getElem hi]
  have hp : 0 < ((L.map tripL).getD i []).length := by rw [e]; simp [tripL]
  obtain ⟨g, cap, gi, ci, hv, h0, h1⟩ := h.at i (by simpa using hi) hp
  rw [e] at h0 h1
  rw [List.length_map] at hv
  have hci : 3 ≤ ci := by
    obtain ⟨hs, h2, h3, h4⟩ := h
    have h5 := h4 i (by simpa using hi)
    have hg := h2.cells (g := g) (by rw [hv]; rfl) i (hs.getD i .nilIface) (by rw [List.getD_eq_getElem?_getD, List.getElem?_eq_getElem (by rw [h3]; simpa using hi)]; rfl)
    have hadd : (⟨g, 0, none⟩ : Addr).add i = ⟨g, i, none⟩ := by unfold Addr.add; split <;> simp_all
    rw [hadd, h0] at hg
    rw [← Option.some.inj hg, e] at h5
    rcases h5.2 with ⟨h, -⟩ | ⟨g', c', cur, h, -, -, h3, -⟩
    · cases h
    · cases h; exact h3
  exact ⟨g, cap, gi, ci, hv, h0, hci, h1 0 (by simp [tripL]), h1 1 (by simp [tripL]), h1 2 (by simp [tripL])⟩

set_option maxRecDepth 100000 in
set_option maxHeartbeats 8000000 in
theorem isfull_any (xs : List Int) (lb lo lc N : Nat) (t : Nat × Nat × Nat) (g c : Nat) (w : World) (hN : t.1 < N ∧ t.2.1 < N ∧ t.2.2 < N)
    (hc : ∀ i, i < N → w.cell? ⟨lb, lo + i, none⟩ = some (.int .i64 (xs.getD i 0))) (hr : ∀ i, i < N → xs.getD i 0 = 0 ∨ xs.getD i 0 = 1 ∨ xs.getD i 0 = 2)
    (h0 : w.cell? ⟨g, 0, none⟩ = some (.int .i64 (t.1 : Int))) (h1 : w.cell? ⟨g, 1, none⟩ = some (.int .i64 (t.2.1 : Int))) (h2 : w.cell? ⟨g, 2, none⟩ = some (.int .i64 (t.2.2 : Int))) :
    Calls Tryz.prog 25 #[.slice (some ⟨g, 0, none⟩) 3 c, .slice (some ⟨lb, lo, none⟩) N lc] w fun e w' => e = .returned (.bool (isFull (labF xs) t)) ∧ w = w' := by
  obtain ⟨ta, tb, tc⟩ := t
  simp only at hN h0 h1 h2
  obtain ⟨n1, n2, n3⟩ := hN
  have ca := hc ta n1
  have cb := hc tb n2
  have cc := hc tc n3
  have ra := hr ta n1
  have rb := hr tb n2
  have rc := hr tc n3
  obtain ⟨r, hres⟩ : ∃ r, isFull (labF xs) (ta, tb, tc) = r := ⟨_, rfl⟩
  rw [hres]
  unfold isFull labF at hres
  simp only at hres
  obtain ⟨x, hx⟩ : ∃ x, xs.getD ta 0 = x := ⟨_, rfl⟩
  obtain ⟨y, hy⟩ : ∃ y, xs.getD tb 0 = y := ⟨_, rfl⟩
  obtain ⟨z, hz⟩ : ∃ z, xs.getD tc 0 = z := ⟨_, rfl⟩
  rw [hx] at ca ra hres
  rw [hy] at cb rb hres
  rw [hz] at cc rc hres
  clear hx hy hz hc hr
  rcases ra with rfl | rfl | rfl <;> rcases rb with rfl | rfl | rfl <;> rcases rc with rfl | rfl | rfl
  all_goals
    have hres' := hres.symm
    simp at hres'
    subst hres'
    clear hres
    go_enter Tryz.func25, Tryz.ntmps25
    go_wp2_with fail
    go_ret
    exact ⟨rfl, rfl⟩
set_option maxRecDepth 100000 in
set_option maxHeartbeats 8000000 in
theorem fullOf_ok (n : Nat) (hn1 : 1 ≤ n) (hn : n ≤ 12) (xs : List Int) (lb lo lc : Nat) (w : World) (hlen : xs.length = (ptsL n).length) (hl : Labels (ptsL n) (labF xs))
    (hc : ∀ i, i < xs.length → w.cell? ⟨lb, lo + i, none⟩ = some (.int .i64 (xs.getD i 0))) :
    Calls Tryz.prog 16 #[.int .i64 (n : Int), .slice (some ⟨lb, lo, none⟩) xs.length lc] w fun e w' => ∃ v, e = .returned v ∧ Below w.heap.size w w' ∧ w'.ownsRow w.heap.size 3 1 v (fullTo (smallL n) xs (smallL n).length).length (intVs (fullTo (smallL n) xs (smallL n).length)) := by
  obtain ⟨i3, hi3, hz30, hz31, hz32⟩ := info_parts Tryz.info3
  have hk := chk_all n hn1 hn
  have HS := Lib.hid (smallOf_any n hn1 hn w)
  have hpos := small_pos n
  have hrl := raw_len n hn
  have HT := Lib.hid (fun k (hk' : k < (smallL n).length) => chk_tri hk _ (tri_mem hk'))
  have HR := Lib.hid hl.rng
  rw [← hlen] at HT HR
  have HC := Lib.hid hc
  clear hc hl hk hlen
  generalize smallL n = L at *
  generalize hXN : xs.length = XN at *
  clear hXN
  go_enter Tryz.func16, Tryz.ntmps16
  go_wp2_with fail
  refine HS.out.mono ?_
  rintro e w2 ⟨va, rfl, hb2, hrows⟩
  obtain ⟨g0, cap0, -, -, rfl, -⟩ := rows_tri hrows 0 hpos
  have HB2 := Lib.hid hb2
  have HRW := Lib.hid hrows
  clear hb2 hrows HS
  go_wp2_with fail
  go_loopw [6, 7] (fun v i wr => ∃ k : Nat, k ≤ L.length ∧ i = .int .i64 k ∧ Below w2.heap.size w2 wr ∧ wr.ownsRow w2.heap.size 3 1 v (fullTo L xs k).length (intVs (fullTo L xs k))) (fun _ i _ => L.length - (intOf i).toNat)
  case atStart => exact ⟨0, Nat.zero_le _, rfl, Below.refl _ _, by simpa [fullTo, intVs] using World.ownsRow_nil w2 w2.heap.size 3 1⟩
  case round =>
    obtain ⟨k, hk, rfl, hb, hown⟩ := hrel
    by_cases hks : k < L.length
    · obtain ⟨g, cap, gi, ci, hv, h0, hci, h1, h2, h3⟩ := rows_tri (HRW.out.below hb (Nat.le_refl _)) k hks
      cases hv
      obtain ⟨t1, t2, t3⟩ := HT.out k hks
      have HCF := Lib.hid (isfull_any xs lb lo lc XN (tri L k) gi ci wr ⟨by omega, by omega, t3⟩ (fun i hi => ((HB2.out.trans (hb.mono HB2.out.size)).cell (p := ⟨lb, lo + i, none⟩) (mem_lt (HC.out i hi))).trans (HC.out i hi)) HR.out h1 h2 h3)
      have HST := Lib.hid (fullTo_step L xs k)
      have hfl := fullTo_length L xs k
      have HB := Lib.hid hb
      have hsz := hb.size
      clear h1 h2 h3 t1 t2 t3 hb hci
      generalize fullTo L xs k = FL at *
      cases hf : isFull (labF xs) (tri L k) with
      | false =>
        rw [hf] at HCF HST
        have HOW := Lib.hid hown
        clear hf hown
        go_wp2_with fail
        refine HCF.out.mono ?_
        rintro e w' ⟨rfl, rfl⟩
        go_wp2_with fail
        go_roundw
        case rel => exact ⟨k + 1, by omega, by go_num, HB.out, by rw [HST.out]; simpa using HOW.out⟩
        case measure => simp [intOf]; omega
      | true =>
        rw [hf] at HCF HST
        clear hf
        go_wp2_with fail
        refine HCF.out.mono ?_
        rintro e w' ⟨rfl, rfl⟩
        go_wp2_with (at_builtin; go_must (refine wpList_append_own _ rfl _ _ 22 rfl w2.heap.size 3 i3 (.int .i64 0) 1 8 Tryz.underlying22 hi3 hz30 hz31 hz32 rfl (by decide) _ _ _ rfl (hown.alloc _) ⟨wr.heap.size, 0, none⟩ 1 1 [.int .i64 (k : Int)] rfl rfl (cells_new _ _ _) (fun u hu => by simp at hu; subst hu; rfl) (by unfold maxLen; omega) (by omega) (by simp; omega) ?_); intro v' w5 hown' hgrow hiff
                     have HB5 := Lib.hid ((HB.out.alloc hsz _).grown hgrow (by simp; omega) (fun j hj => (hown.lt j hj).1))
                     have HOW := Lib.hid hown'
                     clear hiff hgrow hown' hown)
        go_roundw
        case rel => exact ⟨k + 1, by omega, by go_num, HB5.out, by rw [HST.out, if_pos trivial, List.length_append]; simpa [intVs] using HOW.out⟩
        case measure => simp [intOf]; omega
    · obtain rfl : k = L.length := by omega
      have HOW := Lib.hid hown
      have HB := Lib.hid hb
      clear hown hb
      go_wp2_with fail
      go_ret
      exact ⟨_, rfl, HB2.out.trans (HB.out.mono HB2.out.size), ⟨HOW.out.1, HOW.out.2.imp id fun ⟨g, cap, cur, a, b, c⟩ => ⟨g, cap, cur, a, Nat.le_trans HB2.out.size b, c⟩⟩⟩
end Go.Proofs.YtnijedeopnjklaaGreatDoor
