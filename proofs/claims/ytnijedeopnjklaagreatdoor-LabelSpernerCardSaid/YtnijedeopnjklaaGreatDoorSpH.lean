/-
  doorsOf of the references: the doors of a small triangle, in order.
-/
import Derived.Test.YtnijedeopnjklaaGreatDoorSpG
import Derived.Deep.RegionLaw
import Derived.Deep.AppendLies
namespace Go.Proofs.YtnijedeopnjklaaGreatDoor
open Go Go.RowKit Sper

def pairI (p : Nat × Nat) : List Int := [(p.1 : Int), (p.2 : Int)]
def tv (t : Nat × Nat × Nat) : Nat → Nat
  | 0 => t.1
  | 1 => t.2.1
  | _ => t.2.2
def dIdx (a b : Nat) : Nat := if a = 0 then b - 1 else if a = 1 then b else 3
def dTo (lab : Nat → Int) (t : Nat × Nat × Nat) (m : Nat) : List (Nat × Nat) := ((sides t).take m).filter (isDoor lab)
theorem dTo_step (lab : Nat → Int) (t : Nat × Nat × Nat) {a b : Nat} (hab : a < b) (hb : b < 3) : dTo lab t (dIdx a (b + 1)) = dTo lab t (dIdx a b) ++ (if isDoor lab (tv t a, tv t b) = true then [(tv t a, tv t b)] else []) := by
  obtain ⟨x, y, z⟩ := t
  unfold dTo
  rcases (show (a = 0 ∧ b = 1) ∨ (a = 0 ∧ b = 2) ∨ (a = 1 ∧ b = 2) by omega) with ⟨rfl, rfl⟩ | ⟨rfl, rfl⟩ | ⟨rfl, rfl⟩
  · show ([(x, y)] : List (Nat × Nat)).filter (isDoor lab) = ([] : List (Nat × Nat)).filter (isDoor lab) ++ _
    simp [List.filter, tv]; split <;> simp_all
  · show ([(x, y), (x, z)] : List (Nat × Nat)).filter (isDoor lab) = ([(x, y)] : List (Nat × Nat)).filter (isDoor lab) ++ _
    rw [show ([(x, y), (x, z)] : List (Nat × Nat)) = [(x, y)] ++ [(x, z)] from rfl, List.filter_append]
    congr 1
    simp [List.filter, tv]; split <;> simp_all
  · show ([(x, y), (x, z), (y, z)] : List (Nat × Nat)).filter (isDoor lab) = ([(x, y), (x, z)] : List (Nat × Nat)).filter (isDoor lab) ++ _
    rw [show ([(x, y), (x, z), (y, z)] : List (Nat × Nat)) = [(x, y), (x, z)] ++ [(y, z)] from rfl, List.filter_append]
    congr 1
    simp [List.filter, tv]; split <;> simp_all
theorem dTo_next {a : Nat} (ha : a < 3) : dIdx a 3 = dIdx (a + 1) (a + 2) := by
  rcases (show a = 0 ∨ a = 1 ∨ a = 2 by omega) with rfl | rfl | rfl <;> rfl
theorem dTo_all (lab : Nat → Int) (t : Nat × Nat × Nat) : dTo lab t (dIdx 3 4) = doors lab t := rfl
theorem dTo_len (lab : Nat → Int) (t : Nat × Nat × Nat) (m : Nat) : (dTo lab t m).length ≤ 3 := by
  unfold dTo
  have h1 := List.length_filter_le (isDoor lab) ((sides t).take m)
  have h2 : ((sides t).take m).length ≤ (sides t).length := by rw [List.length_take]; omega
  have h3 : (sides t).length = 3 := rfl
  omega
def DrSt (w wr : World) (v : Value) (L : List (Nat × Nat)) : Prop := RowsAt 22 3 wr w.heap.size v (L.map pairI) ∧ Below w.heap.size w wr

theorem DrSt.below {w wr w' : World} {v : Value} {L : List (Nat × Nat)} (h : DrSt w wr v L) (hb : Below wr.heap.size wr w') : DrSt w w' v L :=
  ⟨h.1.below hb (Nat.le_refl _), h.2.trans (hb.mono h.2.size)⟩

set_option maxRecDepth 100000 in
set_option maxHeartbeats 16000000 in
theorem doorsOf_any (xs : List Int) (lb lo lc N : Nat) (t : Nat × Nat × Nat) (g c : Nat) (w : World) (hN : t.1 < N ∧ t.2.1 < N ∧ t.2.2 < N)
    (hc : ∀ i, i < N → w.cell? ⟨lb, lo + i, none⟩ = some (.int .i64 (xs.getD i 0))) (hr : ∀ i, i < N → xs.getD i 0 = 0 ∨ xs.getD i 0 = 1 ∨ xs.getD i 0 = 2)
    (h0 : w.cell? ⟨g, 0, none⟩ = some (.int .i64 (t.1 : Int))) (h1 : w.cell? ⟨g, 1, none⟩ = some (.int .i64 (t.2.1 : Int))) (h2 : w.cell? ⟨g, 2, none⟩ = some (.int .i64 (t.2.2 : Int))) :
    Calls Tryz.prog 39 #[.slice (some ⟨g, 0, none⟩) 3 c, .slice (some ⟨lb, lo, none⟩) N lc] w fun e w' => ∃ v, e = .returned v ∧ DrSt w w' v (doors (labF xs) t) := by
  obtain ⟨i3, hi3, hz30, hz31, hz32⟩ := info_parts Tryz.info3
  obtain ⟨i22, hi22, hz220, hz221, hz222⟩ := info_parts Tryz.info22
  have htv : ∀ i, i < 3 → tv t i < N ∧ w.cell? ⟨g, i, none⟩ = some (.int .i64 (tv t i : Int)) := fun i hi => by
    rcases (show i = 0 ∨ i = 1 ∨ i = 2 by omega) with rfl | rfl | rfl
    · exact ⟨hN.1, h0⟩
    · exact ⟨hN.2.1, h1⟩
    · exact ⟨hN.2.2, h2⟩
  have HTV := Lib.hid htv
  have HC := Lib.hid hc
  have HR := Lib.hid hr
  clear htv hc hr h0 h1 h2 hN
  go_enter Tryz.func39, Tryz.ntmps39
  go_wp2_with fail
  go_loopw [5, 6] (fun v i wr => ∃ a : Nat, a ≤ 3 ∧ i = .int .i64 a ∧ DrSt w wr v (dTo (labF xs) t (dIdx a (a + 1)))) (fun _ i _ => 3 - (intOf i).toNat)
  case atStart => exact ⟨0, by omega, rfl, RowsAt.nil _ _ _ _, Below.refl _ _⟩
  case round =>
    obtain ⟨a, ha, rfl, hst⟩ := hrel
    obtain ⟨wo, rfl⟩ : ∃ wo : World, wo = wr := ⟨_, rfl⟩
    by_cases haN : a < 3
    · have HST := Lib.hid hst
      have da : decide ((a : Int) < 3) = true := decide_eq_true (by omega)
      have da2 : (a : Int) < 3 := by omega
      have da3 : (0 : Int) ≤ (a : Int) := by omega
      clear hst
      go_wp2_with fail
      go_loopw [5, 7] (fun v i wr => ∃ b : Nat, a + 1 ≤ b ∧ b ≤ 3 ∧ i = .int .i64 b ∧ DrSt w wr v (dTo (labF xs) t (dIdx a b))) (fun _ i _ => 3 - (intOf i).toNat)
      case atStart => exact ⟨a + 1, Nat.le_refl _, by omega, by go_num, HST.out⟩
      case round =>
        obtain ⟨b, hab, hb, rfl, hst2⟩ := hrel
        clear HST
        obtain ⟨w3, rfl⟩ : ∃ w3 : World, w3 = wr := ⟨_, rfl⟩
        by_cases hbN : b < 3
        · have hba : ∀ i, i < 3 → w3.cell? ⟨g, i, none⟩ = some (.int .i64 (tv t i : Int)) := fun i hi => (hst2.2.cell (p := ⟨g, i, none⟩) (mem_lt (HTV.out i hi).2)).trans (HTV.out i hi).2
          have ca := hba a haN
          have cb := hba b hbN
          have la := (HTV.out a haN).1
          have lb' := (HTV.out b hbN).1
          have xa := (hst2.2.cell (p := ⟨lb, lo + tv t a, none⟩) (mem_lt (HC.out _ la))).trans (HC.out _ la)
          have xb := (hst2.2.cell (p := ⟨lb, lo + tv t b, none⟩) (mem_lt (HC.out _ lb'))).trans (HC.out _ lb')
          have ra := HR.out _ la
          have rb := HR.out _ lb'
          have HSTEP := Lib.hid (dTo_step (labF xs) t (a := a) (b := b) (by omega) hbN)
          have hlen := dTo_len (labF xs) t (dIdx a b)
          generalize tv t a = pa at *
          generalize tv t b = pb at *
          generalize dTo (labF xs) t (dIdx a b) = DL at *
          obtain ⟨r, hres⟩ : ∃ r, isDoor (labF xs) (pa, pb) = r := ⟨_, rfl⟩
          rw [hres] at HSTEP
          unfold isDoor labF at hres
          simp only at hres
          generalize xs.getD pa 0 = x at xa ra hres
          generalize xs.getD pb 0 = y at xb rb hres
          have HST2 := Lib.hid hst2
          clear hst2 hba
          rcases ra with rfl | rfl | rfl <;> rcases rb with rfl | rfl | rfl
          all_goals
            have hres' := hres.symm
            simp at hres'
            subst hres'
            clear hres
          all_goals
            go_wp2_with fail
          all_goals first
            | (go_roundw
               case rel => exact ⟨b + 1, by omega, by omega, by go_num, by rw [HSTEP.out]; simpa using HST2.out⟩
               case measure => simp [intOf]; omega)
            | (obtain ⟨hR, hb7⟩ := HST2.out
               have hlen2 : (DL.map pairI).length ≤ 3 := by rw [List.length_map]; exact hlen
               generalize hLM : DL.map pairI = LM at hR hlen2
               have HLM := Lib.hid hLM
               have hRA := hR.below (w' := (w3.alloc (.cells #[.int .i64 (pa : Int), .int .i64 (pb : Int)] 3)).drew) ((Below.refl _ _).alloc (Nat.le_refl _) _).drew (Nat.le_refl _)
               have hsz3 : w.heap.size ≤ w3.heap.size := hb7.size
               have HB7 := Lib.hid (hb7.alloc hb7.size (.cells #[.int .i64 (pa : Int), .int .i64 (pb : Int)] 3)).drew
               clear hLM HST2 hlen hR hb7
               go_region_law (first
                 | (refine step_append_lies _ (by rfl) (.tmp 50) (.tmp 59) 22 (by rfl) w.heap.size 3 i3 (.int .i64 0) 1 8 Tryz.underlying22 hi3 hz30 hz31 hz32 rfl (by decide) (.slice none 0 0) 0 [] (by rfl) (World.ownsRow_nil _ _ _ _) ⟨w3.heap.size, 0, none⟩ 2 2 [.int .i64 (pa : Int), .int .i64 (pb : Int)] (by rfl) (by rfl) (World.news_of_block (cs := #[.int .i64 (pa : Int), .int .i64 (pb : Int)]) (t := 3) (fr := (0, 0)) (heap_alloc_new w3 _)) (by simp [Value.oneCell']) (by decide) (by unfold maxLen; omega) (by omega) (by simp; omega) (w3.heap.size + 1) (by simp) ?_
                    intro g1 c1 w8 hown1 hgr1 hat1 hlt1
                    have hr1 := hRA.grown_none hgr1
                    have hb1 : Below w.heap.size w w8 := HB7.out.grown hgr1 (by simp; omega) (fun j hj => by cases hj)
                    have hsz8 : w.heap.size ≤ w8.heap.size := hb1.size
                    obtain ⟨hs, h1, h2, h3⟩ := hr1)
                 | (refine step_append_lies _ (by rfl) (.tmp 49) (.tmp 61) 32 (by rfl) w.heap.size 22 i22 (.slice none 0 0) 1 24 Tryz.underlying32 hi22 hz220 hz221 hz222 rfl (by decide) u5 LM.length hs (by rfl) (h1.alloc _) ⟨w8.heap.size, 0, none⟩ 1 1 [.slice (some ⟨g1, 0, none⟩) 2 c1] (by rfl) (by rfl) (World.news_of_block (cs := #[.slice (some ⟨g1, 0, none⟩) 2 c1]) (t := 22) (fr := (0, 0)) (heap_alloc_new w8 _)) (by simp [Value.oneCell']) (by decide) (by unfold maxLen; omega) (by omega) (by simp; omega) (w8.heap.size + 1) (by simp) ?_
                    intro g2 c2 w9 hown2 hgr2 hat2 hlt2))
               all_goals
                 have hpush := rows_push (xs := pairI (pa, pb)) (by decide) (h1.alloc _) h2 (fun i hi => (h3 i hi).alloc _) (hown1.alloc _) hown2 hgr2
                 have hbl : Below w.heap.size w w9 := (hb1.alloc hb1.size _).grown hgr2 (by have := hb1.size; simp; omega) (fun j hj => (h1.lt j hj).1)
                 have hfin : DrSt w w9 (.slice (some ⟨g2, 0, none⟩) (LM.length + 1) c2) (dTo (labF xs) t (dIdx a (b + 1))) := by rw [HSTEP.out, if_pos (by simp)]; exact ⟨by rw [List.map_append, HLM.out]; exact hpush, hbl⟩
                 have HFIN := Lib.hid hfin
                 clear hfin hpush hbl hown1 hgr1 hat1 hlt1 hown2 hgr2 hat2 hlt2 h1 h2 h3 hb1 hRA
                 go_wp2
                 go_roundw
                 case rel => first | exact ⟨b + 1, by omega, by omega, by go_num, HFIN.out⟩ | ((repeat apply Exists.intro); exact ⟨⟨b + 1, by omega, by omega, by go_num, HFIN.out⟩, rfl⟩)
                 case measure => simp [intOf]; omega)
        · obtain rfl : b = 3 := by omega
          have HRW := Lib.hid (show DrSt w w3 u5 (dTo (labF xs) t (dIdx (a + 1) (a + 2))) by rw [← dTo_next haN]; exact hst2)
          clear hst2
          go_wp2_with fail
          go_roundw
          case rel => exact ⟨a + 1, by omega, by go_num, HRW.out⟩
          case measure => simp [intOf]; omega
    · obtain rfl : a = 3 := by omega
      have HRW := Lib.hid hst
      clear hst
      go_wp2_with fail
      go_ret
      exact ⟨_, rfl, HRW.out⟩
end Go.Proofs.YtnijedeopnjklaaGreatDoor
