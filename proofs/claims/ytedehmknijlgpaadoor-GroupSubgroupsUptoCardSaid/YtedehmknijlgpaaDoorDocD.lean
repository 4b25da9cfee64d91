/-
  The law's wordsOf, program by contracts: copies.
-/
import Derived.Test.YtedehmknijlgpaaDoorDocA
import Derived.Test.YtedehmknijlgpaaDoorOpnA
set_option linter.unusedSimpArgs false
set_option linter.unusedVariables false
namespace Go.Proofs.YtedehmknijlgpaaDoor
open Go Go.RowKit Go.Maps

set_option maxRecDepth 100000 in
set_option maxHeartbeats 8000000 in
theorem wordsOf_any (B : Nat) (L : List (List Int)) (v : Value) (w : World) (hB : B ≤ w.heap.size) (hv : ListsIn B w v L) (hn : L.length ≤ 100000) (hl : ∀ l ∈ L, l.length ≤ 100000) :
    Calls Tryd.prog 12 #[v] w (ListPost B L w) := by
  obtain ⟨i39, hi39, hz0, hz1, hz2⟩ := info_parts Tryd.info27
  obtain ⟨i3, hi3, hy0, hy1, hy2⟩ := info_parts Tryd.info3
  obtain ⟨pv, cv, hve, -⟩ := id hv
  obtain ⟨n, hLn⟩ : ∃ n, L.length = n := ⟨_, rfl⟩
  rw [hLn] at hve hn
  subst hve
  have HLN := Lib.hid hLn
  have HV := Lib.hid hv
  have HB := Lib.hid hB
  have HL := Lib.hid hl
  unfold ListPost
  clear hLn hv hB hl
  go_enter Tryd.func12, Tryd.ntmps12
  go_wp2_with fail
  go_loopw [3, 4] (fun s i wr => ∃ (j : Nat), j ≤ n ∧ i = .int .i64 j ∧ Below w.heap.size w wr ∧ RowsO w.heap.size B wr s (L.take j)) (fun _ i _ => n - (intOf i).toNat)
  case atStart => exact ⟨0, Nat.zero_le _, rfl, Below.refl _ _, RowsO.nil _ _ _⟩
  case round =>
    obtain ⟨j, hj, rfl, hbl, hro⟩ := hrel
    have HBL := Lib.hid hbl
    have hwr : w.heap.size ≤ wr.heap.size := hbl.size
    by_cases hjn : j < n
    · have hjL : j < L.length := by rw [HLN.out]; exact hjn
      obtain ⟨b, off, c, hve⟩ := HV.out.form (by omega)
      rw [HLN.out] at hve
      obtain ⟨rfl, rfl⟩ : pv = some ⟨b, off, none⟩ ∧ cv = c := by cases hve; exact ⟨rfl, rfl⟩
      obtain ⟨px, cx, hcx, hix⟩ := cells_at (HV.out.below HBL.out (Nat.le_refl _)) j hjL
      have hlj := HL.out _ (getL_mem hjL)
      have HTK := Lib.hid (take_snoc_getD [] L j hjL)
      have HTL := Lib.hid (show (L.take j).length = j by rw [List.length_take]; omega)
      obtain ⟨nx, hnx⟩ : ∃ nx, (L.getD j []).length = nx := ⟨_, rfl⟩
      rw [hnx] at hcx hlj hix
      have HNX := Lib.hid hnx
      have HIX := Lib.hid hix
      have HRO := Lib.hid hro
      clear hve hix hnx hbl hro
      go_wp2_with (first
        | (at_builtin; refine wpList_app_any wr rfl (.tmp 13) (.tmp 17) 27 rfl wr.heap.size 3 i3 (.int .i64 0) 8 Tryd.underlying27 hi3 hy0 hy1 hy2 rfl (.slice none 0 0) 0 [] rfl (World.ownsRow_nil _ _ _ _) px nx cx (intVs (L.getD j [])) rfl HIX.out.at.lenE HIX.out.at.noneE HIX.out.at.news (intVs_one _) (by unfold maxLen; omega) (by omega) (Nat.le_refl _) _ rfl ?_; intro p5 c5 w5 ho5 hg5 hat5; simp only [Nat.zero_add, List.nil_append] at ho5 ⊢; have HB5 := Lib.hid (below_none hg5); have HI5 := Lib.hid (ints_owned (B := B) ho5 HNX.out.symm); obtain ⟨hs, h1, h2, h3⟩ := HRO.out.below HB5.out (Nat.le_refl _); rw [HTL.out] at h1; have H1 := Lib.hid h1; have H2 := Lib.hid h2; have H3 := Lib.hid h3; have hs5 : wr.heap.size ≤ w5.heap.size := hg5.size; clear ho5 hg5 hat5 h1 h2 h3)
        | (at_builtin; refine wpList_append_lies _ rfl (.tmp 12) (.tmp 19) 36 rfl w.heap.size 27 i39 (.slice none 0 0) 1 24 Tryd.underlying36 hi39 hz0 hz1 hz2 rfl (by decide) _ j hs rfl (H1.out.alloc _) ⟨w5.heap.size, 0, none⟩ 1 1 [.slice p5 nx c5] rfl rfl (World.news_of_block (cs := #[.slice p5 nx c5]) (t := 27) (fr := (0, 0)) (heap_alloc_new w5 _)) (by simp [Value.oneCell']) (by decide) (by unfold maxLen; omega) (by omega) (by simp; omega) (w5.heap.size + 1) (by simp) ?_; intro g2 c2 w9 hown2 hgr2 hat2 hlt2; have HO2 := Lib.hid hown2; have HG2 := Lib.hid hgr2; clear hown2 hgr2 hat2 hlt2))
      go_roundw
      case rel =>
        have hbA : Below w5.heap.size w5 (w5.alloc (.cells #[.slice p5 nx c5] 27)) := (Below.refl _ _).alloc (Nat.le_refl _) _
        refine ⟨j + 1, by omega, by go_num, ((HBL.out.trans (HB5.out.mono hwr)).alloc (by omega) _).grown HG2.out (by simp; omega) (fun i hi => (H1.out.lt i hi).1), ?_⟩
        rw [HTK.out]
        exact rowsO_push (w := w5.alloc (.cells #[.slice p5 nx c5] 27)) (hs := hs) HB.out (by rw [HTL.out]; exact H1.out.alloc _) H2.out (fun i hi => (H3.out i hi).below hbA (Nat.le_refl _)) (HI5.out.below hbA (Nat.le_refl _)) (by rw [HTL.out]; exact HO2.out) HG2.out
      case measure => simp [intOf]; omega
    · obtain rfl : j = n := by omega
      have HFULL : Hid (L.take j = L) := by unfold Hid; rw [← HLN.out, List.take_length]
      rw [HFULL.out] at hro
      have HRO := Lib.hid hro
      clear hbl hro
      go_wp2_with fail
      go_ret
      exact ⟨_, rfl, HBL.out, HRO.out⟩
end Go.Proofs.YtedehmknijlgpaaDoor
