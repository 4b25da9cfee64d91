/-
  index.image by a contract: where the vertices of a face go.
-/
import Derived.Test.YtddnjimpdidpaaaGreatDoorIyB
import Derived.Test.YtddnjimpdidpaaaGreatDoorIxO
set_option linter.unusedSimpArgs false
set_option linter.unusedVariables false
namespace Go.Proofs.YtddnjimpdidpaaaGreatDoor
open Go Go.RowKit Go.Maps

set_option maxRecDepth 100000 in
set_option maxHeartbeats 8000000 in
theorem image_any (B : Nat) (V f x : List Int) (va vf vx : Value) (w : World) (hV : IntsAt w va V) (hf : IntsAt w vf f) (hx : IntsAt w vx x) (hr : Rise V) (hlen : f.length = V.length) (hin : ∀ y ∈ x, y ∈ V) (hVn : V.length ≤ 100000) (hxn : x.length ≤ 1000) :
    Calls Tryz.prog 66 #[va, vf, vx] w (NumsP B (imgF V f x) w) := by
  obtain ⟨i3, hi3, hy0, hy1, hy2⟩ := info_parts Tryz.info3
  obtain ⟨px, cx, hxe, -⟩ := id hx
  obtain ⟨pV, cV, hVe, -⟩ := id hV
  obtain ⟨pf, cf, hfe, -⟩ := id hf
  obtain ⟨m, hm⟩ : ∃ m, x.length = m := ⟨_, rfl⟩
  obtain ⟨n, hn⟩ : ∃ n, V.length = n := ⟨_, rfl⟩
  rw [hm] at hxe hxn
  rw [hn] at hVe hVn hlen
  rw [hlen] at hfe
  subst hxe
  subst hVe
  subst hfe
  have HX := Lib.hid hx.in
  have HV := Lib.hid hV.in
  have HF := Lib.hid hf.in
  have HM := Lib.hid hm
  have HN := Lib.hid hn
  have HR := Lib.hid hr
  have HL := Lib.hid hlen
  have HI := Lib.hid hin
  unfold NumsP imgF
  clear hV hf hx hr hlen hin hm hn
  go_enter Tryz.func66, Tryz.ntmps66
  go_wp2_with fail
  go_loopw [7, 14] (fun s i wr => ∃ j : Nat, j ≤ m ∧ i = .int .i64 j ∧ Below w.heap.size w wr ∧ wr.ownsRow w.heap.size 3 1 s j (intVs ((x.take j).map (hiF V f)))) (fun _ i _ => m - (intOf i).toNat)
  case atStart => exact ⟨0, Nat.zero_le _, rfl, Below.refl _ _, World.ownsRow_nil _ _ _ _⟩
  case round =>
    obtain ⟨j, hj, rfl, hb, hO⟩ := hrel
    by_cases hjn : j < m
    · have hxl : j < x.length := by rw [HM.out]; exact hjn
      obtain ⟨bx, ox, c', e1, e2⟩ := ints_cell (HX.out.below hb (Nat.le_refl _)) j hxl
      rw [HM.out] at e1
      obtain ⟨rfl, rfl⟩ : px = some ⟨bx, ox, none⟩ ∧ cx = c' := by cases e1; exact ⟨rfl, rfl⟩
      have hmem : x.getD j 0 ∈ V := HI.out _ (by rw [getD_elem hxl]; exact List.getElem_mem _)
      have hsn : intVs ((x.take (j + 1)).map (hiF V f)) = intVs ((x.take j).map (hiF V f)) ++ [.int .i64 (hiF V f (x.getD j 0))] := by
        rw [take_snoc_getD 0 x j hxl, List.map_append, List.map_singleton, intVs_snoc]
      obtain ⟨v, hv⟩ : ∃ v, x.getD j 0 = v := ⟨_, rfl⟩
      rw [hv] at e2 hmem hsn
      obtain ⟨k, hk, hkv⟩ := List.getElem_of_mem hmem
      rw [← getD_elem hk] at hkv
      have hkn : k < n := by rw [← HN.out]; exact hk
      obtain ⟨bv, ov, cV', e3, -⟩ := ints_cell HV.out k hk
      rw [HN.out] at e3
      obtain ⟨rfl, rfl⟩ : pV = some ⟨bv, ov, none⟩ ∧ cV = cV' := by cases e3; exact ⟨rfl, rfl⟩
      have hcells : ∀ i, i < V.length → wr.cell? ⟨bv, ov + i, none⟩ = some (.int .i64 (V.getD i 0)) := fun i hi2 => by
        obtain ⟨b2, o2', c2, e5, e6⟩ := ints_cell (HV.out.below hb (Nat.le_refl _)) i hi2
        obtain ⟨rfl, rfl⟩ : bv = b2 ∧ ov = o2' := by cases e5; exact ⟨rfl, rfl⟩
        exact e6
      have hbs := Tryz.slices_BinarySearch_int bv ov n cV V v wr (by rw [HN.out]; exact Nat.le_refl _) (by omega) hcells (by rw [show V.take n = V by rw [← HN.out]; exact List.take_length]; exact List.Pairwise.imp (fun h => by omega) HR.out)
      rw [show V.take n = V by rw [← HN.out]; exact List.take_length] at hbs
      have hcount : List.countP (fun x => decide (x < v)) V = k := by rw [← hkv]; exact count_idx HR.out hk
      rw [hcount] at hbs
      have hfv : hiF V f v = f.getD k 0 := hi_first hk hkv fun j2 hj2 e => by
        have h1 := List.pairwise_iff_getElem.1 HR.out j2 k (by omega) hk hj2
        rw [← getD_elem (by omega), ← getD_elem hk] at h1
        omega
      have HBS := Lib.hid hbs
      have HFV := Lib.hid hfv
      have HSN := Lib.hid hsn
      have HB := Lib.hid hb
      have HO := Lib.hid hO
      clear e1 e3 hcells hbs hcount hkv hmem hv hsn hfv hb hO
      go_wp2_with fail
      refine HBS.out.mono ?_
      rintro e w8 ⟨rfl, nq, hw8⟩
      rw [hw8]
      clear hw8
      have hb8 := Below.drewN wr nq
      obtain ⟨w9, hw9⟩ : ∃ x, wr.drewN nq = x := ⟨_, rfl⟩
      rw [hw9] at hb8 ⊢
      have hb9 := HB.out.trans (hb8.mono HB.out.size)
      obtain ⟨bf, of, cf', e5, e6⟩ := ints_cell (HF.out.below hb9 (Nat.le_refl _)) k (by rw [HL.out]; exact hkn)
      rw [HL.out] at e5
      obtain ⟨rfl, rfl⟩ : pf = some ⟨bf, of, none⟩ ∧ cf = cf' := by cases e5; exact ⟨rfl, rfl⟩
      obtain ⟨z, hz⟩ : ∃ z, f.getD k 0 = z := ⟨_, rfl⟩
      rw [hz] at e6
      have HZ := Lib.hid hz
      have hws : w.heap.size ≤ w9.heap.size := hb9.size
      have HB9 := Lib.hid hb9
      have HO9 := Lib.hid (owns_keep HO.out fun k hk => hb8.block k (HO.out.lt k hk).2)
      clear hb8 hb9 hw9 e5 hz
      go_wp2_with (at_builtin; refine wpList_append_lies _ rfl (.tmp 24) (.tmp 29) 23 rfl w.heap.size 3 i3 (.int .i64 0) 1 8 Tryz.underlying23 hi3 hy0 hy1 hy2 rfl (by decide) _ j (intVs ((x.take j).map (hiF V f))) rfl (HO9.out.alloc _) ⟨w9.heap.size, 0, none⟩ 1 1 [.int .i64 z] rfl rfl (World.news_of_block (cs := #[.int .i64 z]) (t := 3) (fr := (0, 0)) (heap_alloc_new w9 _)) (by simp [Value.oneCell']) (by decide) (by unfold maxLen; omega) (by omega) (by simp; omega) (w9.heap.size + 1) (by simp) ?_; intro g2 c2 w10 hown2 hgr2 hat2 hlt2; have HO2 := Lib.hid hown2; have HG2 := Lib.hid hgr2; clear hown2 hgr2 hat2 hlt2)
      go_roundw
      case rel =>
        refine ⟨j + 1, hjn, by go_num, (HB9.out.alloc hws _).grown HG2.out (by simp; omega) (fun i hi => (HO9.out.lt i hi).1), ?_⟩
        rw [HSN.out, HFV.out, HZ.out]
        exact HO2.out
      case measure => simp [intOf]; omega
    · obtain rfl : m = j := by omega
      have hT : x.take m = x := by rw [← HM.out, List.take_length]
      rw [hT] at hO
      have hl0 : (x.map (hiF V f)).length = m := by rw [List.length_map]; exact HM.out
      obtain ⟨po, co, hso⟩ : ∃ p c, u7 = .slice p m c := by
        rcases Joins.ownsRow_forms hO with ⟨e, h0⟩ | ⟨g, cap, e⟩
        · exact ⟨none, 0, by rw [e, h0]⟩
        · exact ⟨_, cap, e⟩
      subst hso
      have HB := Lib.hid hb
      have HI2 := Lib.hid (ints_owned (B := B) hO hl0.symm)
      clear hb hO hT
      go_wp2_with fail
      go_ret
      rw [hl0]
      exact ⟨po, co, rfl, HB.out, HI2.out⟩
end Go.Proofs.YtddnjimpdidpaaaGreatDoor
