/-
  The triangles of an image: the document's ImageSets by a contract. Condition: an even image, sides at most 1000.
-/
import Derived.Test.YtoheffkiohfmoaaGreatDoorGri
set_option linter.unusedSimpArgs false
set_option linter.unusedVariables false
namespace Go.Proofs.YtoheffkiohfmoaaGreatDoor
open Go Go.RowKit Go.Maps FL

/-- the two triangles of a square, in an image with n corners a row -/
def triI (n x y : Nat) : List (List Int) := [[((y * n + x : Nat) : Int), ((y * n + x + 1 : Nat) : Int), (((y + 1) * n + x + 1 : Nat) : Int)], [((y * n + x : Nat) : Int), (((y + 1) * n + x : Nat) : Int), (((y + 1) * n + x + 1 : Nat) : Int)]]
def triAt (ms : List ByteArray) (x y : Nat) : List (List Int) := if seI ms x y then triI (wideI ms + 1) x y else []
def triRow (ms : List ByteArray) (y b : Nat) : List (List Int) := (List.range b).flatMap fun x => triAt ms x y
def triTo (ms : List ByteArray) (a : Nat) : List (List Int) := (List.range a).flatMap fun y => triRow ms y (wideI ms)
theorem triRow_succ (ms : List ByteArray) (y b : Nat) : triRow ms y (b + 1) = triRow ms y b ++ triAt ms b y := range_flat ..
theorem triTo_succ (ms : List ByteArray) (a : Nat) : triTo ms (a + 1) = triTo ms a ++ triRow ms a (wideI ms) := range_flat ..
theorem triAt_len (ms : List ByteArray) (x y : Nat) : (triAt ms x y).length ≤ 2 := by unfold triAt; split <;> simp [triI]
theorem tri_len {ms : List ByteArray} {y x : Nat} (hW : wideI ms ≤ 1000) (hy : y ≤ 1000) (hx : x ≤ 1000) : (triTo ms y ++ triRow ms y x).length ≤ 3000000 := by
  rw [List.length_append]
  have h2 : (triRow ms y x).length ≤ 2 * x := gridRow_len (triAt_len ms) y x
  have h1 : ∀ a, (triTo ms a).length ≤ 2 * wideI ms * a := fun a => by
    induction a with
    | zero => simp [triTo]
    | succ a ih =>
      rw [triTo_succ, List.length_append]
      have : (triRow ms a (wideI ms)).length ≤ 2 * wideI ms := gridRow_len (triAt_len ms) a _
      rw [Nat.mul_succ]; omega
  have h3 := h1 y
  have h4 : 2 * wideI ms * y ≤ 2000 * 1000 := Nat.mul_le_mul (by omega) hy
  omega
/-- two rows more -/
theorem RowsO.push2 {O B : Nat} {w w' : World} {v v' u1 u2 : Value} {L : List (List Int)} {l1 l2 : List Int} {hs : List Value} (hB : B ≤ O) (h1 : w.ownsRow O 51 1 v L.length hs) (h2 : hs.length = L.length) (h3 : ∀ i, i < L.length → IntsIn B w (hs.getD i .nilIface) (L.getD i []))
    (hu1 : IntsIn B w u1 l1) (hu2 : IntsIn B w u2 l2) (hr : w'.ownsRow O 51 1 v' (L.length + 2) (hs ++ [u1, u2])) (hg : w.grownBy w' v.ownBlock) : RowsO O B w' v' (L ++ [l1, l2]) := by
  have hro := row_other h1 hB
  have hk : ∀ {u : Value} {l : List Int}, IntsIn B w u l → IntsIn B w' u l := fun hu => hu.grown hg fun k e => hro k e
  refine ⟨hs ++ [u1, u2], by simpa using hr, by simp [h2], fun i hi => ?_⟩
  rw [List.length_append] at hi
  simp only [List.length_cons, List.length_nil] at hi
  rcases Nat.lt_or_ge i L.length with h4 | h4
  · rw [List.getD_eq_getElem?_getD, List.getElem?_append_left (by omega), ← List.getD_eq_getElem?_getD, List.getD_eq_getElem?_getD (l := L ++ [l1, l2]), List.getElem?_append_left h4, ← List.getD_eq_getElem?_getD]
    exact hk (h3 i h4)
  · rcases (show i = L.length ∨ i = L.length + 1 by omega) with rfl | rfl
    · rw [List.getD_eq_getElem?_getD, List.getElem?_append_right (by omega), List.getD_eq_getElem?_getD (l := L ++ [l1, l2]), List.getElem?_append_right (by omega), h2]
      simpa using hk hu1
    · rw [List.getD_eq_getElem?_getD, List.getElem?_append_right (by omega), List.getD_eq_getElem?_getD (l := L ++ [l1, l2]), List.getElem?_append_right (by omega), h2]
      simpa using hk hu2
theorem ints_one3 (x y z : Int) : ∀ u ∈ [Value.int .i64 x, .int .i64 y, .int .i64 z], u.oneCell' = true := fun u hu => by
  simp at hu
  rcases hu with rfl | rfl | rfl <;> rfl
def TriP (ms : List ByteArray) (w : World) (e : Ending) (w' : World) : Prop := ∃ v, e = .returned v ∧ Below w.heap.size w w' ∧ RowsO w.heap.size w.heap.size w' v (triTo ms ms.length)
set_option maxRecDepth 100000 in
set_option maxHeartbeats 16000000 in
theorem imageSets_any (ms : List ByteArray) (v : Value) (w : World) (h : StrsAt w v ms) (hW : wideI ms ≤ 1000) (hH : ms.length ≤ 1000) (hrect : ∀ j, j < ms.length → (rowB ms j).size = wideI ms) : Calls Tryz.prog 37 #[v] w (TriP ms w) := by
  obtain ⟨i1, hi1, hz0, hz1, hz2⟩ := info_parts Tryz.info3
  obtain ⟨i3, hi3, hy0, hy1, hy2⟩ := info_parts Tryz.info51
  obtain ⟨pm, cm, hve, -⟩ := id h
  obtain ⟨gr, hgr⟩ : ∃ gr, w.heap.size = gr := ⟨_, rfl⟩
  obtain ⟨W, hWn⟩ : ∃ W, wideI ms = W := ⟨_, rfl⟩
  obtain ⟨H, hHn⟩ : ∃ H, ms.length = H := ⟨_, rfl⟩
  have HLEN := Lib.hid (fun (y x : Nat) (hy : y ≤ 1000) (hx : x ≤ 1000) => tri_len (ms := ms) hW hy hx)
  rw [hHn] at hve hH
  rw [hWn] at hW
  subst hve
  have HSTR : Hid (∀ wx, Below gr w wx → ∀ y, y < H → ∃ b off s, pm = some ⟨b, off, none⟩ ∧ wx.cell? ⟨b, off + y, none⟩ = some (.string s) ∧ s.size = W) := fun wx hx y hy => by
    obtain ⟨b, off, e1, e2⟩ := (h.below hx (by rw [hgr]; exact Nat.le_refl _)).at (i := y) (by rw [hHn]; exact hy)
    exact ⟨b, off, _, e1, e2, by rw [hrect y (by rw [hHn]; exact hy)]; exact hWn⟩
  have HFU := Lib.hid (fun wx (hx : Below gr w wx) x y => fullR_any (.slice pm H cm) ms x y wx (h.below hx (by rw [hgr]; exact Nat.le_refl _)))
  unfold Plain at HFU
  have HWN := Lib.hid hWn
  have HHN := Lib.hid hHn
  have HGR := Lib.hid hgr
  unfold TriP
  rw [hgr, hHn]
  clear h hrect hWn hHn hgr
  go_enter Tryz.func37, Tryz.ntmps37
  go_wp2_with fail
  go_loopw [3, 4] (fun s3 s4 wr => ∃ y : Nat, y ≤ H ∧ s4 = .int .i64 (y : Int) ∧ Below gr w wr ∧ RowsO gr gr wr s3 (triTo ms y)) (fun _ s4 _ => H - (intOf s4).toNat)
  case atStart => exact ⟨0, Nat.zero_le _, rfl, Below.refl _ _, RowsO.nil _ _ _⟩
  case round =>
    obtain ⟨y, hy, rfl, hb, hr⟩ := hrel
    have HB := Lib.hid hb
    have HR := Lib.hid hr
    clear hb hr
    by_cases hyl : y < H
    · go_wp2_with fail
      go_loopw [3, 5] (fun s3 s5 wr => ∃ x : Nat, x ≤ W ∧ s5 = .int .i64 (x : Int) ∧ Below gr w wr ∧ RowsO gr gr wr s3 (triTo ms y ++ triRow ms y x)) (fun _ s5 _ => W - (intOf s5).toNat)
      case atStart => exact ⟨0, Nat.zero_le _, rfl, HB.out, by simpa [triRow] using HR.out⟩
      case round =>
        clear HB HR
        obtain ⟨x, hx, rfl, hb, hr⟩ := hrel
        obtain ⟨bk, off, s, rfl, hcell, hsW⟩ := HSTR.out wr hb y hyl
        have HB := Lib.hid hb
        have HR := Lib.hid hr
        have HCELL := Lib.hid hcell
        by_cases hxl : x < W
        · have hqx : decide ((x : Int) < (s.size : Int)) = true := decide_eq_true (by rw [hsW]; omega)
          have hqx2 : decide (x < s.size) = true := decide_eq_true (by omega)
          obtain ⟨f, hf⟩ : ∃ f, fullI ms (x : Int) (y : Int) = f := ⟨_, rfl⟩
          have hfu := HFU.out wr hb (x : Int) (y : Int)
          rw [hf] at hfu
          have HFUL := Lib.hid hfu
          have hTA : triAt ms x y = if f then triI (W + 1) x y else [] := by unfold triAt seI; rw [hf, HWN.out]
          have HTA := Lib.hid hTA
          have HSZ : Hid (gr ≤ wr.heap.size) := by unfold Hid; have := hb.size; have := HGR.out; omega
          have hlen := HLEN.out y x (by omega) (by omega)
          clear hf hfu hTA hb hr
          cases f with
          | false =>
            have HN : Hid (∀ s, RowsO gr gr wr s (triTo ms y ++ triRow ms y x) → RowsO gr gr wr s (triTo ms y ++ triRow ms y (x + 1))) := fun s h => by rw [triRow_succ, HTA.out]; simpa using h
            have HX := Lib.hid (HN.out _ HR.out)
            clear HN
            go_wp2_with fail
            refine HFUL.out.mono ?_
            rintro e w5 ⟨rfl, hw⟩
            rw [hw]
            clear hw w5
            go_wp2_with fail
            go_roundw
            case rel => exact ⟨x + 1, hxl, by go_num, HB.out, HX.out⟩
            case measure => simp [intOf]; omega
          | true =>
            obtain ⟨P0, hP0⟩ : ∃ P, y * (W + 1) = P := ⟨_, rfl⟩
            obtain ⟨P1, hP1⟩ : ∃ P, (y + 1) * (W + 1) = P := ⟨_, rfl⟩
            have hb0 : P0 ≤ 2000000 := by rw [← hP0]; exact Nat.le_trans (Nat.mul_le_mul (show y ≤ 1000 by omega) (show W + 1 ≤ 1001 by omega)) (by decide)
            have hb1 : P1 ≤ 2000000 := by rw [← hP1]; exact Nat.le_trans (Nat.mul_le_mul (show y + 1 ≤ 1001 by omega) (show W + 1 ≤ 1001 by omega)) (by decide)
            have hm0 : (y : Int) * ((W : Int) + 1) = (P0 : Int) := by rw [← hP0]; push_cast; rfl
            have hm1 : ((y : Int) + 1) * ((W : Int) + 1) = (P1 : Int) := by rw [← hP1]; push_cast; rfl
            have HTR : Hid (triAt ms x y = [[(P0 : Int) + (x : Int), (P0 : Int) + (x : Int) + 1, (P1 : Int) + (x : Int) + 1], [(P0 : Int) + (x : Int), (P1 : Int) + (x : Int), (P1 : Int) + (x : Int) + 1]]) := by
              unfold Hid
              rw [HTA.out]
              simp only [if_true]
              unfold triI
              rw [hP0, hP1]
              push_cast
              rfl
            obtain ⟨hs, hr1, hr2, hr3⟩ := HR.out
            obtain ⟨L, hL⟩ : ∃ L, triTo ms y ++ triRow ms y x = L := ⟨_, rfl⟩
            rw [hL] at hr1 hr2 hr3 hlen
            obtain ⟨po, co, hso⟩ : ∃ p c, u3 = .slice p L.length c := by
              rcases Joins.ownsRow_forms hr1 with ⟨e, h0⟩ | ⟨g, cap, e⟩
              · exact ⟨none, 0, by rw [h0]; exact e⟩
              · exact ⟨_, cap, e⟩
            subst hso
            obtain ⟨n, hn⟩ : ∃ n, L.length = n := ⟨_, rfl⟩
            rw [hn] at hr1 hlen ⊢
            have HLN := Lib.hid hn
            have HLL := Lib.hid hL
            have HR1 := Lib.hid hr1
            have HR2 := Lib.hid hr2
            have HR3 := Lib.hid hr3
            have HBS : Hid (gr ≤ (wr.alloc (.cells #[.int .i64 ((P0 : Int) + (x : Int)), .int .i64 ((P0 : Int) + (x : Int) + 1), .int .i64 ((P1 : Int) + (x : Int) + 1)] 3)).heap.size) := Nat.le_trans HSZ.out ((Below.refl wr.heap.size wr).alloc (Nat.le_refl _) _).size
            have HN1 := Lib.hid (World.news_of_block (cs := #[.int .i64 ((P0 : Int) + (x : Int)), .int .i64 ((P0 : Int) + (x : Int) + 1), .int .i64 ((P1 : Int) + (x : Int) + 1)]) (t := 3) (fr := (0, 0)) (heap_alloc_new wr (.cells #[.int .i64 ((P0 : Int) + (x : Int)), .int .i64 ((P0 : Int) + (x : Int) + 1), .int .i64 ((P1 : Int) + (x : Int) + 1)] 3)))
            clear hP0 hP1 hr1 hr2 hr3 hn hL HTA HR
            go_wp2_with fail
            refine HFUL.out.mono ?_
            rintro e w5 ⟨rfl, hw⟩
            rw [hw]
            clear hw w5
            go_upto_region 11 with fail
            go_upto_region 12 with (at_builtin; refine wpList_append_own_at _ rfl (.tmp 35) (.tmp 54) 51 rfl gr 3 i1 (.int .i64 0) 1 8 Tryz.underlying51 hi1 hz0 hz1 hz2 rfl (by decide) _ 0 [] rfl (World.ownsRow_nil _ _ _ _) ⟨_, 0, none⟩ 3 3 [.int .i64 ((P0 : Int) + (x : Int)), .int .i64 ((P0 : Int) + (x : Int) + 1), .int .i64 ((P1 : Int) + (x : Int) + 1)] rfl rfl HN1.out (ints_one3 _ _ _) (by unfold maxLen; decide) (by decide) HBS.out ?_; intro v7 w7 hown hgw hnil hat; have HO7 := Lib.hid hown; have HG7 := Lib.hid hgw; clear hown hgw hnil hat)
            have hb7 : Below wr.heap.size wr w7 := by
              have h0 := (Below.refl wr.heap.size wr).alloc (Nat.le_refl _) (.cells #[.int .i64 ((P0 : Int) + (x : Int)), .int .i64 ((P0 : Int) + (x : Int) + 1), .int .i64 ((P1 : Int) + (x : Int) + 1)] 3)
              have h1 := HG7.out
              exact h0.trans ⟨h1.os, h1.tape, h1.output, h1.size, fun k hk => h1.block k (Nat.lt_of_lt_of_le hk h0.size) (fun e => by cases e)⟩
            obtain ⟨g7, c7, hv7⟩ := Joins.ownsRow_form HO7.out (by decide)
            subst hv7
            have hi7 : IntsIn gr w7 (.slice (some ⟨g7, 0, none⟩) 3 c7) [(P0 : Int) + (x : Int), (P0 : Int) + (x : Int) + 1, (P1 : Int) + (x : Int) + 1] := ints_owned HO7.out rfl
            have HB7 := Lib.hid hb7
            have HI7 := Lib.hid hi7
            have HBS8 : Hid (gr ≤ (w7.alloc (.cells #[.int .i64 ((P0 : Int) + (x : Int)), .int .i64 ((P1 : Int) + (x : Int)), .int .i64 ((P1 : Int) + (x : Int) + 1)] 3)).heap.size) := Nat.le_trans (Nat.le_trans HSZ.out hb7.size) ((Below.refl w7.heap.size w7).alloc (Nat.le_refl _) _).size
            have HN8 := Lib.hid (World.news_of_block (cs := #[.int .i64 ((P0 : Int) + (x : Int)), .int .i64 ((P1 : Int) + (x : Int)), .int .i64 ((P1 : Int) + (x : Int) + 1)]) (t := 3) (fr := (0, 0)) (heap_alloc_new w7 (.cells #[.int .i64 ((P0 : Int) + (x : Int)), .int .i64 ((P1 : Int) + (x : Int)), .int .i64 ((P1 : Int) + (x : Int) + 1)] 3)))
            clear hb7 hi7 HO7 HG7 HN1 HBS
            go_upto_region 14 with (at_builtin; refine wpList_append_own_at _ rfl (.tmp 56) (.tmp 75) 51 rfl gr 3 i1 (.int .i64 0) 1 8 Tryz.underlying51 hi1 hz0 hz1 hz2 rfl (by decide) _ 0 [] rfl (World.ownsRow_nil _ _ _ _) ⟨_, 0, none⟩ 3 3 [.int .i64 ((P0 : Int) + (x : Int)), .int .i64 ((P1 : Int) + (x : Int)), .int .i64 ((P1 : Int) + (x : Int) + 1)] rfl rfl HN8.out (ints_one3 _ _ _) (by unfold maxLen; decide) (by decide) HBS8.out ?_; intro v8 w8 hown hgw hnil hat; have HO8 := Lib.hid hown; have HG8 := Lib.hid hgw; clear hown hgw hnil hat)
            have hb8 : Below w7.heap.size w7 w8 := by
              have h0 := (Below.refl w7.heap.size w7).alloc (Nat.le_refl _) (.cells #[.int .i64 ((P0 : Int) + (x : Int)), .int .i64 ((P1 : Int) + (x : Int)), .int .i64 ((P1 : Int) + (x : Int) + 1)] 3)
              have h1 := HG8.out
              exact h0.trans ⟨h1.os, h1.tape, h1.output, h1.size, fun k hk => h1.block k (Nat.lt_of_lt_of_le hk h0.size) (fun e => by cases e)⟩
            obtain ⟨g8, c8, hv8⟩ := Joins.ownsRow_form HO8.out (by decide)
            subst hv8
            have hi8 : IntsIn gr w8 (.slice (some ⟨g8, 0, none⟩) 3 c8) [(P0 : Int) + (x : Int), (P1 : Int) + (x : Int), (P1 : Int) + (x : Int) + 1] := ints_owned HO8.out rfl
            have hi7' := HI7.out.below hb8 (Nat.le_refl _)
            have hb78 : Below wr.heap.size wr w8 := HB7.out.trans (hb8.mono HB7.out.size)
            have hba := (Below.refl w8.heap.size w8).alloc (Nat.le_refl _) (.cells #[.slice (some ⟨g7, 0, none⟩) 3 c7, .slice (some ⟨g8, 0, none⟩) 3 c8] 51)
            have hrr : RowsO gr gr wr (.slice po n co) L := ⟨hs, by rw [HLN.out]; exact HR1.out, HR2.out, HR3.out⟩
            have hro : (w8.alloc (.cells #[.slice (some ⟨g7, 0, none⟩) 3 c7, .slice (some ⟨g8, 0, none⟩) 3 c8] 51)).ownsRow gr 51 1 (.slice po n co) n hs := owns_keep HR1.out fun k hk => ((hba.block k (Nat.lt_of_lt_of_le (HR1.out.lt k hk).2 hb78.size)).trans (hb78.block k (HR1.out.lt k hk).2))
            have hri : ∀ i, i < n → IntsIn gr (w8.alloc (.cells #[.slice (some ⟨g7, 0, none⟩) 3 c7, .slice (some ⟨g8, 0, none⟩) 3 c8] 51)) (hs.getD i .nilIface) (L.getD i []) := fun i hi => ((HR3.out i (by rw [HLN.out]; exact hi)).below hb78 (Nat.le_refl _)).below hba (Nat.le_refl _)
            have HBS9 : Hid (gr ≤ (w8.alloc (.cells #[.slice (some ⟨g7, 0, none⟩) 3 c7, .slice (some ⟨g8, 0, none⟩) 3 c8] 51)).heap.size) := Nat.le_trans (Nat.le_trans HSZ.out hb78.size) hba.size
            have hpush : ∀ v' w', w'.ownsRow gr 51 1 v' (n + 2) (hs ++ [.slice (some ⟨g7, 0, none⟩) 3 c7, .slice (some ⟨g8, 0, none⟩) 3 c8]) → (w8.alloc (.cells #[.slice (some ⟨g7, 0, none⟩) 3 c7, .slice (some ⟨g8, 0, none⟩) 3 c8] 51)).grownBy w' (Value.slice po n co).ownBlock →
                Below gr w w' ∧ RowsO gr gr w' v' (triTo ms y ++ triRow ms y (x + 1)) := fun v' w' h1 h2 => by
              refine ⟨?_, ?_⟩
              · have hB := (HB.out.trans (hb78.mono HSZ.out)).trans (hba.mono (Nat.le_trans HSZ.out hb78.size))
                exact ⟨h2.os.trans hB.os, h2.tape.trans hB.tape, h2.output.trans hB.output, Nat.le_trans hB.size h2.size, fun k hk => by
                  rw [h2.block k (by have := HBS9.out; omega) (fun e => by have := (HR1.out.lt k e.symm).1; omega)]
                  exact hB.block k hk⟩
              · rw [triRow_succ, ← List.append_assoc, HLL.out, HTR.out]
                exact RowsO.push2 (Nat.le_refl _) (by rw [HLN.out]; exact hro) HR2.out (fun i hi => hri i (by rw [← HLN.out]; exact hi)) (hi7'.below hba (Nat.le_refl _)) (hi8.below hba (Nat.le_refl _)) (by rw [HLN.out]; exact h1) h2
            have HPUSH := Lib.hid hpush
            have HRO := Lib.hid hro
            have HN9 := Lib.hid (World.news_of_block (cs := #[.slice (some ⟨g7, 0, none⟩) 3 c7, .slice (some ⟨g8, 0, none⟩) 3 c8]) (t := 51) (fr := (0, 0)) (heap_alloc_new w8 (.cells #[.slice (some ⟨g7, 0, none⟩) 3 c7, .slice (some ⟨g8, 0, none⟩) 3 c8] 51)))
            clear hb8 hi8 hi7' hb78 hba hrr hro hri hpush HO8 HG8 HN8 HBS8
            go_wp2_with (at_builtin; refine wpList_append_own_at _ rfl (.tmp 77) (.tmp 80) 22 rfl gr 51 i3 (.slice none 0 0) 1 24 Tryz.underlying22 hi3 hy0 hy1 hy2 rfl (by decide) _ n hs rfl HRO.out ⟨_, 0, none⟩ 2 2 [.slice (some ⟨g7, 0, none⟩) 3 c7, .slice (some ⟨g8, 0, none⟩) 3 c8] rfl rfl HN9.out (fun u hu => by simp at hu; rcases hu with rfl | rfl <;> rfl) (by unfold maxLen; omega) (by omega) HBS9.out ?_; intro v' w' hown hgw hnil hat; have HP := Lib.hid (HPUSH.out v' w' hown hgw); clear hown hgw hnil hat)
            go_roundw
            case rel => exact ⟨x + 1, hxl, by go_num, HP.out.1, HP.out.2⟩
            case measure => simp [intOf]; omega
        · obtain rfl : x = W := by omega
          have hqx : decide ((x : Int) < (s.size : Int)) = false := decide_eq_false (by rw [hsW]; omega)
          have hqx2 : decide (x < s.size) = false := decide_eq_false (by omega)
          have HX : Hid (RowsO gr gr wr u3 (triTo ms (y + 1))) := by
            have h1 := HR.out
            unfold Hid
            rw [triTo_succ, HWN.out]; exact h1
          clear hb hr
          go_wp2_with fail
          go_roundw
          case rel => exact ⟨y + 1, hyl, by go_num, HB.out, HX.out⟩
          case measure => simp [intOf]; omega
    · obtain rfl : y = H := by omega
      go_wp2_with fail
      go_ret
      exact ⟨_, rfl, HB.out, HR.out⟩
end Go.Proofs.YtoheffkiohfmoaaGreatDoor
