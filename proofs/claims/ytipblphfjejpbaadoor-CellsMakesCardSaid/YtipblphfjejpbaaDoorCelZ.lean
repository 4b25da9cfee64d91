import Derived.Test.YtipblphfjejpbaaDoorCelX
set_option linter.unusedSimpArgs false
set_option linter.unusedVariables false
/-! The law CellsMakes says true. -/
namespace Go.Proofs.YtipblphfjejpbaaDoor
open Go Go.RowKit Go.Maps

theorem Tg.le {B B' t : Nat} {w : World} {b : Nat} (h : Tg B t w b) (hB : B ≤ B') : Tg B' t w b := h.imp (fun h => Nat.lt_of_lt_of_le h hB) id
theorem IntsIn.le {B B' : Nat} {w : World} {v : Value} {xs : List Int} (h : IntsIn B w v xs) (hB : B ≤ B') : IntsIn B' w v xs := by
  obtain ⟨p, c, hv, hc, hn, hx⟩ := h
  refine ⟨p, c, hv, hc, hn, fun i hi => ?_⟩
  obtain ⟨b, off, e1, e2, e3⟩ := hx i hi
  exact ⟨b, off, e1, e2, e3.le hB⟩
theorem ListsIn.le {B B' : Nat} {w : World} {v : Value} {L : List (List Int)} (h : ListsIn B w v L) (hB : B ≤ B') : ListsIn B' w v L := by
  obtain ⟨p, c, hv, hc, hn, hx⟩ := h
  refine ⟨p, c, hv, hc, hn, fun i hi => ?_⟩
  obtain ⟨b, off, u, e1, e2, e3⟩ := hx i hi
  exact ⟨b, off, u, e1, e2, e3.le hB⟩
/-- a reading at a later world, at its own bound -/
theorem ListsIn.later {B C : Nat} {w w' : World} {v : Value} {L : List (List Int)} (h : ListsIn B w v L) (hb : Below C w w') (hC : w.heap.size ≤ C) (hB : B ≤ w.heap.size) : ListsIn w'.heap.size w' v L :=
  (h.below hb hC).le (Nat.le_trans hB hb.size)

theorem littleB_few {L : List (List Int)} {m : Nat} (h : littleB L m = true) : L.length ≤ 100000 ∧ ∀ l ∈ L, l.length ≤ 100000 := by
  unfold littleB at h
  simp only [Bool.and_eq_true] at h
  obtain ⟨h1, h2⟩ := fewB_ok h.1
  exact ⟨by omega, fun l hl => by have := h2 l hl; omega⟩
theorem facets_field (p : Option Addr) (n c : Nat) (w : World) : Sem.run Tryd.prog (Instr.field 26 (.agg #[.slice p n c]) 0) w = .ok (.slice p n c) w := by kernel_rfl
def True1 (w : World) (e : Ending) (w' : World) : Prop := e = .returned (.bool true) ∧ Below w.heap.size w w'

/-- the law's last row: Valid's error has the document's code -/
theorem validCoded (a : Nat → Addr) (L : List (List Int)) (w w1 : World) (e : Ending) (v : Value) (h : ValP a L w (.returned v) w1) : ErrAt a w1 v (errX L : Int) (-1) := by
  obtain ⟨-, ⟨h0, h1⟩ | ⟨k, hk, h1, h2⟩⟩ := h
  · cases h1
    exact Or.inl ⟨rfl, by rw [h0]; rfl, rfl⟩
  · cases h2
    exact Or.inr (Or.inl ⟨k, hk, rfl, by rw [h1]; rfl, rfl⟩)
def ValV (a : Nat → Addr) (L : List (List Int)) (w : World) (e : Ending) (w' : World) : Prop := ∃ v, e = .returned v ∧ Below w.heap.size w w' ∧ ErrAt a w' v (errX L : Int) (-1)
theorem valid_v (a : Nat → Addr) (B : Nat) (L : List (List Int)) (v : Value) (w : World) (hS : Sents w a) (hB : B ≤ w.heap.size) (hv : ListsIn B w v L) (hn : L.length ≤ 100000) (hl : ∀ l ∈ L, l.length ≤ 100000) :
    Calls Tryd.prog 11 #[.agg #[v]] w (ValV a L w) := (valid_any a B L v w hS hB hv hn hl).mono fun e w' h => by
  obtain ⟨hb, ⟨h0, rfl⟩ | ⟨k, hk, h1, rfl⟩⟩ := h
  · exact ⟨_, rfl, hb, Or.inl ⟨rfl, by rw [h0]; rfl, rfl⟩⟩
  · exact ⟨_, rfl, hb, Or.inr (Or.inl ⟨k, hk, rfl, by rw [h1]; rfl, rfl⟩)⟩

set_option maxRecDepth 100000 in
set_option maxHeartbeats 4000000 in
theorem cellsMakes_any (a : Nat → Addr) (L : List (List Int)) (v : Value) (w : World) (hS : Sents w a) (hv : ListsIn w.heap.size w v L) :
    Calls Tryd.prog 3 #[v] w (True1 w) := by
  have HS := Lib.hid hS
  have HV := Lib.hid hv
  have HCI := Lib.hid (circle_any a w hS)
  have hff := facets_field
  clear hS hv
  unfold True1
  obtain ⟨r, hr⟩ : ∃ r, littleB L 250 = r := ⟨_, rfl⟩
  have HR := Lib.hid hr
  clear hr
  cases r with
  | false =>
    go_enter Tryd.func3, Tryd.ntmps3
    go_wp2_with fail
    refine HCI.out.mono ?_
    rintro e w1 ⟨rfl, hb1⟩
    have HB1 := Lib.hid hb1
    have HLI := Lib.hid (little_any L 250 v w1 (HV.out.later hb1 (Nat.le_refl _) (Nat.le_refl _)) (by decide))
    rw [HR.out] at HLI
    unfold Gives at HLI
    clear hb1
    go_wp2_with fail
    refine HLI.out.mono ?_
    rintro e w2 ⟨rfl, hb2⟩
    have HB2 := Lib.hid (HB1.out.trans (hb2.mono HB1.out.size))
    clear hb2
    go_wp2_with fail
    go_ret
    exact ⟨rfl, HB2.out⟩
  | true =>
    obtain ⟨hn, hl⟩ := littleB_few HR.out
    have HN := Lib.hid hn
    have HL := Lib.hid hl
    clear hn hl
    go_enter Tryd.func3, Tryd.ntmps3
    go_wp2_with fail
    refine HCI.out.mono ?_
    rintro e w1 ⟨rfl, hb1⟩
    have HB1 := Lib.hid hb1
    have HLI := Lib.hid (little_any L 250 v w1 (HV.out.later hb1 (Nat.le_refl _) (Nat.le_refl _)) (by decide))
    rw [HR.out] at HLI
    unfold Gives at HLI
    clear hb1
    go_wp2_with fail
    refine HLI.out.mono ?_
    rintro e w2 ⟨rfl, hb2⟩
    have HB2 := Lib.hid (HB1.out.trans (hb2.mono HB1.out.size))
    have HCX := Lib.hid (cx_any w.heap.size L v w2 HB2.out.size (HV.out.below HB2.out (Nat.le_refl _)) HN.out HL.out)
    clear hb2
    go_wp2_with fail
    refine HCX.out.mono ?_
    rintro e w3 ⟨u, rfl, hb3, hr3⟩
    obtain ⟨px, cx, hux, -⟩ := hr3.lists
    generalize L.length = nx at hux
    subst hux
    have HB3 := Lib.hid (HB2.out.trans (hb3.mono HB2.out.size))
    have HMK := Lib.hid (make_any a w.heap.size L (.slice px nx cx) w3 (HS.out.below HB3.out (Nat.le_refl _)) HB3.out.size hr3.lists HN.out HL.out)
    unfold MakeC at HMK
    clear hb3 hr3
    go_wp2_with fail
    refine HMK.out.mono ?_
    rintro e w4 ⟨hb4, ⟨he, u4, rfl, hR4⟩ | ⟨he, k, hk, hek, rfl⟩⟩
    · obtain ⟨pu, cu, hue, -⟩ := hR4.lists
      generalize hnu : (madeF L).length = nu at hue
      subst hue
      obtain ⟨w5, hw5⟩ : ∃ w5, w5 = w4.alloc (.cells #[.slice pu nu cu] 26) := ⟨_, rfl⟩
      have hb45 : Below w4.heap.size w4 w5 := by rw [hw5]; exact (Below.refl _ _).alloc (Nat.le_refl _) _
      have hk5 : w5.heap[w4.heap.size]? = some (.cells #[.slice pu nu cu] 26 (0, 0)) := by rw [hw5]; exact heap_alloc_new w4 _
      have hb5 := HB3.out.trans ((hb4.trans (hb45.mono hb4.size)).mono HB3.out.size)
      have HB5 := Lib.hid hb5
      have HW5 := Lib.hid hw5
      have HK5 := Lib.hid hk5
      have HL5 := Lib.hid (hR4.lists.below hb45 (Nat.le_refl _))
      have HE := Lib.hid he
      have HLN := Lib.hid hnu
      have HMD := Lib.hid (made_any w.heap.size L v w5 hb5.size (HV.out.below hb5 (Nat.le_refl _)) HN.out HL.out)
      unfold MadePost at HMD
      rw [HE.out] at HMD
      have hlt5 : w4.heap.size < w5.heap.size := (Array.getElem?_eq_some_iff.1 hk5).1
      clear hw5 hk5 hb4 hb45 hb5 hR4 he hnu
      have HIS := Lib.hid (fun (w6 : World) (v6 : Value) (h1 : ListsIn w.heap.size w6 (.slice pu nu cu) (madeF L)) (h2 : ListsIn w.heap.size w6 v6 (madeF L)) => is_ok w.heap.size w.heap.size (madeF L) (.slice pu nu cu) v6 w6 h1 h2 (Nat.le_trans (made_len HE.out) (by decide)) (fun l h => Nat.le_trans (made_bd HE.out l h) (by decide)))
      go_wp2_with fail
      rw [← HW5.out]
      refine HMD.out.mono ?_
      rintro e w6 ⟨v6, rfl, hb6, hv6, -⟩
      have HB6 := Lib.hid (HB5.out.trans (hb6.mono HB5.out.size))
      have hk6 := (hb6.block _ hlt5).trans HK5.out
      have hce6 := (one_at hk6).1
      have hfz6 := (one_at hk6).2
      have HI6 := Lib.hid (HIS.out w6 v6 (HL5.out.below hb6 (Nat.le_refl _)) (hv6 (by trivial)))
      clear hb6 hv6 hk6
      go_wp2_with fail
      refine HI6.out.mono ?_
      rintro e w7 ⟨rfl, hb7⟩
      have HB7 := Lib.hid (HB6.out.trans (hb7.mono HB6.out.size))
      have HCX2 := Lib.hid (cx_any w.heap.size L v w7 HB7.out.size (HV.out.below HB7.out (Nat.le_refl _)) HN.out HL.out)
      clear hb7 hce6 hfz6
      go_wp2_with fail
      refine HCX2.out.mono ?_
      rintro e w8 ⟨u8, rfl, hb8, hr8⟩
      have HB8 := Lib.hid (HB7.out.trans (hb8.mono HB7.out.size))
      have HVA := Lib.hid (valid_v a w.heap.size L u8 w8 (HS.out.below HB8.out (Nat.le_refl _)) HB8.out.size hr8.lists HN.out HL.out)
      unfold ValV at HVA
      clear hb8 hr8
      go_wp2_with fail
      refine HVA.out.mono ?_
      rintro e w9 ⟨v9, rfl, hb9, he9⟩
      have HB9 := Lib.hid (HB8.out.trans (hb9.mono HB8.out.size))
      have HE9 := Lib.hid he9
      have HCE := Lib.hid (complexError_any L v w9 (HV.out.later HB9.out (Nat.le_refl _) (Nat.le_refl _)) HN.out HL.out)
      unfold Gives at HCE
      clear hb9 he9
      go_wp2_with fail
      refine HCE.out.mono ?_
      rintro e w10 ⟨rfl, hb10⟩
      have HB10 := Lib.hid (HB9.out.trans (hb10.mono HB9.out.size))
      have HCY := Lib.hid (coded_yes a v9 (errX L : Int) (-1) (errX L : Int) w10 (HS.out.below HB10.out (Nat.le_refl _)) (HE9.out.below hb10 (Nat.le_refl _)) ⟨rfl, rfl⟩)
      clear hb10
      go_wp2_with fail
      refine HCY.out.mono ?_
      rintro e w11 ⟨rfl, hb11⟩
      have HB11 := Lib.hid (HB10.out.trans (hb11.mono HB10.out.size))
      clear hb11
      go_wp2_with fail
      go_ret
      exact ⟨rfl, HB11.out⟩
    · obtain ⟨w5, hw5⟩ : ∃ w5, w5 = w4.alloc (.cells #[.slice none 0 0] 26) := ⟨_, rfl⟩
      have hb45 : Below w4.heap.size w4 w5 := by rw [hw5]; exact (Below.refl _ _).alloc (Nat.le_refl _) _
      have hk5 : w5.heap[w4.heap.size]? = some (.cells #[.slice none 0 0] 26 (0, 0)) := by rw [hw5]; exact heap_alloc_new w4 _
      have hb5 := HB3.out.trans ((hb4.trans (hb45.mono hb4.size)).mono HB3.out.size)
      have HB5 := Lib.hid hb5
      have HW5 := Lib.hid hw5
      have HK5 := Lib.hid hk5
      have HMD := Lib.hid (made_any w.heap.size L v w5 hb5.size (HV.out.below hb5 (Nat.le_refl _)) HN.out HL.out)
      unfold MadePost at HMD
      rw [hek, show ((k + 1 : Nat) : Int) = (k : Int) + 1 by omega] at HMD
      have hlt5 : w4.heap.size < w5.heap.size := (Array.getElem?_eq_some_iff.1 hk5).1
      have HIS := Lib.hid (fun (w6 : World) (v6 : Value) (h : Sents w6 a) => is_bad a k v6 w6 h hk)
      clear hw5 hk5 hb4 hb45 hb5 he hek hk
      go_wp2_with fail
      rw [← HW5.out]
      refine HMD.out.mono ?_
      rintro e w6 ⟨v6, rfl, hb6, -, -⟩
      have HB6 := Lib.hid (HB5.out.trans (hb6.mono HB5.out.size))
      have hk6 := (hb6.block _ hlt5).trans HK5.out
      have hce6 := (one_at hk6).1
      have hfz6 := (one_at hk6).2
      have HI6 := Lib.hid (HIS.out w6 v6 (HS.out.below HB6.out (Nat.le_refl _)))
      clear hb6 hk6
      go_wp2_with fail
      refine HI6.out.mono ?_
      rintro e w7 ⟨rfl, hb7⟩
      have HB7 := Lib.hid (HB6.out.trans (hb7.mono HB6.out.size))
      have HCX2 := Lib.hid (cx_any w.heap.size L v w7 HB7.out.size (HV.out.below HB7.out (Nat.le_refl _)) HN.out HL.out)
      clear hb7 hce6 hfz6
      go_wp2_with fail
      refine HCX2.out.mono ?_
      rintro e w8 ⟨u8, rfl, hb8, hr8⟩
      have HB8 := Lib.hid (HB7.out.trans (hb8.mono HB7.out.size))
      have HVA := Lib.hid (valid_v a w.heap.size L u8 w8 (HS.out.below HB8.out (Nat.le_refl _)) HB8.out.size hr8.lists HN.out HL.out)
      unfold ValV at HVA
      clear hb8 hr8
      go_wp2_with fail
      refine HVA.out.mono ?_
      rintro e w9 ⟨v9, rfl, hb9, he9⟩
      have HB9 := Lib.hid (HB8.out.trans (hb9.mono HB8.out.size))
      have HE9 := Lib.hid he9
      have HCE := Lib.hid (complexError_any L v w9 (HV.out.later HB9.out (Nat.le_refl _) (Nat.le_refl _)) HN.out HL.out)
      unfold Gives at HCE
      clear hb9 he9
      go_wp2_with fail
      refine HCE.out.mono ?_
      rintro e w10 ⟨rfl, hb10⟩
      have HB10 := Lib.hid (HB9.out.trans (hb10.mono HB9.out.size))
      have HCY := Lib.hid (coded_yes a v9 (errX L : Int) (-1) (errX L : Int) w10 (HS.out.below HB10.out (Nat.le_refl _)) (HE9.out.below hb10 (Nat.le_refl _)) ⟨rfl, rfl⟩)
      clear hb10
      go_wp2_with fail
      refine HCY.out.mono ?_
      rintro e w11 ⟨rfl, hb11⟩
      have HB11 := Lib.hid (HB10.out.trans (hb11.mono HB10.out.size))
      clear hb11
      go_wp2_with fail
      go_ret
      exact ⟨rfl, HB11.out⟩
end Go.Proofs.YtipblphfjejpbaaDoor
