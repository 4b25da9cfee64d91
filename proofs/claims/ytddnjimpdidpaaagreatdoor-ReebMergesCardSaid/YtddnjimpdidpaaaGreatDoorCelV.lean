import Derived.Test.YtddnjimpdidpaaaGreatDoorEqFn
set_option linter.unusedSimpArgs false
set_option linter.unusedVariables false
/-! cells.Make at any sets, cells.Same, cells.Valid by contracts. -/
namespace Go.Proofs.YtddnjimpdidpaaaGreatDoor
open Go Go.RowKit Go.Maps

theorem make_any (a : Nat → Addr) (B : Nat) (L : List (List Int)) (v : Value) (w : World) (hS : Sents w a) (hB : B ≤ w.heap.size) (hv : ListsIn B w v L) (hn : L.length ≤ 100000) (hl : ∀ l ∈ L, l.length ≤ 100000) :
    Calls Tryz.prog 79 #[v] w (MakeC a B L w) := by
  by_cases he : errC L = 0
  · exact make_ok a B L v w hS hB hv hn hl he
  · exact make_bad a B L v w hS hB hv hn hl he

set_option maxHeartbeats 4000000 in
theorem same_any (r : Bool) (B B' : Nat) (L M : List (List Int)) (u v : Value) (w : World) (hr : r = decide (L = M)) (hu : ListsIn B w u L) (hv : ListsIn B' w v M) (hn : L.length ≤ 100000) (hm : M.length ≤ 100000) (hl : ∀ l ∈ L, l.length ≤ 100000) (hl2 : ∀ l ∈ M, l.length ≤ 100000) :
    Calls Tryz.prog 80 #[.agg #[u], .agg #[v]] w (fun e w' => e = .returned (.bool r) ∧ Below w.heap.size w w') := by
  have hb : Below w.heap.size w ((w.alloc (.cells #[u] 34)).alloc (.cells #[v] 34)) := ((Below.refl _ _).alloc (Nat.le_refl _) _).alloc (by simp) _
  have HB := Lib.hid hb
  have HQ := Lib.hid (equalFunc_any r B B' L M u v _ hr (hu.below hb (Nat.le_refl _)) (hv.below hb (Nat.le_refl _)) hn hm hl hl2)
  clear hb hr hu hv hn hm hl hl2
  go_enter Tryz.func80, Tryz.ntmps80
  go_wp2_with fail
  refine HQ.out.mono ?_
  rintro e w1 ⟨rfl, n, rfl⟩
  go_wp2_with fail
  go_ret
  exact ⟨rfl, HB.out.trans ((Below.drewN _ n).mono HB.out.size)⟩

def ValP (a : Nat → Addr) (L : List (List Int)) (w : World) (e : Ending) (w' : World) : Prop :=
  Below w.heap.size w w' ∧ ((errX L = 0 ∧ e = .returned .nilIface) ∨ ∃ k, k < 8 ∧ errX L = k + 1 ∧ e = .returned (errE (a k)))

set_option maxHeartbeats 4000000 in
theorem valid_any (a : Nat → Addr) (B : Nat) (L : List (List Int)) (v : Value) (w : World) (hS : Sents w a) (hB : B ≤ w.heap.size) (hv : ListsIn B w v L) (hn : L.length ≤ 100000) (hl : ∀ l ∈ L, l.length ≤ 100000) :
    Calls Tryz.prog 38 #[.agg #[v]] w (ValP a L w) := by
  obtain ⟨pv, cv, hve, -⟩ := id hv
  obtain ⟨n, hLn⟩ : ∃ n, L.length = n := ⟨_, rfl⟩
  rw [hLn] at hve
  have HLN := Lib.hid hLn
  clear hLn
  subst hve
  have hb0 : Below w.heap.size w (w.alloc (.cells #[.slice pv n cv] 34)) := (Below.refl _ _).alloc (Nat.le_refl _) _
  have HB0 := Lib.hid hb0
  have HC := Lib.hid (make_any a B L (.slice pv n cv) _ (hS.below hb0 (Nat.le_refl _)) (Nat.le_trans hB hb0.size) (hv.below hb0 (Nat.le_refl _)) hn hl)
  have HS := Lib.hid hS
  have HV := Lib.hid hv
  have HN := Lib.hid hn
  have HL := Lib.hid hl
  unfold MakeC at HC
  unfold ValP errE
  clear hS hB hv hn hl hb0
  by_cases he : errC L = 0
  · have HE := Lib.hid he
    go_enter Tryz.func38, Tryz.ntmps38
    go_wp2_with fail
    refine HC.out.mono ?_
    rintro e w1 ⟨hb1, ⟨-, u, rfl, hR⟩ | ⟨h0, -⟩⟩
    · obtain ⟨pu, cu, hue, -⟩ := hR.lists
      generalize (madeF L).length = nu at hue
      subst hue
      have hb01' := HB0.out.trans (hb1.mono HB0.out.size)
      have hbW : Below w1.heap.size w1 (w1.alloc (.cells #[.slice pu nu cu] 34)) := (Below.refl _ _).alloc (Nat.le_refl _) _
      have hb01 := hb01'.trans (hbW.mono hb01'.size)
      have hnew := heap_alloc_new w1 (.cells #[.slice none 0 0] 34)
      have hce := (one_at hnew).1
      have hfr := (one_at hnew).2
      have hcu := (one_at (heap_alloc_new w1 (.cells #[.slice pu nu cu] 34))).1
      have hS1 := HS.out.below hb01 (Nat.le_refl _)
      have hg := hS1.g 2 (by decide)
      obtain ⟨r, hr⟩ : ∃ r, r = decide (L = madeF L) := ⟨_, rfl⟩
      have HQ := Lib.hid (same_any r B B L (madeF L) (.slice pv n cv) (.slice pu nu cu) (w1.alloc (.cells #[.slice pu nu cu] 34)) hr (HV.out.below hb01 (Nat.le_refl _)) (hR.lists.below hbW (Nat.le_refl _)) HN.out (Nat.le_trans (made_len HE.out) (by decide)) HL.out (fun l h => Nat.le_trans (made_bd HE.out l h) (by decide)))
      have HR := Lib.hid hr
      have HB1 := Lib.hid hb01
      have hcv : w1.cell? ⟨w.heap.size, 0, none⟩ = some (.slice pv n cv) := (one_at (t := 34) ((hb1.block _ (by simp)).trans (heap_alloc_new w _))).1
      have hcv3 := (hbW.cell (p := ⟨w.heap.size, 0, none⟩) (lt_of_cell hcv)).trans hcv
      clear hr hb1 hb01 hb01' hR hS1 hbW hnew
      cases r with
      | true =>
        go_wp2_with fail
        refine HQ.out.mono ?_
        rintro e w2 ⟨rfl, hb2⟩
        have HB2 := Lib.hid (HB1.out.trans (hb2.mono HB1.out.size))
        go_wp2_with fail
        go_ret
        refine ⟨HB2.out, Or.inl ⟨?_, rfl⟩⟩
        unfold errX
        rw [if_pos HE.out, if_pos (of_decide_eq_true HR.out.symm)]
      | false =>
        go_wp2_with fail
        refine HQ.out.mono ?_
        rintro e w2 ⟨rfl, hb2⟩
        have HB2 := Lib.hid (HB1.out.trans (hb2.mono HB1.out.size))
        have hg2 := (hb2.cell (p := ⟨gnum 2, 0, none⟩) (lt_of_cell hg)).trans hg
        simp only [gnum] at hg2
        go_wp2_with fail
        go_ret
        refine ⟨HB2.out, Or.inr ⟨2, by decide, ?_, rfl⟩⟩
        unfold errX
        rw [if_pos HE.out, if_neg (of_decide_eq_false HR.out.symm)]
    · exact absurd HE.out h0
  · have HE := Lib.hid he
    go_enter Tryz.func38, Tryz.ntmps38
    go_wp2_with fail
    refine HC.out.mono ?_
    rintro e w1 ⟨hb1, ⟨h0, -⟩ | ⟨-, k, hk, hek, rfl⟩⟩
    · exact absurd h0 HE.out
    · have HB1 := Lib.hid (HB0.out.trans (hb1.mono HB0.out.size))
      have HEK := Lib.hid hek
      clear hb1 hek
      unfold errE
      go_wp2_with fail
      go_ret
      refine ⟨HB1.out.alloc HB1.out.size _, Or.inr ⟨k, hk, ?_, rfl⟩⟩
      unfold errX
      rw [if_neg HE.out, HEK.out]
end Go.Proofs.YtddnjimpdidpaaaGreatDoor
