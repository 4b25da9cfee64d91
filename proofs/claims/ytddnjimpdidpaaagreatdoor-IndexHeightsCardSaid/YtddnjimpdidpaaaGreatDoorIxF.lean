/-
  The law's high by a contract: what is wrong with the sets or the heights; all faces.
-/
import Derived.Test.YtddnjimpdidpaaaGreatDoorIxD
set_option linter.unusedSimpArgs false
set_option linter.unusedVariables false
namespace Go.Proofs.YtddnjimpdidpaaaGreatDoor
open Go Go.RowKit Go.Maps

theorem errR_H {L : List (List Int)} {h : List Int} (h0 : errX L = 0) : (errR L h : Int) = errH (vertR (allF L)) h := by
  rw [vert_same h0]
  by_cases hk : okH (vertA L) h
  · rw [errR_ok h0 hk, errH_ok hk]; rfl
  · rw [errR_3 h0 hk, errH_bad hk]; rfl
def HighP (B : Nat) (L : List (List Int)) (h : List Int) (w : World) (e : Ending) (w' : World) : Prop :=
  ∃ v, e = .returned (.tuple #[.int .i64 (errR L h : Int), v]) ∧ Below w.heap.size w w' ∧ (errX L = 0 → ListsIn B w' v (allF L))
set_option maxRecDepth 100000 in
set_option maxHeartbeats 4000000 in
theorem high_any (L : List (List Int)) (h : List Int) (v vh : Value) (w : World) (hv : ListsIn w.heap.size w v L) (hn : L.length ≤ 100000) (hl : ∀ l ∈ L, l.length ≤ 100000) (hvh : IntsIn w.heap.size w vh h) (hlen : h.length ≤ 100000) :
    Calls Tryz.prog 8 #[v, vh] w (HighP w.heap.size L h w) := by
  have HCE := Lib.hid (complexError_any L v w hv hn hl)
  have HCL := Lib.hid (fun wx (hx : Below w.heap.size w wx) => closed_any w.heap.size L v wx hx.size (hv.below hx (Nat.le_refl _)) hn hl)
  unfold ClosedPost at HCL
  have HHE := Lib.hid (fun wx (hx : Below w.heap.size w wx) u (h0 : errC L = 0) (hu : ListsIn w.heap.size wx u (allF L)) => heightsError_any w.heap.size (allF L) h u vh wx hu (by have := (errC_ok h0).2.2; omega) (fun l hlm => Nat.le_trans (allF_bd h0 l hlm) (by decide)) (hvh.below hx (Nat.le_refl _)) hlen)
  have HXC : Hid (errX L = 0 → errC L = 0) := fun h0 => (errX_ok h0).1
  have HER : Hid (errX L = 0 → (errR L h : Int) = errH (vertR (allF L)) h) := fun h0 => errR_H h0
  have HEB : Hid (errX L ≠ 0 → errR L h = errX L) := fun h0 => by unfold errR; rw [if_neg h0]
  unfold HighP
  by_cases h0 : errX L = 0
  rotate_left
  · have e1 := HEB.out h0
    rw [e1]
    obtain ⟨c, hc⟩ : ∃ c, errX L = c := ⟨_, rfl⟩
    rw [hc] at HCE h0 ⊢
    have qn : 0 < c := by omega
    have qc : decide (0 < c) = true := decide_eq_true qn
    have HC0 : Hid (c = 0 → False) := h0
    clear e1 hc h0 HER HEB HXC HHE HCL hv hn hl hvh hlen
    go_enter Tryz.func8, Tryz.ntmps8
    go_wp2_with fail
    refine HCE.out.mono ?_
    rintro e w1 ⟨rfl, hb⟩
    have HB1 := Lib.hid hb
    clear hb HCE
    go_wp2_with fail
    go_ret2
    exact ⟨.slice none 0 0, rfl, HB1.out, fun h => absurd h HC0.out⟩
  · have hX := HXC.out h0
    have hR := HER.out h0
    rw [hR]
    rw [h0] at HCE
    rw [hX] at HCL
    have HHE := Lib.hid (fun wx hx u hu => HHE.out wx hx u hX hu)
    obtain ⟨A, hA⟩ : ∃ A, allF L = A := ⟨_, rfl⟩
    rw [hA] at HCL HHE ⊢
    obtain ⟨r, hr⟩ : ∃ r, errH (vertR A) h = r := ⟨_, rfl⟩
    rw [hr] at HHE ⊢
    clear h0 hX hR hA hr HER HEB HXC hv hn hl hvh hlen
    go_enter Tryz.func8, Tryz.ntmps8
    go_wp2_with fail
    refine HCE.out.mono ?_
    rintro e w1 ⟨rfl, hb⟩
    have HB1 := Lib.hid hb
    clear hb HCE
    go_wp2_with fail
    refine (HCL.out _ HB1.out).mono ?_
    rintro e w2 ⟨va, rfl, hb, hy, -⟩
    have HB2 := Lib.hid (HB1.out.trans (hb.mono HB1.out.size))
    have hva := hy (by trivial)
    obtain ⟨pa, ca, hve, -⟩ := id hva
    obtain ⟨na, hna⟩ : ∃ n, A.length = n := ⟨_, rfl⟩
    rw [hna] at hve
    subst hve
    have HVA := Lib.hid hva
    have HHE2 := Lib.hid (HHE.out w2 HB2.out _ hva)
    clear hb hy hva hna HCL HHE
    go_wp2_with fail
    refine HHE2.out.mono ?_
    rintro e w3 ⟨rfl, hb⟩
    have HB3 := Lib.hid (HB2.out.trans (hb.mono HB2.out.size))
    have HVA3 := Lib.hid (HVA.out.below hb (Nat.le_refl _))
    clear hb HHE2
    go_wp2_with fail
    go_ret2
    exact ⟨_, rfl, HB3.out, fun _ => HVA3.out⟩
end Go.Proofs.YtddnjimpdidpaaaGreatDoor
