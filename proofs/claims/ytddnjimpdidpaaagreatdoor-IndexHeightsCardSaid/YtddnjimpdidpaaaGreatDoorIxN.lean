/-
  slices.MaxFunc over the closure of index.Indices: the highest vertex of a face.
-/
import Derived.Test.YtddnjimpdidpaaaGreatDoorIxM
set_option linter.unusedSimpArgs false
set_option linter.unusedVariables false
namespace Go.Proofs.YtddnjimpdidpaaaGreatDoor
open Go Go.RowKit Go.Maps

set_option maxRecDepth 100000 in
set_option maxHeartbeats 4000000 in
theorem maxFunc_any (B : Nat) (V h f : List Int) (u : Value) (c b : Nat) (w : World) (hu : IntsIn B w u f) (hc : w.cell? ⟨c, 0, none⟩ = some (.map (some b))) (hm : HtMap w b V h) (hs : ∀ a ∈ V, InI a) (hn : V.Nodup) (hf : ∀ x ∈ f, x ∈ V) (hb : ∀ z ∈ V, -1048576 ≤ hiF V h z ∧ hiF V h z ≤ 1048576) (hp : 0 < f.length) (hlen : f.length ≤ 1000) :
    Calls Tryz.prog 50 #[u, .func (.func 51) #[] #[.pointer (some ⟨c, 0, none⟩)]] w fun e w' => ∃ v, e = .returned (.int .i64 v) ∧ Below w.heap.size w w' ∧ v ∈ f ∧ ∀ y ∈ f, hiF V h y ≤ hiF V h v := by
  have HCL := Lib.hid (fun wx (hx : Below w.heap.size w wx) x y (hxV : x ∈ V) (hyV : y ∈ V) => indices1_any V h x y c b wx ((hx.cell (p := ⟨c, 0, none⟩) (mem_lt hc)).trans hc) (hm.below hx (Nat.le_refl _)) hs hn hxV hyV hb)
  obtain ⟨b0, o0, cp, hve, hc0⟩ := ints_cell hu 0 hp
  obtain ⟨n, hnn⟩ : ∃ n, f.length = n := ⟨_, rfl⟩
  rw [hnn] at hve hp hlen
  subst hve
  have HN := Lib.hid hnn
  have HU := Lib.hid hu
  have HF := Lib.hid hf
  obtain ⟨z, hz⟩ : ∃ z, f.getD 0 0 = z := ⟨_, rfl⟩
  rw [hz, Nat.add_zero] at hc0
  have HZ : Hid (z ∈ f) := by unfold Hid; rw [← hz, getD_elem (by rw [hnn]; exact hp)]; exact List.getElem_mem _
  have HZ2 := Lib.hid hz
  obtain ⟨hi, hhi⟩ : ∃ g, hiF V h = g := ⟨_, rfl⟩
  rw [hhi] at HCL ⊢
  clear hu hc hm hs hn hf hb hnn hz hhi
  go_enter Tryz.func50, Tryz.ntmps50
  go_wp2_with fail
  go_loopw [5, 6] (fun mv i wr => ∃ (j : Nat) (v : Int), 1 ≤ j ∧ j ≤ n ∧ i = .int .i64 (j : Int) ∧ mv = .int .i64 v ∧ Below w.heap.size w wr ∧ v ∈ f ∧ ∀ t, t < j → hi (f.getD t 0) ≤ hi v) (fun _ i _ => n - (intOf i).toNat)
  case atStart =>
    refine ⟨1, z, Nat.le_refl _, hp, rfl, rfl, Below.refl _ _, HZ.out, fun t ht => ?_⟩
    obtain rfl : t = 0 := by omega
    rw [HZ2.out]; exact Int.le_refl _
  case round =>
    obtain ⟨j, v, hj1, hj, rfl, rfl, hb, hvf, hle⟩ := hrel
    have HBR := Lib.hid hb
    have HLE := Lib.hid hle
    have HVF := Lib.hid hvf
    by_cases hjn : j < n
    · obtain ⟨b1, o1, c', e1, e2⟩ := ints_cell (HU.out.below hb (Nat.le_refl _)) j (by rw [HN.out]; exact hjn)
      rw [HN.out] at e1
      obtain ⟨rfl, rfl, rfl⟩ : b0 = b1 ∧ o0 = o1 ∧ cp = c' := by cases e1; exact ⟨rfl, rfl, rfl⟩
      have hxf : f.getD j 0 ∈ f := by rw [getD_elem (by rw [HN.out]; exact hjn)]; exact List.getElem_mem _
      obtain ⟨x, hx⟩ : ∃ x, f.getD j 0 = x := ⟨_, rfl⟩
      rw [hx] at e2 hxf
      have HX := Lib.hid hx
      have HXF := Lib.hid hxf
      have HC := Lib.hid (HCL.out wr hb x v (HF.out x hxf) (HF.out v hvf))
      have hlt := mem_lt e2
      have HE2 := Lib.hid e2
      clear hb hle hvf e1 hx hxf
      go_wp2_with fail
      refine HC.out.mono ?_
      rintro e w2 ⟨rfl, hb2⟩
      have HB2 := Lib.hid (HBR.out.trans (hb2.mono HBR.out.size))
      have e3 := (hb2.cell (p := ⟨b0, o0 + j, none⟩) hlt).trans HE2.out
      clear hb2 HC e2
      by_cases hgt : hi v < hi x
      · have g1 : decide (hi v < hi x) = true := decide_eq_true hgt
        have HST : Hid (∀ t, t < j + 1 → hi (f.getD t 0) ≤ hi x) := fun t ht => by
          rcases (show t < j ∨ t = j by omega) with h1 | rfl
          · have := HLE.out t h1; omega
          · rw [HX.out]; exact Int.le_refl _
        clear hgt
        go_wp2_with fail
        go_roundw
        case rel => exact ⟨j + 1, x, by omega, hjn, by go_num, rfl, HB2.out, HXF.out, HST.out⟩
        case measure => simp [intOf]; omega
      · have g1 : decide (hi v < hi x) = false := decide_eq_false hgt
        have HST : Hid (∀ t, t < j + 1 → hi (f.getD t 0) ≤ hi v) := fun t ht => by
          rcases (show t < j ∨ t = j by omega) with h1 | rfl
          · exact HLE.out t h1
          · rw [HX.out]; omega
        clear hgt
        go_wp2_with fail
        go_roundw
        case rel => exact ⟨j + 1, v, by omega, hjn, by go_num, rfl, HB2.out, HVF.out, HST.out⟩
        case measure => simp [intOf]; omega
    · obtain rfl : n = j := by omega
      clear hb hle hvf
      go_wp2_with fail
      go_ret
      refine ⟨v, rfl, HBR.out, HVF.out, fun y hy => ?_⟩
      obtain ⟨t, ht, rfl⟩ := List.getElem_of_mem hy
      have := HLE.out t (by rw [← HN.out]; exact ht)
      rwa [getD_elem ht] at this
end Go.Proofs.YtddnjimpdidpaaaGreatDoor
