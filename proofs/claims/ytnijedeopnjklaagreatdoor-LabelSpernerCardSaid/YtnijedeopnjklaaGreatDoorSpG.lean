/-
  PartOf and doorsOf of the references.
-/
import Derived.Test.YtnijedeopnjklaaGreatDoorSpF
import Derived.StillTailTactics
namespace Go.Proofs.YtnijedeopnjklaaGreatDoor
open Go Go.RowKit Sper

def okTo (bp bq : Bool) (k : Nat) : Prop := (1 ≤ k → bp = true) ∧ (2 ≤ k → bq = true)

set_option maxRecDepth 100000 in
set_option maxHeartbeats 4000000 in
theorem partOf_two (p q : Int) (ys : List Int) (g c : Nat) (v2 : Value) (w : World) (h0 : w.cell? ⟨g, 0, none⟩ = some (.int .i64 p)) (h1 : w.cell? ⟨g, 1, none⟩ = some (.int .i64 q)) (hv2 : IntsAt w v2 ys) (hlen : ys.length ≤ 1000000) :
    Calls Tryz.prog 38 #[.slice (some ⟨g, 0, none⟩) 2 c, v2] w fun e w' => e = .returned (.bool (ys.contains p && ys.contains q)) ∧ w' = w := by
  have HP := Lib.hid (contains_any ys v2 p w hv2 hlen)
  have HQ := Lib.hid (contains_any ys v2 q w hv2 hlen)
  clear hv2 hlen
  generalize ys.contains p = bp at *
  generalize ys.contains q = bq at *
  go_enter Tryz.func38, Tryz.ntmps38
  go_wp2_with fail
  go_loop [5] (fun i => ∃ k : Nat, k ≤ 2 ∧ i = .int .i64 k ∧ okTo bp bq k) (fun i => 2 - (intOf i).toNat)
  case atStart => exact ⟨0, by omega, rfl, fun h => absurd h (by omega), fun h => absurd h (by omega)⟩
  case round =>
    obtain ⟨k, hk, rfl, hok⟩ := hrel
    have HOK := Lib.hid hok
    clear hok
    rcases (show k = 0 ∨ k = 1 ∨ k = 2 by omega) with rfl | rfl | rfl
    · cases bp with
      | true =>
        go_wp2_with fail
        refine HP.out.mono ?_
        rintro e w' ⟨rfl, rfl⟩
        go_wp2_with fail
        go_round
        case rel => exact ⟨1, by omega, rfl, fun _ => rfl, fun h => absurd h (by omega)⟩
        case measure => simp [intOf]
      | false =>
        go_wp2_with fail
        refine HP.out.mono ?_
        rintro e w' ⟨rfl, rfl⟩
        go_wp2_with fail
        go_ret
        exact ⟨rfl, rfl⟩
    · obtain rfl := HOK.out.1 (Nat.le_refl _)
      cases bq with
      | true =>
        go_wp2_with fail
        refine HQ.out.mono ?_
        rintro e w' ⟨rfl, rfl⟩
        go_wp2_with fail
        go_round
        case rel => exact ⟨2, by omega, rfl, fun _ => rfl, fun _ => rfl⟩
        case measure => simp [intOf]
      | false =>
        go_wp2_with fail
        refine HQ.out.mono ?_
        rintro e w' ⟨rfl, rfl⟩
        go_wp2_with fail
        go_ret
        exact ⟨rfl, rfl⟩
    · obtain rfl := HOK.out.1 (by omega)
      obtain rfl := HOK.out.2 (by omega)
      go_wp2_with fail
      go_ret
      exact ⟨rfl, rfl⟩
end Go.Proofs.YtnijedeopnjklaaGreatDoor
