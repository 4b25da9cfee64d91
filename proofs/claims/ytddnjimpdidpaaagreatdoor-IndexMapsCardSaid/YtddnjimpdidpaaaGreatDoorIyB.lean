/-
  index.set by a contract: the numbers, rising, each once.
-/
import Derived.Test.YtddnjimpdidpaaaGreatDoorJnC
import Derived.Test.YtddnjimpdidpaaaGreatDoorIyA
set_option linter.unusedSimpArgs false
set_option linter.unusedVariables false
namespace Go.Proofs.YtddnjimpdidpaaaGreatDoor
open Go Go.RowKit

set_option maxHeartbeats 8000000 in
theorem set_any (B : Nat) (l : List Int) (u : Value) (w : World) (hu : IntsAt w u l) (hp : 0 < l.length) (hn : l.length ≤ 100000) :
    Calls Tryz.prog 65 #[u] w (NumsP B (setL l) w) := by
  have HC := Lib.hid (clone_any l u w hu hp hn)
  unfold ClonePost at HC
  have HSO := Lib.hid (fun O g cap wx ho => sort_any l O g cap wx ho hn)
  unfold SortPost at HSO
  have HLE : Hid ((sortI l).length = l.length) := sortI_len l
  have HCOd := fun O g cap (wx : World) (ho : wx.ownsRow O 3 1 (.slice (some ⟨g, 0, none⟩) (sortI l).length cap) (sortI l).length (intVs (sortI l))) => compactQ_any (sortI l) O g cap wx ho (by rw [sortI_len]; omega)
  unfold CompactQ at HCOd
  rw [compact_sort, HLE.out] at HCOd
  have HCO := Lib.hid HCOd
  unfold NumsP
  obtain ⟨n, hln⟩ : ∃ n, l.length = n := ⟨_, rfl⟩
  rw [hln] at HC HSO HCO
  clear hu hp hn HCOd HLE hln
  go_enter Tryz.func65, Tryz.ntmps65
  go_wp2_with fail
  refine HC.out.mono ?_
  rintro e w1 ⟨g, cap, rfl, hb1, ho1⟩
  have HG := Lib.hid (ho1.lt g rfl).1
  have HB1 := Lib.hid hb1
  have HS1 := Lib.hid (HSO.out w.heap.size g cap w1 ho1)
  clear hb1 ho1 HSO
  go_wp2_with fail
  refine HS1.out.mono ?_
  rintro e w2 ⟨rfl, hg2, ho2⟩
  have HB2 := Lib.hid (grown_below HB1.out hg2 HG.out)
  have HC2 := Lib.hid (HCO.out w.heap.size g cap w2 ho2)
  clear hg2 ho2 HCO
  go_wp2_with fail
  refine HC2.out.mono ?_
  rintro e w3 ⟨rfl, hg3, ho3⟩
  have HB3 := Lib.hid (grown_below HB2.out hg3 HG.out)
  have HI := Lib.hid (ints_owned (B := B) ho3 rfl)
  clear hg3 ho3
  go_wp2_with fail
  go_ret
  exact ⟨_, cap, rfl, HB3.out, HI.out⟩
end Go.Proofs.YtddnjimpdidpaaaGreatDoor
