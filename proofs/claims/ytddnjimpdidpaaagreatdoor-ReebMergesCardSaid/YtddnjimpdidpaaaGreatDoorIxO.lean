/-
  index.Indices by a contract.
-/
import Derived.Test.YtddnjimpdidpaaaGreatDoorIxN
import Derived.Test.YtddnjimpdidpaaaGreatDoorRepI
import Derived.Test.YtddnjimpdidpaaaGreatDoorTabB
set_option linter.unusedSimpArgs false
set_option linter.unusedVariables false
namespace Go.Proofs.YtddnjimpdidpaaaGreatDoor
open Go Go.RowKit Go.Maps

/-- in a rising list a number's place is how many are less -/
theorem count_idx : ∀ {V : List Int} {k : Nat}, Rise V → k < V.length → V.countP (· < V.getD k 0) = k
  | [], _, _, hk => by simp at hk
  | a :: V, 0, hr, _ => by
    obtain ⟨h1, -⟩ := List.pairwise_cons.1 hr
    have : (a :: V).getD 0 0 = a := rfl
    rw [this, List.countP_eq_zero]
    intro y hy
    rcases List.mem_cons.1 hy with rfl | hy
    · simp
    · have := h1 y hy
      simp; omega
  | a :: V, k + 1, hr, hk => by
    obtain ⟨h1, h2⟩ := List.pairwise_cons.1 hr
    have hk' : k < V.length := by simpa using hk
    have ih := count_idx (V := V) (k := k) h2 hk'
    have e : (a :: V).getD (k + 1) 0 = V.getD k 0 := by simp
    have hm : V.getD k 0 ∈ V := by rw [getD_elem hk']; exact List.getElem_mem _
    have hlt := h1 _ hm
    rw [e, List.countP_cons, ih, if_pos (decide_eq_true hlt)]
def IdcP (a : Nat → Addr) (L : List (List Int)) (h : List Int) (w : World) (e : Ending) (w' : World) : Prop :=
  ∃ v, e = .returned (.tuple #[v, errV a (errR L h)]) ∧ Below w.heap.size w w' ∧ (errR L h ≠ 0 → v = .slice none 0 0) ∧
    (errR L h = 0 → IntsIn w.heap.size w' v ((vertA L).map (idxF (allF L) (hiF (vertA L) h))))
set_option maxRecDepth 100000 in
set_option maxHeartbeats 16000000 in
theorem indices_bad (a : Nat → Addr) (B : Nat) (L : List (List Int)) (h : List Int) (v vh : Value) (w : World) (hS : Sents w a) (hB : B ≤ w.heap.size) (hv : ListsIn B w v L) (hn : L.length ≤ 100000) (hl : ∀ l ∈ L, l.length ≤ 100000) (hvh : IntsIn B w vh h) (hlen : h.length ≤ 100000) (he : errR L h ≠ 0) :
    Calls Tryz.prog 19 #[.agg #[v], vh] w (IdcP a L h w) := by
  obtain ⟨pv, cv, hve, -⟩ := id hv
  generalize hLn : L.length = m at hve
  subst hve
  have HCH := Lib.hid (fun wx (hx : Below w.heap.size w wx) => check_any a B L h (.slice pv m cv) vh wx (hS.below hx (Nat.le_refl _)) (Nat.le_trans hB hx.size) (hv.below hx (Nat.le_refl _)) hn hl (hvh.below hx (Nat.le_refl _)) hlen)
  obtain ⟨w0, hw0⟩ : ∃ w0, w.alloc (.cells #[.slice pv m cv] 34) = w0 := ⟨_, rfl⟩
  have HB0 := Lib.hid (lit_below' w (.cells #[.slice pv m cv] 34))
  rw [hw0] at HB0
  have HW0 := Lib.hid hw0
  unfold IdcP
  obtain ⟨k, hk⟩ : ∃ k, errR L h = k + 1 := ⟨errR L h - 1, by omega⟩
  rw [hk, errV_succ]
  rw [hk, errV_succ] at HCH
  unfold errE
  unfold errE at HCH
  clear hS hB hv hn hl hvh hlen hLn hw0 he hk
  go_enter Tryz.func19, Tryz.ntmps19
  go_wp2_with fail
  rw [HW0.out]
  refine (HCH.out _ HB0.out).mono ?_
  rintro e w1 ⟨rfl, hb⟩
  have HB1 := Lib.hid (HB0.out.trans (hb.mono HB0.out.size))
  clear hb HCH
  go_wp2_with fail
  go_ret2
  exact ⟨.slice none 0 0, rfl, HB1.out, fun _ => rfl, fun h => absurd h (Nat.succ_ne_zero k)⟩
end Go.Proofs.YtddnjimpdidpaaaGreatDoor
