/-
  slices.SortFunc of faces by slices.Compare, in an owned row's words: the same faces, sorted. Condition: no face twice.
-/
import Derived.Test.YtoheffkiohfmoaaGreatDoorCelC
import Derived.Test.YtoheffkiohfmoaaGreatDoorCmp
namespace Go.Proofs.YtoheffkiohfmoaaGreatDoor
open Go Go.RowKit Go.Sort Go.Lib

theorem cmpL_ah : ∀ a b : List Int, decide (cmpL a b < 0) = ah a b
  | [], [] => rfl
  | [], _ :: _ => rfl
  | _ :: _, [] => rfl
  | x :: a, y :: b => by
    unfold cmpL ah
    by_cases h1 : x < y
    · rw [if_pos h1, if_neg (by omega), decide_eq_true h1]; rfl
    · rw [if_neg h1]
      by_cases h2 : y < x
      · rw [if_pos h2, if_neg (by omega), decide_eq_false h1]; rfl
      · rw [if_neg h2, if_pos (by omega)]
        exact cmpL_ah a b
def cfL {k : Nat} (L : List (List Int)) (i j : Fin (k + 1)) : Int := cmpL (L.getD i.val []) (L.getD j.val [])
theorem lt_cfL {k : Nat} (L : List (List Int)) (i j : Fin (k + 1)) : ltOf (cfL L) i j = ah (L.getD i.val []) (L.getD j.val []) := cmpL_ah _ _
theorem swo_cfL {k : Nat} (L : List (List Int)) : SWO (ltOf (cfL (k := k) L)) where
  irrefl x := by rw [lt_cfL]; exact ah_irrefl _
  trans x y z h1 h2 := by rw [lt_cfL] at *; exact ah_trans h1 h2
  ntrans x y z h1 h2 := by
    rw [lt_cfL] at *
    cases h : ah (L.getD x.val []) (L.getD z.val []) with
    | false => rfl
    | true =>
      by_cases e1 : L.getD y.val [] = L.getD x.val []
      · rw [e1, h] at h2; cases h2
      · rcases ah_total e1 with h3 | h3
        · rw [ah_trans h3 h] at h2; cases h2
        · rw [h3] at h1; cases h1
theorem getD_inj {L : List (List Int)} (h : L.Nodup) {i j : Nat} (hi : i < L.length) (hj : j < L.length) (e : L.getD i [] = L.getD j []) : i = j := by
  rw [List.getD_eq_getElem?_getD, List.getD_eq_getElem?_getD, List.getElem?_eq_getElem hi, List.getElem?_eq_getElem hj] at e
  exact (List.getElem_inj h).1 e

def SortLPost (O B g cap n : Nat) (L : List (List Int)) (w : World) (e : Ending) (w' : World) : Prop :=
  e = .returned (.tuple #[]) ∧ w.grownBy w' (some g) ∧ ∃ L', RowsO O B w' (.slice (some ⟨g, 0, none⟩) n cap) L' ∧ SortedF L' ∧ ∀ f, f ∈ L' ↔ f ∈ L
theorem sortL_any (O B g cap : Nat) (L : List (List Int)) (w : World) (hB : B ≤ O) (hR : RowsO O B w (.slice (some ⟨g, 0, none⟩) L.length cap) L) (hp : 0 < L.length) (hnd : L.Nodup) (hn : L.length ≤ 100000) (hl : ∀ l ∈ L, l.length ≤ 100000) :
    Calls Tryz.prog 77 #[.slice (some ⟨g, 0, none⟩) L.length cap, .func (.func 78) #[] #[]] w (SortLPost O B g cap L.length L w) := by
  obtain ⟨k, hk⟩ : ∃ k, L.length = k + 1 := ⟨L.length - 1, by omega⟩
  obtain ⟨hs, ho, hhl, hin⟩ := hR
  have hg := ho.lt g rfl
  have hr := row_other ho hB
  have henc : ∀ i : Fin (k + 1), IntsIn B w (hs.getD i.val .nilIface) (L.getD i.val []) := fun i => hin i.val (by omega)
  have hds : (Array.ofFn (fun i : Fin (k + 1) => i)).size = L.length := by rw [Array.size_ofFn, hk]
  have hHd : Holds (fun i : Fin (k + 1) => hs.getD i.val .nilIface) w g 0 (Array.ofFn (fun i : Fin (k + 1) => i)) := by
    intro j hj
    rw [Array.size_ofFn] at hj
    refine ⟨?_, ho.frozenAt _⟩
    rw [Nat.zero_add, ho.cellAt j (by omega)]
    rw [List.getElem?_eq_getElem (show j < hs.length by omega)]
    have e : (Array.ofFn (fun i : Fin (k + 1) => i))[j]! = ⟨j, hj⟩ := by
      rw [getElem!_pos _ j (by rw [Array.size_ofFn]; exact hj), Array.getElem_ofFn]
    rw [e]
    show _ = some (hs.getD j .nilIface)
    rw [List.getD_eq_getElem?_getD, List.getElem?_eq_getElem (show j < hs.length by omega)]; rfl
  have hcmp : CmpLays1 Tryz.prog 78 #[] (fun i : Fin (k + 1) => hs.getD i.val .nilIface) (cfL L) g 0 (Array.ofFn (fun i : Fin (k + 1) => i)).size w := by
    intro m os dk _ x y
    have hgr : w.grownBy (sortWorld (fun i : Fin (k + 1) => hs.getD i.val .nilIface) w g 0 m dk os) (some g) := put_grown dk
    have hx := (henc x).grown hgr (fun q e => by cases e; exact hr g rfl)
    have hy := (henc y).grown hgr (fun q e => by cases e; exact hr g rfl)
    refine (compare_any _ _ (L.getD x.val []) (L.getD y.val []) _ hx.at hy.at (Nat.le_trans (hl _ (getL_mem (by omega))) (by decide)) (Nat.le_trans (hl _ (getL_mem (by omega))) (by decide))).mono fun e w' ⟨he, hw⟩ => ⟨he, 0, #[], ?_⟩
    rw [grow_empty, ← hw]; rfl
  have hT : ∀ x y : Fin (k + 1), (ltOf (cfL L)) x y = false → (ltOf (cfL L)) y x = false → x = y := fun x y h1 h2 => by
    rw [lt_cfL] at h1 h2
    by_cases e : L.getD x.val [] = L.getD y.val []
    · exact Fin.ext (getD_inj hnd (by omega) (by omega) e)
    · rcases ah_total e with h | h
      · rw [h] at h1; cases h1
      · rw [h] at h2; cases h2
  have hcall := Tryz.slices_SortFunc_total (fun i : Fin (k + 1) => hs.getD i.val .nilIface) (fun i => (henc i).one) (cfL L) (swo_cfL L) 78 #[] g 0 cap (Array.ofFn (fun i : Fin (k + 1) => i)) w (enters_of Tryz.func78 (by kernel_rfl) rfl) hcmp hHd hg.2 (by rw [hds]; omega) hT
  rw [hds] at hcall
  refine hcall.mono fun e w' ⟨he, q, os, hw⟩ => ?_
  have hperm := List.mergeSort_perm (Array.ofFn (fun i : Fin (k + 1) => i)).toList (fun x y => !(ltOf (cfL L)) y x)
  have hpw := List.pairwise_mergeSort (le := fun x y : Fin (k + 1) => !(ltOf (cfL L)) y x) (fun x y z h1 h2 => by
    simp only [Bool.not_eq_true'] at *
    exact (swo_cfL L).ntrans z y x h2 h1) (fun x y => by
    cases h1 : ltOf (cfL L) y x with
    | false => rfl
    | true =>
      cases h2 : ltOf (cfL L) x y with
      | false => rfl
      | true => have := (swo_cfL L).trans _ _ _ h1 h2; rw [(swo_cfL L).irrefl] at this; cases this) (Array.ofFn (fun i : Fin (k + 1) => i)).toList
  generalize hm : (Array.ofFn (fun i : Fin (k + 1) => i)).toList.mergeSort (fun x y => !(ltOf (cfL L)) y x) = ml at hw hperm hpw
  have hml : ml.length = L.length := by rw [hperm.length_eq, Array.length_toList, hds]
  have hmn : ml.Nodup := hperm.nodup_iff.2 (by
    rw [Array.toList_ofFn]
    exact List.nodup_iff_pairwise_ne.2 (List.pairwise_iff_getElem.2 fun i j hi hj hij e => by
      simp only [List.getElem_ofFn, Fin.mk.injEq] at e
      omega))
  have hall : ∀ i : Fin (k + 1), i ∈ ml := fun i => hperm.mem_iff.2 (by
    rw [Array.toList_ofFn, List.mem_ofFn]
    exact ⟨i, rfl⟩)
  subst hw
  have hgr : w.grownBy (sortWorld (fun i : Fin (k + 1) => hs.getD i.val .nilIface) w g 0 q ml.toArray os) (some g) := put_grown _
  refine ⟨he, hgr, ml.map (fun i => L.getD i.val []), ?_, ?_, fun f => ?_⟩
  · refine ⟨ml.map (fun i : Fin (k + 1) => hs.getD i.val .nilIface), ?_, by simp, fun i hi => ?_⟩
    · have h := put_owns (enc := fun i : Fin (k + 1) => hs.getD i.val .nilIface) (q := q) (os := os) ml L.length hml (Nat.le_refl _) ho
      rw [List.take_of_length_le (by rw [hml]; exact Nat.le_refl _)] at h
      rw [List.length_map, hml]
      exact h
    · rw [List.length_map] at hi
      have e1 : (ml.map (fun i : Fin (k + 1) => hs.getD i.val .nilIface)).getD i .nilIface = hs.getD (ml[i]).val .nilIface := by
        rw [List.getD_eq_getElem?_getD, List.getElem?_map, List.getElem?_eq_getElem hi]; rfl
      have e2 : (ml.map (fun i => L.getD i.val [])).getD i [] = L.getD (ml[i]).val [] := by
        rw [List.getD_eq_getElem?_getD, List.getElem?_map, List.getElem?_eq_getElem hi]; rfl
      rw [e1, e2]
      exact (henc ml[i]).grown hgr (fun q e => by cases e; exact hr g rfl)
  · refine List.pairwise_map.2 ((hpw.and hmn).imp fun {x y} ⟨h1, h2⟩ => ?_)
    rw [lt_cfL] at h1
    have hne : L.getD x.val [] ≠ L.getD y.val [] := fun e => h2 (Fin.ext (getD_inj hnd (by omega) (by omega) e))
    rcases ah_total hne with h | h
    · exact h
    · rw [h] at h1; cases h1
  · rw [List.mem_map]
    constructor
    · rintro ⟨i, -, rfl⟩
      exact getL_mem (by omega)
    · intro hf
      obtain ⟨i, hi, rfl⟩ := List.getElem_of_mem hf
      refine ⟨⟨i, by omega⟩, hall _, ?_⟩
      show L.getD i [] = L[i]
      rw [List.getD_eq_getElem?_getD, List.getElem?_eq_getElem hi]; rfl
end Go.Proofs.YtoheffkiohfmoaaGreatDoor
