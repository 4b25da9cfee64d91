/-
  TODD and COXETER: the table that is told: letters lead back, words that lead back lead back in it, its numbers are in order.
-/
import Derived.Test.YtedehmknijlgpaaDoorTcF
set_option linter.unusedVariables false
namespace Go.Proofs.YtedehmknijlgpaaDoor.TC

def toM (m : St) (x k : Nat) : Nat := rep m.S (ent m.R x k).toNat
def addO (O : List Nat) (y : Nat) : List Nat := if y ∈ O then O else O ++ [y]
def rowO (m : St) (O : List Nat) (x : Nat) : Nat → List Nat
  | 0 => O
  | k + 1 => addO (rowO m O x k) (toM m x k)
def ordO (m : St) (W : Nat) : Nat → List Nat
  | 0 => [0]
  | i + 1 => if i < (ordO m W i).length then rowO m (ordO m W i) ((ordO m W i).getD i 0) W else ordO m W i
theorem addO_pre (O : List Nat) (y : Nat) : O <+: addO O y := by
  unfold addO
  split
  · exact List.prefix_refl _
  · exact List.prefix_append ..
theorem mem_addO {O : List Nat} {y z : Nat} : z ∈ addO O y ↔ z ∈ O ∨ z = y := by
  unfold addO
  split
  · next h => exact ⟨Or.inl, fun h' => h'.elim id (fun e => e ▸ h)⟩
  · simp
theorem addO_nodup {O : List Nat} (h : O.Nodup) (y : Nat) : (addO O y).Nodup := by
  unfold addO
  split
  · exact h
  · next hy => exact List.nodup_append.2 ⟨h, by simp, fun a ha b hb e => hy (by rw [List.mem_singleton.1 hb] at e; rw [← e]; exact ha)⟩
theorem rowO_pre (m : St) (O : List Nat) (x : Nat) : ∀ {j k : Nat}, j ≤ k → rowO m O x j <+: rowO m O x k
  | j, 0, h => by obtain rfl : j = 0 := by omega
                  exact List.prefix_refl _
  | j, k + 1, h => by
    rcases Nat.eq_or_lt_of_le h with rfl | hlt
    · exact List.prefix_refl _
    · exact (rowO_pre m O x (j := j) (k := k) (by omega)).trans (addO_pre _ _)
theorem rowO_nodup (m : St) {O : List Nat} (h : O.Nodup) (x : Nat) : ∀ k, (rowO m O x k).Nodup
  | 0 => h
  | k + 1 => addO_nodup (rowO_nodup m h x k) _
theorem mem_rowO {m : St} {O : List Nat} {x z : Nat} : ∀ {k : Nat}, z ∈ rowO m O x k ↔ z ∈ O ∨ ∃ j, j < k ∧ z = toM m x j
  | 0 => ⟨Or.inl, fun h => h.elim id fun ⟨j, hj, _⟩ => absurd hj (by omega)⟩
  | k + 1 => by
    rw [rowO, mem_addO, mem_rowO (k := k)]
    constructor
    · rintro ((h | ⟨j, hj, e⟩) | h)
      · exact Or.inl h
      · exact Or.inr ⟨j, by omega, e⟩
      · exact Or.inr ⟨k, by omega, h⟩
    · rintro (h | ⟨j, hj, e⟩)
      · exact Or.inl (Or.inl h)
      · rcases Nat.lt_succ_iff_lt_or_eq.1 hj with hlt | rfl
        · exact Or.inl (Or.inr ⟨j, hlt, e⟩)
        · exact Or.inr e
theorem ordO_step (m : St) (W i : Nat) : ordO m W i <+: ordO m W (i + 1) := by
  rw [ordO]
  split
  · exact rowO_pre m _ _ (j := 0) (Nat.zero_le _)
  · exact List.prefix_refl _
theorem ordO_pre (m : St) (W : Nat) : ∀ {i j : Nat}, i ≤ j → ordO m W i <+: ordO m W j
  | i, 0, h => by obtain rfl : i = 0 := by omega
                  exact List.prefix_refl _
  | i, j + 1, h => by
    rcases Nat.eq_or_lt_of_le h with rfl | hlt
    · exact List.prefix_refl _
    · exact (ordO_pre m W (i := i) (j := j) (by omega)).trans (ordO_step m W j)
theorem ordO_nodup (m : St) (W : Nat) : ∀ i, (ordO m W i).Nodup
  | 0 => by simp [ordO]
  | i + 1 => by
    rw [ordO]
    split
    · exact rowO_nodup m (ordO_nodup m W i) _ _
    · exact ordO_nodup m W i
theorem ordO_live {m : St} {W : Nat} (h : MOk W m) : ∀ i, ∀ y ∈ ordO m W i, rep m.S y = y
  | 0, y, hy => by
    rw [List.mem_singleton.1 hy]
    have := rep_le h.good.wf 0
    omega
  | i + 1, y, hy => by
    rw [ordO] at hy
    split at hy
    · rcases mem_rowO.1 hy with h1 | ⟨j, -, e⟩
      · exact ordO_live h i y h1
      · rw [e]; exact rep_rep h.good.wf _
    · exact ordO_live h i y hy
theorem pre_getD {A B : List Nat} (h : A <+: B) {i : Nat} (hi : i < A.length) : B.getD i 0 = A.getD i 0 := by
  obtain ⟨C, rfl⟩ := h
  rw [List.getD_eq_getElem?_getD, List.getD_eq_getElem?_getD, List.getElem?_append_left hi]
theorem pre_idx {A B : List Nat} (h : A <+: B) {y : Nat} (hy : y ∈ A) : B.idxOf y = A.idxOf y := by
  obtain ⟨C, rfl⟩ := h
  rw [List.idxOf_append, if_pos hy]
theorem getD_idx {O : List Nat} {y : Nat} (h : y ∈ O) : O.getD (O.idxOf y) 0 = y := by
  have hl := List.idxOf_lt_length_of_mem h
  rw [List.getD_eq_getElem?_getD, List.getElem?_eq_getElem hl, Option.getD_some, List.getElem_idxOf]
theorem idx_getD {O : List Nat} (hn : O.Nodup) {i : Nat} (hi : i < O.length) : O.idxOf (O.getD i 0) = i := by
  rw [List.getD_eq_getElem?_getD, List.getElem?_eq_getElem hi, Option.getD_some]
  have hm : O[i] ∈ O := List.getElem_mem hi
  have hl := List.idxOf_lt_length_of_mem hm
  exact (List.getElem_inj hn).1 (List.getElem_idxOf hl)
theorem getD_mem {O : List Nat} {i : Nat} (hi : i < O.length) : O.getD i 0 ∈ O := by
  rw [List.getD_eq_getElem?_getD, List.getElem?_eq_getElem hi]; exact List.getElem_mem hi

/-- a told row, in the numbers that are there when it is told -/
def rowT (m : St) (W i : Nat) : List Int := (List.range W).map fun k => (((ordO m W (i + 1)).idxOf (toM m ((ordO m W i).getD i 0) k) : Nat) : Int)
def tabT (m : St) (W n : Nat) : List (List Int) := (List.range n).map (rowT m W)
theorem tabT_len (m : St) (W n : Nat) : (tabT m W n).length = n := by simp [tabT]
theorem tabT_at (m : St) (W : Nat) {n i : Nat} (hi : i < n) : (tabT m W n).getD i [] = rowT m W i := by
  unfold tabT
  rw [List.getD_eq_getElem?_getD, List.getElem?_map, List.getElem?_range hi]; rfl
theorem rowT_len (m : St) (W i : Nat) : (rowT m W i).length = W := by simp [rowT]
section
variable {W : Nat} {m : St} {n : Nat} (h : MOk W m) (hn : (ordO m W n).length = n)
/-- a table's entry: the number of the row to which a letter leads -/
theorem tabT_ent (hn : (ordO m W n).length = n) {i k : Nat} (hi : i < n) (hk : k < W) :
    toM m ((ordO m W n).getD i 0) k ∈ ordO m W n ∧ ((tabT m W n).getD i []).getD k (-1) = (((ordO m W n).idxOf (toM m ((ordO m W n).getD i 0) k) : Nat) : Int) := by
  have hlen : i < (ordO m W i).length := by
    rcases Nat.lt_or_ge i (ordO m W i).length with h1 | h1
    · exact h1
    · -- then nothing grows any more
      have stop : ∀ j, i ≤ j → ordO m W j = ordO m W i := fun j hj => by
        induction j with
        | zero => obtain rfl : i = 0 := by omega
                  rfl
        | succ j ih =>
          rcases Nat.eq_or_lt_of_le hj with rfl | hlt
          · rfl
          · have e := ih (by omega)
            rw [ordO, e, if_neg (by omega)]
      have := stop n (by omega)
      rw [this] at hn
      omega
  have e1 : ordO m W (i + 1) = rowO m (ordO m W i) ((ordO m W i).getD i 0) W := by rw [ordO, if_pos hlen]
  have hm1 : toM m ((ordO m W i).getD i 0) k ∈ ordO m W (i + 1) := by rw [e1]; exact mem_rowO.2 (Or.inr ⟨k, hk, rfl⟩)
  have hp := ordO_pre m W (i := i + 1) (j := n) (by omega)
  have e2 : (ordO m W n).getD i 0 = (ordO m W i).getD i 0 := pre_getD (ordO_pre m W (by omega)) hlen
  rw [e2]
  refine ⟨hp.subset hm1, ?_⟩
  rw [tabT_at m W hi, pre_idx hp hm1]
  unfold rowT
  rw [List.getD_eq_getElem?_getD, List.getElem?_map, List.getElem?_range hk]; rfl
/-- where a word leads in a table -/
def leadT (T : List (List Int)) : Nat → List Nat → Nat
  | r, [] => r
  | r, k :: w => leadT T ((T.getD r []).getD k (-1)).toNat w
theorem leadT_path (h : MOk W m) (hn : (ordO m W n).length = n) : ∀ {x : Nat} {w : List Nat} {y : Nat}, Path m.R m.S x w y → x ∈ ordO m W n → y ∈ ordO m W n ∧ leadT (tabT m W n) ((ordO m W n).idxOf x) w = (ordO m W n).idxOf y := by
  intro x w y hp
  induction hp with
  | nil => intro hx; exact ⟨hx, rfl⟩
  | @cons x k u w y e _ ih =>
    intro hx
    have hi := List.idxOf_lt_length_of_mem hx
    rw [hn] at hi
    have hk := (h.wide.inn e).2.1
    obtain ⟨h1, h2⟩ := tabT_ent hn hi hk
    rw [getD_idx hx] at h1 h2
    have et : toM m x k = rep m.S u := by unfold toM; rw [e, Int.toNat_natCast]
    rw [et] at h1 h2
    obtain ⟨i1, i2⟩ := ih h1
    refine ⟨i1, ?_⟩
    unfold leadT
    rw [h2, Int.toNat_natCast]
    exact i2
theorem leadT_loop (h : MOk W m) (hn : (ordO m W n).length = n) {i : Nat} (hi : i < n) {w : List Nat} (hl : Loop m ((ordO m W n).getD i 0) w) : leadT (tabT m W n) i w = i := by
  have hx := getD_mem (O := ordO m W n) (i := i) (by omega)
  unfold Loop at hl
  rw [ordO_live h n _ hx] at hl
  have := (leadT_path h hn hl hx).2
  rwa [idx_getD (ordO_nodup m W n) (by omega)] at this
/-- letters lead back -/
theorem tabT_back (h : MOk W m) (hn : (ordO m W n).length = n) (hL : ∀ j, j < m.R.length → ∀ x, x < W → Leads m j x) {i k : Nat} (hi : i < n) (hk : k < W) (hW2 : W % 2 = 0) :
    ∃ t : Nat, ((tabT m W n).getD i []).getD k (-1) = (t : Int) ∧ t < n ∧ ((tabT m W n).getD t []).getD (opp k) (-1) = (i : Int) := by
  obtain ⟨h1, h2⟩ := tabT_ent hn hi hk
  have ht := List.idxOf_lt_length_of_mem h1
  refine ⟨_, h2, by omega, ?_⟩
  obtain ⟨-, h4⟩ := tabT_ent hn (i := (ordO m W n).idxOf (toM m ((ordO m W n).getD i 0) k)) (k := opp k) (by omega) (opp_lt hW2 hk)
  rw [getD_idx h1] at h4
  rw [h4]
  have hx := getD_mem (O := ordO m W n) (i := i) (by omega)
  have hlive := ordO_live h n _ hx
  generalize hxx : (ordO m W n).getD i 0 = x at *
  -- x is a row: it is live and met
  have hxR : x < m.R.length := by
    rcases Nat.lt_or_ge x m.R.length with h5 | h5
    · exact h5
    · exfalso
      -- all rows that are met are rows
      have all : ∀ j, ∀ y ∈ ordO m W j, y < m.R.length := fun j => by
        induction j with
        | zero => intro y hy; rw [List.mem_singleton.1 hy]; exact h.pos
        | succ j ih =>
          intro y hy
          rw [ordO] at hy
          split at hy
          · rcases mem_rowO.1 hy with h6 | ⟨q, hq, e⟩
            · exact ih y h6
            · rw [e]
              unfold toM
              refine h.rep_lt ?_
              have := (h.wide.ent ((ordO m W j).getD j 0) q)
              have := h.pos
              omega
          · exact ih y hy
      have := all n x hx
      omega
  obtain ⟨u, hu⟩ := hL x hxR k hk
  rw [hlive] at hu
  obtain ⟨z, g1, g2⟩ := h.good.back _ _ _ hu
  have e1 : toM m x k = rep m.S u := by unfold toM; rw [hu, Int.toNat_natCast]
  have e2 : toM m (toM m x k) (opp k) = x := by
    rw [e1]
    unfold toM
    rw [g1, Int.toNat_natCast, g2, hlive]
  rw [e2, ← hxx, idx_getD (ordO_nodup m W n) (by omega)]
end
end Go.Proofs.YtedehmknijlgpaaDoor.TC
