/-
  What is told of cosets, plain: the law GroupTables' facts of it.
-/
import Derived.Test.YtedehmknijlgpaaDoorCst
import Derived.Test.YtedehmknijlgpaaDoorDocC
set_option linter.unusedSimpArgs false
set_option linter.unusedVariables false
namespace Go.Proofs.YtedehmknijlgpaaDoor
open Go Go.RowKit Go.Maps

/-- the letters 1 .. g, each a word -/
def gensL (g : Nat) : List (List Int) := (List.range g).map fun (k : Nat) => [((k : Int) + 1)]
theorem gensL_len (g : Nat) : (gensL g).length = g := by simp [gensL]
theorem gensL_snoc (g : Nat) : gensL (g + 1) = gensL g ++ [[(g : Int) + 1]] := by unfold gensL; rw [List.range_succ, List.map_append]; rfl
theorem gensL_flat (g : Nat) : (gensL g).flatten.length = g := by
  induction g with
  | zero => rfl
  | succ g ih => rw [gensL_snoc, List.flatten_append, List.length_append, ih]; rfl
theorem gensL_mem {g : Nat} {l : List Int} (h : l ∈ gensL g) : ∃ k : Nat, k < g ∧ l = [(k : Int) + 1] := by
  unfold gensL at h
  obtain ⟨k, hk, rfl⟩ := List.mem_map.1 h
  exact ⟨k, List.mem_range.1 hk, rfl⟩
theorem gensL_bad (g : Nat) : (gensL g).flatten.any (badL g) = false := by
  rw [List.any_eq_false]
  intro x hx
  obtain ⟨l, hl, hx⟩ := List.mem_flatten.1 hx
  obtain ⟨k, hk, rfl⟩ := gensL_mem hl
  obtain rfl := List.mem_singleton.1 hx
  unfold badL
  simp
  omega
/-- what the law asks of a table -/
structure Told (g : Nat) (rels words T : List (List Int)) : Prop where
  ok : TabOk (2 * g) T
  back : ∀ i, i < T.length → ∀ k, k < 2 * g → ∃ t : Nat, (T.getD i []).getD k (-1) = (t : Int) ∧ t < T.length ∧ (T.getD t []).getD (TC.opp k) (-1) = (i : Int)
  rel : ∀ i, i < T.length → ∀ l ∈ rels, TC.leadT T i (l.map colN) = i
  std : TC.stdB T = true
  word : ∀ l ∈ words, TC.leadT T 0 (l.map colN) = 0
  few : T.length ≤ 400
  pos : 0 < T.length
theorem cosT_cases (g : Nat) (rels words : List (List Int)) :
    cosT g rels words = (1, []) ∨ (cosM g rels words).full = false ∧ (TC.ordO (cosM g rels words) (2 * g) 5001).length ≤ 400 ∧ cosT g rels words = (0, TC.tabT (cosM g rels words) (2 * g) (TC.ordO (cosM g rels words) (2 * g) 5001).length) := by
  unfold cosT
  by_cases h1 : (cosM g rels words).full = true
  · rw [if_pos h1]; exact .inl rfl
  · rw [if_neg h1]
    by_cases h2 : 400 < (TC.ordO (cosM g rels words) (2 * g) 5001).length
    · rw [if_pos h2]; exact .inl rfl
    · rw [if_neg h2]
      exact .inr ⟨by simpa using h1, by omega, rfl⟩
theorem cosA_zero {g : Nat} {rels words : List (List Int)} (h : groupErr (g : Int) rels = 0) : cosA (g : Int) rels words = (1, []) ∨ cosA (g : Int) rels words = (2, []) ∨ words.flatten.any (badL g) = false ∧ cosA (g : Int) rels words = cosT g rels words := by
  unfold cosA
  rw [h, if_neg (by decide), Int.toNat_natCast]
  by_cases h1 : 400 < words.length ∨ 400 < words.flatten.length
  · rw [if_pos h1]; exact .inl rfl
  · rw [if_neg h1]
    by_cases h2 : words.flatten.any (badL g) = true
    · rw [if_pos h2]; exact .inr (.inl rfl)
    · rw [if_neg h2]; exact .inr (.inr ⟨by simpa using h2, rfl⟩)
theorem stop_len {m : TC.St} {W : Nat} (h : TC.MOk W m) (hL : ∀ j, j < m.R.length → ∀ x, x < W → TC.Leads m j x) : (TC.ordO m W (TC.ordO m W 5001).length).length = (TC.ordO m W 5001).length := by
  -- there is a step at which no more are met
  have hle := TC.ordO_le h hL
  have hm := h.most
  have ex : ∃ n, n ≤ 5000 ∧ (TC.ordO m W n).length ≤ n := ⟨5000, Nat.le_refl _, by have := hle 5000; omega⟩
  have grow : ∀ n, (∀ i, i < n → i < (TC.ordO m W i).length) → n ≤ (TC.ordO m W n).length := fun n hn => by
    cases n with
    | zero => exact Nat.zero_le _
    | succ n =>
      have h1 := hn n (Nat.lt_succ_self n)
      obtain ⟨C, e⟩ := TC.ordO_step m W n
      rw [← e, List.length_append]
      omega
  have find : ∀ N n, n + N = 5000 → (∀ i, i < n → i < (TC.ordO m W i).length) → ∃ n', (TC.ordO m W n').length = n' ∧ n' ≤ 5000 := fun N => by
    induction N with
    | zero =>
      intro n hn hg
      have h1 := grow n hg
      have h2 := hle n
      exact ⟨n, by omega, by omega⟩
    | succ N ih =>
      intro n hn hg
      by_cases hc : n < (TC.ordO m W n).length
      · exact ih (n + 1) (by omega) fun i hi => by
          rcases Nat.lt_succ_iff_lt_or_eq.1 hi with h3 | rfl
          · exact hg i h3
          · exact hc
      · have h1 := grow n hg
        exact ⟨n, by omega, by omega⟩
  obtain ⟨n, h1, h2⟩ := find 5000 0 rfl (fun i hi => absurd hi (by omega))
  have e := TC.ordO_stop h1 5001 (by omega)
  rw [e, h1, h1]
theorem told_ok {g : Nat} {rels words T : List (List Int)} (hg : g ≤ 12) (hr : rels.flatten.any (badL g) = false) (hw : words.flatten.any (badL g) = false) (h : cosT g rels words = (0, T)) : Told g rels words T := by
  have hW2 : (2 * g) % 2 = 0 := by omega
  have hRL := colsL_lt (G := g) (by omega) hr
  have hWL := colsL_lt (G := g) (by omega) hw
  obtain ⟨hok, hrest⟩ := TC.cosetsM_ok hW2 hRL hWL
  rcases cosT_cases g rels words with h1 | ⟨hf, h4, h1⟩
  · rw [h1] at h; cases h
  rw [h1] at h
  obtain ⟨-, rfl⟩ := Prod.mk.inj h
  have hm : cosM g rels words = TC.cosetsM (2 * g) (colsL rels) (colsL words) := rfl
  rw [← hm] at hok hrest
  obtain ⟨hlw, hlr⟩ := hrest hf
  generalize hmm : cosM g rels words = m at *
  have hL : ∀ j, j < m.R.length → ∀ x, x < 2 * g → TC.Leads m j x := fun j hj => (hlr j hj).2
  have hn := stop_len hok hL
  generalize hnn : (TC.ordO m (2 * g) 5001).length = n at *
  have hlt := TC.ordO_lt hok hL
  have hbk := fun (i k : Nat) (hi : i < n) (hk : k < 2 * g) => TC.tabT_back hok hn hL hi hk hW2
  have hpos : 0 < n := by
    obtain ⟨C, e⟩ := TC.ordO_pre m (2 * g) (Nat.zero_le n)
    rw [← hn, ← e, List.length_append]
    show 0 < 1 + C.length
    omega
  have h0 : (TC.ordO m (2 * g) n).getD 0 0 = 0 := TC.pre_getD (TC.ordO_pre m (2 * g) (Nat.zero_le n)) (i := 0) (by show 0 < 1; decide)
  refine ⟨fun i hi => ?_, fun i hi k hk => ?_, fun i hi l hl => ?_, TC.stdB_tab hn, fun l hl => ?_, by rw [TC.tabT_len]; exact h4, by rw [TC.tabT_len]; exact hpos⟩
  · rw [TC.tabT_len] at hi
    refine ⟨by rw [TC.tabT_at m _ hi, TC.rowT_len], fun k hk => ?_⟩
    obtain ⟨t, e1, e2, -⟩ := hbk i k hi hk
    exact ⟨t, e1, by rw [TC.tabT_len]; exact e2⟩
  · rw [TC.tabT_len] at hi ⊢
    exact hbk i k hi hk
  · rw [TC.tabT_len] at hi
    refine TC.leadT_loop hok hn hi ((hlr _ (hlt n _ (TC.getD_mem (by omega)))).1 _ ?_)
    unfold colsL
    exact List.mem_map.2 ⟨l, hl, rfl⟩
  · refine TC.leadT_loop hok hn hpos ?_
    rw [h0]
    refine hlw _ ?_
    unfold colsL
    exact List.mem_map.2 ⟨l, hl, rfl⟩
/-- of all generators there is one coset -/
theorem told_one {g : Nat} {rels T : List (List Int)} (hg : g ≤ 12) (hr : rels.flatten.any (badL g) = false) (h : cosT g rels (gensL g) = (0, T)) : T.length = 1 := by
  have hW2 : (2 * g) % 2 = 0 := by omega
  have hRL := colsL_lt (G := g) (by omega) hr
  have hWL := colsL_lt (G := g) (by omega) (gensL_bad g)
  obtain ⟨hok, hrest⟩ := TC.cosetsM_ok hW2 hRL hWL
  rcases cosT_cases g rels (gensL g) with h1 | ⟨hf, h4, h1⟩
  · rw [h1] at h; cases h
  rw [h1] at h
  obtain ⟨-, rfl⟩ := Prod.mk.inj h
  have hm : cosM g rels (gensL g) = TC.cosetsM (2 * g) (colsL rels) (colsL (gensL g)) := rfl
  rw [← hm] at hok hrest
  obtain ⟨hlw, hlr⟩ := hrest hf
  have ho : ∀ n, TC.ordO (cosM g rels (gensL g)) (2 * g) n = [0] := fun n => TC.one_coset hok hW2 (fun k hk he => by
    refine hlw _ ?_
    unfold colsL
    refine List.mem_map.2 ⟨[((k / 2 : Nat) : Int) + 1], ?_, ?_⟩
    · unfold gensL
      exact List.mem_map.2 ⟨k / 2, List.mem_range.2 (by omega), rfl⟩
    · show [colN (((k / 2 : Nat) : Int) + 1)] = [k]
      congr 1
      unfold colN
      rw [if_pos (by omega)]
      omega) n
  rw [ho, TC.tabT_len]; rfl
end Go.Proofs.YtedehmknijlgpaaDoor
