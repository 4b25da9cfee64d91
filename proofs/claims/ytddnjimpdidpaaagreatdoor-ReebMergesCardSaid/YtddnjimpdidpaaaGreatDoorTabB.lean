/-
  A table of faces by dimension: owned rows of owned rows of headers (words); the faces of each dimension (plain).
  cells.Table by a contract: all faces, by dimension.
-/
import Derived.Test.YtddnjimpdidpaaaGreatDoorCelX
set_option linter.unusedSimpArgs false
set_option linter.unusedVariables false
namespace Go.Proofs.YtddnjimpdidpaaaGreatDoor
open Go Go.RowKit Go.Maps

theorem Tryz.info22 : (Tryz.prog.info? 22).map (fun i => (i.zero, i.size, i.bytes)) = some (some (.slice none 0 0), 1, 24) := by kernel_rfl

theorem under_tab : Tryz.prog.underlying 91 = some (.slice 22) := by kernel_rfl
/-- an owned row's block is no block of ints -/
theorem row_any {w : World} {O : Nat} {e : TypeId} {v : Value} {n : Nat} {hs : List Value} {B : Nat} (h : w.ownsRow O e 1 v n hs) (he : e ≠ 3) (hB : B ≤ O) : ∀ k, v.ownBlock = some k → B ≤ k ∧ ∀ c, w.heap[k]? ≠ some (.cells c 3 (0, 0)) := fun k hk => by
  rcases h.2 with ⟨rfl, _⟩ | ⟨g, cap, cur, rfl, hb, hgg, -⟩
  · cases hk
  · cases hk
    refine ⟨Nat.le_trans hB hb, fun c e1 => ?_⟩
    rw [hgg] at e1
    cases e1
    exact he rfl
theorem RowsO.far {O B : Nat} {w w' : World} {row : Option Nat} {v : Value} {L : List (List Int)} (h : RowsO O B w v L) (hg : w.grownBy w' row) (hr : ∀ k, row = some k → v.ownBlock ≠ some k ∧ B ≤ k ∧ ∀ c, w.heap[k]? ≠ some (.cells c 3 (0, 0))) : RowsO O B w' v L := by
  obtain ⟨hs, h1, h2, h3⟩ := h
  exact ⟨hs, owns_keep h1 fun k hk => hg.block k (h1.lt k hk).2 (fun e => (hr k e.symm).1 hk), h2, fun i hi => (h3 i hi).grown hg fun k e => (hr k e).2⟩
theorem RowsO.blk {O B : Nat} {w : World} {v : Value} {L : List (List Int)} (h : RowsO O B w v L) : ∀ k, v.ownBlock = some k → O ≤ k ∧ k < w.heap.size := fun k hk => by
  obtain ⟨hs, h1, -⟩ := h
  exact h1.lt k hk

/-- header row of headers; hs: the outer row's cells -/
def TabH (O B : Nat) (w : World) (v : Value) (T : List (List (List Int))) (hs : List Value) : Prop :=
  w.ownsRow O 22 1 v T.length hs ∧ hs.length = T.length ∧ (∀ i, i < T.length → RowsO O B w (hs.getD i .nilIface) (T.getD i [])) ∧
    ∀ i j, i < T.length → j < T.length → i ≠ j → ∀ k, (hs.getD i .nilIface).ownBlock = some k → (hs.getD j .nilIface).ownBlock ≠ some k
def TabO (O B : Nat) (w : World) (v : Value) (T : List (List (List Int))) : Prop := ∃ hs, TabH O B w v T hs
theorem TabO.nil (O B : Nat) (w : World) : TabO O B w (.slice none 0 0) [] := ⟨[], World.ownsRow_nil _ _ _ _, rfl, (fun i h => absurd h (by simp)), fun i j h => absurd h (by simp)⟩
theorem TabH.below {O B C : Nat} {w w' : World} {v : Value} {T : List (List (List Int))} {hs : List Value} (h : TabH O B w v T hs) (hb : Below C w w') (hC : w.heap.size ≤ C) : TabH O B w' v T hs :=
  ⟨owns_keep h.1 fun k hk => hb.block k (Nat.lt_of_lt_of_le (h.1.lt k hk).2 hC), h.2.1, fun i hi => (h.2.2.1 i hi).below hb hC, h.2.2.2⟩
theorem TabO.below {O B C : Nat} {w w' : World} {v : Value} {T : List (List (List Int))} (h : TabO O B w v T) (hb : Below C w w') (hC : w.heap.size ≤ C) : TabO O B w' v T := h.imp fun _ h => h.below hb hC
theorem TabO.le {O O' B : Nat} {w : World} {v : Value} {T : List (List (List Int))} (h : TabO O B w v T) (hO : O' ≤ O) : TabO O' B w v T :=
  h.imp fun _ h => ⟨Joins.ownsRow_le h.1 hO, h.2.1, fun i hi => (h.2.2.1 i hi).le hO, h.2.2.2⟩
/-- .. while another block is written -/
theorem TabH.grown {O B c : Nat} {w w' : World} {v : Value} {T : List (List (List Int))} {hs : List Value} (h : TabH O B w v T hs) (hg : w.grownBy w' (some c)) (hc : c < O) (hB : B ≤ c) (ho : ∀ x, w.heap[c]? ≠ some (.cells x 3 (0, 0))) : TabH O B w' v T hs :=
  ⟨owns_keep h.1 fun k hk => hg.block k (h.1.lt k hk).2 (fun e => by have h1 := (h.1.lt k hk).1; have h2 := Option.some.inj e; omega), h.2.1, fun i hi => (h.2.2.1 i hi).grown hg hc hB ho, h.2.2.2⟩
theorem TabO.grown {O B c : Nat} {w w' : World} {v : Value} {T : List (List (List Int))} (h : TabO O B w v T) (hg : w.grownBy w' (some c)) (hc : c < O) (hB : B ≤ c) (ho : ∀ x, w.heap[c]? ≠ some (.cells x 3 (0, 0))) : TabO O B w' v T :=
  h.imp fun _ h => h.grown hg hc hB ho

/-- a new row, nil, behind append's law -/
theorem TabH.push {O B : Nat} {w w' : World} {v v' : Value} {T : List (List (List Int))} {hs : List Value} (hB : B ≤ O) (h : TabH O B w v T hs) (h' : w'.ownsRow O 22 1 v' (T.length + 1) (hs ++ [.slice none 0 0])) (hg : w.grownBy w' v.ownBlock) :
    TabH O B w' v' (T ++ [[]]) (hs ++ [.slice none 0 0]) := by
  have hr := row_any h.1 (by decide) hB
  have hl := h.2.1
  have e0 : ∀ i, i < T.length → (hs ++ [Value.slice none 0 0]).getD i .nilIface = hs.getD i .nilIface := fun i hi => by simp [List.getD_eq_getElem?_getD, List.getElem?_append_left (show i < hs.length by omega)]
  have e1 : (hs ++ [Value.slice none 0 0]).getD T.length .nilIface = .slice none 0 0 := by rw [← hl]; simp [List.getD_eq_getElem?_getD]
  refine ⟨by simpa using h', by simp [hl], fun i hi => ?_, fun i j hi hj hij k hk => ?_⟩
  · rcases (show i < T.length ∨ i = T.length by simp at hi; omega) with hlt | rfl
    · have e2 : (T ++ [[]]).getD i [] = T.getD i [] := by simp [List.getD_eq_getElem?_getD, List.getElem?_append_left hlt]
      rw [e0 i hlt, e2]
      exact (h.2.2.1 i hlt).far hg fun k hk => by
        obtain ⟨hs', h1, -⟩ := h.2.2.1 i hlt
        exact ⟨fun e => owns_apart h1 h.1 (by decide) k e hk, hr k hk⟩
    · have e2 : (T ++ [[]]).getD T.length [] = [] := by simp [List.getD_eq_getElem?_getD]
      rw [e1, e2]
      exact RowsO.nil _ _ _
  · simp only [List.length_append, List.length_cons, List.length_nil] at hi hj
    rcases (show i < T.length ∨ i = T.length by omega) with hlt | rfl
    · rw [e0 i hlt] at hk
      rcases (show j < T.length ∨ j = T.length by omega) with hlt2 | rfl
      · rw [e0 j hlt2]
        exact h.2.2.2 i j hlt hlt2 hij k hk
      · rw [e1]; exact fun e => by cases e
    · rw [e1] at hk; cases hk

theorem getD_set_same {α : Type} {d x : α} {l : List α} {i : Nat} (h : i < l.length) : (l.set i x).getD i d = x := by simp [List.getD_eq_getElem?_getD, h]
theorem getD_set_other {α : Type} {d x : α} {l : List α} {i j : Nat} (h : i ≠ j) : (l.set i x).getD j d = l.getD j d := by simp [List.getD_eq_getElem?_getD, List.getElem?_set_ne h]

/-- a row is written in its own block -/
theorem TabH.row {O B : Nat} {w w' : World} {v : Value} {T : List (List (List Int))} {hs : List Value} {i : Nat} {L' : List (List Int)} (hB : B ≤ O) (h : TabH O B w v T hs) (hi : i < T.length) (hg : w.grownBy w' (hs.getD i .nilIface).ownBlock)
    (hR : RowsO O B w' (hs.getD i .nilIface) L') : TabH O B w' v (T.set i L') hs := by
  have h1 := h.2.2.1 i hi
  have hne : ∀ k, (hs.getD i .nilIface).ownBlock = some k → B ≤ k ∧ ∀ c, w.heap[k]? ≠ some (.cells c 3 (0, 0)) := by
    obtain ⟨hs', h2, -⟩ := h1
    exact row_any h2 (by decide) hB
  refine ⟨?_, by rw [List.length_set]; exact h.2.1, fun j hj => ?_, fun j k hj hk => ?_⟩
  · rw [List.length_set]
    refine owns_keep h.1 fun k hk => hg.block k (h.1.lt k hk).2 fun e => ?_
    obtain ⟨hs', h2, -⟩ := h1
    exact owns_apart h2 h.1 (by decide) k e.symm hk
  · rw [List.length_set] at hj
    by_cases hij : i = j
    · subst hij
      rw [getD_set_same hi]
      exact hR
    · rw [getD_set_other hij]
      exact (h.2.2.1 j hj).far hg fun k hk => ⟨fun e => h.2.2.2 i j hi hj hij k hk e, hne k hk⟩
  · rw [List.length_set] at hj hk
    exact h.2.2.2 j k hj hk

/-- a row is appended to and stored back -/
theorem TabH.store {O B g c n : Nat} {w w' : World} {T : List (List (List Int))} {hs : List Value} {i : Nat} {v' : Value} {L' : List (List Int)} (hB : B ≤ O) (h : TabH O B w (.slice (some ⟨g, 0, none⟩) n c) T hs) (hi : i < T.length) (hg : w.grownBy w' (hs.getD i .nilIface).ownBlock)
    (hR : RowsO O B w' v' L') (hat : v'.ownBlock = (hs.getD i .nilIface).ownBlock ∨ v'.ownBlock = some w.heap.size) : TabH O B (w'.setCell ⟨g, i, none⟩ v') (.slice (some ⟨g, 0, none⟩) n c) (T.set i L') (hs.set i v') := by
  have h1 := h.2.2.1 i hi
  have hl := h.2.1
  have hne : ∀ k, (hs.getD i .nilIface).ownBlock = some k → B ≤ k ∧ ∀ c, w.heap[k]? ≠ some (.cells c 3 (0, 0)) := by
    obtain ⟨hs', h2, -⟩ := h1
    exact row_any h2 (by decide) hB
  have hout : w'.ownsRow O 22 1 (.slice (some ⟨g, 0, none⟩) n c) T.length hs := by
    refine owns_keep h.1 fun k hk => hg.block k (h.1.lt k hk).2 fun e => ?_
    obtain ⟨hs', h2, -⟩ := h1
    exact owns_apart h2 h.1 (by decide) k e.symm hk
  have hn : n = T.length := by
    rcases hout.2 with ⟨e, _⟩ | ⟨g', cap', cur, e, _⟩
    · cases e
    · cases e; rfl
  subst hn
  obtain ⟨hst, hgs⟩ := hout.stored i v'
  have hgo := row_any hout (by decide) hB g rfl
  have hap : ∀ (x : Value) (L : List (List Int)), RowsO O B w' x L → RowsO O B (w'.setCell ⟨g, i, none⟩ v') x L := fun x L hx => hx.far hgs fun k hk => by
    obtain rfl := Option.some.inj hk
    obtain ⟨hs', h2, -⟩ := hx
    exact ⟨fun e => owns_apart h2 hout (by decide) g e rfl, hgo⟩
  refine ⟨by rw [List.length_set]; exact hst, by simp [hl], fun j hj => ?_, fun j k hj hk hjk b hb => ?_⟩
  · rw [List.length_set] at hj
    by_cases hij : i = j
    · subst hij
      rw [getD_set_same hi, getD_set_same (by omega)]
      exact hap _ _ hR
    · rw [getD_set_other hij, getD_set_other hij]
      exact hap _ _ ((h.2.2.1 j hj).far hg fun k hk => ⟨fun e => h.2.2.2 i j hi hj hij k hk e, hne k hk⟩)
  · rw [List.length_set] at hj hk
    have hfr : ∀ q, q < T.length → (hs.getD q .nilIface).ownBlock ≠ some w.heap.size := fun q hq e => by
      have := ((h.2.2.1 q hq).blk _ e).2
      omega
    by_cases hij : i = j
    · subst hij
      rw [getD_set_same (by omega)] at hb
      rw [getD_set_other hjk]
      rcases hat with h2 | h2
      · exact h.2.2.2 i k hj hk hjk b (h2 ▸ hb)
      · rw [h2] at hb
        obtain rfl := Option.some.inj hb
        exact hfr k hk
    · rw [getD_set_other hij] at hb
      by_cases hik : i = k
      · subst hik
        rw [getD_set_same (by omega)]
        rcases hat with h2 | h2
        · rw [h2]; exact h.2.2.2 j i hj hk hjk b hb
        · rw [h2]
          intro e
          obtain rfl := Option.some.inj e
          exact hfr j hj hb
      · rw [getD_set_other hik]
        exact h.2.2.2 j k hj hk hjk b hb

/-- what it reads as -/
def TabIn (B : Nat) (w : World) (v : Value) (T : List (List (List Int))) : Prop :=
  ∃ (p : Option Addr) (c : Nat), v = .slice p T.length c ∧ T.length ≤ c ∧ (p = none → c = 0) ∧
    ∀ i, i < T.length → ∃ b off u, p = some ⟨b, off, none⟩ ∧ w.cell? ⟨b, off + i, none⟩ = some u ∧ ListsIn B w u (T.getD i [])
theorem TabIn.below {B C : Nat} {w w' : World} {v : Value} {T : List (List (List Int))} (h : TabIn B w v T) (hb : Below C w w') (hC : w.heap.size ≤ C) : TabIn B w' v T := by
  obtain ⟨p, c, hv, hc, hn, hx⟩ := h
  refine ⟨p, c, hv, hc, hn, fun i hi => ?_⟩
  obtain ⟨b, off, u, e1, e2, e3⟩ := hx i hi
  exact ⟨b, off, u, e1, by rw [hb.cell (Nat.lt_of_lt_of_le (mem_lt e2) hC)]; exact e2, e3.below hb hC⟩
theorem TabH.cellsAt {O B : Nat} {w : World} {g n c : Nat} {T : List (List (List Int))} {hs : List Value} (h : TabH O B w (.slice (some ⟨g, 0, none⟩) n c) T hs) (i : Nat) (hi : i < T.length) : w.cell? ⟨g, i, none⟩ = some (hs.getD i .nilIface) := by
  have h2 := h.2.1
  have := h.1.cells (g := g) rfl i (hs.getD i .nilIface) (by rw [List.getD_eq_getElem?_getD, List.getElem?_eq_getElem (by omega)]; rfl)
  rwa [add_zero] at this
theorem TabH.form {O B : Nat} {w : World} {v : Value} {T : List (List (List Int))} {hs : List Value} (h : TabH O B w v T hs) (hp : 0 < T.length) : ∃ g c, v = .slice (some ⟨g, 0, none⟩) T.length c ∧ O ≤ g := by
  rcases h.1.2 with ⟨rfl, h0⟩ | ⟨g, cap, cur, rfl, hb, -⟩
  · omega
  · exact ⟨g, cap, rfl, hb⟩
theorem TabO.tab {O B : Nat} {w : World} {v : Value} {T : List (List (List Int))} (h : TabO O B w v T) : TabIn B w v T := by
  obtain ⟨hs, h⟩ := h
  rcases h.1.2 with ⟨rfl, h0⟩ | ⟨g, cap, cur, rfl, hb, hgg, hle, -⟩
  · rw [List.length_eq_zero_iff.1 h0]
    exact ⟨none, 0, rfl, Nat.le_refl _, fun _ => rfl, fun i h => absurd h (by simp)⟩
  · refine ⟨_, cap, rfl, hle, (fun e => by cases e), fun i hi => ⟨g, 0, _, rfl, ?_, (h.2.2.1 i hi).lists⟩⟩
    rw [Nat.zero_add]
    exact h.cellsAt i hi

/-! the faces of each dimension -/
def rowF (A : List (List Int)) (d : Nat) : List (List Int) := A.filter fun f => decide (f.length = d + 1)
def topN : List (List Int) → Nat
  | [] => 0
  | f :: A => max f.length (topN A)
theorem topN_ge : ∀ {A : List (List Int)} {f : List Int}, f ∈ A → f.length ≤ topN A
  | [], _, h => by cases h
  | g :: A, f, h => by
    rcases List.mem_cons.1 h with rfl | h
    · exact Nat.le_max_left _ _
    · exact Nat.le_trans (topN_ge h) (Nat.le_max_right _ _)
theorem topN_mem : ∀ (A : List (List Int)), topN A = 0 ∨ ∃ f ∈ A, f.length = topN A
  | [] => Or.inl rfl
  | g :: A => by
    unfold topN
    rcases Nat.le_total g.length (topN A) with h | h
    · rw [Nat.max_eq_right h]
      rcases topN_mem A with h0 | ⟨f, hf, e⟩
      · exact Or.inl h0
      · exact Or.inr ⟨f, List.mem_cons_of_mem _ hf, e⟩
    · rw [Nat.max_eq_left h]
      exact Or.inr ⟨g, List.mem_cons_self .., rfl⟩
theorem topN_of {A : List (List Int)} {m : Nat} (h1 : ∀ f ∈ A, f.length ≤ m) (h2 : m = 0 ∨ ∃ f ∈ A, f.length = m) : topN A = m := by
  apply Nat.le_antisymm
  · rcases topN_mem A with h | ⟨f, hf, e⟩
    · omega
    · rw [← e]; exact h1 f hf
  · rcases h2 with h | ⟨f, hf, e⟩
    · omega
    · rw [← e]; exact topN_ge hf
def tableF (A : List (List Int)) : List (List (List Int)) := (List.range (topN A)).map (rowF A)
theorem tableF_len (A : List (List Int)) : (tableF A).length = topN A := by simp [tableF]
theorem tableF_at {A : List (List Int)} {d : Nat} (h : d < topN A) : (tableF A).getD d [] = rowF A d := by
  simp [tableF, List.getD_eq_getElem?_getD, h]
theorem rowF_sorted {A : List (List Int)} (h : SortedF A) (d : Nat) : SortedF (rowF A d) := h.sublist List.filter_sublist
theorem mem_rowF {A : List (List Int)} {d : Nat} {f : List Int} : f ∈ rowF A d ↔ f ∈ A ∧ f.length = d + 1 := by simp [rowF]
theorem rowF_len (A : List (List Int)) (d : Nat) : (rowF A d).length ≤ A.length := List.length_filter_le _ _

/-- the table under way: row d holds the faces with d + 1 vertices that were met -/
def TabF (S : List (List Int)) (done : List Int → Prop) (T : List (List (List Int))) : Prop :=
  (∀ d, d < T.length → (T.getD d []).Nodup ∧ ∀ g, g ∈ T.getD d [] ↔ (g ∈ S ∧ done g ∧ g.length = d + 1)) ∧ (∀ g ∈ S, done g → g.length ≤ T.length) ∧ (T.length = 0 ∨ ∃ g ∈ S, g.length = T.length)
theorem TabF.nil {S : List (List Int)} {done : List Int → Prop} (h : ∀ g ∈ S, ¬ done g) : TabF S done [] := ⟨fun d h => absurd h (by simp), fun g hg hd => absurd hd (h g hg), Or.inl rfl⟩
theorem rep_getD {T : List (List (List Int))} {q d : Nat} : (T ++ List.replicate q []).getD d [] = T.getD d [] := by
  rcases Nat.lt_or_ge d T.length with h | h
  · simp [List.getD_eq_getElem?_getD, List.getElem?_append_left h]
  · rw [List.getD_eq_getElem?_getD, List.getElem?_append_right h, List.getElem?_replicate, List.getD_eq_getElem?_getD, List.getElem?_eq_none h]
    split <;> rfl
theorem TabF.push {S : List (List Int)} {done done' : List Int → Prop} {T : List (List (List Int))} {f : List Int} (h : TabF S done T) (hf : f ∈ S) (h0 : 0 < f.length) (hnd : ¬ done f) (hd : ∀ g ∈ S, (done' g ↔ (done g ∨ g = f))) :
    TabF S done' ((T ++ List.replicate (f.length - T.length) []).set (f.length - 1) (T.getD (f.length - 1) [] ++ [f])) := by
  have hl : ((T ++ List.replicate (f.length - T.length) []).set (f.length - 1) (T.getD (f.length - 1) [] ++ [f])).length = T.length + (f.length - T.length) := by simp
  have hT : ∀ d, (T.getD d []).Nodup ∧ ∀ g, g ∈ T.getD d [] ↔ (g ∈ S ∧ done g ∧ g.length = d + 1) := fun d => by
    rcases Nat.lt_or_ge d T.length with h1 | h1
    · exact h.1 d h1
    · rw [List.getD_eq_getElem?_getD, List.getElem?_eq_none h1]
      refine ⟨List.nodup_nil, fun g => ⟨fun h => absurd h (by simp), fun ⟨h2, h3, h4⟩ => ?_⟩⟩
      have := h.2.1 g h2 h3
      omega
  refine ⟨fun d hd' => ?_, fun g hg hd' => ?_, ?_⟩
  · rw [hl] at hd'
    by_cases e : f.length - 1 = d
    · subst e
      rw [getD_set_same (by simp; omega)]
      refine ⟨List.nodup_append.2 ⟨(hT _).1, by simp, fun x hx y hy => ?_⟩, fun g => ?_⟩
      · obtain rfl := List.mem_singleton.1 hy
        rintro rfl
        exact hnd (((hT _).2 x).1 hx).2.1
      · rw [List.mem_append, (hT _).2 g, List.mem_singleton]
        constructor
        · rintro (⟨h1, h2, h3⟩ | rfl)
          · exact ⟨h1, (hd g h1).2 (Or.inl h2), h3⟩
          · exact ⟨hf, (hd g hf).2 (Or.inr rfl), by omega⟩
        · rintro ⟨h1, h2, h3⟩
          rcases (hd g h1).1 h2 with h4 | h4
          · exact Or.inl ⟨h1, h4, h3⟩
          · exact Or.inr h4
    · rw [getD_set_other e, rep_getD]
      refine ⟨(hT d).1, fun g => ((hT d).2 g).trans ⟨fun ⟨h1, h2, h3⟩ => ⟨h1, (hd g h1).2 (Or.inl h2), h3⟩, fun ⟨h1, h2, h3⟩ => ⟨h1, ?_, h3⟩⟩⟩
      rcases (hd g h1).1 h2 with h4 | rfl
      · exact h4
      · omega
  · rw [hl]
    rcases (hd g hg).1 hd' with h1 | rfl
    · have := h.2.1 g hg h1
      omega
    · omega
  · rw [hl]
    rcases Nat.lt_or_ge T.length f.length with h1 | h1
    · exact Or.inr ⟨f, hf, by omega⟩
    · rcases h.2.2 with h2 | ⟨g, h2, h3⟩
      · omega
      · exact Or.inr ⟨g, h2, by omega⟩
theorem TabF.iff {S : List (List Int)} {done done' : List Int → Prop} {T : List (List (List Int))} (h : TabF S done T) (hd : ∀ g ∈ S, (done' g ↔ done g)) : TabF S done' T :=
  ⟨fun d hl => ⟨(h.1 d hl).1, fun g => ((h.1 d hl).2 g).trans ⟨fun ⟨h1, h2, h3⟩ => ⟨h1, (hd g h1).2 h2, h3⟩, fun ⟨h1, h2, h3⟩ => ⟨h1, (hd g h1).1 h2, h3⟩⟩⟩, fun g hg h1 => h.2.1 g hg ((hd g hg).1 h1), h.2.2⟩
/-- at the end -/
theorem TabF.top {S L : List (List Int)} {done : List Int → Prop} {T : List (List (List Int))} (h : TabF S done T) (hS : ∀ g, g ∈ S ↔ IsF L g) (hd : ∀ g ∈ S, done g) : T.length = topN (allF L) :=
  (topN_of (fun f hf => h.2.1 f ((hS f).2 (mem_allF.1 hf)) (hd f ((hS f).2 (mem_allF.1 hf)))) (h.2.2.imp id fun ⟨g, h1, h2⟩ => ⟨g, mem_allF.2 ((hS g).1 h1), h2⟩)).symm
theorem TabF.rowE {S L L' : List (List Int)} {done : List Int → Prop} {T : List (List (List Int))} {d : Nat} (h : TabF S done T) (hS : ∀ g, g ∈ S ↔ IsF L g) (hd : ∀ g ∈ S, done g) (hl : d < T.length) (hs : SortedF L') (hm : ∀ g, g ∈ L' ↔ g ∈ T.getD d []) : L' = rowF (allF L) d :=
  SortedF.ext hs (rowF_sorted (allF_sorted L) d) fun g => by
    rw [hm, (h.1 d hl).2 g, mem_rowF, mem_allF, ← hS]
    exact ⟨fun ⟨h1, h2, h3⟩ => ⟨h1, h3⟩, fun ⟨h1, h3⟩ => ⟨h1, hd g h1, h3⟩⟩

/-- the map's loop: what stays -/
def TbB (B b r nS : Nat) (D : DataW Value) (S : List (List Int)) (w wr : World) (left : Lit → Bool) (cnt : Nat) : Prop :=
  wr.ranges Tryz.prog 9 valE b r nS D left cnt ∧ HeldAll B wr D S ∧ Below w.heap.size w wr
theorem TbB.below {B b r nS : Nat} {D : DataW Value} {S : List (List Int)} {w wr w' : World} {left : Lit → Bool} {cnt : Nat} (h : TbB B b r nS D S w wr left cnt) (hb : Below wr.heap.size wr w') : TbB B b r nS D S w w' left cnt :=
  ⟨ranges_below h.1 hb (Nat.le_refl _), h.2.1.below hb (Nat.le_refl _), h.2.2.trans (hb.mono h.2.2.size)⟩
theorem TbB.grown {B b r nS : Nat} {D : DataW Value} {S : List (List Int)} {w wr w' : World} {left : Lit → Bool} {cnt : Nat} {row : Option Nat} (h : TbB B b r nS D S w wr left cnt) (hg : wr.grownBy w' row)
    (hr : ∀ k, row = some k → k ≠ b ∧ k ≠ r ∧ w.heap.size ≤ k ∧ B ≤ k ∧ ∀ c, wr.heap[k]? ≠ some (.cells c 3 (0, 0))) : TbB B b r nS D S w w' left cnt :=
  ⟨h.1.kept hg (fun e => (hr b e.symm).1 rfl) (fun e => (hr r e.symm).2.1 rfl), h.2.1.grown hg fun k e => (hr k e).2.2.2, h.2.2.grown hg h.2.2.size fun k e => (hr k e).2.2.1⟩

def lenV : Value → Nat
  | .slice _ n _ => n
  | _ => 0
theorem rep_succ {T : List (List (List Int))} {q : Nat} : (T ++ List.replicate q []) ++ [[]] = T ++ List.replicate (q + 1) [] := by rw [List.append_assoc, ← List.replicate_succ']
theorem grown_at (w : World) (b k : Nat) (v : Value) : w.grownBy (w.setCell ⟨b, k, none⟩ v) (some b) :=
  ⟨rfl, rfl, rfl, Nat.le_of_eq (by simp [World.setCell]), fun j _ hj => Below.heap_setCell _ _ _ j (fun e => hj (by rw [e]))⟩

theorem TabF.rowlen {S : List (List Int)} {done : List Int → Prop} {T : List (List (List Int))} (h : TabF S done T) (d : Nat) : (T.getD d []).length ≤ S.length := by
  rcases Nat.lt_or_ge d T.length with h1 | h1
  · exact nodup_le (h.1 d h1).1 fun g hg => (((h.1 d h1).2 g).1 hg).1
  · rw [List.getD_eq_getElem?_getD, List.getElem?_eq_none h1]; exact Nat.zero_le _
theorem TabH.block {O B g n c : Nat} {w : World} {T : List (List (List Int))} {hs : List Value} (h : TabH O B w (.slice (some ⟨g, 0, none⟩) n c) T hs) : ∃ cur, w.heap[g]? = some (.cells cur 22 (0, 0)) := by
  rcases h.1.2 with ⟨e, _⟩ | ⟨g', cap', cur, e, _, hh, _⟩
  · cases e
  · cases e; exact ⟨cur, hh⟩

def SortRPost (O B : Nat) (v : Value) (L : List (List Int)) (w : World) (e : Ending) (w' : World) : Prop :=
  e = .returned (.tuple #[]) ∧ w.grownBy w' v.ownBlock ∧ ∃ L', RowsO O B w' v L' ∧ SortedF L' ∧ ∀ f, f ∈ L' ↔ f ∈ L
theorem sortR_any (O B : Nat) (L : List (List Int)) (v : Value) (w : World) (hB : B ≤ O) (hR : RowsO O B w v L) (hnd : L.Nodup) (hn : L.length ≤ 100000) (hl : ∀ l ∈ L, l.length ≤ 100000) :
    Calls Tryz.prog 91 #[v, .func (.func 92) #[] #[]] w (SortRPost O B v L w) := by
  by_cases h0 : L.length = 0
  · obtain ⟨p, c, hv, -⟩ := hR.lists
    have hFn : L = [] := List.length_eq_zero_iff.1 h0
    have hcs : Calls Tryz.prog 91 #[v, .func (.func 92) #[] #[]] w (fun e w' => e = .returned (.tuple #[]) ∧ w' = w) := by
      rw [hv, h0]
      exact Tryz.slices_SortFunc_none_f91 (α := Nat) p c _ w
    refine hcs.mono ?_
    rintro e w' ⟨rfl, rfl⟩
    exact ⟨rfl, World.grownBy.refl _ _, L, hR, by rw [hFn]; exact List.Pairwise.nil, fun f => Iff.rfl⟩
  · have hR' := hR
    obtain ⟨hs, h1, h2, h3⟩ := hR
    rcases Joins.ownsRow_forms h1 with ⟨-, h9⟩ | ⟨g, cap, rfl⟩
    · exact absurd h9 h0
    · refine (sortL_any O B g cap L w hB hR' (by omega) hnd hn hl).mono ?_
      rintro e w' ⟨rfl, hg, L', hr, hs', hm⟩
      exact ⟨rfl, hg, L', hr, hs', hm⟩
theorem tab_ext {A : List (List Int)} {T : List (List (List Int))} (h1 : T.length = topN A) (h2 : ∀ d, d < T.length → T.getD d [] = rowF A d) : T = tableF A := by
  refine List.ext_getElem (by rw [h1, tableF_len]) fun d ha hb => ?_
  have h3 := h2 d ha
  have h4 := tableF_at (A := A) (d := d) (by rw [← h1]; exact ha)
  rw [List.getD_eq_getElem?_getD, List.getElem?_eq_getElem ha] at h3
  rw [List.getD_eq_getElem?_getD, List.getElem?_eq_getElem hb] at h4
  exact h3.trans h4.symm

def TabPost (a : Nat → Addr) (B : Nat) (L : List (List Int)) (w : World) (e : Ending) (w' : World) : Prop :=
  Below w.heap.size w w' ∧
  ((errX L = 0 ∧ ∃ v, e = .returned (.tuple #[v, .nilIface]) ∧ TabO w.heap.size B w' v (tableF (allF L))) ∨
   (∃ k, k < 8 ∧ errX L = k + 1 ∧ e = .returned (.tuple #[.slice none 0 0, errE (a k)])))

set_option maxRecDepth 100000 in
set_option maxHeartbeats 16000000 in
theorem table_bad (a : Nat → Addr) (B : Nat) (L : List (List Int)) (v : Value) (w : World) (hS : Sents w a) (hB : B ≤ w.heap.size) (hv : ListsIn B w v L) (hn : L.length ≤ 100000) (hl : ∀ l ∈ L, l.length ≤ 100000) (he : errX L ≠ 0) :
    Calls Tryz.prog 48 #[.agg #[v]] w (TabPost a B L w) := by
  obtain ⟨pv, cv, hve, -⟩ := id hv
  obtain ⟨n, hLn⟩ : ∃ n, L.length = n := ⟨_, rfl⟩
  rw [hLn] at hve
  subst hve
  have hb0 : Below w.heap.size w (w.alloc (.cells #[.slice pv n cv] 34)) := (Below.refl _ _).alloc (Nat.le_refl _) _
  have HB0 := Lib.hid hb0
  have HC := Lib.hid (valid_any a B L (.slice pv n cv) _ (hS.below hb0 (Nat.le_refl _)) (Nat.le_trans hB hb0.size) (hv.below hb0 (Nat.le_refl _)) hn hl)
  have HE := Lib.hid he
  unfold ValP at HC
  unfold TabPost errE
  clear hS hB hv hn hl hb0 he hLn
  go_enter Tryz.func48, Tryz.ntmps48
  go_wp2_with fail
  refine HC.out.mono ?_
  rintro e w1 ⟨hb1, ⟨h0, -⟩ | ⟨k, hk, hek, rfl⟩⟩
  · exact absurd h0 HE.out
  · have HB1 := Lib.hid (HB0.out.trans (hb1.mono HB0.out.size))
    have HEK := Lib.hid hek
    clear hb1 hek
    unfold errE
    go_wp2_with fail
    go_ret2
    exact ⟨HB1.out, Or.inr ⟨k, hk, HEK.out, rfl⟩⟩

set_option maxRecDepth 100000 in
set_option maxHeartbeats 16000000 in
theorem table_ok (a : Nat → Addr) (B : Nat) (L : List (List Int)) (v : Value) (w : World) (hS : Sents w a) (hB : B ≤ w.heap.size) (hv : ListsIn B w v L) (hn : L.length ≤ 100000) (hl : ∀ l ∈ L, l.length ≤ 100000) (he : errX L = 0) :
    Calls Tryz.prog 48 #[.agg #[v]] w (TabPost a B L w) := by
  obtain ⟨i22, hi22, hz0, hz1, hz2⟩ := info_parts Tryz.info22
  obtain ⟨i26, hi26, hy0, hy1, hy2⟩ := info_parts Tryz.info23
  obtain ⟨pv, cv, hve, -⟩ := id hv
  obtain ⟨n, hLn⟩ : ∃ n, L.length = n := ⟨_, rfl⟩
  rw [hLn] at hve
  subst hve
  have hb0 : Below w.heap.size w (w.alloc (.cells #[.slice pv n cv] 34)) := (Below.refl _ _).alloc (Nat.le_refl _) _
  have HB0 := Lib.hid hb0
  have HC := Lib.hid (valid_any a B L (.slice pv n cv) _ (hS.below hb0 (Nat.le_refl _)) (Nat.le_trans hB hb0.size) (hv.below hb0 (Nat.le_refl _)) hn hl)
  have HE := Lib.hid he
  have HB := Lib.hid hB
  have HS := Lib.hid hS
  have HV := Lib.hid hv
  have HN := Lib.hid hn
  have HL := Lib.hid hl
  have hokE := errC_ok (errX_ok he).1
  have HOKE := Lib.hid hokE
  unfold ValP at HC
  clear hS hB hv hn hl hb0 he hLn hokE
  go_enter Tryz.func48, Tryz.ntmps48
  go_wp2_with fail
  refine HC.out.mono ?_
  rintro e w1 ⟨hb1, ⟨-, rfl⟩ | ⟨k, hk, hek, rfl⟩⟩
  rotate_left
  · exact absurd HE.out (by omega)
  have hcv : w1.cell? ⟨w.heap.size, 0, none⟩ = some (.slice pv n cv) := (one_at (t := 34) ((hb1.block _ (by simp)).trans (heap_alloc_new w _))).1
  have hb01 := HB0.out.trans (hb1.mono HB0.out.size)
  have HB1 := Lib.hid hb01
  have HCC := Lib.hid (ccl_any a B L (.slice pv n cv) w1 (HS.out.below hb01 (Nat.le_refl _)) (Nat.le_trans HB.out hb01.size) (HV.out.below hb01 (Nat.le_refl _)) HN.out HL.out)
  unfold CclPost at HCC
  clear hb1 hb01 HC
  go_wp2_with fail
  refine HCC.out.mono ?_
  rintro e w2 ⟨hb2, ⟨-, b, S, rfl, hbb, hM, hl6, hSm⟩ | ⟨h0, -⟩⟩
  rotate_left
  · exact absurd (errX_ok HE.out).1 h0
  have HB2 := Lib.hid (HB1.out.trans (hb2.mono HB1.out.size))
  have hbw : w.heap.size ≤ b := Nat.le_trans HB1.out.size hbb
  have HSM := Lib.hid hSm
  obtain ⟨D, hown, hsz, hnd, hvs, hhas, hget, honly⟩ := hM
  have hbm := hown.lt
  have HOWN := Lib.hid hown
  have HSZ := Lib.hid hsz
  have HVS := Lib.hid hvs
  have HHAS := Lib.hid hhas
  have HGET := Lib.hid hget
  have HONLY := Lib.hid honly
  clear hb2 hSm hown hsz hnd hvs hhas hget honly hbb HCC hcv
  obtain ⟨nS, hnS⟩ : ∃ nS, S.length = nS := ⟨_, rfl⟩
  rw [hnS] at HOWN HSZ hl6
  have HNS := Lib.hid hnS
  clear hnS
  go_wp2_with (at_range; refine wpList_range_own _ rfl _ 136 rfl 9 23 (string_keyed Tryz.underlying9) Tryz.underlying136 valE b nS D rfl HOWN.out ?_; intro w3 hrg3 hg3 hs3)
  go_frame
  rw [HSZ.out] at hrg3
  obtain ⟨r, hr⟩ : ∃ r, r = w2.heap.size := ⟨_, rfl⟩
  rw [← hr] at hrg3 hs3 ⊢
  have hrw : w.heap.size ≤ r := by rw [hr]; exact HB2.out.size
  have hbr : b < r := by rw [hr]; exact hbm
  clear hr hbm
  have hb3 : Below w2.heap.size w2 w3 := (Below.refl _ _).grown hg3 (Nat.le_refl _) (fun k e => by cases e)
  have HST3 : Hid (TbB B b r nS D S w w3 (Maps.has D) nS) := ⟨hrg3, fun f hf => (HGET.out f hf).imp fun v h => ⟨h.1, h.2.below hb3 (Nat.le_refl _)⟩, HB2.out.trans (hb3.mono HB2.out.size)⟩
  have HTF3 : Hid (TabF S (doneOf (Maps.has D)) []) := TabF.nil fun g hg h => by
    have := (HHAS.out g (HVS.out g hg)).2 hg
    unfold doneOf at h
    rw [h] at this; cases this
  clear hrg3 hg3 hb3 HGET
  go_loopw [7, 9] (fun u _ wr => ∃ left cnt T, TbB B b r nS D S w wr left cnt ∧ TabO (r + 1) B wr u T ∧ TabF S (doneOf left) T ∧ ∀ kl, left kl = true → Maps.has D kl = true) (fun _ _ wr => wr.rangeLeft b r)
  case atStart => exact ⟨_, _, [], HST3.out, TabO.nil _ _ _, HTF3.out, fun kl h => h⟩
  case round =>
    obtain ⟨left, cnt, T, hst, hto, htf, hlh⟩ := hrel
    obtain ⟨wo, rfl⟩ : ∃ wo : World, wo = wr := ⟨_, rfl⟩
    have HST := Lib.hid hst
    have HTO := Lib.hid hto
    have HTF := Lib.hid htf
    have HLH := Lib.hid hlh
    have HRG := Lib.hid hst.1
    clear hst hto htf hlh HST3 HTF3
    go_wp2_with (at_next; refine wpList_next_ranges _ rfl _ rfl 9 (string_keyed Tryz.underlying9) valE (fun x : ByteArray => Value.string x) (fun x : Option Addr × Nat × Nat => Value.slice x.1 x.2.1 x.2.2) (fun _ _ h => key_inv h) (fun _ _ h => valE_inv h) b r nS D left cnt rfl HRG.out ?_ ?_)
    · -- nothing is left
      intro hc0 hl0
      have HALL : Hid (∀ g ∈ S, doneOf left g) := fun g _ => hl0 (klit g)
      clear hl0 hc0
      obtain ⟨pu, cu, hue, -⟩ := HTO.out.tab
      obtain ⟨m, hm⟩ : ∃ m, T.length = m := ⟨_, rfl⟩
      rw [hm] at hue
      subst hue
      have HM := Lib.hid hm
      have hm7 : m ≤ 600 := by
        rcases HTF.out.2.2 with h | ⟨g, h1, h2⟩
        · omega
        · have h3 := isF_len HOKE.out.2.1 ((HSM.out g).1 h1)
          omega
      have hBr : B ≤ r + 1 := Nat.le_trans HB.out (by omega)
      clear hm
      go_wp2_with fail
      go_loopw [11, 53] (fun _ i wr => ∃ (j : Nat) (T' : List (List (List Int))), j ≤ m ∧ i = .int .i64 j ∧ Below w.heap.size w wr ∧ TabO (r + 1) B wr (.slice pu m cu) T' ∧ T'.length = m ∧ (∀ d, d < j → T'.getD d [] = rowF (allF L) d) ∧ ∀ d, j ≤ d → T'.getD d [] = T.getD d []) (fun _ i _ => m - (intOf i).toNat)
      case atStart => exact ⟨0, T, Nat.zero_le _, rfl, HST.out.2.2, HTO.out, HM.out, fun d h => absurd h (by omega), fun d h => rfl⟩
      case round =>
        obtain ⟨j, T', hj, rfl, hb, ⟨hs, hth⟩, hl, h1, h2⟩ := hrel
        have HBW := Lib.hid hb
        have HTH := Lib.hid hth
        have HTL := Lib.hid hl
        have H1 := Lib.hid h1
        have H2 := Lib.hid h2
        clear hb hth hl h1 h2
        by_cases hjm : j < m
        · have hjT : j < T'.length := by rw [HTL.out]; exact hjm
          obtain ⟨g, cu', hge, hgr⟩ := HTH.out.form (by omega)
          obtain rfl : pu = some ⟨g, 0, none⟩ := by cases hge; rfl
          have hcell := HTH.out.cellsAt j hjT
          have hrow := HTH.out.2.2.1 j hjT
          have hdT : j < T.length := by rw [HM.out]; exact hjm
          have hTj := HTF.out.1 j hdT
          have hlen := HTF.out.rowlen j
          have hSL := HNS.out
          have e2 := H2.out j (Nat.le_refl _)
          have HSO := Lib.hid (sortR_any (r + 1) B (T'.getD j []) (hs.getD j .nilIface) wr hBr hrow (by rw [e2]; exact hTj.1) (by rw [e2]; omega) (fun l hl => by
            rw [e2] at hl
            have := isF_len HOKE.out.2.1 ((HSM.out l).1 ((hTj.2 l).1 hl).1)
            omega))
          unfold SortRPost at HSO
          obtain ⟨pr, cr, hX, -⟩ := hrow.lists
          obtain ⟨nr, hnr⟩ : ∃ nr, (T'.getD j []).length = nr := ⟨_, rfl⟩
          rw [hnr] at hX
          have HX := Lib.hid hX
          rw [hX] at hcell HSO
          have HJT := Lib.hid hjT
          have HROWE := Lib.hid (fun (L' : List (List Int)) (h1 : SortedF L') (h2 : ∀ f, f ∈ L' ↔ f ∈ T'.getD j []) => HTF.out.rowE HSM.out HALL.out hdT h1 (fun g => (h2 g).trans (by rw [e2])))
          clear hrow hTj hlen hSL hnr hX hge hgr hjT hdT e2
          go_wp2_with fail
          refine HSO.out.mono ?_
          rintro e w5 ⟨rfl, hg5, L', hR5, hs5, hm5⟩
          have HT5 := Lib.hid (TabH.row (L' := L') hBr HTH.out HJT.out (by rw [HX.out]; exact hg5) (by rw [HX.out]; exact hR5))
          have HB5 := Lib.hid (HBW.out.grown hg5 HBW.out.size (fun k e => by
            obtain ⟨hs', q1, -⟩ := hR5
            have := (q1.lt k e).1
            omega))
          have HE5 := Lib.hid (HROWE.out L' hs5 hm5)
          clear hg5 hR5 hs5 hm5
          go_wp2_with fail
          go_roundw
          case rel =>
            refine ⟨j + 1, _, by omega, by go_num, HB5.out, ⟨_, HT5.out⟩, by rw [List.length_set]; exact HTL.out, fun d hd => ?_, fun d hd => ?_⟩
            · by_cases e : j = d
              · subst e
                rw [getD_set_same HJT.out]
                exact HE5.out
              · rw [getD_set_other e]
                exact H1.out d (by omega)
            · rw [getD_set_other (by omega)]
              exact H2.out d (by omega)
          case measure => simp [intOf]; omega
        · obtain rfl : j = m := by omega
          have HFIN : Hid (T' = tableF (allF L)) := tab_ext (by rw [HTL.out, ← HM.out]; exact HTF.out.top HSM.out HALL.out) (fun d hd => H1.out d (by rw [HTL.out] at hd; exact hd))
          go_wp2_with fail
          go_ret2
          refine ⟨HBW.out, Or.inl ⟨HE.out, _, rfl, ?_⟩⟩
          rw [← HFIN.out]
          exact TabO.le ⟨hs, HTH.out⟩ (by omega)
    · intro x pf nf cf kl y1 y2 w4 cnt3 hkey hlk hvy hat hrg4 hlt hg4 hs4 hen
      obtain ⟨f, hfS, hkl⟩ := HONLY.out kl (HLH.out kl hlk)
      subst hkl
      have hval : ∀ zd, D.atKey (klit f) zd = .held (.slice pf nf cf) := fun zd => by
        rw [hat zd]
        have : valE (.slice pf nf cf) = some (y1, y2) := hvy
        cases this; rfl
      have hif := held_at HST.out.2.1 hfS hval
      obtain ⟨pp, cc0, hpe⟩ := hif.len
      have hnf : nf = f.length := by cases hpe; rfl
      have hne7 : f.length ≤ 7 := isF_len HOKE.out.2.1 ((HSM.out f).1 hfS)
      have hne0 : 0 < f.length := List.length_pos_iff.2 ((HSM.out f).1 hfS).1
      have hor : ∀ k, (some r : Option Nat) = some k → B ≤ k ∧ ∀ x, wo.heap[k]? ≠ some (.cells x 3 (0, 0)) := fun k e => by
        have h2 := Option.some.inj e
        subst h2
        exact ⟨Nat.le_trans HB.out hrw, fun x => iter_obj HRG.out x _ _⟩
      have hb4 : TbB B b r nS D S w w4 (fun z => left z && !z.sameKey (klit f)) cnt3 := ⟨hrg4, HST.out.2.1.grown hg4 hor, HST.out.2.2.grown hg4 HST.out.2.2.size (fun k e => by have h2 := Option.some.inj e; omega)⟩
      have hto4 := HTO.out.grown hg4 (Nat.lt_succ_self r) (hor r rfl).1 (hor r rfl).2
      have HB4 := Lib.hid hb4
      have HTO4 := Lib.hid hto4
      have HLH4 : Hid (∀ kl', (left kl' && !kl'.sameKey (klit f)) = true → Maps.has D kl' = true) := fun kl' h => HLH.out kl' (by simp only [Bool.and_eq_true] at h; exact h.1)
      have HIF := Lib.hid (held_at hb4.2.1 hfS hval)
      have HNF := Lib.hid hnf
      have HFS := Lib.hid hfS
      have HVAL := Lib.hid hval
      have HLK := Lib.hid hlk
      have hnf7 : nf ≤ 7 := by omega
      have hnf0 : 0 < nf := by omega
      have hcnt : cnt3 < cnt := hlt
      have HVX := Lib.hid (HVS.out f hfS)
      clear hkey hlk hvy hat hrg4 hg4 hs4 hval hif hpe hnf hfS hb4 hto4 hor hne7 hne0 hlt
      go_wp2_with fail
      have hBr : B ≤ r + 1 := Nat.le_trans HB.out (by omega)
      go_loopw [7] (fun u wr' => ∃ q, TbB B b r nS D S w wr' (fun z => left z && !z.sameKey (klit f)) cnt3 ∧ TabO (r + 1) B wr' u (T ++ List.replicate q []) ∧ (q = 0 ∨ T.length + q ≤ nf)) (fun u _ => nf - lenV u)
      case atStart => exact ⟨0, HB4.out, by simpa using HTO4.out, Or.inl rfl⟩
      case round =>
        obtain ⟨q, hbq, ⟨hs, hth⟩, hq⟩ := hrel
        obtain ⟨pu, cu, hue, -⟩ := (TabO.tab ⟨hs, hth⟩)
        obtain ⟨m, hm⟩ : ∃ m, (T ++ List.replicate q []).length = m := ⟨_, rfl⟩
        have hmq : m = T.length + q := by rw [← hm]; simp
        rw [hm] at hue
        subst hue
        have hth1 := hth.1
        rw [hm] at hth1
        have hrlt := hbq.1.lt
        have HTH := Lib.hid hth
        have HBQ := Lib.hid hbq
        have HM := Lib.hid hm
        have HMQ := Lib.hid hmq
        obtain ⟨tl, htl⟩ : ∃ tl, T.length = tl := ⟨_, rfl⟩
        rw [htl] at hq hmq
        have HTL := Lib.hid htl
        clear hth hbq hm htl
        by_cases hmn : m < nf
        · clear hmq
          go_wp2_with (at_builtin; refine wpList_append_lies _ rfl (.tmp 34) (.tmp 35) 91 rfl (r + 1) 22 i22 (.slice none 0 0) 1 24 under_tab hi22 hz0 hz1 hz2 rfl (by decide) (.slice pu m cu) m hs rfl (hth1.alloc _) ⟨wr.heap.size, 0, none⟩ 1 1 [.slice none 0 0] rfl rfl (World.news_of_block (cs := #[.slice none 0 0]) (t := 22) (fr := (0, 0)) (heap_alloc_new wr _)) (by simp [Value.oneCell']) (by decide) (by unfold maxLen; omega) (by omega) (by simp; omega) (wr.heap.size + 1) (by simp) ?_; intro g2 c2 w9 hown2 hgr2 hat2 hlt2; have HO2 := Lib.hid hown2; have HG2 := Lib.hid hgr2; clear hown2 hgr2 hat2 hlt2)
          have hbA : Below wr.heap.size wr (wr.alloc (.cells #[.slice none 0 0] 22)) := (Below.refl _ _).alloc (Nat.le_refl _) _
          have HT9 := Lib.hid (TabH.push hBr (HTH.out.below hbA (Nat.le_refl _)) (by rw [HM.out]; exact HO2.out) HG2.out)
          rw [rep_succ] at HT9
          have HB9 := Lib.hid ((HBQ.out.below hbA).grown HG2.out (fun k e => by
            have h5 := ((HTH.out.below hbA (Nat.le_refl _)).1.lt k e).1
            exact ⟨by omega, by omega, by omega, row_any (HTH.out.below hbA (Nat.le_refl _)).1 (by decide) hBr k e⟩))
          have hq2 : T.length + (q + 1) ≤ nf := by have := HMQ.out; omega
          have HQ2 := Lib.hid hq2
          clear hbA hq2
          go_roundw
          case rel => exact ⟨q + 1, HB9.out, ⟨_, HT9.out⟩, Or.inr HQ2.out⟩
          case measure => simp [lenV]; omega
        · obtain ⟨kf, hkf⟩ : ∃ kf, nf = kf + 1 := ⟨nf - 1, by omega⟩
          have hsub : (nf : Int) - 1 = (kf : Int) := by omega
          have hq2 : q = f.length - T.length := by have := HNF.out; have := HTL.out; omega
          have HQ2 := Lib.hid hq2
          have hkT : kf < (T ++ List.replicate q []).length := by rw [HM.out]; omega
          obtain ⟨g, cu', hge, hgr⟩ := HTH.out.form (by omega)
          obtain rfl : pu = some ⟨g, 0, none⟩ := by cases hge; rfl
          have hcellK := HTH.out.cellsAt kf hkT
          obtain ⟨pr, cr, hX, -⟩ := (HTH.out.2.2.1 kf hkT).lists
          obtain ⟨nr, hnr⟩ : ∃ nr, ((T ++ List.replicate q []).getD kf []).length = nr := ⟨_, rfl⟩
          rw [hnr] at hX
          rw [hX] at hcellK
          have hnr6 : nr ≤ 600 := by
            have h1 := HTF.out.rowlen kf
            rw [rep_getD] at hnr
            have h2 := HNS.out
            omega
          obtain ⟨cur, hblk⟩ := HTH.out.block
          obtain ⟨hrw', h1, h2, h3⟩ := HTH.out.2.2.1 kf hkT
          rw [hX, hnr] at h1
          have h2' : hrw'.length = nr := by rw [h2, hnr]
          have hbA : Below wr.heap.size wr (wr.alloc (.cells #[.slice pf nf cf] 23)) := (Below.refl _ _).alloc (Nat.le_refl _) _
          have HBA := Lib.hid hbA
          have HTA := Lib.hid (HTH.out.below hbA (Nat.le_refl _))
          have hga : g < wr.heap.size := (Array.getElem?_eq_some_iff.1 hblk).1
          have HBLK := Lib.hid ((hbA.block g hga).trans hblk)
          have HCE := Lib.hid ((hbA.cell (p := ⟨g, kf, none⟩) hga).trans hcellK)
          have HNE : Hid (∀ k, (Value.slice pr nr cr).ownBlock = some k → k ≠ g) := fun k e e2 => by
            subst e2
            exact owns_apart h1 HTH.out.1 (by decide) k e rfl
          have HIFR := Lib.hid ((held_at HBQ.out.2.1 HFS.out HVAL.out).below hbA (Nat.le_refl _))
          have H3 := Lib.hid (fun i hi => (h3 i hi).below hbA (Nat.le_refl _))
          have H2 := Lib.hid h2
          have HX := Lib.hid hX
          have HNR := Lib.hid hnr
          have HKT := Lib.hid hkT
          have HROW := Lib.hid h1
          have HKF := Lib.hid hkf
          have hkn : kf < nf := by omega
          clear h1 h2 h3 hblk hbA hq2 hq hX hnr hkT h2' hmq hge hkf hgr hth1
          go_wp2_with (at_builtin; refine wpList_append_lies _ rfl (.tmp 46) (.tmp 48) 22 rfl (r + 1) 23 i26 (.slice none 0 0) 1 24 Tryz.underlying22 hi26 hy0 hy1 hy2 rfl (by decide) (.slice pr nr cr) nr hrw' rfl (HROW.out.alloc _) ⟨wr.heap.size, 0, none⟩ 1 1 [.slice pf nf cf] rfl rfl (World.news_of_block (cs := #[.slice pf nf cf]) (t := 23) (fr := (0, 0)) (heap_alloc_new wr _)) (by simp [Value.oneCell']) (by decide) (by unfold maxLen; omega) (by omega) (by simp; omega) (wr.heap.size + 1) (by simp) ?_; intro g2 c2 w9 hown2 hgr2 hat2 hlt2; have hblk9 := (hgr2.block g (Nat.lt_of_lt_of_le hga HBA.out.size) (fun e => HNE.out g e.symm rfl)).trans HBLK.out; have hcell9 := hgr2.cell HCE.out (fun e => HNE.out g e.symm rfl); have hfrz9 := frozen_of_row w9 g kf cur _ hblk9; have HO2 := Lib.hid hown2; have HG2 := Lib.hid hgr2; have HA2 := Lib.hid hat2; clear hown2 hgr2 hat2 hlt2)
          have hTS := TabH.store (v' := .slice (some ⟨g2, 0, none⟩) (nr + 1) c2) (L' := (T ++ List.replicate q []).getD kf [] ++ [f]) hBr HTA.out HKT.out (by rw [HX.out]; exact HG2.out) (rowsO_push (w := wr.alloc (.cells #[.slice pf nf cf] 23)) (v := .slice pr nr cr) (hs := hrw') hBr (by rw [HNR.out]; exact HROW.out.alloc _) H2.out H3.out HIFR.out (by rw [HNR.out]; exact HO2.out) HG2.out)
            (HA2.out.imp (fun e => by rw [HX.out]; exact e.symm) (fun e => by show some g2 = some _; rw [e]; simp))
          have hbo := row_any HTA.out.1 (by decide) hBr g rfl
          have hgr1 := (HTA.out.1.lt g rfl).1
          have HB9 := Lib.hid (((HBQ.out.below HBA.out).grown HG2.out (fun k e => by
            have h5 := ((HROW.out.alloc (.cells #[.slice pf nf cf] 23 (0, 0))).lt k e).1
            exact ⟨by omega, by omega, by omega, row_any (HROW.out.alloc (.cells #[.slice pf nf cf] 23 (0, 0))) (by decide) hBr k e⟩)).grown (grown_at w9 g kf (.slice (some ⟨g2, 0, none⟩) (nr + 1) c2)) (fun k e => by
              obtain rfl := Option.some.inj e
              exact ⟨by omega, by omega, by omega, hbo.1, fun c e => by rw [hblk9] at e; cases e⟩))
          have hTF := HTF.out.push (done' := doneOf (fun z => left z && !z.sameKey (klit f))) HFS.out (by have := HNF.out; omega) (fun h => by unfold doneOf at h; rw [HLK.out] at h; cases h) (fun x hx => done_step HVX.out (HVS.out x hx))
          rw [← HQ2.out, show f.length - 1 = kf by have := HNF.out; have := HKF.out; omega, ← rep_getD (q := q)] at hTF
          have HTF9 := Lib.hid hTF
          have HTS := Lib.hid hTS
          clear hTF hTS hbo
          go_roundw
          case rel => exact ⟨_, cnt3, _, HB9.out, ⟨_, HTS.out⟩, HTF9.out, HLH4.out⟩
          case measure => rw [HB9.out.1.left_eq, HRG.out.left_eq]; exact hcnt
end Go.Proofs.YtddnjimpdidpaaaGreatDoor
