/-
  A table of faces by dimension: owned rows of owned rows of headers (words); the faces of each dimension (plain).
-/
import Derived.Test.YtoheffkiohfmoaaGreatDoorCelX
namespace Go.Proofs.YtoheffkiohfmoaaGreatDoor
open Go Go.RowKit Go.Maps

theorem Tryz.info22 : (Tryz.prog.info? 22).map (fun i => (i.zero, i.size, i.bytes)) = some (some (.slice none 0 0), 1, 24) := by kernel_rfl

theorem under_tab : Tryz.prog.underlying 128 = some (.slice 22) := by kernel_rfl
/-- an owned row's block is no block of ints -/
theorem row_any {w : World} {O : Nat} {e : TypeId} {v : Value} {n : Nat} {hs : List Value} {B : Nat} (h : w.ownsRow O e 1 v n hs) (he : e ≠ 3) (hB : B ≤ O) : ∀ k, v.ownBlock = some k → B ≤ k ∧ ∀ c, w.heap[k]? ≠ some (.cells c 3 (0, 0)) := fun k hk => by
  rcases h.2 with ⟨rfl, _⟩ | ⟨g, cap, cur, rfl, hb, hgg, -⟩
  · cases hk
  · cases hk
    refine ⟨Nat.le_trans hB hb, fun c e1 => ?_⟩
    rw [hgg] at e1
    cases e1
    exact he rfl
theorem RowsO.far {O B : Nat} {w w' : World} {row : Option Nat} {v : Value} {L : List (List Int)} (h : RowsO O B w v L) (hg : w.grownBy w' row) (hr : ∀ k, row = some k → v.ownBlock ≠ some k ∧ B ≤ k ∧ ∀ c, w.heap[k]? ≠ some (.cells c 3 (0, 0))) : RowsO O B w' v L := by
  obtain ⟨hs, h1, h2, h3⟩ := h
  exact ⟨hs, owns_keep h1 fun k hk => hg.block k (h1.lt k hk).2 (fun e => (hr k e.symm).1 hk), h2, fun i hi => (h3 i hi).grown hg fun k e => (hr k e).2⟩
theorem RowsO.blk {O B : Nat} {w : World} {v : Value} {L : List (List Int)} (h : RowsO O B w v L) : ∀ k, v.ownBlock = some k → O ≤ k ∧ k < w.heap.size := fun k hk => by
  obtain ⟨hs, h1, -⟩ := h
  exact h1.lt k hk

/-- header row of headers; hs: the outer row's cells -/
def TabH (O B : Nat) (w : World) (v : Value) (T : List (List (List Int))) (hs : List Value) : Prop :=
  w.ownsRow O 22 1 v T.length hs ∧ hs.length = T.length ∧ (∀ i, i < T.length → RowsO O B w (hs.getD i .nilIface) (T.getD i [])) ∧
    ∀ i j, i < T.length → j < T.length → i ≠ j → ∀ k, (hs.getD i .nilIface).ownBlock = some k → (hs.getD j .nilIface).ownBlock ≠ some k
def TabO (O B : Nat) (w : World) (v : Value) (T : List (List (List Int))) : Prop := ∃ hs, TabH O B w v T hs
theorem TabO.nil (O B : Nat) (w : World) : TabO O B w (.slice none 0 0) [] := ⟨[], World.ownsRow_nil _ _ _ _, rfl, (fun i h => absurd h (by simp)), fun i j h => absurd h (by simp)⟩
theorem TabH.below {O B C : Nat} {w w' : World} {v : Value} {T : List (List (List Int))} {hs : List Value} (h : TabH O B w v T hs) (hb : Below C w w') (hC : w.heap.size ≤ C) : TabH O B w' v T hs :=
  ⟨owns_keep h.1 fun k hk => hb.block k (Nat.lt_of_lt_of_le (h.1.lt k hk).2 hC), h.2.1, fun i hi => (h.2.2.1 i hi).below hb hC, h.2.2.2⟩
theorem TabO.below {O B C : Nat} {w w' : World} {v : Value} {T : List (List (List Int))} (h : TabO O B w v T) (hb : Below C w w') (hC : w.heap.size ≤ C) : TabO O B w' v T := h.imp fun _ h => h.below hb hC
theorem TabO.le {O O' B : Nat} {w : World} {v : Value} {T : List (List (List Int))} (h : TabO O B w v T) (hO : O' ≤ O) : TabO O' B w v T :=
  h.imp fun _ h => ⟨Joins.ownsRow_le h.1 hO, h.2.1, fun i hi => (h.2.2.1 i hi).le hO, h.2.2.2⟩
/-- .. while another block is written -/
theorem TabH.grown {O B c : Nat} {w w' : World} {v : Value} {T : List (List (List Int))} {hs : List Value} (h : TabH O B w v T hs) (hg : w.grownBy w' (some c)) (hc : c < O) (hB : B ≤ c) (ho : ∀ x, w.heap[c]? ≠ some (.cells x 3 (0, 0))) : TabH O B w' v T hs :=
  ⟨owns_keep h.1 fun k hk => hg.block k (h.1.lt k hk).2 (fun e => by have h1 := (h.1.lt k hk).1; have h2 := Option.some.inj e; omega), h.2.1, fun i hi => (h.2.2.1 i hi).grown hg hc hB ho, h.2.2.2⟩
theorem TabO.grown {O B c : Nat} {w w' : World} {v : Value} {T : List (List (List Int))} (h : TabO O B w v T) (hg : w.grownBy w' (some c)) (hc : c < O) (hB : B ≤ c) (ho : ∀ x, w.heap[c]? ≠ some (.cells x 3 (0, 0))) : TabO O B w' v T :=
  h.imp fun _ h => h.grown hg hc hB ho

/-- a new row, nil, behind append's law -/
theorem TabH.push {O B : Nat} {w w' : World} {v v' : Value} {T : List (List (List Int))} {hs : List Value} (hB : B ≤ O) (h : TabH O B w v T hs) (h' : w'.ownsRow O 22 1 v' (T.length + 1) (hs ++ [.slice none 0 0])) (hg : w.grownBy w' v.ownBlock) :
    TabH O B w' v' (T ++ [[]]) (hs ++ [.slice none 0 0]) := by
  have hr := row_any h.1 (by decide) hB
  have hl := h.2.1
  have e0 : ∀ i, i < T.length → (hs ++ [Value.slice none 0 0]).getD i .nilIface = hs.getD i .nilIface := fun i hi => by simp [List.getD_eq_getElem?_getD, List.getElem?_append_left (show i < hs.length by omega)]
  have e1 : (hs ++ [Value.slice none 0 0]).getD T.length .nilIface = .slice none 0 0 := by rw [← hl]; simp [List.getD_eq_getElem?_getD]
  refine ⟨by simpa using h', by simp [hl], fun i hi => ?_, fun i j hi hj hij k hk => ?_⟩
  · rcases (show i < T.length ∨ i = T.length by simp at hi; omega) with hlt | rfl
    · have e2 : (T ++ [[]]).getD i [] = T.getD i [] := by simp [List.getD_eq_getElem?_getD, List.getElem?_append_left hlt]
      rw [e0 i hlt, e2]
      exact (h.2.2.1 i hlt).far hg fun k hk => by
        obtain ⟨hs', h1, -⟩ := h.2.2.1 i hlt
        exact ⟨fun e => owns_apart h1 h.1 (by decide) k e hk, hr k hk⟩
    · have e2 : (T ++ [[]]).getD T.length [] = [] := by simp [List.getD_eq_getElem?_getD]
      rw [e1, e2]
      exact RowsO.nil _ _ _
  · simp only [List.length_append, List.length_cons, List.length_nil] at hi hj
    rcases (show i < T.length ∨ i = T.length by omega) with hlt | rfl
    · rw [e0 i hlt] at hk
      rcases (show j < T.length ∨ j = T.length by omega) with hlt2 | rfl
      · rw [e0 j hlt2]
        exact h.2.2.2 i j hlt hlt2 hij k hk
      · rw [e1]; exact fun e => by cases e
    · rw [e1] at hk; cases hk

theorem getD_set_same {α : Type} {d x : α} {l : List α} {i : Nat} (h : i < l.length) : (l.set i x).getD i d = x := by simp [List.getD_eq_getElem?_getD, h]
theorem getD_set_other {α : Type} {d x : α} {l : List α} {i j : Nat} (h : i ≠ j) : (l.set i x).getD j d = l.getD j d := by simp [List.getD_eq_getElem?_getD, List.getElem?_set_ne h]

/-- a row is written in its own block -/
theorem TabH.row {O B : Nat} {w w' : World} {v : Value} {T : List (List (List Int))} {hs : List Value} {i : Nat} {L' : List (List Int)} (hB : B ≤ O) (h : TabH O B w v T hs) (hi : i < T.length) (hg : w.grownBy w' (hs.getD i .nilIface).ownBlock)
    (hR : RowsO O B w' (hs.getD i .nilIface) L') : TabH O B w' v (T.set i L') hs := by
  have h1 := h.2.2.1 i hi
  have hne : ∀ k, (hs.getD i .nilIface).ownBlock = some k → B ≤ k ∧ ∀ c, w.heap[k]? ≠ some (.cells c 3 (0, 0)) := by
    obtain ⟨hs', h2, -⟩ := h1
    exact row_any h2 (by decide) hB
  refine ⟨?_, by rw [List.length_set]; exact h.2.1, fun j hj => ?_, fun j k hj hk => ?_⟩
  · rw [List.length_set]
    refine owns_keep h.1 fun k hk => hg.block k (h.1.lt k hk).2 fun e => ?_
    obtain ⟨hs', h2, -⟩ := h1
    exact owns_apart h2 h.1 (by decide) k e.symm hk
  · rw [List.length_set] at hj
    by_cases hij : i = j
    · subst hij
      rw [getD_set_same hi]
      exact hR
    · rw [getD_set_other hij]
      exact (h.2.2.1 j hj).far hg fun k hk => ⟨fun e => h.2.2.2 i j hi hj hij k hk e, hne k hk⟩
  · rw [List.length_set] at hj hk
    exact h.2.2.2 j k hj hk

/-- a row is appended to and stored back -/
theorem TabH.store {O B g c n : Nat} {w w' : World} {T : List (List (List Int))} {hs : List Value} {i : Nat} {v' : Value} {L' : List (List Int)} (hB : B ≤ O) (h : TabH O B w (.slice (some ⟨g, 0, none⟩) n c) T hs) (hi : i < T.length) (hg : w.grownBy w' (hs.getD i .nilIface).ownBlock)
    (hR : RowsO O B w' v' L') (hat : v'.ownBlock = (hs.getD i .nilIface).ownBlock ∨ v'.ownBlock = some w.heap.size) : TabH O B (w'.setCell ⟨g, i, none⟩ v') (.slice (some ⟨g, 0, none⟩) n c) (T.set i L') (hs.set i v') := by
  have h1 := h.2.2.1 i hi
  have hl := h.2.1
  have hne : ∀ k, (hs.getD i .nilIface).ownBlock = some k → B ≤ k ∧ ∀ c, w.heap[k]? ≠ some (.cells c 3 (0, 0)) := by
    obtain ⟨hs', h2, -⟩ := h1
    exact row_any h2 (by decide) hB
  have hout : w'.ownsRow O 22 1 (.slice (some ⟨g, 0, none⟩) n c) T.length hs := by
    refine owns_keep h.1 fun k hk => hg.block k (h.1.lt k hk).2 fun e => ?_
    obtain ⟨hs', h2, -⟩ := h1
    exact owns_apart h2 h.1 (by decide) k e.symm hk
  have hn : n = T.length := by
    rcases hout.2 with ⟨e, _⟩ | ⟨g', cap', cur, e, _⟩
    · cases e
    · cases e; rfl
  subst hn
  obtain ⟨hst, hgs⟩ := hout.stored i v'
  have hgo := row_any hout (by decide) hB g rfl
  have hap : ∀ (x : Value) (L : List (List Int)), RowsO O B w' x L → RowsO O B (w'.setCell ⟨g, i, none⟩ v') x L := fun x L hx => hx.far hgs fun k hk => by
    obtain rfl := Option.some.inj hk
    obtain ⟨hs', h2, -⟩ := hx
    exact ⟨fun e => owns_apart h2 hout (by decide) g e rfl, hgo⟩
  refine ⟨by rw [List.length_set]; exact hst, by simp [hl], fun j hj => ?_, fun j k hj hk hjk b hb => ?_⟩
  · rw [List.length_set] at hj
    by_cases hij : i = j
    · subst hij
      rw [getD_set_same hi, getD_set_same (by omega)]
      exact hap _ _ hR
    · rw [getD_set_other hij, getD_set_other hij]
      exact hap _ _ ((h.2.2.1 j hj).far hg fun k hk => ⟨fun e => h.2.2.2 i j hi hj hij k hk e, hne k hk⟩)
  · rw [List.length_set] at hj hk
    have hfr : ∀ q, q < T.length → (hs.getD q .nilIface).ownBlock ≠ some w.heap.size := fun q hq e => by
      have := ((h.2.2.1 q hq).blk _ e).2
      omega
    by_cases hij : i = j
    · subst hij
      rw [getD_set_same (by omega)] at hb
      rw [getD_set_other hjk]
      rcases hat with h2 | h2
      · exact h.2.2.2 i k hj hk hjk b (h2 ▸ hb)
      · rw [h2] at hb
        obtain rfl := Option.some.inj hb
        exact hfr k hk
    · rw [getD_set_other hij] at hb
      by_cases hik : i = k
      · subst hik
        rw [getD_set_same (by omega)]
        rcases hat with h2 | h2
        · rw [h2]; exact h.2.2.2 j i hj hk hjk b hb
        · rw [h2]
          intro e
          obtain rfl := Option.some.inj e
          exact hfr j hj hb
      · rw [getD_set_other hik]
        exact h.2.2.2 j k hj hk hjk b hb

/-- what it reads as -/
def TabIn (B : Nat) (w : World) (v : Value) (T : List (List (List Int))) : Prop :=
  ∃ (p : Option Addr) (c : Nat), v = .slice p T.length c ∧ T.length ≤ c ∧ (p = none → c = 0) ∧
    ∀ i, i < T.length → ∃ b off u, p = some ⟨b, off, none⟩ ∧ w.cell? ⟨b, off + i, none⟩ = some u ∧ ListsIn B w u (T.getD i [])
theorem TabIn.below {B C : Nat} {w w' : World} {v : Value} {T : List (List (List Int))} (h : TabIn B w v T) (hb : Below C w w') (hC : w.heap.size ≤ C) : TabIn B w' v T := by
  obtain ⟨p, c, hv, hc, hn, hx⟩ := h
  refine ⟨p, c, hv, hc, hn, fun i hi => ?_⟩
  obtain ⟨b, off, u, e1, e2, e3⟩ := hx i hi
  exact ⟨b, off, u, e1, by rw [hb.cell (Nat.lt_of_lt_of_le (mem_lt e2) hC)]; exact e2, e3.below hb hC⟩
theorem TabH.cellsAt {O B : Nat} {w : World} {g n c : Nat} {T : List (List (List Int))} {hs : List Value} (h : TabH O B w (.slice (some ⟨g, 0, none⟩) n c) T hs) (i : Nat) (hi : i < T.length) : w.cell? ⟨g, i, none⟩ = some (hs.getD i .nilIface) := by
  have h2 := h.2.1
  have := h.1.cells (g := g) rfl i (hs.getD i .nilIface) (by rw [List.getD_eq_getElem?_getD, List.getElem?_eq_getElem (by omega)]; rfl)
  rwa [add_zero] at this
theorem TabH.form {O B : Nat} {w : World} {v : Value} {T : List (List (List Int))} {hs : List Value} (h : TabH O B w v T hs) (hp : 0 < T.length) : ∃ g c, v = .slice (some ⟨g, 0, none⟩) T.length c ∧ O ≤ g := by
  rcases h.1.2 with ⟨rfl, h0⟩ | ⟨g, cap, cur, rfl, hb, -⟩
  · omega
  · exact ⟨g, cap, rfl, hb⟩
theorem TabO.tab {O B : Nat} {w : World} {v : Value} {T : List (List (List Int))} (h : TabO O B w v T) : TabIn B w v T := by
  obtain ⟨hs, h⟩ := h
  rcases h.1.2 with ⟨rfl, h0⟩ | ⟨g, cap, cur, rfl, hb, hgg, hle, -⟩
  · rw [List.length_eq_zero_iff.1 h0]
    exact ⟨none, 0, rfl, Nat.le_refl _, fun _ => rfl, fun i h => absurd h (by simp)⟩
  · refine ⟨_, cap, rfl, hle, (fun e => by cases e), fun i hi => ⟨g, 0, _, rfl, ?_, (h.2.2.1 i hi).lists⟩⟩
    rw [Nat.zero_add]
    exact h.cellsAt i hi

/-! the faces of each dimension -/
def rowF (A : List (List Int)) (d : Nat) : List (List Int) := A.filter fun f => decide (f.length = d + 1)
def topN : List (List Int) → Nat
  | [] => 0
  | f :: A => max f.length (topN A)
theorem topN_ge : ∀ {A : List (List Int)} {f : List Int}, f ∈ A → f.length ≤ topN A
  | [], _, h => by cases h
  | g :: A, f, h => by
    rcases List.mem_cons.1 h with rfl | h
    · exact Nat.le_max_left _ _
    · exact Nat.le_trans (topN_ge h) (Nat.le_max_right _ _)
theorem topN_mem : ∀ (A : List (List Int)), topN A = 0 ∨ ∃ f ∈ A, f.length = topN A
  | [] => Or.inl rfl
  | g :: A => by
    unfold topN
    rcases Nat.le_total g.length (topN A) with h | h
    · rw [Nat.max_eq_right h]
      rcases topN_mem A with h0 | ⟨f, hf, e⟩
      · exact Or.inl h0
      · exact Or.inr ⟨f, List.mem_cons_of_mem _ hf, e⟩
    · rw [Nat.max_eq_left h]
      exact Or.inr ⟨g, List.mem_cons_self .., rfl⟩
theorem topN_of {A : List (List Int)} {m : Nat} (h1 : ∀ f ∈ A, f.length ≤ m) (h2 : m = 0 ∨ ∃ f ∈ A, f.length = m) : topN A = m := by
  apply Nat.le_antisymm
  · rcases topN_mem A with h | ⟨f, hf, e⟩
    · omega
    · rw [← e]; exact h1 f hf
  · rcases h2 with h | ⟨f, hf, e⟩
    · omega
    · rw [← e]; exact topN_ge hf
def tableF (A : List (List Int)) : List (List (List Int)) := (List.range (topN A)).map (rowF A)
theorem tableF_len (A : List (List Int)) : (tableF A).length = topN A := by simp [tableF]
theorem tableF_at {A : List (List Int)} {d : Nat} (h : d < topN A) : (tableF A).getD d [] = rowF A d := by
  simp [tableF, List.getD_eq_getElem?_getD, h]
theorem rowF_sorted {A : List (List Int)} (h : SortedF A) (d : Nat) : SortedF (rowF A d) := h.sublist List.filter_sublist
theorem mem_rowF {A : List (List Int)} {d : Nat} {f : List Int} : f ∈ rowF A d ↔ f ∈ A ∧ f.length = d + 1 := by simp [rowF]
theorem rowF_len (A : List (List Int)) (d : Nat) : (rowF A d).length ≤ A.length := List.length_filter_le _ _

/-- the table under way: row d holds the faces with d + 1 vertices that were met -/
def TabF (S : List (List Int)) (done : List Int → Prop) (T : List (List (List Int))) : Prop :=
  (∀ d, d < T.length → (T.getD d []).Nodup ∧ ∀ g, g ∈ T.getD d [] ↔ (g ∈ S ∧ done g ∧ g.length = d + 1)) ∧ (∀ g ∈ S, done g → g.length ≤ T.length) ∧ (T.length = 0 ∨ ∃ g ∈ S, g.length = T.length)
theorem TabF.nil {S : List (List Int)} {done : List Int → Prop} (h : ∀ g ∈ S, ¬ done g) : TabF S done [] := ⟨fun d h => absurd h (by simp), fun g hg hd => absurd hd (h g hg), Or.inl rfl⟩
theorem rep_getD {T : List (List (List Int))} {q d : Nat} : (T ++ List.replicate q []).getD d [] = T.getD d [] := by
  rcases Nat.lt_or_ge d T.length with h | h
  · simp [List.getD_eq_getElem?_getD, List.getElem?_append_left h]
  · rw [List.getD_eq_getElem?_getD, List.getElem?_append_right h, List.getElem?_replicate, List.getD_eq_getElem?_getD, List.getElem?_eq_none h]
    split <;> rfl
theorem TabF.push {S : List (List Int)} {done done' : List Int → Prop} {T : List (List (List Int))} {f : List Int} (h : TabF S done T) (hf : f ∈ S) (h0 : 0 < f.length) (hnd : ¬ done f) (hd : ∀ g ∈ S, (done' g ↔ (done g ∨ g = f))) :
    TabF S done' ((T ++ List.replicate (f.length - T.length) []).set (f.length - 1) (T.getD (f.length - 1) [] ++ [f])) := by
  have hl : ((T ++ List.replicate (f.length - T.length) []).set (f.length - 1) (T.getD (f.length - 1) [] ++ [f])).length = T.length + (f.length - T.length) := by simp
  have hT : ∀ d, (T.getD d []).Nodup ∧ ∀ g, g ∈ T.getD d [] ↔ (g ∈ S ∧ done g ∧ g.length = d + 1) := fun d => by
    rcases Nat.lt_or_ge d T.length with h1 | h1
    · exact h.1 d h1
    · rw [List.getD_eq_getElem?_getD, List.getElem?_eq_none h1]
      refine ⟨List.nodup_nil, fun g => ⟨fun h => absurd h (by simp), fun ⟨h2, h3, h4⟩ => ?_⟩⟩
      have := h.2.1 g h2 h3
      omega
  refine ⟨fun d hd' => ?_, fun g hg hd' => ?_, ?_⟩
  · rw [hl] at hd'
    by_cases e : f.length - 1 = d
    · subst e
      rw [getD_set_same (by simp; omega)]
      refine ⟨List.nodup_append.2 ⟨(hT _).1, by simp, fun x hx y hy => ?_⟩, fun g => ?_⟩
      · obtain rfl := List.mem_singleton.1 hy
        rintro rfl
        exact hnd (((hT _).2 x).1 hx).2.1
      · rw [List.mem_append, (hT _).2 g, List.mem_singleton]
        constructor
        · rintro (⟨h1, h2, h3⟩ | rfl)
          · exact ⟨h1, (hd g h1).2 (Or.inl h2), h3⟩
          · exact ⟨hf, (hd g hf).2 (Or.inr rfl), by omega⟩
        · rintro ⟨h1, h2, h3⟩
          rcases (hd g h1).1 h2 with h4 | h4
          · exact Or.inl ⟨h1, h4, h3⟩
          · exact Or.inr h4
    · rw [getD_set_other e, rep_getD]
      refine ⟨(hT d).1, fun g => ((hT d).2 g).trans ⟨fun ⟨h1, h2, h3⟩ => ⟨h1, (hd g h1).2 (Or.inl h2), h3⟩, fun ⟨h1, h2, h3⟩ => ⟨h1, ?_, h3⟩⟩⟩
      rcases (hd g h1).1 h2 with h4 | rfl
      · exact h4
      · omega
  · rw [hl]
    rcases (hd g hg).1 hd' with h1 | rfl
    · have := h.2.1 g hg h1
      omega
    · omega
  · rw [hl]
    rcases Nat.lt_or_ge T.length f.length with h1 | h1
    · exact Or.inr ⟨f, hf, by omega⟩
    · rcases h.2.2 with h2 | ⟨g, h2, h3⟩
      · omega
      · exact Or.inr ⟨g, h2, by omega⟩
theorem TabF.iff {S : List (List Int)} {done done' : List Int → Prop} {T : List (List (List Int))} (h : TabF S done T) (hd : ∀ g ∈ S, (done' g ↔ done g)) : TabF S done' T :=
  ⟨fun d hl => ⟨(h.1 d hl).1, fun g => ((h.1 d hl).2 g).trans ⟨fun ⟨h1, h2, h3⟩ => ⟨h1, (hd g h1).2 h2, h3⟩, fun ⟨h1, h2, h3⟩ => ⟨h1, (hd g h1).1 h2, h3⟩⟩⟩, fun g hg h1 => h.2.1 g hg ((hd g hg).1 h1), h.2.2⟩
/-- at the end -/
theorem TabF.top {S L : List (List Int)} {done : List Int → Prop} {T : List (List (List Int))} (h : TabF S done T) (hS : ∀ g, g ∈ S ↔ IsF L g) (hd : ∀ g ∈ S, done g) : T.length = topN (allF L) :=
  (topN_of (fun f hf => h.2.1 f ((hS f).2 (mem_allF.1 hf)) (hd f ((hS f).2 (mem_allF.1 hf)))) (h.2.2.imp id fun ⟨g, h1, h2⟩ => ⟨g, mem_allF.2 ((hS g).1 h1), h2⟩)).symm
theorem TabF.rowE {S L L' : List (List Int)} {done : List Int → Prop} {T : List (List (List Int))} {d : Nat} (h : TabF S done T) (hS : ∀ g, g ∈ S ↔ IsF L g) (hd : ∀ g ∈ S, done g) (hl : d < T.length) (hs : SortedF L') (hm : ∀ g, g ∈ L' ↔ g ∈ T.getD d []) : L' = rowF (allF L) d :=
  SortedF.ext hs (rowF_sorted (allF_sorted L) d) fun g => by
    rw [hm, (h.1 d hl).2 g, mem_rowF, mem_allF, ← hS]
    exact ⟨fun ⟨h1, h2, h3⟩ => ⟨h1, h3⟩, fun ⟨h1, h3⟩ => ⟨h1, hd g h1, h3⟩⟩
end Go.Proofs.YtoheffkiohfmoaaGreatDoor
