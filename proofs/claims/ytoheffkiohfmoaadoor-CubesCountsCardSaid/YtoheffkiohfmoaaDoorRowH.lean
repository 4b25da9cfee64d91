/-
  Rows of rows of ints that are written in place: each row owned, no two in one block.
-/
import Derived.Test.YtoheffkiohfmoaaDoorRd
set_option linter.unusedVariables false
namespace Go.Proofs.YtoheffkiohfmoaaDoor
open Go Go.RowKit Go.Maps

theorem getD_setS {α : Type} {d x : α} {l : List α} {i : Nat} (h : i < l.length) : (l.set i x).getD i d = x := by simp [List.getD_eq_getElem?_getD, h]
theorem getD_setO {α : Type} {d x : α} {l : List α} {i j : Nat} (h : i ≠ j) : (l.set i x).getD j d = l.getD j d := by simp [List.getD_eq_getElem?_getD, List.getElem?_set_ne h]
/-- an owned row of ints -/
def IntO (O : Nat) (w : World) (v : Value) (xs : List Int) : Prop := w.ownsRow O 3 1 v xs.length (intVs xs)
theorem IntO.nil (O : Nat) (w : World) : IntO O w (.slice none 0 0) [] := World.ownsRow_nil _ _ _ _
theorem IntO.below {O C : Nat} {w w' : World} {v : Value} {xs : List Int} (h : IntO O w v xs) (hb : Below C w w') (hC : w.heap.size ≤ C) : IntO O w' v xs :=
  owns_keep h fun k hk => hb.block k (Nat.lt_of_lt_of_le (h.lt k hk).2 hC)
theorem IntO.far {O : Nat} {w w' : World} {row : Option Nat} {v : Value} {xs : List Int} (h : IntO O w v xs) (hg : w.grownBy w' row) (hr : ∀ k, row = some k → v.ownBlock ≠ some k) : IntO O w' v xs :=
  owns_keep h fun k hk => hg.block k (h.lt k hk).2 (fun e => hr k e.symm hk)
theorem IntO.ints {O B : Nat} {w : World} {v : Value} {xs : List Int} (h : IntO O w v xs) : IntsIn B w v xs := ints_owned h rfl

/-- header row of owned rows; hs: the outer row's cells -/
def HasH (O : Nat) (w : World) (v : Value) (T : List (List Int)) (hs : List Value) : Prop :=
  w.ownsRow O 79 1 v T.length hs ∧ hs.length = T.length ∧ (∀ i, i < T.length → IntO O w (hs.getD i .nilIface) (T.getD i [])) ∧
    ∀ i j, i < T.length → j < T.length → i ≠ j → ∀ k, (hs.getD i .nilIface).ownBlock = some k → (hs.getD j .nilIface).ownBlock ≠ some k
def HasO (O : Nat) (w : World) (v : Value) (T : List (List Int)) : Prop := ∃ hs, HasH O w v T hs
theorem HasH.below {O C : Nat} {w w' : World} {v : Value} {T : List (List Int)} {hs : List Value} (h : HasH O w v T hs) (hb : Below C w w') (hC : w.heap.size ≤ C) : HasH O w' v T hs :=
  ⟨owns_keep h.1 fun k hk => hb.block k (Nat.lt_of_lt_of_le (h.1.lt k hk).2 hC), h.2.1, fun i hi => (h.2.2.1 i hi).below hb hC, h.2.2.2⟩
theorem HasO.below {O C : Nat} {w w' : World} {v : Value} {T : List (List Int)} (h : HasO O w v T) (hb : Below C w w') (hC : w.heap.size ≤ C) : HasO O w' v T := h.imp fun _ h => h.below hb hC
/-- as it is made: all rows nil -/
theorem HasH.made {O : Nat} {w : World} {v : Value} {n : Nat} (h : w.ownsRow O 79 1 v n (List.replicate n (.slice none 0 0))) : HasH O w v (List.replicate n []) (List.replicate n (.slice none 0 0)) := by
  have e : ∀ i, i < n → (List.replicate n (Value.slice none 0 0)).getD i .nilIface = .slice none 0 0 := fun i hi => by simp [List.getD_eq_getElem?_getD, hi]
  have e2 : ∀ i, i < n → (List.replicate n ([] : List Int)).getD i [] = [] := fun i hi => by simp [List.getD_eq_getElem?_getD, hi]
  refine ⟨by rw [List.length_replicate]; exact h, by simp, fun i hi => ?_, fun i j hi hj hij k hk => ?_⟩
  · rw [List.length_replicate] at hi
    rw [e i hi, e2 i hi]; exact IntO.nil _ _
  · rw [List.length_replicate] at hi
    rw [e i hi] at hk; cases hk
/-- a row is appended to and stored back -/
theorem HasH.store {O g c n : Nat} {w w' : World} {T : List (List Int)} {hs : List Value} {i : Nat} {v' : Value} {xs' : List Int} (h : HasH O w (.slice (some ⟨g, 0, none⟩) n c) T hs) (hi : i < T.length) (hg : w.grownBy w' (hs.getD i .nilIface).ownBlock)
    (hR : IntO O w' v' xs') (hat : v'.ownBlock = (hs.getD i .nilIface).ownBlock ∨ v'.ownBlock = some w.heap.size) : HasH O (w'.setCell ⟨g, i, none⟩ v') (.slice (some ⟨g, 0, none⟩) n c) (T.set i xs') (hs.set i v') := by
  have h1 := h.2.2.1 i hi
  have hl := h.2.1
  have hout : w'.ownsRow O 79 1 (.slice (some ⟨g, 0, none⟩) n c) T.length hs := by
    refine owns_keep h.1 fun k hk => hg.block k (h.1.lt k hk).2 fun e => ?_
    exact owns_apart h1 h.1 (by decide) k e.symm hk
  have hn : n = T.length := by
    rcases hout.2 with ⟨e, _⟩ | ⟨g', cap', cur, e, _⟩
    · cases e
    · cases e; rfl
  subst hn
  obtain ⟨hst, hgs⟩ := hout.stored i v'
  have hap : ∀ (x : Value) (xs : List Int), IntO O w' x xs → IntO O (w'.setCell ⟨g, i, none⟩ v') x xs := fun x xs hx => hx.far hgs fun k hk => by
    obtain rfl := Option.some.inj hk
    exact fun e => owns_apart hx hout (by decide) g e rfl
  refine ⟨by rw [List.length_set]; exact hst, by simp [hl], fun j hj => ?_, fun j k hj hk hjk b hb => ?_⟩
  · rw [List.length_set] at hj
    by_cases hij : i = j
    · subst hij
      rw [getD_setS hi, getD_setS (by omega)]
      exact hap _ _ hR
    · rw [getD_setO hij, getD_setO hij]
      exact hap _ _ ((h.2.2.1 j hj).far hg fun k hk => fun e => h.2.2.2 i j hi hj hij k hk e)
  · rw [List.length_set] at hj hk
    have hfr : ∀ q, q < T.length → (hs.getD q .nilIface).ownBlock ≠ some w.heap.size := fun q hq e => by
      have := ((h.2.2.1 q hq).lt _ e).2
      omega
    by_cases hij : i = j
    · subst hij
      rw [getD_setS (by omega)] at hb
      rw [getD_setO hjk]
      rcases hat with h2 | h2
      · exact h.2.2.2 i k hj hk hjk b (h2 ▸ hb)
      · rw [h2] at hb
        obtain rfl := Option.some.inj hb
        exact hfr k hk
    · rw [getD_setO hij] at hb
      by_cases hik : i = k
      · subst hik
        rw [getD_setS (by omega)]
        rcases hat with h2 | h2
        · rw [h2]; exact h.2.2.2 j i hj hk hjk b hb
        · rw [h2]
          intro e
          obtain rfl := Option.some.inj e
          exact hfr j hj hb
      · rw [getD_setO hik]
        exact h.2.2.2 j k hj hk hjk b hb
/-- .. while another block is written that is none of its own -/
theorem HasH.far {O : Nat} {w w' : World} {row : Option Nat} {v : Value} {T : List (List Int)} {hs : List Value} (h : HasH O w v T hs) (hg : w.grownBy w' row) (hr : ∀ k, row = some k → v.ownBlock ≠ some k ∧ ∀ i, i < T.length → (hs.getD i .nilIface).ownBlock ≠ some k) : HasH O w' v T hs :=
  ⟨owns_keep h.1 fun k hk => hg.block k (h.1.lt k hk).2 (fun e => (hr k e.symm).1 hk), h.2.1, fun i hi => (h.2.2.1 i hi).far hg fun k hk => (hr k hk).2 i hi, h.2.2.2⟩
theorem HasH.cellsAt {O : Nat} {w : World} {g n c : Nat} {T : List (List Int)} {hs : List Value} (h : HasH O w (.slice (some ⟨g, 0, none⟩) n c) T hs) (i : Nat) (hi : i < T.length) : w.cell? ⟨g, i, none⟩ = some (hs.getD i .nilIface) := by
  have h2 := h.2.1
  have := h.1.cells (g := g) rfl i (hs.getD i .nilIface) (by rw [List.getD_eq_getElem?_getD, List.getElem?_eq_getElem (by omega)]; rfl)
  rwa [add_zero] at this
theorem HasH.form {O : Nat} {w : World} {v : Value} {T : List (List Int)} {hs : List Value} (h : HasH O w v T hs) (hp : 0 < T.length) : ∃ g c, v = .slice (some ⟨g, 0, none⟩) T.length c ∧ O ≤ g := by
  rcases h.1.2 with ⟨rfl, h0⟩ | ⟨g, cap, cur, rfl, hb, -⟩
  · omega
  · exact ⟨g, cap, rfl, hb⟩
theorem HasO.rows {O B : Nat} {w : World} {v : Value} {T : List (List Int)} (h : HasO O w v T) : RowsO O B w v T := by
  obtain ⟨hs, h1, h2, h3, -⟩ := h
  exact ⟨hs, h1, h2, fun i hi => (h3 i hi).ints⟩
end Go.Proofs.YtoheffkiohfmoaaDoor
