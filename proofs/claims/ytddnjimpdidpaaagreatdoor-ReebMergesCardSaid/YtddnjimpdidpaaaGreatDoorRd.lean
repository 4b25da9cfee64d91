/-
  Readings in a world: a slice of ints, a slice of such; owned rows of such; what keeps them.
-/
import Derived.Test.YtddnjimpdidpaaaGreatDoorProg
import Derived.Test.YtddnjimpdidpaaaGreatDoorMem
import Derived.Test.YtddnjimpdidpaaaGreatDoorLists
import Derived.Lib.Hide
import Derived.LoopTactic
import Derived.RegionTactic
import Derived.Deep.QuietTactic
import Derived.Deep.Cut
import Derived.Deep.DeepMust
import Derived.StillTailTactics
import Derived.Deep.RegionLaw
import Derived.Deep.AppendLies
import Derived.Laws.AppendOwnNone
import Derived.Outline
import Derived.BigQuiet
namespace Go.Proofs.YtddnjimpdidpaaaGreatDoor
open Go Go.RowKit

theorem Tryz.info3 : (Tryz.prog.info? 3).map (fun i => (i.zero, i.size, i.bytes)) = some (some (.int .i64 0), 1, 8) := by kernel_rfl
theorem Tryz.info23 : (Tryz.prog.info? 23).map (fun i => (i.zero, i.size, i.bytes)) = some (some (.slice none 0 0), 1, 24) := by kernel_rfl

/-- block b lies below B, or holds cells of type t -/
def Tg (B t : Nat) (w : World) (b : Nat) : Prop := b < B ∨ ∃ c, w.heap[b]? = some (.cells c t (0, 0))
theorem Tg.below {B t C : Nat} {w w' : World} {b : Nat} (h : Tg B t w b) (hb : Below C w w') (hlt : b < C) : Tg B t w' b :=
  h.imp id fun ⟨c, hc⟩ => ⟨c, by rw [hb.block b hlt]; exact hc⟩

/-- slice v reads as xs; its block lies below B, or holds ints -/
def IntsIn (B : Nat) (w : World) (v : Value) (xs : List Int) : Prop :=
  ∃ (p : Option Addr) (c : Nat), v = .slice p xs.length c ∧ xs.length ≤ c ∧ (p = none → c = 0) ∧
    ∀ i, i < xs.length → ∃ b off, p = some ⟨b, off, none⟩ ∧ w.cell? ⟨b, off + i, none⟩ = some (.int .i64 (xs.getD i 0)) ∧ Tg B 3 w b
theorem IntsIn.at {B : Nat} {w : World} {v : Value} {xs : List Int} (h : IntsIn B w v xs) : IntsAt w v xs := by
  obtain ⟨p, c, a1, a2, a3, a4⟩ := h
  exact ⟨p, c, a1, a2, a3, fun i hi => by obtain ⟨b, off, e1, e2, -⟩ := a4 i hi; exact ⟨b, off, e1, e2⟩⟩
theorem IntsAt.in {w : World} {v : Value} {xs : List Int} (h : IntsAt w v xs) : IntsIn w.heap.size w v xs := by
  obtain ⟨p, c, a1, a2, a3, a4⟩ := h
  exact ⟨p, c, a1, a2, a3, fun i hi => by obtain ⟨b, off, e1, e2⟩ := a4 i hi; exact ⟨b, off, e1, e2, Or.inl (mem_lt e2)⟩⟩
theorem IntsIn.nil (B : Nat) (w : World) : IntsIn B w (.slice none 0 0) [] := ⟨none, 0, rfl, Nat.le_refl _, fun _ => rfl, fun i h => absurd h (by simp)⟩
theorem IntsIn.below {B C : Nat} {w w' : World} {v : Value} {xs : List Int} (h : IntsIn B w v xs) (hb : Below C w w') (hC : w.heap.size ≤ C) : IntsIn B w' v xs := by
  obtain ⟨p, c, hv, hc, hn, hx⟩ := h
  refine ⟨p, c, hv, hc, hn, fun i hi => ?_⟩
  obtain ⟨b, off, e1, e2, e3⟩ := hx i hi
  have hlt := Nat.lt_of_lt_of_le (mem_lt e2) hC
  exact ⟨b, off, e1, by rw [hb.cell hlt]; exact e2, e3.below hb hlt⟩
/-- .. while a row of another type, or a map, that the call owns is written -/
theorem IntsIn.grown {B : Nat} {w w' : World} {row : Option Nat} {v : Value} {xs : List Int} (h : IntsIn B w v xs) (hg : w.grownBy w' row) (hr : ∀ k, row = some k → B ≤ k ∧ ∀ c, w.heap[k]? ≠ some (.cells c 3 (0, 0))) : IntsIn B w' v xs := by
  obtain ⟨p, c, hv, hc, hn, hx⟩ := h
  refine ⟨p, c, hv, hc, hn, fun i hi => ?_⟩
  obtain ⟨b, off, e1, e2, e3⟩ := hx i hi
  have hne : some b ≠ row := fun e => by
    obtain ⟨h1, h2⟩ := hr b e.symm
    rcases e3 with h | ⟨c, hc⟩
    · omega
    · exact h2 c hc
  refine ⟨b, off, e1, hg.cell e2 hne, e3.imp id fun ⟨c, hc⟩ => ⟨c, ?_⟩⟩
  rw [hg.block b (mem_lt e2) hne]; exact hc
theorem IntsIn.len {B : Nat} {w : World} {v : Value} {xs : List Int} (h : IntsIn B w v xs) : ∃ p c, v = .slice p xs.length c := by
  obtain ⟨p, c, hv, -⟩ := h
  exact ⟨p, c, hv⟩
theorem add_zero (b j : Nat) : (⟨b, 0, none⟩ : Addr).add j = ⟨b, j, none⟩ := by unfold Addr.add; split <;> simp_all
theorem add_off (b o j : Nat) : (⟨b, o, none⟩ : Addr).add j = ⟨b, o + j, none⟩ := by unfold Addr.add; split <;> simp_all

/-- an owned row of ints reads -/
theorem ints_owned {w : World} {O B n : Nat} {v : Value} {xs : List Int} (h : w.ownsRow O 3 1 v n (intVs xs)) (hn : n = xs.length) : IntsIn B w v xs := by
  subst hn
  rcases Joins.ownsRow_forms h with ⟨rfl, h0⟩ | ⟨g, cap, rfl⟩
  · obtain rfl : xs = [] := List.length_eq_zero_iff.1 h0
    exact IntsIn.nil B w
  · have h2 := h.2
    rcases h2 with ⟨he, _⟩ | ⟨g', cap', cur, he, _, hgg, hle, _⟩
    · cases he
    · cases he
      refine ⟨_, cap, rfl, hle, (fun e => by cases e), fun i hi => ⟨g, 0, rfl, ?_, Or.inr ⟨cur, hgg⟩⟩⟩
      have := h.cells (g := g) rfl i (.int .i64 (xs.getD i 0)) (by simp [intVs, List.getElem?_eq_getElem hi, List.getD_eq_getElem?_getD])
      rw [add_zero] at this
      rw [Nat.zero_add]; exact this
/-- the cells of a slice of ints, as append's law wants them -/
theorem IntsAt.src {w : World} {ad : Addr} {n cap : Nat} {xs : List Int} (hv : IntsAt w (.slice (some ad) n cap) xs) : ∀ j u, (intVs xs)[j]? = some u → w.cell? (ad.add j) = some u := fun j u hu => by
  have hj : j < xs.length := by
    have := (List.getElem?_eq_some_iff.1 hu).1
    simpa [intVs] using this
  obtain ⟨p, cc, he, -, -, hcells⟩ := hv
  obtain ⟨b, off, e1, e2⟩ := hcells j hj
  cases he
  cases e1
  rw [add_off, e2]
  simp [intVs, List.getElem?_eq_getElem hj] at hu
  rw [← hu]
  simp [List.getD_eq_getElem?_getD, List.getElem?_eq_getElem hj]
theorem intVs_one (xs : List Int) : ∀ u ∈ intVs xs, u.oneCell' = true := fun u hu => by
  simp only [intVs, List.mem_map] at hu
  obtain ⟨z, -, rfl⟩ := hu
  rfl

/-- slice v reads as a list of lists; the inner ones as IntsIn B -/
def ListsIn (B : Nat) (w : World) (v : Value) (L : List (List Int)) : Prop :=
  ∃ (p : Option Addr) (c : Nat), v = .slice p L.length c ∧ L.length ≤ c ∧ (p = none → c = 0) ∧
    ∀ i, i < L.length → ∃ b off u, p = some ⟨b, off, none⟩ ∧ w.cell? ⟨b, off + i, none⟩ = some u ∧ IntsIn B w u (L.getD i [])
theorem ListsIn.nil (B : Nat) (w : World) : ListsIn B w (.slice none 0 0) [] := ⟨none, 0, rfl, Nat.le_refl _, fun _ => rfl, fun i h => absurd h (by simp)⟩
theorem ListsIn.below {B C : Nat} {w w' : World} {v : Value} {L : List (List Int)} (h : ListsIn B w v L) (hb : Below C w w') (hC : w.heap.size ≤ C) : ListsIn B w' v L := by
  obtain ⟨p, c, hv, hc, hn, hx⟩ := h
  refine ⟨p, c, hv, hc, hn, fun i hi => ?_⟩
  obtain ⟨b, off, u, e1, e2, e3⟩ := hx i hi
  exact ⟨b, off, u, e1, by rw [hb.cell (Nat.lt_of_lt_of_le (mem_lt e2) hC)]; exact e2, e3.below hb hC⟩
theorem ListsIn.drewN {B : Nat} {w : World} {v : Value} {L : List (List Int)} (h : ListsIn B w v L) (n : Nat) : ListsIn B (w.drewN n) v L := h
/-- a slice of lists: empty, or an address with all its cells -/
theorem ListsIn.cases {B : Nat} {w : World} {v : Value} {L : List (List Int)} (h : ListsIn B w v L) :
    (L = [] ∧ ∃ p c, v = .slice p 0 c) ∨ (0 < L.length ∧ ∃ b off c, v = .slice (some ⟨b, off, none⟩) L.length c ∧ L.length ≤ c ∧ ∀ i, i < L.length → ∃ u, w.cell? ⟨b, off + i, none⟩ = some u ∧ IntsIn B w u (L.getD i [])) := by
  obtain ⟨p, c, hv, hc, hn, hx⟩ := h
  rcases Nat.eq_zero_or_pos L.length with h0 | h0
  · left
    have : L = [] := List.length_eq_zero_iff.1 h0
    subst this
    exact ⟨rfl, p, c, hv⟩
  · right
    obtain ⟨b, off, u, e1, e2, e3⟩ := hx 0 h0
    subst e1
    refine ⟨h0, b, off, c, hv, hc, fun i hi => ?_⟩
    obtain ⟨b', off', u', e1', e2', e3'⟩ := hx i hi
    cases e1'
    exact ⟨u', e2', e3'⟩
theorem ListsIn.at_ne {B : Nat} {w : World} {v : Value} {L : List (List Int)} (h : ListsIn B w v L) (i : Nat) (hi : i < L.length) :
    ∃ b off c u, v = .slice (some ⟨b, off, none⟩) L.length c ∧ L.length ≤ c ∧ w.cell? ⟨b, off + i, none⟩ = some u ∧ IntsIn B w u (L.getD i []) := by
  rcases h.cases with ⟨rfl, -⟩ | ⟨-, b, off, c, hv, hc, hx⟩
  · exact absurd hi (by simp)
  · obtain ⟨u, h1, h2⟩ := hx i hi
    exact ⟨b, off, c, u, hv, hc, h1, h2⟩

/-- an owned row of headers (blocks from O on); what they head reads as IntsIn B -/
def RowsO (O B : Nat) (w : World) (v : Value) (L : List (List Int)) : Prop :=
  ∃ hs : List Value, w.ownsRow O 23 1 v L.length hs ∧ hs.length = L.length ∧ ∀ i, i < L.length → IntsIn B w (hs.getD i .nilIface) (L.getD i [])
theorem RowsO.nil (O B : Nat) (w : World) : RowsO O B w (.slice none 0 0) [] := ⟨[], World.ownsRow_nil _ _ _ _, rfl, fun i h => absurd h (by simp)⟩
theorem RowsO.lists {O B : Nat} {w : World} {v : Value} {L : List (List Int)} (h : RowsO O B w v L) : ListsIn B w v L := by
  obtain ⟨hs, h1, h2, h3⟩ := h
  rcases Joins.ownsRow_forms h1 with ⟨rfl, h0⟩ | ⟨g, cap, rfl⟩
  · obtain rfl : L = [] := List.length_eq_zero_iff.1 h0
    exact ListsIn.nil B w
  · rcases h1.2 with ⟨he, _⟩ | ⟨g', cap', cur, he, _, hgg, hle, _⟩
    · cases he
    · cases he
      refine ⟨_, cap, rfl, hle, (fun e => by cases e), fun i hi => ⟨g, 0, hs.getD i .nilIface, rfl, ?_, h3 i hi⟩⟩
      have := h1.cells (g := g) rfl i (hs.getD i .nilIface) (by rw [List.getD_eq_getElem?_getD, List.getElem?_eq_getElem (by omega)]; rfl)
      rw [add_zero] at this
      rw [Nat.zero_add]; exact this
theorem RowsO.below {O B C : Nat} {w w' : World} {v : Value} {L : List (List Int)} (h : RowsO O B w v L) (hb : Below C w w') (hC : w.heap.size ≤ C) : RowsO O B w' v L := by
  obtain ⟨hs, h1, h2, h3⟩ := h
  exact ⟨hs, owns_keep h1 fun k hk => hb.block k (Nat.lt_of_lt_of_le (h1.lt k hk).2 hC), h2, fun i hi => (h3 i hi).below hb hC⟩
theorem RowsO.le {O O' B : Nat} {w : World} {v : Value} {L : List (List Int)} (h : RowsO O B w v L) (hO : O' ≤ O) : RowsO O' B w v L := by
  obtain ⟨hs, h1, h2, h3⟩ := h
  exact ⟨hs, Joins.ownsRow_le h1 hO, h2, h3⟩
theorem row_other {w : World} {O : Nat} {v : Value} {n : Nat} {hs : List Value} {B : Nat} (h : w.ownsRow O 23 1 v n hs) (hB : B ≤ O) : ∀ k, v.ownBlock = some k → B ≤ k ∧ ∀ c, w.heap[k]? ≠ some (.cells c 3 (0, 0)) := fun k hk => by
  rcases h.2 with ⟨rfl, _⟩ | ⟨g, cap, cur, rfl, hb, hgg, -⟩
  · cases hk
  · cases hk
    refine ⟨Nat.le_trans hB hb, fun c e => ?_⟩
    rw [hgg] at e
    cases e
/-- headers more, behind append's law -/
theorem rowsO_app {w w' : World} {O B : Nat} {v v' : Value} {L M : List (List Int)} {hs xs : List Value} (hB : B ≤ O)
    (h1 : w.ownsRow O 23 1 v L.length hs) (h2 : hs.length = L.length) (h3 : ∀ i, i < L.length → IntsIn B w (hs.getD i .nilIface) (L.getD i []))
    (hx : xs.length = M.length) (h4 : ∀ i, i < M.length → IntsIn B w (xs.getD i .nilIface) (M.getD i [])) (h' : w'.ownsRow O 23 1 v' (L.length + M.length) (hs ++ xs)) (hg : w.grownBy w' v.ownBlock) : RowsO O B w' v' (L ++ M) := by
  have hr := row_other h1 hB
  refine ⟨hs ++ xs, by simpa using h', by simp [h2, hx], fun i hi => ?_⟩
  rcases Nat.lt_or_ge i L.length with hlt | hge
  · have e1 : (hs ++ xs).getD i .nilIface = hs.getD i .nilIface := by simp [List.getD_eq_getElem?_getD, List.getElem?_append_left (show i < hs.length by omega)]
    have e2 : (L ++ M).getD i [] = L.getD i [] := by simp [List.getD_eq_getElem?_getD, List.getElem?_append_left hlt]
    rw [e1, e2]
    exact (h3 i hlt).grown hg hr
  · have hi' : i - L.length < M.length := by simp at hi; omega
    have e1 : (hs ++ xs).getD i .nilIface = xs.getD (i - L.length) .nilIface := by rw [← h2]; simp [List.getD_eq_getElem?_getD, List.getElem?_append_right (show hs.length ≤ i by omega)]
    have e2 : (L ++ M).getD i [] = M.getD (i - L.length) [] := by simp [List.getD_eq_getElem?_getD, List.getElem?_append_right hge]
    rw [e1, e2]
    exact (h4 _ hi').grown hg hr
theorem rowsO_push {w w' : World} {O B : Nat} {v v' x : Value} {L : List (List Int)} {hs : List Value} {xs : List Int} (hB : B ≤ O)
    (h1 : w.ownsRow O 23 1 v L.length hs) (h2 : hs.length = L.length) (h3 : ∀ i, i < L.length → IntsIn B w (hs.getD i .nilIface) (L.getD i []))
    (hx : IntsIn B w x xs) (h' : w'.ownsRow O 23 1 v' (L.length + 1) (hs ++ [x])) (hg : w.grownBy w' v.ownBlock) : RowsO O B w' v' (L ++ [xs]) :=
  rowsO_app (M := [xs]) hB h1 h2 h3 rfl (fun i hi => by obtain rfl : i = 0 := by simpa using hi
                                                        exact hx) h' hg
theorem IntsIn.one {B : Nat} {w : World} {v : Value} {xs : List Int} (h : IntsIn B w v xs) : v.oneCell' = true := by
  obtain ⟨p, c, rfl, -⟩ := h
  rfl
/-- the headers of a slice of lists, as append's law wants them -/
theorem ListsIn.src {B : Nat} {w : World} {v : Value} {L : List (List Int)} (h : ListsIn B w v L) (hp : 0 < L.length) : ∃ b off c, ∃ hs : List Value, v = .slice (some ⟨b, off, none⟩) L.length c ∧ L.length ≤ c ∧ hs.length = L.length ∧
    (∀ j u, hs[j]? = some u → w.cell? ⟨b, off + j, none⟩ = some u) ∧ (∀ i, i < L.length → IntsIn B w (hs.getD i .nilIface) (L.getD i [])) ∧ ∀ u ∈ hs, u.oneCell' = true := by
  rcases h.cases with ⟨rfl, -⟩ | ⟨-, b, off, c, hv, hc, hx⟩
  · exact absurd hp (by simp)
  · have hch : ∃ f : Nat → Value, ∀ i, i < L.length → w.cell? ⟨b, off + i, none⟩ = some (f i) ∧ IntsIn B w (f i) (L.getD i []) :=
      ⟨fun i => (w.cell? ⟨b, off + i, none⟩).getD .nilIface, fun i hi => by
        obtain ⟨u, h1, h2⟩ := hx i hi
        have e : (w.cell? ⟨b, off + i, none⟩).getD .nilIface = u := by rw [h1]; rfl
        exact ⟨h1.trans (congrArg some e.symm), (show IntsIn B w ((w.cell? ⟨b, off + i, none⟩).getD .nilIface) (L.getD i []) from by rw [e]; exact h2)⟩⟩
    obtain ⟨f, hf⟩ := hch
    have hg : ∀ i, i < L.length → ((List.range L.length).map f).getD i .nilIface = f i := fun i hi => by rw [List.getD_eq_getElem?_getD, List.getElem?_map, List.getElem?_range hi]; rfl
    refine ⟨b, off, c, (List.range L.length).map f, hv, hc, by simp, fun j u hu => ?_, fun i hi => by rw [hg i hi]; exact (hf i hi).2, fun u hu => ?_⟩
    · have hj : j < L.length := by
        have := (List.getElem?_eq_some_iff.1 hu).1
        simpa using this
      rw [List.getElem?_map, List.getElem?_range hj] at hu
      cases hu
      exact (hf j hj).1
    · obtain ⟨i, hi, rfl⟩ := List.mem_map.1 hu
      exact (hf i (List.mem_range.1 hi)).2.one
/-- a part of a slice of lists: [a:b] -/
theorem ListsIn.part {B : Nat} {w : World} {b off n c : Nat} {L : List (List Int)} (h : ListsIn B w (.slice (some ⟨b, off, none⟩) n c) L) (i m c' : Nat) (him : i + m ≤ L.length) (hc' : m ≤ c') :
    ListsIn B w (.slice (some ⟨b, off + i, none⟩) m c') ((L.drop i).take m) := by
  rcases h.cases with ⟨rfl, p, cc, e⟩ | ⟨-, b', off', cc, e, -, hx⟩
  · simp only [List.length_nil] at him
    obtain rfl : m = 0 := by omega
    exact ⟨some ⟨b, off + i, none⟩, c', by simp, by simp, (fun e => by cases e), fun j hj => absurd hj (by simp)⟩
  · cases e
    have hl : ((L.drop i).take m).length = m := by simp; omega
    refine ⟨_, c', by rw [hl], by rw [hl]; exact hc', (fun e => by cases e), fun j hj => ?_⟩
    rw [hl] at hj
    obtain ⟨u, h1, h2⟩ := hx (i + j) (by omega)
    refine ⟨b, off + i, u, rfl, by rw [Nat.add_assoc]; exact h1, ?_⟩
    have e2 : ((L.drop i).take m).getD j [] = L.getD (i + j) [] := by simp [List.getD_eq_getElem?_getD, hj]
    rw [e2]; exact h2
theorem IntsIn.part {B : Nat} {w : World} {b off n c : Nat} {xs : List Int} (h : IntsIn B w (.slice (some ⟨b, off, none⟩) n c) xs) (i m c' : Nat) (him : i + m ≤ xs.length) (hc' : m ≤ c') :
    IntsIn B w (.slice (some ⟨b, off + i, none⟩) m c') ((xs.drop i).take m) := by
  obtain ⟨p, cc, e, -, -, hx⟩ := h
  cases e
  have hl : ((xs.drop i).take m).length = m := by simp; omega
  refine ⟨_, c', by rw [hl], by rw [hl]; exact hc', (fun e => by cases e), fun j hj => ?_⟩
  rw [hl] at hj
  obtain ⟨b', off', e1, e2, e3⟩ := hx (i + j) (by omega)
  cases e1
  refine ⟨b, off + i, rfl, ?_, e3⟩
  have e4 : ((xs.drop i).take m).getD j 0 = xs.getD (i + j) 0 := by simp [List.getD_eq_getElem?_getD, hj]
  rw [e4, Nat.add_assoc]; exact e2
end Go.Proofs.YtddnjimpdidpaaaGreatDoor
