/-
  The table that is told, in memory: the order, the row, the rows that are there, the numbers; plain facts of the order.
-/
import Derived.Test.YtedehmknijlgpaaDoorOpnA
import Derived.Test.YtedehmknijlgpaaDoorTcH
import Derived.Maps.OwnSet
import Derived.Maps.OwnOps
set_option linter.unusedVariables false
set_option linter.unusedSimpArgs false
namespace Go.Proofs.YtedehmknijlgpaaDoor
open Go Go.RowKit Go.Maps

namespace TC
theorem nodup_le : ∀ (N : Nat) (l : List Nat), l.Nodup → (∀ x ∈ l, x < N) → l.length ≤ N
  | 0, l, _, h => by
    cases l with
    | nil => simp
    | cons x r => exact absurd (h x (by simp)) (by omega)
  | N + 1, l, hn, h => by
    by_cases hm : N ∈ l
    · have h1 := nodup_le N (l.erase N) (hn.erase N) (fun x hx => by
        have := (hn.mem_erase_iff).1 hx
        have := h x this.2
        omega)
      rw [List.length_erase_of_mem hm] at h1
      omega
    · have h1 := nodup_le N l hn (fun x hx => by
        have := h x hx
        have : x ≠ N := fun e => hm (e ▸ hx)
        omega)
      omega
section
variable {m : St} {W : Nat} (h : MOk W m) (hL : ∀ j, j < m.R.length → ∀ x, x < W → Leads m j x)
include h hL
/-- a live row leads -/
theorem live_ent {x k : Nat} (hx : x < m.R.length) (hxx : rep m.S x = x) (hk : k < W) : ∃ u : Nat, ent m.R x k = (u : Int) ∧ u < m.R.length ∧ toM m x k = rep m.S u := by
  obtain ⟨u, hu⟩ := hL x hx k hk
  rw [hxx] at hu
  exact ⟨u, hu, (h.wide.inn hu).2.2, by unfold toM; rw [hu, Int.toNat_natCast]⟩
theorem ordO_lt : ∀ i, ∀ y ∈ ordO m W i, y < m.R.length
  | 0, y, hy => by
    rw [List.mem_singleton.1 hy]; exact h.pos
  | i + 1, y, hy => by
    rw [ordO] at hy
    split at hy
    · rename_i hi
      rcases mem_rowO.1 hy with h1 | ⟨j, hj, e⟩
      · exact ordO_lt i y h1
      · have hm := getD_mem hi
        obtain ⟨u, -, h2, h3⟩ := live_ent h hL (ordO_lt i _ hm) (ordO_live h i _ hm) hj
        rw [e, h3]
        exact h.rep_lt h2
    · exact ordO_lt i y hy
theorem ordO_le (i : Nat) : (ordO m W i).length ≤ m.R.length := nodup_le _ _ (ordO_nodup m W i) (ordO_lt h hL i)
theorem rowO_le {i : Nat} (hi : i < (ordO m W i).length) {k : Nat} (hk : k ≤ W) : (rowO m (ordO m W i) ((ordO m W i).getD i 0) k).length ≤ m.R.length := by
  have h1 := ordO_le h hL (i + 1)
  rw [ordO, if_pos hi] at h1
  obtain ⟨C, e⟩ := rowO_pre m (ordO m W i) ((ordO m W i).getD i 0) hk
  rw [← e, List.length_append] at h1
  omega
end
/-- the row so far -/
theorem rowT_snoc {m : St} {W i k : Nat} (hi : i < (ordO m W i).length) (hk : k < W) :
    (rowT m W i).take (k + 1) = (rowT m W i).take k ++ [(((rowO m (ordO m W i) ((ordO m W i).getD i 0) (k + 1)).idxOf (toM m ((ordO m W i).getD i 0) k) : Nat) : Int)] := by
  have e1 : ordO m W (i + 1) = rowO m (ordO m W i) ((ordO m W i).getD i 0) W := by rw [ordO, if_pos hi]
  have hl := rowT_len m W i
  rw [List.take_succ_eq_append_getElem (by omega)]
  congr 1
  have h2 := rowT_at m W i hk
  rw [List.getD_eq_getElem?_getD, List.getElem?_eq_getElem (by omega), Option.getD_some] at h2
  rw [h2, e1, pre_idx (rowO_pre m _ _ (show k + 1 ≤ W by omega)) (mem_rowO.2 (.inr ⟨k, by omega, rfl⟩))]
theorem tabT_snoc (m : St) (W i : Nat) : tabT m W (i + 1) = tabT m W i ++ [rowT m W i] := by unfold tabT; rw [List.range_succ, List.map_append]; rfl
end TC

def nlit (y : Nat) : Lit := .int .i64 (y : Int)
theorem nlit_key (y : Nat) : WideAt.IsKeyLit (nlit y) := by unfold nlit; first | exact trivial | simp [WideAt.IsKeyLit]
theorem nlit_inj {x y : Nat} (h : nlit x = nlit y) : x = y := by unfold nlit at h; simp at h; omega
theorem keyOf_nat (y : Nat) (hy : y ≤ 1000000) : keyOf Tryd.prog 3 (.int .i64 (y : Int)) = some (nlit y) := by
  unfold nlit
  have h1 : (Lit.int .i64 (y : Int)).wf = true := by
    show (decide (IntKind.i64.min ≤ (y : Int)) && decide ((y : Int) ≤ IntKind.i64.max)) = true
    rw [Bool.and_eq_true, decide_eq_true_iff, decide_eq_true_iff]
    exact ⟨by show (-9223372036854775808 : Int) ≤ y; omega, by show (y : Int) ≤ 9223372036854775807; omega⟩
  simp [keyOf, mapKey, Tryd.underlying3, h1]
/-- block b is the map of numbers: to each of O its place -/
def NumM (w : World) (b t : Nat) (O : List Nat) : Prop :=
  ∃ D : DataW Value, w.ownsMap Tryd.prog 3 (plainElem Tryd.prog 3) b t D ∧ t ≤ O.length ∧ ∀ y : Nat, (Maps.has D (nlit y) = true ↔ y ∈ O) ∧ (y ∈ O → D.atKey (nlit y) (.lit (.int .i64 0)) = .lit (.int .i64 ((O.idxOf y : Nat) : Int)))
theorem NumM.kept {w w' : World} {b t : Nat} {O : List Nat} {row : Option Nat} (h : NumM w b t O) (hg : w.grownBy w' row) (hr : some b ≠ row) : NumM w' b t O := by
  obtain ⟨D, hown, hx⟩ := h
  exact ⟨D, hown.kept hg hr, hx⟩
theorem NumM.below {w w' : World} {b t C : Nat} {O : List Nat} (h : NumM w b t O) (hb : Below C w w') (hC : w.heap.size ≤ C) : NumM w' b t O := by
  obtain ⟨D, hown, hx⟩ := h
  have hlt := hown.lt
  obtain ⟨es, clock, e1, e2⟩ := hown
  exact ⟨D, ⟨es, clock, by rw [hb.block b (Nat.lt_of_lt_of_le hlt hC)]; exact e1, e2⟩, hx⟩
theorem NumM.obj {w : World} {b t : Nat} {O : List Nat} (h : NumM w b t O) : b < w.heap.size ∧ ∀ c ty fr, w.heap[b]? ≠ some (.cells c ty fr) := by
  obtain ⟨D, hown, -⟩ := h
  refine ⟨hown.lt, fun c ty fr e => ?_⟩
  obtain ⟨es, clock, hb, -⟩ := hown
  rw [hb] at e; cases e
/-- a map that has just O and is put one more -/
theorem num_put {w' : World} {b t : Nat} {O : List Nat} {D : DataW Value} (hm : Maps.IsMap D) (ht : t ≤ O.length) (hx : ∀ y : Nat, (Maps.has D (nlit y) = true ↔ y ∈ O) ∧ (y ∈ O → D.atKey (nlit y) (.lit (.int .i64 0)) = .lit (.int .i64 ((O.idxOf y : Nat) : Int)))) {z : Nat} (hz : z ∉ O)
    (hown' : w'.ownsMap Tryd.prog 3 (plainElem Tryd.prog 3) b (t + 1) (D.put (nlit z) (.lit (.int .i64 ((O.length : Nat) : Int))))) : NumM w' b (t + 1) (O ++ [z]) := by
  refine ⟨_, hown', by simp; omega, fun y => ?_⟩
  by_cases e : y = z
  · subst e
    refine ⟨⟨fun _ => by simp, fun _ => Maps.has_put_same hm (nlit_key y) _⟩, fun _ => ?_⟩
    rw [Maps.atKey_put_same hm (nlit_key y), List.idxOf_append, if_neg hz]
    simp
  · rw [Maps.has_put_other (fun h => e (nlit_inj h)), (hx y).1]
    refine ⟨by simp [e], fun hy => ?_⟩
    have hy' : y ∈ O := by simpa [e] using hy
    rw [Maps.atKey_put_other (fun h => e (nlit_inj h)), (hx y).2 hy', List.idxOf_append, if_pos hy']
theorem num_zero {w' : World} {b : Nat} (hown' : w'.ownsMap Tryd.prog 3 (plainElem Tryd.prog 3) b 1 ((DataW.map [] : DataW Value).put (nlit 0) (.lit (.int .i64 0)))) : NumM w' b 1 [0] := by
  have := num_put (w' := w') (b := b) (t := 0) (O := []) (D := .map []) ⟨_, rfl⟩ (Nat.le_refl _) (fun y => ⟨by simp [Maps.has], fun h => by cases h⟩) (z := 0) (by simp) hown'
  exact this
section
variable {H : Type} {P : Program} (w : World) {ops : Array Oper} {rest : List Oper} {o : Oper} {a : Act} {Q : Exit → Act → World → Prop}
theorem wpList_insert_own (hg : o.guard = none) (m x v : Operand) (t : TypeId) (hop : o.op = Op.insert t m x v)
    (k e : TypeId) (K : Keyed P k) (ht : P.underlying t = some (.map k e)) (R : Value → Option (DataW H × List MemPlace)) (b n : Nat) (D : DataW H)
    (hm : a.eval m = .map (some b)) (hown : w.ownsMap P k R b n D) (hn : n < maxLen) (key val : Value) (kl : Lit) (hx : a.eval x = key) (hv : a.eval v = val) (hkey : keyOf P k key = some kl)
    (d : DataW H) (ps : List MemPlace) (hval : R val = some (d, ps))
    (hK : ∀ w', w'.ownsMap P k R b (n + 1) (D.put kl d) → w.grownBy w' (some b) → wpList P ops Q rest (a.put o.dst undef) w') :
    wpList P ops Q (o :: rest) a w := by
  refine wpList_plain hg fun K' hK' => ?_
  obtain ⟨w', hrun, r1, r2⟩ := hown.update K ht hn hkey hval
  unfold Oper.wp
  simp [execOp, hop, hm, hx, hv, hrun, Result.andThen]
  exact hK' _ _ (hK w' r1 r2)
end
theorem zero_int (w : World) : (zeroValue 3).run Tryd.prog w = .ok (.int .i64 0) w := by kernel_rfl

/-- what told has in memory, from block E on -/
structure ToldH (E mb t : Nat) (w : World) (vO vR vT : Value) (hs : List Value) (O : List Nat) (row : List Int) (T : List (List Int)) : Prop where
  ord : IntO E w vO (natI O)
  row : IntO E w vR row
  out : HasH E w vT T hs
  num : NumM w mb t O
  a1 : ∀ k, vO.ownBlock = some k → vR.ownBlock ≠ some k
  a2 : ∀ k, vO.ownBlock = some k → ∀ i, i < T.length → (hs.getD i .nilIface).ownBlock ≠ some k
  a3 : ∀ k, vR.ownBlock = some k → ∀ i, i < T.length → (hs.getD i .nilIface).ownBlock ≠ some k
  low : E ≤ mb
theorem ToldH.below {E mb t C : Nat} {w w' : World} {vO vR vT : Value} {hs : List Value} {O : List Nat} {row : List Int} {T : List (List Int)} (h : ToldH E mb t w vO vR vT hs O row T) (hb : Below C w w') (hC : w.heap.size ≤ C) : ToldH E mb t w' vO vR vT hs O row T :=
  ⟨h.ord.below hb hC, h.row.below hb hC, h.out.below hb hC, h.num.below hb hC, h.a1, h.a2, h.a3, h.low⟩
theorem NumM.ne {w : World} {b t : Nat} {O : List Nat} (h : NumM w b t O) {E n : Nat} {e : TypeId} {v : Value} {xs : List Value} (hr : w.ownsRow E e 1 v n xs) : some b ≠ v.ownBlock := fun e2 => by
  rcases hr.2 with ⟨rfl, -⟩ | ⟨g, cap, cur, rfl, -, hg, -⟩
  · cases e2
  · obtain rfl := Option.some.inj e2
    exact h.obj.2 _ _ _ hg
/-- one more number in the order, and in the map -/
theorem ToldH.pushO {E mb t g n c z : Nat} {w w1 w2 : World} {vO vR vT : Value} {hs : List Value} {O : List Nat} {row : List Int} {T : List (List Int)} (h : ToldH E mb t w vO vR vT hs O row T) (hg1 : w.grownBy w1 (some mb)) (hnum : NumM w1 mb (t + 1) (O ++ [z]))
    (h' : w2.ownsRow E 3 1 (.slice (some ⟨g, 0, none⟩) n c) n (intVs (natI O) ++ [.int .i64 (z : Int)])) (hn : n = O.length + 1) (hg2 : w1.grownBy w2 vO.ownBlock) (hat : vO.ownBlock = some g ∨ w.heap.size ≤ g) :
    ToldH E mb (t + 1) w2 (.slice (some ⟨g, 0, none⟩) n c) vR vT hs (O ++ [z]) row T := by
  have nr : IntO E w1 vR row := h.row.far hg1 fun k hk e => by obtain rfl := Option.some.inj hk; exact h.num.ne h.row e.symm
  have no : HasH E w1 vT T hs := h.out.far hg1 fun k hk => by
    obtain rfl := Option.some.inj hk
    exact ⟨fun e => h.num.ne h.out.1 e.symm, fun i hi e => h.num.ne (h.out.2.2.1 i hi) e.symm⟩
  have nO : IntO E w1 vO (natI O) := h.ord.far hg1 fun k hk e => by obtain rfl := Option.some.inj hk; exact h.num.ne h.ord e.symm
  refine ⟨?_, nr.far hg2 fun k hk => h.a1 k hk, no.far hg2 fun k hk => ⟨fun e => owns_apart no.1 nO (by decide) k e hk, h.a2 k hk⟩, hnum.kept hg2 (hnum.ne nO), fun k hk e => ?_, fun k hk i hi e => ?_, h.a3, h.low⟩
  · unfold IntO
    rw [natI_len, List.length_append, List.length_singleton, ← hn, ← natI_app]
    simpa [intVs] using h'
  · obtain rfl := Option.some.inj hk
    rcases hat with h1 | h1
    · exact h.a1 _ h1 e
    · have h2 := (h.row.lt _ e).2
      exact absurd (show g < w.heap.size from h2) (by omega)
  · obtain rfl := Option.some.inj hk
    rcases hat with h1 | h1
    · exact h.a2 _ h1 i hi e
    · have h2 := ((h.out.2.2.1 i hi).lt _ e).2
      exact absurd (show g < w.heap.size from h2) (by omega)
/-- one more entry in the row -/
theorem ToldH.pushR {E mb t g n c : Nat} {w w2 : World} {vO vR vT : Value} {hs : List Value} {O : List Nat} {row : List Int} {T : List (List Int)} {x : Int} (h : ToldH E mb t w vO vR vT hs O row T)
    (h' : w2.ownsRow E 3 1 (.slice (some ⟨g, 0, none⟩) n c) n (intVs row ++ [.int .i64 x])) (hn : n = row.length + 1) (hg2 : w.grownBy w2 vR.ownBlock) (hat : vR.ownBlock = some g ∨ w.heap.size ≤ g) :
    ToldH E mb t w2 vO (.slice (some ⟨g, 0, none⟩) n c) vT hs O (row ++ [x]) T := by
  refine ⟨h.ord.far hg2 fun k hk e => h.a1 k e hk, ?_, h.out.far hg2 fun k hk => ⟨fun e => owns_apart h.out.1 h.row (by decide) k e hk, h.a3 k hk⟩, h.num.kept hg2 (h.num.ne h.row), fun k hk e => ?_, h.a2, fun k hk i hi e => ?_, h.low⟩
  · unfold IntO
    rw [List.length_append, List.length_singleton, ← hn]
    simpa [intVs] using h'
  · obtain rfl := Option.some.inj e
    rcases hat with h1 | h1
    · exact h.a1 _ hk h1
    · have h2 := (h.ord.lt _ hk).2
      exact absurd (show g < w.heap.size from h2) (by omega)
  · obtain rfl := Option.some.inj hk
    rcases hat with h1 | h1
    · exact h.a3 _ h1 i hi e
    · have h2 := ((h.out.2.2.1 i hi).lt _ e).2
      exact absurd (show g < w.heap.size from h2) (by omega)
/-- the row is told -/
theorem ToldH.pushT {E mb t : Nat} {w w2 : World} {vO vR vT vT' : Value} {hs : List Value} {O : List Nat} {row : List Int} {T : List (List Int)} (h : ToldH E mb t w vO vR vT hs O row T)
    (h' : w2.ownsRow E 27 1 vT' (T.length + 1) (hs ++ [vR])) (hg : w.grownBy w2 vT.ownBlock) :
    ToldH E mb t w2 vO (.slice none 0 0) vT' (hs ++ [vR]) O [] (T ++ [row]) := by
  have hl := h.out.2.1
  refine ⟨h.ord.far hg fun k hk e => owns_apart h.out.1 h.ord (by decide) k hk e, IntO.nil _ _, h.out.push h' hg h.row (fun i hi k hk e => h.a3 k e i hi hk), h.num.kept hg (h.num.ne h.out.1), (fun k _ e => by cases e), fun k hk i hi e => ?_, (fun k hk => by cases hk), h.low⟩
  rw [List.length_append, List.length_singleton] at hi
  rcases (show i < T.length ∨ i = T.length by omega) with hlt | rfl
  · rw [show (hs ++ [vR]).getD i .nilIface = hs.getD i .nilIface by simp [List.getD_eq_getElem?_getD, List.getElem?_append_left (show i < hs.length by omega)]] at e
    exact h.a2 k hk i hlt e
  · rw [show (hs ++ [vR]).getD T.length .nilIface = vR by rw [← hl]; simp [List.getD_eq_getElem?_getD]] at e
    exact h.a1 k hk e
theorem IntO.sliceOf {O : Nat} {w : World} {v : Value} {xs : List Int} (h : IntO O w v xs) : ∃ p c, v = .slice p xs.length c := by
  rcases h.2 with ⟨rfl, h0⟩ | ⟨g, cap, cur, rfl, hb, -⟩
  · exact ⟨none, 0, by rw [h0]⟩
  · exact ⟨_, _, rfl⟩
end Go.Proofs.YtedehmknijlgpaaDoor
