/-
  append of any source (nil, empty, or with cells) onto an owned row of elements of any size: as a run, at a list.
  Cuts of slices of bars, as runs; a row of bars as a source of append.
  The document's LowBars by a contract: the bars, rising.
-/
import Derived.Test.YtddnjimpdidpaaaGreatDoorApp
import Derived.Test.YtddnjimpdidpaaaGreatDoorRd
import Derived.Test.YtddnjimpdidpaaaGreatDoorRbI
set_option linter.unusedVariables false
set_option linter.unusedSimpArgs false
namespace Go.Proofs.YtddnjimpdidpaaaGreatDoor
open Go Go.RowKit Go.Maps

theorem run_app_s {P : Program} (w : World) (base : Nat) (t ty e : TypeId) (i : TypeInfo) (z : Value) (size bytes : Nat) (ht : P.underlying t = some (.slice e)) (hi : P.info? e = some i) (hz : i.zero = some z)
    (hsize : i.size = size) (hby : i.bytes = bytes) (hzs : z.cells.size = size) (hsz : 0 < size)
    (v : Value) (n : Nat) (xs : List Value) (hown : w.ownsRow base e size v n xs) (p : Option Addr) (m c : Nat) (news : List Value) (hl : news.length = m * size) (hp : p = none → c = 0 ∧ m = 0)
    (hnews : ∀ ad, p = some ad → ∀ j u, news[j]? = some u → w.cell? (ad.add j) = some u) (h1 : ∀ u ∈ news, u.oneCell' = true)
    (h63 : n + m ≤ maxLen) (hbytes : (n + m) * bytes ≤ 140737488355328) (hbase : base ≤ w.heap.size) :
    ∃ p' cap w', (Builtin.append_ #[t, t] ty #[v, .slice p m c]).run P w = .ok (.slice p' (n + m) cap) w' ∧ w'.ownsRow base e size (.slice p' (n + m) cap) (n + m) (xs ++ news) ∧ w.grownBy w' v.ownBlock ∧
      ((Value.slice p' (n + m) cap).ownBlock = v.ownBlock ∨ (Value.slice p' (n + m) cap).ownBlock = some w.heap.size) := by
  cases p with
  | none =>
    obtain ⟨rfl, rfl⟩ := hp rfl
    obtain rfl : news = [] := List.length_eq_zero_iff.1 (by simpa using hl)
    have hr := run_append_owned_none (P := P) (w := w) base t ty e i size ht hi v n xs hown
    rw [List.append_nil, Nat.add_zero]
    rcases Joins.ownsRow_forms hown with ⟨rfl, rfl⟩ | ⟨g, cap, rfl⟩
    · exact ⟨none, 0, w, hr, hown, ⟨rfl, rfl, rfl, Nat.le_refl _, fun _ _ _ => rfl⟩, Or.inl rfl⟩
    · exact ⟨_, cap, w, hr, hown, ⟨rfl, rfl, rfl, Nat.le_refl _, fun _ _ _ => rfl⟩, Or.inl rfl⟩
  | some ad =>
    obtain ⟨v', w', hr, h2, h3, h4, h5⟩ := run_append_own_at (P := P) w base t ty e i z size bytes ht hi hz hsize hby hzs hsz v n xs hown ad m c news hl (hnews ad rfl) h1 h63 hbytes hbase
    rcases Joins.ownsRow_forms h2 with ⟨rfl, h0⟩ | ⟨g, cap, rfl⟩
    · rw [h0] at h2 ⊢
      exact ⟨none, 0, w', hr, h2, h3, h5⟩
    · exact ⟨_, cap, w', hr, h2, h3, h5⟩

theorem wp_app_s {P : Program} (w : World) {o : Oper} {a : Act} {K : Act → World → Prop} {Q : Exit → Act → World → Prop} (s x : Operand) (t : TypeId)
    (ho : o.op = .call { callee := .builtin .append, args := #[s, x], argTypes := #[t, t] })
    (base : Nat) (e : TypeId) (i : TypeInfo) (z : Value) (size bytes : Nat) (ht : P.underlying t = some (.slice e)) (hi : P.info? e = some i) (hz : i.zero = some z)
    (hsize : i.size = size) (hby : i.bytes = bytes) (hzs : z.cells.size = size) (hsz : 0 < size)
    (v : Value) (n : Nat) (xs : List Value) (hs : a.eval s = v) (hown : w.ownsRow base e size v n xs)
    (p : Option Addr) (m c : Nat) (news : List Value) (hx : a.eval x = .slice p m c) (hl : news.length = m * size) (hp : p = none → c = 0 ∧ m = 0)
    (hnews : ∀ ad, p = some ad → ∀ j u, news[j]? = some u → w.cell? (ad.add j) = some u) (h1 : ∀ u ∈ news, u.oneCell' = true)
    (h63 : n + m ≤ maxLen) (hbytes : (n + m) * bytes ≤ 140737488355328) (hbase : base ≤ w.heap.size) (H : Nat) (hH : w.heap.size = H)
    (h : ∀ p' cap w', w'.ownsRow base e size (.slice p' (n + m) cap) (n + m) (xs ++ news) → w.grownBy w' v.ownBlock → ((Value.slice p' (n + m) cap).ownBlock = v.ownBlock ∨ (Value.slice p' (n + m) cap).ownBlock = some H) → K (a.put o.dst (.slice p' (n + m) cap)) w') : o.wp P a w K Q := by
  obtain ⟨p', cap, w', hr, h2, h3, h4⟩ := run_app_s (P := P) w base t o.type e i z size bytes ht hi hz hsize hby hzs hsz v n xs hown p m c news hl hp hnews h1 h63 hbytes hbase
  unfold Oper.wp execOp
  simp only [ho, resolve, invoke, builtin, Sem.run_bind, Sem.run_pure, Result.andThen_ok, List.map_toArray, List.map_cons, List.map_nil, hs, hx, hr]
  exact h p' cap w' h2 h3 (by rw [← hH]; exact h4)

theorem wpList_app_s {P : Program} (w : World) {ops : Array Oper} {rest : List Oper} {o : Oper} {a : Act} {Q : Exit → Act → World → Prop} (hgd : o.guard = none) (s x : Operand) (t : TypeId)
    (ho : o.op = .call { callee := .builtin .append, args := #[s, x], argTypes := #[t, t] })
    (base : Nat) (e : TypeId) (i : TypeInfo) (z : Value) (size bytes : Nat) (ht : P.underlying t = some (.slice e)) (hi : P.info? e = some i) (hz : i.zero = some z)
    (hsize : i.size = size) (hby : i.bytes = bytes) (hzs : z.cells.size = size) (hsz : 0 < size)
    (v : Value) (n : Nat) (xs : List Value) (hs : a.eval s = v) (hown : w.ownsRow base e size v n xs)
    (p : Option Addr) (m c : Nat) (news : List Value) (hx : a.eval x = .slice p m c) (hl : news.length = m * size) (hp : p = none → c = 0 ∧ m = 0)
    (hnews : ∀ ad, p = some ad → ∀ j u, news[j]? = some u → w.cell? (ad.add j) = some u) (h1 : ∀ u ∈ news, u.oneCell' = true)
    (h63 : n + m ≤ maxLen) (hbytes : (n + m) * bytes ≤ 140737488355328) (hbase : base ≤ w.heap.size) (H : Nat) (hH : w.heap.size = H)
    (h : ∀ p' cap w', w'.ownsRow base e size (.slice p' (n + m) cap) (n + m) (xs ++ news) → w.grownBy w' v.ownBlock → ((Value.slice p' (n + m) cap).ownBlock = v.ownBlock ∨ (Value.slice p' (n + m) cap).ownBlock = some H) → wpList P ops Q rest (a.put o.dst (.slice p' (n + m) cap)) w') : wpList P ops Q (o :: rest) a w :=
  wpList_plain hgd fun _ hK => wp_app_s w s x t ho base e i z size bytes ht hi hz hsize hby hzs hsz v n xs hs hown p m c news hx hl hp hnews h1 h63 hbytes hbase H hH fun p' cap w' h2 h3 h4 => hK _ _ (h p' cap w' h2 h3 h4)

theorem under_barsC : Tryz.prog.underlying 37 = some (.slice 48) := by kernel_rfl
theorem info_barC : (Tryz.prog.info? 48).map (fun i => (i.zero, i.size, i.bytes)) = some (some (.agg #[.int .i64 0, .int .i64 0, .int .i64 0]), 3, 24) := by kernel_rfl
/-- the address of s[k:] -/
def cutA (b k cap sz : Nat) : Addr := if cap = k then ⟨b, 0, none⟩ else ⟨b, k * sz, none⟩
theorem run_from_bars (b m cap k : Nat) (hk : k ≤ m) (w : World) :
    (Instr.slice 37 (.slice (some ⟨b, 0, none⟩) m cap) (some (.int .i64 (k : Int))) none none).run Tryz.prog w = .ok (.slice (some (cutA b k cap 3)) (m - k) (cap - k)) w := by
  obtain ⟨i3, hi3, hy0, hy1, hy2⟩ := info_parts info_barC
  have h1 : (0 : Int) ≤ (k : Int) ∧ (k : Int) ≤ (m : Int) := by omega
  unfold cutA
  by_cases hc : cap = k
  · simp [Instr.slice, Instr.sliceBounds, Instr.sliceBound, asIntOf, run_underlying under_barsC, h1, hc, hk]
  · by_cases h0 : k = 0
    · subst h0
      simp [Instr.slice, Instr.sliceBounds, Instr.sliceBound, asIntOf, run_underlying under_barsC, h1, hc, hk, Addr.add, sizeOf, typeInfo, hi3, hy1]
    · simp [Instr.slice, Instr.sliceBounds, Instr.sliceBound, asIntOf, run_underlying under_barsC, h1, hc, hk, h0, Addr.add, sizeOf, typeInfo, hi3, hy1]; omega
theorem run_to_bars (b m cap k : Nat) (hk : k ≤ m) (hm : m ≤ cap) (w : World) :
    (Instr.slice 37 (.slice (some ⟨b, 0, none⟩) m cap) none (some (.int .i64 (k : Int))) none).run Tryz.prog w = .ok (.slice (some ⟨b, 0, none⟩) k cap) w := by
  obtain ⟨i3, hi3, hy0, hy1, hy2⟩ := info_parts info_barC
  have h1 : (0 : Int) ≤ (k : Int) ∧ (k : Int) ≤ (cap : Int) := by omega
  have h2 : k ≤ cap := by omega
  by_cases hc : cap = 0
  · obtain rfl : k = 0 := by omega
    simp [Instr.slice, Instr.sliceBounds, Instr.sliceBound, asIntOf, run_underlying under_barsC, h1, h2, hc]
  · simp [Instr.slice, Instr.sliceBounds, Instr.sliceBound, asIntOf, run_underlying under_barsC, h1, h2, hc, Addr.add, sizeOf, typeInfo, hi3, hy1]
theorem run_to_none (w : World) :
    (Instr.slice 37 (.slice none 0 0) none (some (.int .i64 ((0 : Nat) : Int))) none).run Tryz.prog w = .ok (.slice none 0 0) w := by
  simp [Instr.slice, Instr.sliceBounds, Instr.sliceBound, asIntOf, run_underlying under_barsC]
theorem run_from_none (w : World) :
    (Instr.slice 37 (.slice none 0 0) (some (.int .i64 ((0 : Nat) : Int))) none none).run Tryz.prog w = .ok (.slice none 0 0) w := by
  simp [Instr.slice, Instr.sliceBounds, Instr.sliceBound, asIntOf, run_underlying under_barsC]
/-- both cuts of an owned row of bars -/
theorem bars_cut {w : World} {O m : Nat} {v : Value} {xs : List Value} (h : w.ownsRow O 48 3 v m xs) (k : Nat) (hk : k ≤ m) :
    ∃ p p2 c, v = .slice p m c ∧ (∀ w', (Instr.slice 37 (.slice p m c) none (some (.int .i64 (k : Int))) none).run Tryz.prog w' = .ok (.slice p k c) w') ∧ (∀ w', (Instr.slice 37 (.slice p m c) (some (.int .i64 (k : Int))) none none).run Tryz.prog w' = .ok (.slice p2 (m - k) (c - k)) w') ∧
      (p = none → c = 0 ∧ k = 0) ∧ (p2 = none → c - k = 0 ∧ m - k = 0) ∧
      (∀ ad, p = some ad → ∀ j u, (xs.take (k * 3))[j]? = some u → w.cell? (ad.add j) = some u) ∧ (∀ ad, p2 = some ad → ∀ j u, (xs.drop (k * 3))[j]? = some u → w.cell? (ad.add j) = some u) ∧
      (xs.take (k * 3)).length = k * 3 ∧ (xs.drop (k * 3)).length = (m - k) * 3 := by
  have hlen : xs.length = m * 3 := h.1
  have hkm : k * 3 ≤ m * 3 := Nat.mul_le_mul_right _ hk
  have hl1 : (xs.take (k * 3)).length = k * 3 := by rw [List.length_take, hlen]; omega
  have hl2 : (xs.drop (k * 3)).length = (m - k) * 3 := by rw [List.length_drop, hlen]; omega
  rcases Joins.ownsRow_forms h with ⟨rfl, rfl⟩ | ⟨g, cap, rfl⟩
  · obtain rfl : k = 0 := by omega
    exact ⟨none, none, 0, rfl, run_to_none, run_from_none, fun _ => ⟨rfl, rfl⟩, fun _ => ⟨rfl, rfl⟩, (fun ad e => by cases e), (fun ad e => by cases e), hl1, hl2⟩
  · have hcap : m ≤ cap := by
      rcases h.2 with ⟨e, -⟩ | ⟨g', cap', cur, e, -, -, hc, -⟩
      · cases e
      · cases e; exact hc
    have hcell := h.cells (g := g) rfl
    have hadd : ∀ (o j : Nat), (⟨g, o, none⟩ : Addr).add j = ⟨g, o + j, none⟩ := fun o j => by unfold Addr.add; split <;> simp_all
    refine ⟨some ⟨g, 0, none⟩, some (cutA g k cap 3), cap, rfl, run_to_bars g m cap k hk hcap, run_from_bars g m cap k hk, fun e => (by cases e), fun e => (by cases e), fun ad e j u hu => ?_, fun ad e j u hu => ?_, hl1, hl2⟩
    · cases e
      have hj := (List.getElem?_eq_some_iff.1 hu).1
      rw [hl1] at hj
      rw [List.getElem?_take, if_pos hj] at hu
      exact hcell j u hu
    · have hj := (List.getElem?_eq_some_iff.1 hu).1
      rw [hl2] at hj
      have hk2 : ¬ cap = k := fun e => by
        have : m = k := by omega
        subst this
        simp at hj
      unfold cutA at e
      rw [if_neg hk2] at e
      cases e
      rw [List.getElem?_drop] at hu
      have := hcell (k * 3 + j) u hu
      rw [hadd] at this ⊢
      rw [Nat.zero_add] at this
      exact this

theorem barVs_get : ∀ (l : List (Int × Int)) (i : Nat), i < l.length → (barVs l)[i * 3]? = some (.int .i64 0) ∧ (barVs l)[i * 3 + 1]? = some (.int .i64 (l.getD i (0, 0)).1) ∧ (barVs l)[i * 3 + 2]? = some (.int .i64 (l.getD i (0, 0)).2)
  | [], i, h => absurd h (Nat.not_lt_zero i)
  | x :: l, 0, _ => ⟨rfl, rfl, rfl⟩
  | x :: l, i + 1, h => by
    have ih := barVs_get l i (by simpa using h)
    have e : barVs (x :: l) = [.int .i64 0, .int .i64 x.1, .int .i64 x.2] ++ barVs l := rfl
    rw [e, Nat.succ_mul]
    refine ⟨?_, ?_, ?_⟩
    · rw [List.getElem?_append_right (by simp)]; exact ih.1
    · rw [List.getElem?_append_right (by show 3 ≤ i * 3 + 3 + 1; omega)]
      have : i * 3 + 3 + 1 - [Value.int .i64 0, .int .i64 x.1, .int .i64 x.2].length = i * 3 + 1 := by show i * 3 + 3 + 1 - 3 = _; omega
      rw [this]; exact ih.2.1
    · rw [List.getElem?_append_right (by show 3 ≤ i * 3 + 3 + 2; omega)]
      have : i * 3 + 3 + 2 - [Value.int .i64 0, .int .i64 x.1, .int .i64 x.2].length = i * 3 + 2 := by show i * 3 + 3 + 2 - 3 = _; omega
      rw [this]; exact ih.2.2
theorem barVs_len (l : List (Int × Int)) : (barVs l).length = l.length * 3 := by
  unfold barVs
  induction l with
  | nil => rfl
  | cons x l ih => rw [List.flatMap_cons, List.length_append, ih, List.length_cons, Nat.succ_mul]; show 3 + l.length * 3 = _; omega
theorem barVs_app (a b : List (Int × Int)) : barVs (a ++ b) = barVs a ++ barVs b := by unfold barVs; rw [List.flatMap_append]
theorem barVs_take (l : List (Int × Int)) (k : Nat) : (barVs l).take (k * 3) = barVs (l.take k) := by
  by_cases hk : k ≤ l.length
  · have e : barVs l = barVs (l.take k) ++ barVs (l.drop k) := by rw [← barVs_app, List.take_append_drop]
    rw [e, List.take_left' (by rw [barVs_len, List.length_take]; omega)]
  · rw [List.take_of_length_le (l := l) (by omega), List.take_of_length_le (by rw [barVs_len]; omega)]
theorem barVs_drop (l : List (Int × Int)) (k : Nat) (hk : k ≤ l.length) : (barVs l).drop (k * 3) = barVs (l.drop k) := by
  have e : barVs l = barVs (l.take k) ++ barVs (l.drop k) := by rw [← barVs_app, List.take_append_drop]
  rw [e, List.drop_left' (by rw [barVs_len, List.length_take]; omega)]
theorem barVs_one (l : List (Int × Int)) : ∀ u ∈ barVs l, u.oneCell' = true := fun u hu => by
  unfold barVs at hu
  obtain ⟨p, -, hp⟩ := List.mem_flatMap.1 hu
  unfold barV at hp
  simp only [List.mem_cons, List.not_mem_nil, or_false] at hp
  rcases hp with rfl | rfl | rfl <;> rfl
/-- a bar's cells -/
theorem bar_cells {O : Nat} {w : World} {v : Value} {l : List (Int × Int)} (h : w.ownsRow O 48 3 v l.length (barVs l)) {i : Nat} (hi : i < l.length) : ∃ g c, v = .slice (some ⟨g, 0, none⟩) l.length c ∧ w.cell? ⟨g, i * 3, none⟩ = some (.int .i64 0) ∧ w.cell? ⟨g, i * 3 + 1, none⟩ = some (.int .i64 (l.getD i (0, 0)).1) ∧ w.cell? ⟨g, i * 3 + 2, none⟩ = some (.int .i64 (l.getD i (0, 0)).2) := by
  obtain ⟨g, c, rfl⟩ := Joins.ownsRow_form h (by omega)
  obtain ⟨h1, h2, h3⟩ := barVs_get l i hi
  exact ⟨g, c, rfl, (h.cellAt _ (by omega)).trans h1, (h.cellAt _ (by omega)).trans h2, (h.cellAt _ (by omega)).trans h3⟩
/-- one in the piece is lower -/
def anyL (hf : Nat → Int) (N : List Nat) (m : Int) (r : Nat) : Bool := (N.take r).any fun y => decide (hf y < m)
theorem anyL_0 (hf : Nat → Int) (N : List Nat) (m : Int) : anyL hf N m 0 = false := rfl
theorem anyL_succ {hf : Nat → Int} {N : List Nat} {m : Int} {r : Nat} (hr : r < N.length) : anyL hf N m (r + 1) = (anyL hf N m r || decide (hf (N.getD r 0) < m)) := by
  unfold anyL
  rw [take_snoc_getD 0 N r hr, List.any_append]
  simp
theorem anyL_iff {hf : Nat → Int} {N : List Nat} {m : Int} : anyL hf N m N.length = true ↔ ∃ y ∈ N, hf y < m := by
  unfold anyL
  rw [List.take_length, List.any_eq_true]
  simp
def LowP (n : Nat) (h : List Int) (Ad : Nat → Nat → Prop) (w : World) (e : Ending) (w' : World) : Prop :=
  ∃ (s : Value) (B' : List (Int × Int)), e = .returned s ∧ Below w.heap.size w w' ∧ w'.ownsRow w.heap.size 48 3 s B'.length (barVs B') ∧ LowS n h Ad n B'
theorem barEnd_pick (hf : Nat → Int) (b : Bool) (k : Nat) (p : Option Nat) : barEnd hf (pickO b k p) = if b = true then hf k else barEnd hf p := by unfold pickO; cases b <;> rfl

set_option maxRecDepth 100000 in
set_option maxHeartbeats 32000000 in
theorem lowBars_any (B : Nat) (A : List (List Int)) (h : List Int) (va vh : Value) (w : World) (hB : B ≤ w.heap.size) (hva : ListsIn B w va A) (hn : A.length ≤ 1000) (hl : ∀ l ∈ A, l.length ≤ 500) (hvh : IntsIn B w vh h)
    (hlen : h.length = (vertR A).length) (hE : EdgO (vertR A) (dimF A 1)) (hnd : h.Nodup) (hbd : ∀ x ∈ h, -1048576 ≤ x ∧ x ≤ 1048576) :
    Calls Tryz.prog 17 #[va, vh] w (LowP (vertR A).length h (AdE (edgN (vertR A) (dimF A 1))) w) := by
  obtain ⟨iB, hiB, hy0, hy1, hy2⟩ := info_parts info_barC
  have hVn := Nat.le_trans (vertR_len A) hn
  have HVO := Lib.hid (verticesOf_any B A va w hva (by omega) (fun l h => by have := hl l h; omega))
  unfold NumsP at HVO
  have HRE := Lib.hid (fun wx (hx : Below w.heap.size w wx) i m hi hm => reach_any B A h i m va vh wx (Nat.le_trans hB hx.size) (hva.below hx (Nat.le_refl _)) hn hl (hvh.below hx (Nat.le_refl _)) hlen hE hi hm)
  have HHI := Lib.hid (fun wx (hx : Below w.heap.size w wx) x => highOf_any B A h x va vh wx (hva.below hx (Nat.le_refl _)) (by omega) (fun l h => by have := hl l h; omega) (hvh.below hx (Nat.le_refl _)) hlen)
  have HG := Lib.hid (gr_of hE rfl hlen hnd)
  have HVH := Lib.hid (fun wx (hx : Below w.heap.size w wx) => hvh.below hx (Nat.le_refl _))
  obtain ⟨V, hV⟩ : ∃ V, vertR A = V := ⟨_, rfl⟩
  rw [hV] at HRE HHI HVO HG hlen hE hVn ⊢
  obtain ⟨E, hEe⟩ : ∃ E, dimF A 1 = E := ⟨_, rfl⟩
  rw [hEe] at HRE HG hE ⊢
  obtain ⟨n, hnn⟩ : ∃ n, V.length = n := ⟨_, rfl⟩
  have HNN := Lib.hid hnn
  rw [hnn] at HVO HG hlen hVn HRE ⊢
  have HHV : Hid (∀ y, y < n → hiF V h (V.getD y 0) = h.getD y 0) := fun y hy => by unfold hiF; rw [idx_getD hE.1 (by omega)]
  have HBD : Hid (∀ y, y < n → -1048576 ≤ h.getD y 0 ∧ h.getD y 0 ≤ 1048576) := fun y hy => hbd _ (by rw [getD_elem (by omega)]; exact List.getElem_mem _)
  obtain ⟨ph, ch, hve, -⟩ := id hvh
  rw [hlen] at hve
  subst hve
  have HL := Lib.hid hlen
  have HVN := Lib.hid hVn
  obtain ⟨hf, hhf⟩ : ∃ f : Nat → Int, (fun i => h.getD i 0) = f := ⟨_, rfl⟩
  have HHE := Lib.hid hhf
  have HHF : Hid (∀ i, h.getD i 0 = hf i) := fun i => by rw [← hhf]
  obtain ⟨Ad, hAd⟩ : ∃ Ad, AdE (edgN V E) = Ad := ⟨_, rfl⟩
  rw [hhf, hAd] at HRE HG
  rw [hAd]
  clear hB hva hn hl hvh hlen hE hV hEe hnn hVn hnd hbd hhf hAd
  go_enter Tryz.func17, Tryz.ntmps17
  go_wp2_with fail
  refine HVO.out.mono ?_
  rintro e w2 ⟨pv, cv, rfl, hb1, hiv⟩
  have HB2 := Lib.hid hb1
  have HV2 := Lib.hid hiv
  have hs2 : w.heap.size ≤ w2.heap.size := hb1.size
  have HVC : Hid (∀ wx, Below w2.heap.size w2 wx → ∀ i, i < n → ∃ bv ov, pv = some ⟨bv, ov, none⟩ ∧ wx.cell? ⟨bv, ov + i, none⟩ = some (.int .i64 (V.getD i 0))) := fun wx hx i hi => by
    obtain ⟨b, o, c, e1, e2⟩ := ints_cell (HV2.out.below hx (Nat.le_refl _)) i (by rw [HNN.out]; exact hi)
    cases e1
    exact ⟨b, o, rfl, e2⟩
  have HHC : Hid (∀ wx, Below w2.heap.size w2 wx → ∀ i, i < n → ∃ bv ov, ph = some ⟨bv, ov, none⟩ ∧ wx.cell? ⟨bv, ov + i, none⟩ = some (.int .i64 (hf i))) := fun wx hx i hi => by
    obtain ⟨b, o, c, e1, e2⟩ := ints_cell (HVH.out wx (HB2.out.trans (hx.mono HB2.out.size))) i (by rw [HL.out]; exact hi)
    cases e1
    rw [HHF.out] at e2
    exact ⟨b, o, rfl, e2⟩
  clear hb1 hiv HVO
  go_wp2_with fail
  go_loopw [6, 7] (fun o i wr => ∃ (j : Nat) (out : List (Int × Int)), j ≤ n ∧ i = .int .i64 (j : Int) ∧ LowS n h Ad j out ∧ Below w2.heap.size w2 wr ∧ wr.ownsRow w2.heap.size 48 3 o out.length (barVs out)) (fun _ i _ => n - (intOf i).toNat)
  case atStart => exact ⟨0, [], Nat.zero_le _, rfl, lowS_0, Below.refl _ _, World.ownsRow_nil _ _ _ _⟩
  case round =>
    obtain ⟨j, out, hj, rfl, hS, hb, hO⟩ := hrel
    obtain ⟨wo, rfl⟩ : ∃ wo : World, wo = wr := ⟨_, rfl⟩
    have hml := lowS_len (by rw [HHE.out]; exact HG.out) hS
    obtain ⟨m, hm⟩ : ∃ m, out.length = m := ⟨_, rfl⟩
    rw [hm] at hO hml
    have HM := Lib.hid hm
    have HS := Lib.hid hS
    have HB := Lib.hid hb
    have HO := Lib.hid hO
    have hVn := HVN.out
    obtain ⟨po, co, rfl⟩ : ∃ p c, u6 = .slice p m c := by
      rcases Joins.ownsRow_forms hO with ⟨e, h0⟩ | ⟨g, cap, e⟩
      · exact ⟨none, 0, by rw [e, h0]⟩
      · exact ⟨_, cap, e⟩
    clear hS hO hm
    by_cases hjn : j < n
    · obtain ⟨bv, ov, rfl, ev⟩ := HVC.out _ hb.drew j hjn
      obtain ⟨bh, oh, rfl, eh⟩ := HHC.out _ hb.drew j hjn
      obtain ⟨zj, hzj⟩ : ∃ z, V.getD j 0 = z := ⟨_, rfl⟩
      rw [hzj] at ev
      have HZJ := Lib.hid hzj
      obtain ⟨yj, hyj⟩ : ∃ y, hf j = y := ⟨_, rfl⟩
      have HYJ := Lib.hid hyj
      have HREJ : Hid (∀ wx, Below w2.heap.size w2 wx → ∀ m, yj ≤ m → Calls Tryz.prog 43 #[va, .slice (some ⟨bh, oh, none⟩) n ch, .int .i64 zj, .int .i64 m] wx (ReachP V n hf Ad m j wx)) := fun wx hx m hm => by
        have := HRE.out wx (HB2.out.trans (hx.mono HB2.out.size)) j m hjn (by rw [HHF.out, hyj]; exact hm)
        rwa [hzj] at this
      have HRC1 := Lib.hid (HREJ.out wo.drew hb.drew yj (Int.le_refl _))
      unfold ReachP at HRC1
      have HDB := Lib.hid hb.drew
      rw [hyj] at eh
      have hs0 : wo.drew.cell? ⟨bv, ov + j, none⟩ = some (.int .i64 zj) ∧ wo.drew.cell? ⟨bh, oh + j, none⟩ = some (.int .i64 yj) := ⟨ev, eh⟩
      have HS0 := Lib.hid hs0
      clear hb ev eh hzj hyj
      go_wp2_with fail
      go_still_tail 10, (by kernel_rfl)
      change wpList _ _ _ _ _ wo.drew
      go_wp2_with fail
      refine HRC1.out.mono ?_
      rintro e wa ⟨N0, k0, pN, cN, hk0, rfl, hba, hia, hPN⟩
      have HBA := Lib.hid (HDB.out.trans (hba.mono HDB.out.size))
      have HOA := Lib.hid (owns_keep HO.out fun q hq => hba.block q (HO.out.lt q hq).2)
      have hL1 := piece_one HG.out hjn (by rw [HYJ.out]; exact hPN)
      rw [hk0.out] at hL1
      have hk0n := piece_len hPN
      rw [hk0.out] at hk0n
      have HL1 := Lib.hid hL1
      clear hba hia hPN hk0 hs0 hL1
      by_cases hN1 : k0 ≤ 1
      rotate_left
      · have hno := lowS_no HS.out (by rw [HHE.out]; exact fun hc => hN1 (HL1.out.2 hc))
        have HNO := Lib.hid hno
        have hN2 : 1 < k0 := by omega
        clear hN1 hno
        go_wp2_with fail
        go_roundw
        case rel => exact ⟨j + 1, out, hjn, by go_num, HNO.out, HBA.out, by rw [HM.out]; exact HOA.out⟩
        case measure => simp [intOf]; omega
      · have hLm := HL1.out.1 hN1
        have HLM := Lib.hid hLm
        clear hLm
        go_wp2_with fail
        go_loopw [8, 9] (fun d kk wr => ∃ (t : Nat) (p : Option Nat), t ≤ n ∧ kk = .int .i64 (t : Int) ∧ FstK hf (LowQ n hf Ad j) t p ∧ d = .int .i64 (barEnd hf p) ∧ Below wa.heap.size wa wr) (fun _ kk _ => n - (intOf kk).toNat)
        case atStart => exact ⟨0, none, Nat.zero_le _, rfl, fstK_0, rfl, Below.refl _ _⟩
        case round =>
          obtain ⟨t, p, ht, rfl, hFk, rfl, hbt⟩ := hrel
          obtain ⟨wt, rfl⟩ : ∃ wt : World, wt = wr := ⟨_, rfl⟩
          have HFK := Lib.hid hFk
          have HBT := Lib.hid hbt
          have HB2T := Lib.hid (HBA.out.trans (hbt.mono HBA.out.size))
          obtain ⟨dv, hdv⟩ : ∃ d, barEnd hf p = d := ⟨_, rfl⟩
          rw [hdv]
          have HDV := Lib.hid hdv
          clear hFk hbt hdv
          by_cases htn : t < n
          · obtain ⟨bh', oh', e1, et⟩ := HHC.out _ HB2T.out t htn
            obtain ⟨rfl, rfl⟩ : bh = bh' ∧ oh = oh' := by cases e1; exact ⟨rfl, rfl⟩
            obtain ⟨bh', oh', e2, ej⟩ := HHC.out _ HB2T.out j hjn
            obtain ⟨rfl, rfl⟩ : bh = bh' ∧ oh = oh' := by cases e2; exact ⟨rfl, rfl⟩
            rw [HYJ.out] at ej
            have hbdt := HBD.out t htn
            rw [HHF.out] at hbdt
            obtain ⟨yt, hyt⟩ : ∃ y, hf t = y := ⟨_, rfl⟩
            rw [hyt] at et hbdt
            have HYT := Lib.hid hyt
            clear e1 e2 hyt
            by_cases hA : yt ≤ yj
            · have hsk := fstK_no HFK.out (fun hq => by have := hq.2.1; rw [HYJ.out, HYT.out] at this; omega)
              have HSK := Lib.hid hsk
              have q1 : decide (yt ≤ yj) = true := decide_eq_true hA
              clear hsk hA hbdt
              go_wp2_with fail
              go_quiet (fail)
              go_wp2_with fail
              go_roundw
              case rel => exact ⟨t + 1, p, htn, by go_num, HSK.out, by rw [HDV.out], HBT.out.trans ((Below.drewN wt _).mono HBT.out.size)⟩
              case measure => simp [intOf]; omega
            · have q1 : decide (yt ≤ yj) = false := decide_eq_false hA
              have hjt : yj < yt := by omega
              by_cases hC : dv ≤ yt
              · have hsk : FstK hf (LowQ n hf Ad j) (t + 1) p := by
                  have hd := HDV.out
                  have hF := HFK.out
                  cases p with
                  | none => have : (1048577 : Int) = dv := hd; omega
                  | some b => exact fstK_old hF (by have : hf b = dv := hd; rw [HYT.out]; omega)
                have HSK := Lib.hid hsk
                have q2 : decide (yt ≥ dv) = true := decide_eq_true hC
                have q3 : decide (dv ≤ yt) = true := decide_eq_true hC
                clear hsk hA hC hbdt
                go_wp2_with fail
                go_quiet (fail)
                go_wp2_with fail
                go_roundw
                case rel => exact ⟨t + 1, p, htn, by go_num, HSK.out, by rw [HDV.out], HBT.out.trans ((Below.drewN wt _).mono HBT.out.size)⟩
                case measure => simp [intOf]; omega
              · have q2 : decide (yt ≥ dv) = false := decide_eq_false hC
                have q3 : decide (dv ≤ yt) = false := decide_eq_false hC
                have HCC := Lib.hid (show yt < dv by omega)
                clear hA hC hbdt
                go_wp2_with fail
                go_quiet (fail)
                have hbq := Below.drewN wt nq
                obtain ⟨wq, hwq⟩ : ∃ x, wt.drewN nq = x := ⟨_, rfl⟩
                rw [hwq] at hbq ⊢
                have HBTQ := Lib.hid (HBT.out.trans (hbq.mono HBT.out.size))
                have HB2Q := Lib.hid (HB2T.out.trans (hbq.mono HB2T.out.size))
                have HRC2 := Lib.hid (HREJ.out wq.drew HB2Q.out.drew yt (Int.le_of_lt hjt))
                unfold ReachP at HRC2
                obtain ⟨bv', ov', e1, ev⟩ := HVC.out _ HB2Q.out.drew j hjn
                obtain ⟨rfl, rfl⟩ : bv = bv' ∧ ov = ov' := by cases e1; exact ⟨rfl, rfl⟩
                obtain ⟨bh', oh', e2, et2⟩ := HHC.out _ HB2Q.out.drew t htn
                obtain ⟨rfl, rfl⟩ : bh = bh' ∧ oh = oh' := by cases e2; exact ⟨rfl, rfl⟩
                rw [HZJ.out] at ev
                rw [HYT.out] at et2
                have hs0 : wq.drew.cell? ⟨bv, ov + j, none⟩ = some (.int .i64 zj) ∧ wq.drew.cell? ⟨bh, oh + t, none⟩ = some (.int .i64 yt) := ⟨ev, et2⟩
                have HS0 := Lib.hid hs0
                clear hwq hbq e1 e2 ev et2 et ej
                go_wp2_with fail
                go_still_tail 10, (by kernel_rfl)
                change wpList _ _ _ _ _ wq.drew
                go_wp2_with fail
                refine HRC2.out.mono ?_
                rintro e wb ⟨N, kN, pN, cN, hkN, rfl, hbb, hib, hPN⟩
                have HBTB := Lib.hid ((HBTQ.out.drew).trans (hbb.mono (HBTQ.out.drew).size))
                have HB2B := Lib.hid ((HB2Q.out.drew).trans (hbb.mono (HB2Q.out.drew).size))
                have HIB := Lib.hid hib
                have HPN := Lib.hid hPN
                have hkn := piece_len hPN
                rw [hkN.out] at hkn
                have hd0 : Value.int .i64 dv = .int .i64 (barEnd hf (pickO (anyL hf N yj 0) t p)) := by rw [anyL_0]; show _ = Value.int .i64 (barEnd hf p); rw [HDV.out]
                have HD0 := Lib.hid hd0
                clear hbb hib hPN hs0 hd0
                go_wp2_with fail
                go_loopw [8, 11] (fun d nn wr => ∃ (r : Nat), r ≤ kN ∧ nn = .int .i64 (r : Int) ∧ d = .int .i64 (barEnd hf (pickO (anyL hf N yj r) t p)) ∧ Below wb.heap.size wb wr) (fun _ nn _ => kN - (intOf nn).toNat)
                case atStart => exact ⟨0, Nat.zero_le _, rfl, HD0.out, Below.refl _ _⟩
                case round =>
                  obtain ⟨r, hr, rfl, rfl, hbr⟩ := hrel
                  obtain ⟨wr', hwr'⟩ : ∃ wx : World, wx = wr := ⟨_, rfl⟩
                  have HBR := Lib.hid hbr
                  have HB2R := Lib.hid (HB2B.out.trans (hbr.mono HB2B.out.size))
                  clear hbr hwr'
                  by_cases hrn : r < kN
                  · have hrl : r < N.length := by rw [hkN.out]; exact hrn
                    obtain ⟨x, hx⟩ : ∃ x, N.getD r 0 = x := ⟨_, rfl⟩
                    have hxm : x ∈ N := by rw [← hx, List.getD_eq_getElem?_getD, List.getElem?_eq_getElem hrl]; exact List.getElem_mem hrl
                    have hxn := HPN.out.lt x hxm
                    have hvx := verN_get (V := V) hrl
                    rw [hx] at hvx
                    obtain ⟨bN, oN, cN', ee, hcx⟩ := ints_cell (HIB.out.below (HBR.out.drew) (Nat.le_refl _)) r (by rw [verN_len]; exact hrl)
                    rw [verN_len, hkN.out] at ee
                    obtain ⟨rfl, rfl⟩ : pN = some ⟨bN, oN, none⟩ ∧ cN = cN' := by cases ee; exact ⟨rfl, rfl⟩
                    rw [hvx] at hcx
                    have hhx := HHV.out x hxn
                    rw [HHF.out] at hhx
                    have hst := anyL_succ (hf := hf) (m := yj) hrl
                    rw [hx] at hst
                    obtain ⟨zx, hzx⟩ : ∃ z, V.getD x 0 = z := ⟨_, rfl⟩
                    rw [hzx] at hcx hhx
                    have HHX := HHI.out wr.drew (HB2.out.trans (HB2R.out.drew.mono HB2.out.size)) zx
                    rw [hhx] at HHX
                    obtain ⟨yx, hyx⟩ : ∃ y, hf x = y := ⟨_, rfl⟩
                    rw [hyx] at HHX hst
                    have HHX1 := Lib.hid HHX
                    obtain ⟨bh', oh', e2, ej⟩ := HHC.out _ HB2R.out.drew j hjn
                    obtain ⟨rfl, rfl⟩ : bh = bh' ∧ oh = oh' := by cases e2; exact ⟨rfl, rfl⟩
                    rw [HYJ.out] at ej
                    have hs0 : wr.drew.cell? ⟨bN, oN + r, none⟩ = some (.int .i64 zx) ∧ wr.drew.cell? ⟨bh, oh + j, none⟩ = some (.int .i64 yj) := ⟨hcx, ej⟩
                    have HS0 := Lib.hid hs0
                    have HST := Lib.hid hst
                    obtain ⟨dr, hdr⟩ : ∃ d, barEnd hf (pickO (anyL hf N yj r) t p) = d := ⟨_, rfl⟩
                    rw [hdr]
                    have HDR := Lib.hid hdr
                    clear hx hxm hvx ee hcx hhx hzx HHX hyx e2 ej hst hdr hrl
                    go_wp2_with fail
                    go_region_held3 (fun wx => wx.cell? ⟨bN, oN + r, none⟩ = some (.int .i64 zx) ∧ wx.cell? ⟨bh, oh + j, none⟩ = some (.int .i64 yj)) (first | assumption)
                      (first
                        | (go_at_call 46; with_reducible refine HHX1.out.mono ?_; rintro e wc ⟨rfl, hbc⟩; have hsC : wc.cell? ⟨bN, oN + r, none⟩ = some (.int .i64 zx) ∧ wc.cell? ⟨bh, oh + j, none⟩ = some (.int .i64 yj) := ⟨(hbc.cell (p := ⟨bN, oN + r, none⟩) (lt_of_cell HS0.out.1)).trans HS0.out.1, (hbc.cell (p := ⟨bh, oh + j, none⟩) (lt_of_cell HS0.out.2)).trans HS0.out.2⟩))
                    have HBC := Lib.hid (HBR.out.drew.trans (hbc.mono HBR.out.drew.size))
                    obtain ⟨bh', oh', e2, et2⟩ := HHC.out wc (HB2B.out.trans (HBC.out.mono HB2B.out.size)) t htn
                    obtain ⟨rfl, rfl⟩ : bh = bh' ∧ oh = oh' := by cases e2; exact ⟨rfl, rfl⟩
                    rw [HYT.out] at et2
                    clear hbc hsC hs0 e2
                    by_cases hlt : yx < yj
                    · have hdd : barEnd hf (pickO (anyL hf N yj (r + 1)) t p) = yt := by
                        rw [HST.out, decide_eq_true hlt, Bool.or_true]; exact HYT.out
                      have HDD := Lib.hid hdd
                      clear hdd
                      go_wp2_with fail
                      go_roundw
                      case rel => exact ⟨r + 1, hrn, by go_num, by rw [HDD.out], HBC.out⟩
                      case measure => simp [intOf]; omega
                    · have hdd : barEnd hf (pickO (anyL hf N yj (r + 1)) t p) = dr := by
                        rw [HST.out, decide_eq_false hlt, Bool.or_false]; exact HDR.out
                      have HDD := Lib.hid hdd
                      clear hdd
                      go_wp2_with fail
                      go_roundw
                      case rel => exact ⟨r + 1, hrn, by go_num, by rw [HDD.out], HBC.out⟩
                      case measure => simp [intOf]; omega
                  · obtain rfl : kN = r := by omega
                    have hfst : FstK hf (LowQ n hf Ad j) (t + 1) (pickO (anyL hf N yj kN) t p) := by
                      have hli := low_iff (h := hf) (i := j) (k := t) (by rw [HYT.out]; exact HPN.out) htn (by rw [HYJ.out, HYT.out]; exact hjt)
                      rw [HYJ.out, ← anyL_iff, hkN.out] at hli
                      cases hany : anyL hf N yj kN with
                      | true =>
                        refine fstK_new HFK.out (hli.1 hany) fun b e => ?_
                        have hd := HDV.out
                        rw [e] at hd
                        have : hf b = dv := hd
                        have := HCC.out
                        rw [HYT.out]; omega
                      | false => exact fstK_no HFK.out (fun hq => by rw [hli.2 hq] at hany; cases hany)
                    have HFST := Lib.hid hfst
                    have HBX := Lib.hid (HBTB.out.trans (HBR.out.mono HBTB.out.size))
                    obtain ⟨pz, hpz⟩ : ∃ pz, pickO (anyL hf N yj kN) t p = pz := ⟨_, rfl⟩
                    rw [hpz] at HFST ⊢
                    clear hfst hpz
                    go_wp2_with fail
                    go_roundw
                    case rel => exact ⟨t + 1, pz, htn, by go_num, HFST.out, rfl, HBX.out⟩
                    case measure => simp [intOf]; omega
          · obtain rfl : n = t := by omega
            have hq : FirstH hf (LowQ n hf Ad j) p := fstK_all HFK.out fun k hk => hk.1
            have hadd := lowS_add (by rw [HHE.out]; exact HG.out) HS.out (by rw [HHE.out]; exact HLM.out) (q := p) (by rw [HHE.out]; exact hq)
            rw [HHE.out, HDV.out, HHF.out, HYJ.out] at hadd
            have HADD := Lib.hid hadd
            have HOT := Lib.hid (owns_keep HOA.out fun q hq => HBT.out.block q (HOA.out.lt q hq).2)
            clear hq hadd
            go_wp2_with fail
            go_loopw [12] (fun kk wr => ∃ (r4 : Nat), r4 ≤ m ∧ kk = .int .i64 (r4 : Int) ∧ (∀ s, s < r4 → (out.getD s (0, 0)).1 < yj) ∧ Below wt.heap.size wt wr) (fun kk _ => m - (intOf kk).toNat)
            case atStart => exact ⟨0, Nat.zero_le _, rfl, fun s hs => absurd hs (Nat.not_lt_zero s), Below.refl _ _⟩
            case round =>
              obtain ⟨r4, hr4, rfl, hlow, hb4⟩ := hrel
              have HB4 := Lib.hid hb4
              have HLOW := Lib.hid hlow
              have HB2R := Lib.hid (HB2T.out.trans (hb4.mono HB2T.out.size))
              have hO4 := owns_keep HOT.out fun q hq => hb4.block q (HOT.out.lt q hq).2
              have HOR := Lib.hid hO4
              obtain ⟨bh', oh', e2, ej⟩ := HHC.out _ HB2R.out j hjn
              obtain ⟨rfl, rfl⟩ : bh = bh' ∧ oh = oh' := by cases e2; exact ⟨rfl, rfl⟩
              rw [HYJ.out] at ej
              clear e2 hb4 hlow
              by_cases hcon : r4 < m ∧ (out.getD r4 (0, 0)).1 < yj
              · obtain ⟨h41, h42⟩ := hcon
                obtain ⟨g4, c4, e4, -, hc4, -⟩ := bar_cells (by rw [HM.out]; exact hO4) (i := r4) (by rw [HM.out]; exact h41)
                rw [HM.out] at e4
                obtain ⟨rfl, rfl⟩ : po = some ⟨g4, 0, none⟩ ∧ co = c4 := by cases e4; exact ⟨rfl, rfl⟩
                have hlow2 : ∀ s, s < r4 + 1 → (out.getD s (0, 0)).1 < yj := fun s hs => by
                  rcases (show s < r4 ∨ s = r4 by omega) with h | rfl
                  · exact HLOW.out s h
                  · exact h42
                have HLOW2 := Lib.hid hlow2
                obtain ⟨y4, hy4⟩ : ∃ y, (out.getD r4 (0, 0)).1 = y := ⟨_, rfl⟩
                rw [hy4] at hc4 h42
                have q1 : decide (y4 < yj) = true := decide_eq_true h42
                clear hlow2 hy4 e4 hO4
                go_wp2_with fail
                go_quiet (fail)
                go_wp2_with fail
                go_roundw
                case rel => exact ⟨r4 + 1, h41, by go_num, HLOW2.out, HB4.out.trans ((Below.drewN wr _).mono HB4.out.size)⟩
                case measure => simp [intOf]; omega
              · have hpos : posB out yj = r4 := posB_of (by rw [HM.out]; exact hr4) HLOW.out fun h41 => by
                  rw [HM.out] at h41
                  apply Classical.byContradiction
                  intro hn4
                  exact hcon ⟨h41, by omega⟩
                have HPOS := Lib.hid hpos
                clear hpos
                by_cases h41 : r4 < m
                · obtain ⟨g4, c4, e4, -, hc4, -⟩ := bar_cells (by rw [HM.out]; exact hO4) (i := r4) (by rw [HM.out]; exact h41)
                  rw [HM.out] at e4
                  obtain ⟨rfl, rfl⟩ : po = some ⟨g4, 0, none⟩ ∧ co = c4 := by cases e4; exact ⟨rfl, rfl⟩
                  obtain ⟨y4, hy4⟩ : ∃ y, (out.getD r4 (0, 0)).1 = y := ⟨_, rfl⟩
                  rw [hy4] at hc4 hcon
                  have h42 : ¬ y4 < yj := fun h => hcon ⟨h41, h⟩
                  have q1 : decide (y4 < yj) = false := decide_eq_false h42
                  clear hy4 e4 hcon
                  go_wp2_with fail
                  go_quiet (fail)
                  obtain ⟨wz, hwz⟩ : ∃ x, wr.drewN nq = x := ⟨_, rfl⟩
                  have hbz : Below w2.heap.size w2 wz := by rw [← hwz]; exact HB2R.out.trans ((Below.drewN wr nq).mono HB2R.out.size)
                  have hOz : wz.ownsRow w2.heap.size 48 3 (.slice (some ⟨g4, 0, none⟩) m co) m (barVs out) := by rw [← hwz]; exact HOR.out
                  rw [hwz]
                  obtain ⟨p1, p2, c1, hv1, hcut1, -, hn1, -, hs1, -, hl1, -⟩ := bars_cut hOz r4 hr4
                  obtain ⟨rfl, rfl⟩ : (some ⟨g4, 0, none⟩) = p1 ∧ co = c1 := by cases hv1; exact ⟨rfl, rfl⟩
                  have HOZ := Lib.hid hOz
                  have HBZ := Lib.hid hbz
                  have HN1 := Lib.hid hn1
                  have HS1 := Lib.hid hs1
                  have HL1 := Lib.hid hl1
                  have hsz : w2.heap.size ≤ wz.heap.size := hbz.size
                  have HONE := Lib.hid (barVs_one out)
                  have HINS : Hid (insB out (yj, dv) = out.take r4 ++ [(yj, dv)] ++ out.drop r4) := by unfold Hid insB; rw [HPOS.out]
                  clear hwz hbz hOz hv1 hn1 hs1 hl1 hO4 ej
                  go_upto_region 23 with (at_builtin; go_must (refine wpList_app_s _ rfl (.tmp 109) (.tmp 112) 37 rfl w2.heap.size 48 iB (.agg #[.int .i64 0, .int .i64 0, .int .i64 0]) 3 24 under_barsC hiB hy0 hy1 hy2 rfl (by decide) (.slice none 0 0) 0 [] rfl (World.ownsRow_nil _ _ _ _) (some ⟨g4, 0, none⟩) r4 co ((barVs out).take (r4 * 3)) rfl HL1.out HN1.out HS1.out (fun u hu => HONE.out u (List.mem_of_mem_take hu)) (by unfold maxLen; omega) (by omega) hsz wz.heap.size rfl ?_); intro pn cn wA hownA hgrA horA)
                  have hNA : wA.ownsRow w2.heap.size 48 3 (.slice pn r4 cn) r4 (barVs (out.take r4)) := by
                    rw [← barVs_take]
                    simpa only [Nat.zero_add, List.nil_append] using hownA
                  have hbA : Below wz.heap.size wz wA := below_none hgrA
                  have HOZA := Lib.hid (owns_keep HOZ.out fun q hq => hbA.block q (HOZ.out.lt q hq).2)
                  have HPB : Hid (∀ q, (Value.slice pn r4 cn).ownBlock = some q → q = wz.heap.size) := fun q hq => by
                    have hq' : (Value.slice pn (0 + r4) cn).ownBlock = some q := by rw [Nat.zero_add]; exact hq
                    rcases horA with h | h
                    · rw [h] at hq'; cases hq'
                    · rw [h] at hq'; cases hq'; rfl
                  have HNA := Lib.hid hNA
                  have HBA3 := Lib.hid hbA
                  have HBA2 := Lib.hid (HBZ.out.trans (hbA.mono HBZ.out.size))
                  have hwzA : wz.heap.size ≤ wA.heap.size := hbA.size
                  obtain ⟨bh', oh', e2, ej⟩ := HHC.out wA HBA2.out j hjn
                  obtain ⟨rfl, rfl⟩ : bh = bh' ∧ oh = oh' := by cases e2; exact ⟨rfl, rfl⟩
                  rw [HYJ.out] at ej
                  clear e2 hownA hgrA horA hNA hbA hcut1
                  have hrm : r4 ≤ 1000 := by omega
                  try simp only [Nat.zero_add]
                  go_upto_region 24 with (at_builtin; go_must (refine wpList_append_lies _ rfl (.tmp 114) (.tmp 121) 37 rfl w2.heap.size 48 iB (.agg #[.int .i64 0, .int .i64 0, .int .i64 0]) 3 24 under_barsC hiB hy0 hy1 hy2 rfl (by decide) (.slice pn r4 cn) r4 (barVs (out.take r4)) rfl (HNA.out.alloc _) ⟨wA.heap.size, 0, none⟩ 1 1 [.int .i64 0, .int .i64 yj, .int .i64 dv] rfl rfl (World.news_of_block (cs := #[.int .i64 0, .int .i64 yj, .int .i64 dv]) (t := 48) (fr := (0, 0)) (heap_alloc_new wA _)) (by simp [Value.oneCell']) (by decide) (by unfold maxLen; omega) (by omega) (by simp; omega) (wA.heap.size + 1) (by simp) ?_); intro g2 c2 w9 hown2 hgr2 hat2 hlt2)
                  have hN9 : w9.ownsRow w2.heap.size 48 3 (.slice (some ⟨g2, 0, none⟩) (r4 + 1) c2) (r4 + 1) (barVs (out.take r4 ++ [(yj, dv)])) := by
                    rw [barVs_snoc]
                    exact hown2
                  have hOZ9 : w9.ownsRow w2.heap.size 48 3 (.slice (some ⟨g4, 0, none⟩) m co) m (barVs out) := owns_keep HOZ.out fun q hq => by
                    have h1 := (HOZ.out.lt q hq).2
                    refine (hgr2.block q (by simp; omega) fun e => ?_).trans ((alloc_old wA _ q (by omega)).trans ?_)
                    · have := HPB.out q e.symm
                      omega
                    · exact HBA3.out.block q h1
                  obtain ⟨p1, p2, c1, hv1, -, hcut2, -, hn2, -, hs2', -, hl2⟩ := bars_cut hOZ9 r4 hr4
                  obtain ⟨rfl, rfl⟩ : (some ⟨g4, 0, none⟩) = p1 ∧ co = c1 := by cases hv1; exact ⟨rfl, rfl⟩
                  obtain ⟨mr, hmr⟩ : ∃ x, m - r4 = x := ⟨_, rfl⟩
                  obtain ⟨cr, hcr⟩ : ∃ x, co - r4 = x := ⟨_, rfl⟩
                  rw [hmr] at hcut2 hn2 hl2
                  rw [hcr] at hcut2 hn2
                  have hmr2 : mr ≤ 1000 := by omega
                  have HMR : Hid (r4 + 1 + mr = out.length + 1) := by unfold Hid; have := HM.out; omega
                  have HN2 := Lib.hid hn2
                  have HS2 := Lib.hid hs2'
                  have HL2 := Lib.hid hl2
                  have HN9 := Lib.hid hN9
                  have hA9 : wA.heap.size ≤ w9.heap.size := by have := hgr2.size; simp at this; omega
                  have HB9 := Lib.hid ((HBA2.out.alloc (by omega) _).grown hgr2 (by simp; omega) fun i hi => (HNA.out.lt i hi).1)
                  have h29 : w2.heap.size ≤ w9.heap.size := by omega
                  clear hown2 hgr2 hat2 hlt2 hN9 hOZ9 hv1 hn2 hs2' hl2 hmr hcr ej
                  go_wp2_with (at_builtin; go_must (refine wpList_app_s _ rfl (.tmp 123) (.tmp 126) 37 rfl w2.heap.size 48 iB (.agg #[.int .i64 0, .int .i64 0, .int .i64 0]) 3 24 under_barsC hiB hy0 hy1 hy2 rfl (by decide) (.slice (some ⟨g2, 0, none⟩) (r4 + 1) c2) (r4 + 1) (barVs (out.take r4 ++ [(yj, dv)])) rfl HN9.out p2 mr cr ((barVs out).drop (r4 * 3)) rfl HL2.out HN2.out HS2.out (fun u hu => HONE.out u (List.mem_of_mem_drop hu)) (by unfold maxLen; omega) (by omega) h29 w9.heap.size rfl ?_); intro p3 c3 wC hownC hgrC horC; have HOC := Lib.hid hownC; have HGC := Lib.hid hgrC; clear hownC hgrC horC)
                  go_roundw
                  case rel =>
                    refine ⟨j + 1, insB out (yj, dv), hjn, by go_num, HADD.out, HB9.out.grown HGC.out h29 (fun i hi => (HN9.out.lt i hi).1), ?_⟩
                    have h1 := HOC.out
                    rw [barVs_drop out r4 (by rw [HM.out]; exact hr4), ← barVs_app, ← HINS.out] at h1
                    rw [insB_len, ← HMR.out]
                    exact h1
                  case measure => simp [intOf]; omega
                · obtain rfl : r4 = m := by omega
                  clear hcon
                  go_wp2_with fail
                  go_quiet (fail)
                  obtain ⟨wz, hwz⟩ : ∃ x, wr.drewN nq = x := ⟨_, rfl⟩
                  have hbz : Below w2.heap.size w2 wz := by rw [← hwz]; exact HB2R.out.trans ((Below.drewN wr nq).mono HB2R.out.size)
                  have hOz : wz.ownsRow w2.heap.size 48 3 (.slice po r4 co) r4 (barVs out) := by rw [← hwz]; exact HOR.out
                  rw [hwz]
                  obtain ⟨p1, p2, c1, hv1, hcut1, -, hn1, -, hs1, -, hl1, -⟩ := bars_cut hOz r4 hr4
                  obtain ⟨rfl, rfl⟩ : po = p1 ∧ co = c1 := by cases hv1; exact ⟨rfl, rfl⟩
                  have HOZ := Lib.hid hOz
                  have HBZ := Lib.hid hbz
                  have HN1 := Lib.hid hn1
                  have HS1 := Lib.hid hs1
                  have HL1 := Lib.hid hl1
                  have hsz : w2.heap.size ≤ wz.heap.size := hbz.size
                  have HONE := Lib.hid (barVs_one out)
                  have HINS : Hid (insB out (yj, dv) = out.take r4 ++ [(yj, dv)] ++ out.drop r4) := by unfold Hid insB; rw [HPOS.out]
                  clear hwz hbz hOz hv1 hn1 hs1 hl1 hO4 ej
                  go_upto_region 23 with (at_builtin; go_must (refine wpList_app_s _ rfl (.tmp 109) (.tmp 112) 37 rfl w2.heap.size 48 iB (.agg #[.int .i64 0, .int .i64 0, .int .i64 0]) 3 24 under_barsC hiB hy0 hy1 hy2 rfl (by decide) (.slice none 0 0) 0 [] rfl (World.ownsRow_nil _ _ _ _) po r4 co ((barVs out).take (r4 * 3)) rfl HL1.out HN1.out HS1.out (fun u hu => HONE.out u (List.mem_of_mem_take hu)) (by unfold maxLen; omega) (by omega) hsz wz.heap.size rfl ?_); intro pn cn wA hownA hgrA horA)
                  have hNA : wA.ownsRow w2.heap.size 48 3 (.slice pn r4 cn) r4 (barVs (out.take r4)) := by
                    rw [← barVs_take]
                    simpa only [Nat.zero_add, List.nil_append] using hownA
                  have hbA : Below wz.heap.size wz wA := below_none hgrA
                  have HOZA := Lib.hid (owns_keep HOZ.out fun q hq => hbA.block q (HOZ.out.lt q hq).2)
                  have HPB : Hid (∀ q, (Value.slice pn r4 cn).ownBlock = some q → q = wz.heap.size) := fun q hq => by
                    have hq' : (Value.slice pn (0 + r4) cn).ownBlock = some q := by rw [Nat.zero_add]; exact hq
                    rcases horA with h | h
                    · rw [h] at hq'; cases hq'
                    · rw [h] at hq'; cases hq'; rfl
                  have HNA := Lib.hid hNA
                  have HBA3 := Lib.hid hbA
                  have HBA2 := Lib.hid (HBZ.out.trans (hbA.mono HBZ.out.size))
                  have hwzA : wz.heap.size ≤ wA.heap.size := hbA.size
                  obtain ⟨bh', oh', e2, ej⟩ := HHC.out wA HBA2.out j hjn
                  obtain ⟨rfl, rfl⟩ : bh = bh' ∧ oh = oh' := by cases e2; exact ⟨rfl, rfl⟩
                  rw [HYJ.out] at ej
                  clear e2 hownA hgrA horA hNA hbA hcut1
                  have hrm : r4 ≤ 1000 := by omega
                  try simp only [Nat.zero_add]
                  go_upto_region 24 with (at_builtin; go_must (refine wpList_append_lies _ rfl (.tmp 114) (.tmp 121) 37 rfl w2.heap.size 48 iB (.agg #[.int .i64 0, .int .i64 0, .int .i64 0]) 3 24 under_barsC hiB hy0 hy1 hy2 rfl (by decide) (.slice pn r4 cn) r4 (barVs (out.take r4)) rfl (HNA.out.alloc _) ⟨wA.heap.size, 0, none⟩ 1 1 [.int .i64 0, .int .i64 yj, .int .i64 dv] rfl rfl (World.news_of_block (cs := #[.int .i64 0, .int .i64 yj, .int .i64 dv]) (t := 48) (fr := (0, 0)) (heap_alloc_new wA _)) (by simp [Value.oneCell']) (by decide) (by unfold maxLen; omega) (by omega) (by simp; omega) (wA.heap.size + 1) (by simp) ?_); intro g2 c2 w9 hown2 hgr2 hat2 hlt2)
                  have hN9 : w9.ownsRow w2.heap.size 48 3 (.slice (some ⟨g2, 0, none⟩) (r4 + 1) c2) (r4 + 1) (barVs (out.take r4 ++ [(yj, dv)])) := by
                    rw [barVs_snoc]
                    exact hown2
                  have hOZ9 : w9.ownsRow w2.heap.size 48 3 (.slice po r4 co) r4 (barVs out) := owns_keep HOZ.out fun q hq => by
                    have h1 := (HOZ.out.lt q hq).2
                    refine (hgr2.block q (by simp; omega) fun e => ?_).trans ((alloc_old wA _ q (by omega)).trans ?_)
                    · have := HPB.out q e.symm
                      omega
                    · exact HBA3.out.block q h1
                  obtain ⟨p1, p2, c1, hv1, -, hcut2, -, hn2, -, hs2', -, hl2⟩ := bars_cut hOZ9 r4 hr4
                  obtain ⟨rfl, rfl⟩ : po = p1 ∧ co = c1 := by cases hv1; exact ⟨rfl, rfl⟩
                  obtain ⟨mr, hmr⟩ : ∃ x, r4 - r4 = x := ⟨_, rfl⟩
                  obtain ⟨cr, hcr⟩ : ∃ x, co - r4 = x := ⟨_, rfl⟩
                  rw [hmr] at hcut2 hn2 hl2
                  rw [hcr] at hcut2 hn2
                  have hmr2 : mr ≤ 1000 := by omega
                  have HMR : Hid (r4 + 1 + mr = out.length + 1) := by unfold Hid; have := HM.out; omega
                  have HN2 := Lib.hid hn2
                  have HS2 := Lib.hid hs2'
                  have HL2 := Lib.hid hl2
                  have HN9 := Lib.hid hN9
                  have hA9 : wA.heap.size ≤ w9.heap.size := by have := hgr2.size; simp at this; omega
                  have HB9 := Lib.hid ((HBA2.out.alloc (by omega) _).grown hgr2 (by simp; omega) fun i hi => (HNA.out.lt i hi).1)
                  have h29 : w2.heap.size ≤ w9.heap.size := by omega
                  clear hown2 hgr2 hat2 hlt2 hN9 hOZ9 hv1 hn2 hs2' hl2 hmr hcr ej
                  go_wp2_with (at_builtin; go_must (refine wpList_app_s _ rfl (.tmp 123) (.tmp 126) 37 rfl w2.heap.size 48 iB (.agg #[.int .i64 0, .int .i64 0, .int .i64 0]) 3 24 under_barsC hiB hy0 hy1 hy2 rfl (by decide) (.slice (some ⟨g2, 0, none⟩) (r4 + 1) c2) (r4 + 1) (barVs (out.take r4 ++ [(yj, dv)])) rfl HN9.out p2 mr cr ((barVs out).drop (r4 * 3)) rfl HL2.out HN2.out HS2.out (fun u hu => HONE.out u (List.mem_of_mem_drop hu)) (by unfold maxLen; omega) (by omega) h29 w9.heap.size rfl ?_); intro p3 c3 wC hownC hgrC horC; have HOC := Lib.hid hownC; have HGC := Lib.hid hgrC; clear hownC hgrC horC)
                  go_roundw
                  case rel =>
                    refine ⟨j + 1, insB out (yj, dv), hjn, by go_num, HADD.out, HB9.out.grown HGC.out h29 (fun i hi => (HN9.out.lt i hi).1), ?_⟩
                    have h1 := HOC.out
                    rw [barVs_drop out r4 (by rw [HM.out]; exact hr4), ← barVs_app, ← HINS.out] at h1
                    rw [insB_len, ← HMR.out]
                    exact h1
                  case measure => simp [intOf]; omega
    · obtain rfl : n = j := by omega
      go_wp2_with fail
      go_ret
      unfold LowP
      exact ⟨_, out, rfl, HB2.out.trans (HB.out.mono HB2.out.size), by rw [HM.out]; exact Joins.ownsRow_le HO.out hs2, HS.out⟩
end Go.Proofs.YtddnjimpdidpaaaGreatDoor
