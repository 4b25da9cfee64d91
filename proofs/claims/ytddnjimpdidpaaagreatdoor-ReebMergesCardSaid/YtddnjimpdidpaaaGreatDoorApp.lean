/-
  append of any source (nil, empty, or with cells) onto an owned row of one-cell elements: as a run, at a list, at a step of a region that draws. The new header is written out.
-/
import Derived.Deep.AppendLies
import Derived.Deep.RegionLaw
import Derived.Laws.AppendOwnNone
import Derived.Lib.SmallJoins
set_option linter.unusedVariables false
namespace Go.Proofs.YtddnjimpdidpaaaGreatDoor
open Go Go.RowKit

theorem run_app_any {P : Program} (w : World) (base : Nat) (t ty e : TypeId) (i : TypeInfo) (z : Value) (bytes : Nat) (ht : P.underlying t = some (.slice e)) (hi : P.info? e = some i) (hz : i.zero = some z)
    (hsize : i.size = 1) (hby : i.bytes = bytes) (hzs : z.cells.size = 1)
    (v : Value) (n : Nat) (xs : List Value) (hown : w.ownsRow base e 1 v n xs) (p : Option Addr) (m c : Nat) (news : List Value) (hl : news.length = m) (hp : p = none → c = 0 ∧ m = 0)
    (hnews : ∀ ad, p = some ad → ∀ j u, news[j]? = some u → w.cell? (ad.add j) = some u) (h1 : ∀ u ∈ news, u.oneCell' = true)
    (h63 : n + m ≤ maxLen) (hbytes : (n + m) * bytes ≤ 140737488355328) (hbase : base ≤ w.heap.size) :
    ∃ p' cap w', (Builtin.append_ #[t, t] ty #[v, .slice p m c]).run P w = .ok (.slice p' (n + m) cap) w' ∧ w'.ownsRow base e 1 (.slice p' (n + m) cap) (n + m) (xs ++ news) ∧ w.grownBy w' v.ownBlock ∧
      ((Value.slice p' (n + m) cap).ownBlock = v.ownBlock ∨ (Value.slice p' (n + m) cap).ownBlock = some w.heap.size) := by
  cases p with
  | none =>
    obtain ⟨rfl, rfl⟩ := hp rfl
    obtain rfl : news = [] := List.length_eq_zero_iff.1 hl
    have hr := run_append_owned_none (P := P) (w := w) base t ty e i 1 ht hi v n xs hown
    rw [List.append_nil, Nat.add_zero]
    rcases Joins.ownsRow_forms hown with ⟨rfl, rfl⟩ | ⟨g, cap, rfl⟩
    · exact ⟨none, 0, w, hr, hown, ⟨rfl, rfl, rfl, Nat.le_refl _, fun _ _ _ => rfl⟩, Or.inl rfl⟩
    · exact ⟨_, cap, w, hr, hown, ⟨rfl, rfl, rfl, Nat.le_refl _, fun _ _ _ => rfl⟩, Or.inl rfl⟩
  | some ad =>
    obtain ⟨v', w', hr, h2, h3, h4, h5⟩ := run_append_own_at (P := P) w base t ty e i z 1 bytes ht hi hz hsize hby hzs (by decide) v n xs hown ad m c news (by omega) (hnews ad rfl) h1 h63 hbytes hbase
    rcases Joins.ownsRow_forms h2 with ⟨rfl, h0⟩ | ⟨g, cap, rfl⟩
    · rw [h0] at h2 ⊢
      exact ⟨none, 0, w', hr, h2, h3, h5⟩
    · exact ⟨_, cap, w', hr, h2, h3, h5⟩

theorem wp_app_any {P : Program} (w : World) {o : Oper} {a : Act} {K : Act → World → Prop} {Q : Exit → Act → World → Prop} (s x : Operand) (t : TypeId)
    (ho : o.op = .call { callee := .builtin .append, args := #[s, x], argTypes := #[t, t] })
    (base : Nat) (e : TypeId) (i : TypeInfo) (z : Value) (bytes : Nat) (ht : P.underlying t = some (.slice e)) (hi : P.info? e = some i) (hz : i.zero = some z)
    (hsize : i.size = 1) (hby : i.bytes = bytes) (hzs : z.cells.size = 1)
    (v : Value) (n : Nat) (xs : List Value) (hs : a.eval s = v) (hown : w.ownsRow base e 1 v n xs)
    (p : Option Addr) (m c : Nat) (news : List Value) (hx : a.eval x = .slice p m c) (hl : news.length = m) (hp : p = none → c = 0 ∧ m = 0)
    (hnews : ∀ ad, p = some ad → ∀ j u, news[j]? = some u → w.cell? (ad.add j) = some u) (h1 : ∀ u ∈ news, u.oneCell' = true)
    (h63 : n + m ≤ maxLen) (hbytes : (n + m) * bytes ≤ 140737488355328) (hbase : base ≤ w.heap.size) (H : Nat) (hH : w.heap.size = H)
    (h : ∀ p' cap w', w'.ownsRow base e 1 (.slice p' (n + m) cap) (n + m) (xs ++ news) → w.grownBy w' v.ownBlock → ((Value.slice p' (n + m) cap).ownBlock = v.ownBlock ∨ (Value.slice p' (n + m) cap).ownBlock = some H) → K (a.put o.dst (.slice p' (n + m) cap)) w') : o.wp P a w K Q := by
  obtain ⟨p', cap, w', hr, h2, h3, h4⟩ := run_app_any (P := P) w base t o.type e i z bytes ht hi hz hsize hby hzs v n xs hown p m c news hl hp hnews h1 h63 hbytes hbase
  unfold Oper.wp execOp
  simp only [ho, resolve, invoke, builtin, Sem.run_bind, Sem.run_pure, Result.andThen_ok, List.map_toArray, List.map_cons, List.map_nil, hs, hx, hr]
  exact h p' cap w' h2 h3 (by rw [← hH]; exact h4)

theorem wpList_app_any {P : Program} (w : World) {ops : Array Oper} {rest : List Oper} {o : Oper} {a : Act} {Q : Exit → Act → World → Prop} (hgd : o.guard = none) (s x : Operand) (t : TypeId)
    (ho : o.op = .call { callee := .builtin .append, args := #[s, x], argTypes := #[t, t] })
    (base : Nat) (e : TypeId) (i : TypeInfo) (z : Value) (bytes : Nat) (ht : P.underlying t = some (.slice e)) (hi : P.info? e = some i) (hz : i.zero = some z)
    (hsize : i.size = 1) (hby : i.bytes = bytes) (hzs : z.cells.size = 1)
    (v : Value) (n : Nat) (xs : List Value) (hs : a.eval s = v) (hown : w.ownsRow base e 1 v n xs)
    (p : Option Addr) (m c : Nat) (news : List Value) (hx : a.eval x = .slice p m c) (hl : news.length = m) (hp : p = none → c = 0 ∧ m = 0)
    (hnews : ∀ ad, p = some ad → ∀ j u, news[j]? = some u → w.cell? (ad.add j) = some u) (h1 : ∀ u ∈ news, u.oneCell' = true)
    (h63 : n + m ≤ maxLen) (hbytes : (n + m) * bytes ≤ 140737488355328) (hbase : base ≤ w.heap.size) (H : Nat) (hH : w.heap.size = H)
    (h : ∀ p' cap w', w'.ownsRow base e 1 (.slice p' (n + m) cap) (n + m) (xs ++ news) → w.grownBy w' v.ownBlock → ((Value.slice p' (n + m) cap).ownBlock = v.ownBlock ∨ (Value.slice p' (n + m) cap).ownBlock = some H) → wpList P ops Q rest (a.put o.dst (.slice p' (n + m) cap)) w') : wpList P ops Q (o :: rest) a w :=
  wpList_plain hgd fun _ hK => wp_app_any w s x t ho base e i z bytes ht hi hz hsize hby hzs v n xs hs hown p m c news hx hl hp hnews h1 h63 hbytes hbase H hH fun p' cap w' h2 h3 h4 => hK _ _ (h p' cap w' h2 h3 h4)

theorem step_app_any {P : Program} (w : World) {ops : Array Oper} {o : Oper} {a : Act} {K : Act → World → Prop} {Q : Exit → Act → World → Prop} {E : Prop} (hgd : o.guard = none) (s x : Operand) (t : TypeId)
    (ho : o.op = .call { callee := .builtin .append, args := #[s, x], argTypes := #[t, t] })
    (base : Nat) (e : TypeId) (i : TypeInfo) (z : Value) (bytes : Nat) (ht : P.underlying t = some (.slice e)) (hi : P.info? e = some i) (hz : i.zero = some z)
    (hsize : i.size = 1) (hby : i.bytes = bytes) (hzs : z.cells.size = 1)
    (v : Value) (n : Nat) (xs : List Value) (hs : a.eval s = v) (hown : w.ownsRow base e 1 v n xs)
    (p : Option Addr) (m c : Nat) (news : List Value) (hx : a.eval x = .slice p m c) (hl : news.length = m) (hp : p = none → c = 0 ∧ m = 0)
    (hnews : ∀ ad, p = some ad → ∀ j u, news[j]? = some u → w.cell? (ad.add j) = some u) (h1 : ∀ u ∈ news, u.oneCell' = true)
    (h63 : n + m ≤ maxLen) (hbytes : (n + m) * bytes ≤ 140737488355328) (hbase : base ≤ w.heap.size) (H : Nat) (hH : w.heap.size = H)
    (h : ∀ p' cap w', w'.ownsRow base e 1 (.slice p' (n + m) cap) (n + m) (xs ++ news) → w.grownBy w' v.ownBlock → ((Value.slice p' (n + m) cap).ownBlock = v.ownBlock ∨ (Value.slice p' (n + m) cap).ownBlock = some H) → K (a.put o.dst (.slice p' (n + m) cap)) w') :
    if Region.wanted o (yielded ops a.tmps) = true then Oper.wp P o a w K Q else E := by
  have hw : Region.wanted o (yielded ops a.tmps) = true := by simp [Region.wanted, hgd]
  rw [if_pos hw]
  exact wp_app_any w s x t ho base e i z bytes ht hi hz hsize hby hzs v n xs hs hown p m c news hx hl hp hnews h1 h63 hbytes hbase H hH h
end Go.Proofs.YtddnjimpdidpaaaGreatDoor
