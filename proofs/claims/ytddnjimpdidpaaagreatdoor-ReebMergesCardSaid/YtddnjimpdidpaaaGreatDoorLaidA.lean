/-
  What a row's list of sentinels and the handle gives a walk: 'Sents'. Condition: 'laidMetH' over a list that holds the handle and sentinels.
-/
import Derived.Test.YtddnjimpdidpaaaGreatDoorRows
import Derived.Test.YtddnjimpdidpaaaGreatDoorErrsB
import Derived.LaidLaws
import Derived.LaidHandle
import Derived.Stop.LaidErr
namespace Go.Proofs.YtddnjimpdidpaaaGreatDoor
open Go Go.RowKit Go.ChangeShapes

/-- a list of sentinels -/
def sentList (nm : String) (l : List (String × List UInt8)) : List (String × DataW Unit) := l.map fun x => (x.1, .iface nm (.ptr (.agg [.lit (.string x.2)])))

theorem laid_all {P : Program} {W : World} {nm : String} {ti tp te ts : TypeId} {ms : Array (String × TypeId)} {fl : Field}
    (hi : P.underlying ti = some (.interface ms)) (hrow : ∀ u, P.typeName? 3 u = some nm → u = tp)
    (hp : P.underlying tp = some (.pointer te)) (he : P.underlying te = some (.struct #[fl])) (hft : fl.type = ts) (hfo : fl.offset = 0) (hs : P.underlying ts = some .string) (hc : P.cellsOf te = 1) (hcs : P.cellsOf ts = 1) :
    ∀ (l : List (String × List UInt8)) (ps : List MemPlace), DataW.LaidVars P W (sentList nm l) ps → ps.Nodup →
      (∀ b off, MemPlace.cell b off ∈ ps → (∃ c t, W.heap[b]? = some (.cells c t (0, 0))) ∧ ∀ u v, W.cell? ⟨b, off, none⟩ = some (.iface u v) → Value.okWide P W .any 0 u v) →
      (∀ x ∈ l, ∃ g, P.globalNamed x.1 = some g ∧ (P.globals[g]?).map (·.type) = some ti) → (l.map (·.1)).Nodup →
      ∃ f : String → Addr, (∀ x ∈ l, W.var? P x.1 = some #[.iface tp (.pointer (some (f x.1)))] ∧ MemPlace.cell (f x.1).block (f x.1).off ∈ ps ∧ ∃ s, W.cell? (f x.1) = some (.string s) ∧ s.data.toList = x.2) ∧
        (∀ x ∈ l, ∀ y ∈ l, x.1 ≠ y.1 → f x.1 ≠ f y.1) := by
  intro l
  induction l with
  | nil => intro ps _ _ _ _ _; exact ⟨fun _ => ⟨0, 0, none⟩, (fun x hx => absurd hx (by simp)), (fun x hx => absurd hx (by simp))⟩
  | cons x r ih =>
    intro ps hv hnd hrows hg hnn
    obtain ⟨g, t, cs, fuel, p, q, hg0, ht0, hv0, hd0, hq, rfl⟩ := hv
    obtain ⟨g', hg1, ht1⟩ := hg x (List.mem_cons_self ..)
    obtain rfl := Option.some.inj (hg0.symm.trans hg1)
    obtain rfl := Option.some.inj (ht0.symm.trans ht1)
    obtain ⟨l0⟩ := cs
    have ok0 : ∀ u v, l0 = [.iface u v] → Value.okWide P W .any 0 u v := fun u v e => by
      subst e
      exact (hrows g 0 (by simp [MemPlace.row])).2 u v (by simpa using World.var?_cell hg0 hv0 0)
    obtain ⟨a0, s0, rfl, hc0, hs0, hz0, rfl⟩ := errorString_of_trod hi hrow hp he hft hfo hs hc hcs hd0 ok0
    have hnd2 := List.Nodup.sublist (List.sublist_append_right _ _) hnd
    have hnn' : x.1 ∉ r.map (·.1) ∧ (r.map (·.1)).Nodup := by simpa using hnn
    obtain ⟨f, hf, hne⟩ := ih q hq hnd2 (fun b off hm => hrows b off (List.mem_append_right _ hm)) (fun y hy => hg y (List.mem_cons_of_mem _ hy)) hnn'.2
    have hdis : ∀ y ∈ r, f y.1 ≠ a0 := by
      intro y hy e
      have hm := (hf y hy).2.1
      rw [e] at hm
      have hm0 : MemPlace.cell a0.block a0.off ∈ MemPlace.row ⟨g, 0, none⟩ (#[Value.iface tp (.pointer (some a0))] : Array Value).size ++ MemPlace.row a0 1 := by
        simp [MemPlace.row]
      exact (List.nodup_append.1 hnd).2.2 _ hm0 _ hm rfl
    have hxr : ∀ y ∈ r, y.1 ≠ x.1 := fun y hy e => hnn'.1 (e ▸ List.mem_map_of_mem hy)
    refine ⟨fun n => if n = x.1 then a0 else f n, ?_, ?_⟩
    · intro y hy
      rcases List.mem_cons.1 hy with rfl | hy
      · simp only [if_true]
        refine ⟨hv0, by simp [MemPlace.row], s0, hc0, hs0⟩
      · simp only [if_neg (hxr y hy)]
        exact ⟨(hf y hy).1, List.mem_append_right _ (hf y hy).2.1, (hf y hy).2.2⟩
    · intro y hy z hz hyz
      rcases List.mem_cons.1 hy with rfl | hy' <;> rcases List.mem_cons.1 hz with rfl | hz'
      · exact absurd rfl hyz
      · simp only [if_true, if_neg (hxr z hz')]; exact fun e => hdis z hz' e.symm
      · simp only [if_true, if_neg (hxr y hy')]; exact hdis y hy'
      · simp only [if_neg (hxr y hy'), if_neg (hxr z hz')]; exact hne y hy' z hz' hyz

theorem Tryz.cellsE : Tryz.prog.cellsOf 261 = 1 := by kernel_rfl
theorem Tryz.cellsS : Tryz.prog.cellsOf 9 = 1 := by kernel_rfl
theorem Tryz.rowE (u : TypeId) (h : Tryz.prog.typeName? 3 u = Tryz.prog.typeName? 3 237) : u = 237 :=
  typeName_ptr_named (P := Tryz.prog) (nm := "errors.errorString") (tp := 237) (by kernel_rfl) (by kernel_rfl) (by decide) u (h.trans (by kernel_rfl))
theorem Tryz.oneRow : ((List.range 278).filter fun t => Tryz.prog.rowNamed t [101, 114, 114, 111, 114]) = [30] := by kernel_rfl
theorem Tryz.tsize : Tryz.prog.types.size = 278 := by kernel_rfl
theorem Tryz.handleE : typeHandle Tryz.prog 30 = .pointer (some ⟨9, 30, none⟩) := by kernel_rfl

/-- a laid sentinel's text -/
def textOf : DataW Unit → List UInt8
  | .iface _ (.ptr (.agg [.lit (.string s)])) => s
  | _ => []
def nameOf : DataW Unit → String
  | .iface n _ => n
  | _ => ""
def laidRest : List (String × DataW Unit) := Rows.indexHeightsRow.laid.filter fun x => x.2.handleName?.isNone
def sl : List (String × List UInt8) := laidRest.map fun x => (x.1, textOf x.2)
def nmE : String := nameOf (laidRest.getD 0 (default, .nil)).2
def ename (j : Nat) : String := (sl.getD j (default, [])).1
theorem laidRest_eq : laidRest = sentList nmE sl := by kernel_rfl
theorem nmE_eq : Tryz.prog.typeName? 3 237 = some nmE := by kernel_rfl
theorem globs : ∀ j, j < 8 → Tryz.prog.globalNamed (ename j) = some (gnum j) ∧ (Tryz.prog.globals[gnum j]?).map (·.type) = some 30
  | 0, _ => ⟨by kernel_rfl, by kernel_rfl⟩
  | 1, _ => ⟨by kernel_rfl, by kernel_rfl⟩
  | 2, _ => ⟨by kernel_rfl, by kernel_rfl⟩
  | 3, _ => ⟨by kernel_rfl, by kernel_rfl⟩
  | 4, _ => ⟨by kernel_rfl, by kernel_rfl⟩
  | 5, _ => ⟨by kernel_rfl, by kernel_rfl⟩
  | 6, _ => ⟨by kernel_rfl, by kernel_rfl⟩
  | 7, _ => ⟨by kernel_rfl, by kernel_rfl⟩
  | n + 8, h => absurd h (by omega)
theorem sl_length : sl.length = 8 := by kernel_rfl
theorem sl_mem (x : String × List UInt8) (hx : x ∈ sl) : ∃ j, j < 8 ∧ x = sl.getD j (default, []) := by
  obtain ⟨j, hj, rfl⟩ := List.getElem_of_mem hx
  exact ⟨j, by rw [← sl_length]; exact hj, by simp [List.getD, List.getElem?_eq_getElem hj]⟩
theorem sl_nodup : (sl.map (·.1)).Nodup := of_decide_eq_true (by kernel_rfl)

theorem sents_of_laid {W : World} (h : laidMetH Tryz.prog Rows.indexHeightsRow.laid W) :
    ∃ a, Sents W a ∧ ∀ j, j < 8 → ∃ s, W.cell? (a j) = some (.string s) ∧ s.data.toList = (sl.getD j (default, [])).2 := by
  have h' : laidMet Tryz.prog laidRest W ∧ handlesMet Tryz.prog (Rows.indexHeightsRow.laid.filter fun x => x.2.handleName?.isSome) W := h
  obtain ⟨⟨ps, hv, hnd, hrows⟩, hh⟩ := h'
  rw [laidRest_eq] at hv
  obtain ⟨f, hf, hne⟩ := laid_all Tryz.underlying30 (fun u hu => Tryz.rowE u (hu.trans nmE_eq.symm)) Tryz.underlying237 Tryz.underlying261 rfl rfl Tryz.underlying9 Tryz.cellsE Tryz.cellsS sl ps hv hnd hrows
    (fun x hx => by obtain ⟨j, hj, rfl⟩ := sl_mem x hx; exact ⟨gnum j, globs j hj⟩) sl_nodup
  have hmem : ∀ j, j < 8 → sl.getD j (default, []) ∈ sl := fun j hj => by
    have hj' : j < sl.length := by rw [sl_length]; exact hj
    simp [List.getD, List.getElem?_eq_getElem hj']
  have hinj : ∀ i j, i < 8 → j < 8 → i ≠ j → ename i ≠ ename j := by
    intro i j hi hj hij e
    have hi2 : i < sl.length := by rw [sl_length]; exact hi
    have hj2 : j < sl.length := by rw [sl_length]; exact hj
    have hi' : i < (sl.map fun x => x.1).length := by rw [List.length_map]; exact hi2
    have hj' : j < (sl.map fun x => x.1).length := by rw [List.length_map]; exact hj2
    have e' : (sl.map fun x => x.1)[i] = (sl.map fun x => x.1)[j] := by
      simpa [ename, List.getD, List.getElem?_eq_getElem hi2, List.getElem?_eq_getElem hj2] using e
    have := (List.getElem_inj sl_nodup).1 e'
    exact hij this
  refine ⟨fun j => f (ename j), ⟨?_, ?_, ?_, ?_⟩, fun j hj => (hf _ (hmem j hj)).2.2⟩
  · intro j hj
    exact World.var?_cell (globs j hj).1 (hf _ (hmem j hj)).1 0
  · intro i j hi hj hij
    exact hne _ (hmem i hi) _ (hmem j hj) (hinj i j hi hj hij)
  · intro j hj
    exact (hrows _ _ (hf _ (hmem j hj)).2.1).1
  · obtain ⟨name, u, ty, e1, e2, e3, e4, e5⟩ := hh _ (List.mem_singleton.2 rfl)
    have en : name = [101, 114, 114, 111, 114] := (Option.some.inj e1).symm
    subst en
    obtain rfl : u = 198 := Option.some.inj (e2.symm.trans (by kernel_rfl))
    have hm : ty ∈ (List.range 278).filter fun t => Tryz.prog.rowNamed t [101, 114, 114, 111, 114] := List.mem_filter.2 ⟨List.mem_range.2 (by rw [← Tryz.tsize]; exact e3), e4⟩
    rw [Tryz.oneRow] at hm
    obtain rfl := List.mem_singleton.1 hm
    rw [Tryz.handleE] at e5
    have hg : Tryz.prog.globalNamed (Rows.indexHeightsRow.laid.getD 0 (default, .nil)).1 = some 8 := by kernel_rfl
    have := World.var?_cell hg e5 0
    simpa using this
end Go.Proofs.YtddnjimpdidpaaaGreatDoor
