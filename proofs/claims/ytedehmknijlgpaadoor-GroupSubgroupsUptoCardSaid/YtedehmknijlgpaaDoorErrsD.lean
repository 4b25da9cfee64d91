/-
  errors.As, errors.Is and plain.Code by contracts: for nil, a sentinel of package api, an api.Fault over one. Conditions: 'Sents': the eight sentinels and the handle are laid.
  plain.Code by contracts. Conditions: 'Sents'.
  plain.Code of any error that a law meets; 'coded'. Conditions: 'Sents'; 'ErrAt' says what the error is.
-/
import Derived.Test.YtedehmknijlgpaaDoorErrsA
import Derived.Outline

namespace Go.Proofs.YtedehmknijlgpaaDoor
open Go.RowKit Go.Extern.Stop Go.Stop Go.Extern Go

/-- the sentinels' variables, by their number in plain.Code's order -/
def gnum : Nat → Nat
  | 0 => 2
  | 1 => 0
  | 2 => 1
  | 3 => 3
  | 4 => 4
  | 5 => 5
  | 6 => 6
  | _ => 7

/-- an error value of errors.New's make -/
def errE (a : Addr) : Value := .iface 129 (.pointer (some a))
/-- an error value that is an *api.Fault -/
def errF (a : Addr) : Value := .iface 79 (.pointer (some a))

structure Sents (w : World) (a : Nat → Addr) : Prop where
  g : ∀ j, j < 8 → w.cell? ⟨gnum j, 0, none⟩ = some (.iface 129 (.pointer (some (a j))))
  ne : ∀ i j, i < 8 → j < 8 → i ≠ j → a i ≠ a j
  blk : ∀ j, j < 8 → ∃ c t, w.heap[(a j).block]? = some (.cells c t (0, 0))
  hd : w.cell? ⟨8, 0, none⟩ = some (.iface 116 (.agg #[.pointer (some ⟨9, 31, none⟩)]))

theorem lt_of_cell {w : World} {p : Addr} {v : Value} (h : w.cell? p = some v) : p.block < w.heap.size := by
  rcases Nat.lt_or_ge p.block w.heap.size with h' | h'
  · exact h'
  · simp [World.cell?, Array.getElem?_eq_none h'] at h
theorem lt_of_blk {w : World} {b : Nat} {o : Obj} (h : w.heap[b]? = some o) : b < w.heap.size :=
  (Array.getElem?_eq_some_iff.1 h).1

theorem Sents.below {w w' : World} {a : Nat → Addr} {B : Nat} (h : Sents w a) (hb : Below B w w') (hB : w.heap.size ≤ B) : Sents w' a where
  g j hj := by rw [hb.cell (Nat.lt_of_lt_of_le (lt_of_cell (h.g j hj)) hB)]; exact h.g j hj
  ne := h.ne
  blk j hj := by
    obtain ⟨c, t, e⟩ := h.blk j hj
    exact ⟨c, t, by rw [hb.block _ (Nat.lt_of_lt_of_le (lt_of_blk e) hB)]; exact e⟩
  hd := by rw [hb.cell (Nat.lt_of_lt_of_le (lt_of_cell h.hd) hB)]; exact h.hd

set_option maxHeartbeats 4000000 in
theorem as_hit (e t : Addr) (old : Value) (w : World) (hg : w.cell? ⟨8, 0, none⟩ = some (.iface 116 (.agg #[.pointer (some ⟨9, 31, none⟩)]))) (ht0 : w.cell? t = some old) (hf0 : w.frozen? t = false) :
    Calls Tryd.prog 53 #[.iface 79 (.pointer (some e)), .iface 81 (.pointer (some t))] w fun ev w' => ev = .returned (.bool true) ∧ w' = ((((w.alloc (.cells #[.pointer (some t)] 81)).alloc (.cells #[.pointer (some ⟨9, 81, none⟩), .pointer (some ⟨w.heap.size, 0, none⟩), .int .u64 150] 97)).alloc (.cells #[.pointer (some ⟨9, 81, none⟩), .pointer (some ⟨w.heap.size, 0, none⟩), .int .u64 150] 97)).alloc (.cells #[.pointer (some e)] 79)).setCell t (.pointer (some e)) := by
  have h6 := @run_callFunc_extern Tryd.prog 61 _ (fun args => ReflectliteValue.unpack (args.getD 0 (.tuple #[]))) Tryd.func61 (by kernel_rfl) (by kernel_rfl) (by kernel_rfl) (by kernel_rfl)
  have h7 := @run_callFunc_extern Tryd.prog 62 _ (ReflectliteValue.methodAny (ReflectliteValue.valueError "reflectlite.Value.Type" 0) (fun t _ _ _ => ReflectliteType.toType t)) Tryd.func62 (by kernel_rfl) (by kernel_rfl) (by kernel_rfl) (by kernel_rfl)
  have h8 := @run_callFunc_extern Tryd.prog 63 _ (ReflectliteValue.method (ReflectliteValue.valueError "reflectlite.Value.IsNil" 0) ReflectliteValue.isNil) Tryd.func63 (by kernel_rfl) (by kernel_rfl) (by kernel_rfl) (by kernel_rfl)
  have h27 := @run_callFunc_extern Tryd.prog 86 _ (ReflectliteType.abiMethod fun t => do pure (.int .u8 (← Rtype.kind t))) Tryd.func86 (by kernel_rfl) (by kernel_rfl) (by kernel_rfl) (by kernel_rfl)
  have h37 := @run_callFunc_extern Tryd.prog 97 _ (ReflectliteType.method ReflectliteType.elem) Tryd.func97 (by kernel_rfl) (by kernel_rfl) (by kernel_rfl) (by kernel_rfl)
  have h38 := @run_callFunc_extern Tryd.prog 98 _ (ReflectliteType.relation "Implements" ReflectliteType.implements_) Tryd.func98 (by kernel_rfl) (by kernel_rfl) (by kernel_rfl) (by kernel_rfl)
  have h10 := @run_callFunc_extern Tryd.prog 65 _ ReflectliteType.typeOf Tryd.func65 (by kernel_rfl) (by kernel_rfl) (by kernel_rfl) (by kernel_rfl)
  have h35 := @run_callFunc_extern Tryd.prog 95 _ (ReflectliteType.relation "AssignableTo" ReflectliteType.assignableTo) Tryd.func95 (by kernel_rfl) (by kernel_rfl) (by kernel_rfl) (by kernel_rfl)
  have h11 := @run_callFunc_extern Tryd.prog 70 _ (ReflectliteValue.method (ReflectliteValue.valueError "reflectlite.Value.Elem" 0) ReflectliteValue.elem) Tryd.func70 (by kernel_rfl) (by kernel_rfl) (by kernel_rfl) (by kernel_rfl)
  have h12 := @run_callFunc_extern Tryd.prog 71 _ ReflectliteValue.set Tryd.func71 (by kernel_rfl) (by kernel_rfl) (by kernel_rfl) (by kernel_rfl)
  have tO := Tryd.typeOfP
  have mA := Tryd.methodAssignableTo
  have a25 := Tryd.assignableP
  have v25 := Tryd.valueOfP
  have f6 := Tryd.valueOfPP
  have f7 := Tryd.typePP
  have mK := Tryd.methodKind
  have mE := Tryd.methodElem
  have mI := Tryd.methodImplements
  have k27 := Tryd.kindPP
  have k25 := Tryd.kindP
  have e27 := Tryd.elemPP
  have i25 := Tryd.implementsP
  have n8 := Tryd.isNilPP ⟨w.heap.size, 0, none⟩ t ((w.alloc (.cells #[.pointer (some t)] 81)).alloc (.cells #[.pointer (some ⟨9, 81, none⟩), .pointer (some ⟨w.heap.size, 0, none⟩), .int .u64 150] 97)) (by simp)
  have hlt : 8 < w.heap.size := lt_of_cell hg
  have hg2 : ((w.alloc (.cells #[.pointer (some t)] 81)).alloc (.cells #[.pointer (some ⟨9, 81, none⟩), .pointer (some ⟨w.heap.size, 0, none⟩), .int .u64 150] 97)).cell? ⟨8, 0, none⟩ = some (.iface 116 (.agg #[.pointer (some ⟨9, 31, none⟩)])) := by
    rw [World.cell?_alloc_lt _ _ ⟨8, 0, none⟩ (by simp; omega), World.cell?_alloc_lt _ _ ⟨8, 0, none⟩ hlt]; exact hg
  have htl : t.block < w.heap.size := lt_of_cell ht0
  have el := Tryd.elemVPP ⟨w.heap.size, 0, none⟩ t (((w.alloc (.cells #[.pointer (some t)] 81)).alloc (.cells #[.pointer (some ⟨9, 81, none⟩), .pointer (some ⟨w.heap.size, 0, none⟩), .int .u64 150] 97)).alloc (.cells #[.pointer (some ⟨9, 81, none⟩), .pointer (some ⟨w.heap.size, 0, none⟩), .int .u64 150] 97)) (by rw [World.cell?_alloc_lt _ _ ⟨w.heap.size, 0, none⟩ (by simp; omega)]; simp)
  have st := Tryd.setP t ⟨w.heap.size + 1 + 1 + 1, 0, none⟩ e old ((((w.alloc (.cells #[.pointer (some t)] 81)).alloc (.cells #[.pointer (some ⟨9, 81, none⟩), .pointer (some ⟨w.heap.size, 0, none⟩), .int .u64 150] 97)).alloc (.cells #[.pointer (some ⟨9, 81, none⟩), .pointer (some ⟨w.heap.size, 0, none⟩), .int .u64 150] 97)).alloc (.cells #[.pointer (some e)] 79))
    (by rw [World.cell?_alloc_at _ _ _ _ (by simp)]; rfl)
    (by rw [World.cell?_alloc_lt _ _ t (by simp; omega), World.cell?_alloc_lt _ _ t (by simp; omega), World.cell?_alloc_lt _ _ t (by simp; omega), World.cell?_alloc_lt _ _ t htl]; exact ht0)
    (by rw [World.frozen?_alloc_old _ _ t (by simp; omega), World.frozen?_alloc_old _ _ t (by simp; omega), World.frozen?_alloc_old _ _ t (by simp; omega), World.frozen?_alloc_old _ _ t (Nat.ne_of_lt htl)]; exact hf0)
  go_enter Tryd.func53, Tryd.ntmps53
  go_wp2
  refine wp_loop_rounds 1 ?_
  rw [rounds_succ]
  go_wp2
  go_ret
  exact ⟨rfl, rfl⟩

set_option maxHeartbeats 4000000 in
/-- errors.As of an error of errors.New's make: false -/
theorem as_miss (e t : Addr) (w : World) (hg : w.cell? ⟨8, 0, none⟩ = some (.iface 116 (.agg #[.pointer (some ⟨9, 31, none⟩)]))) :
    Calls Tryd.prog 53 #[.iface 129 (.pointer (some e)), .iface 81 (.pointer (some t))] w fun ev w' => ev = .returned (.bool false) ∧ Below w.heap.size w w' := by
  have h6 := @run_callFunc_extern Tryd.prog 61 _ (fun args => ReflectliteValue.unpack (args.getD 0 (.tuple #[]))) Tryd.func61 (by kernel_rfl) (by kernel_rfl) (by kernel_rfl) (by kernel_rfl)
  have h7 := @run_callFunc_extern Tryd.prog 62 _ (ReflectliteValue.methodAny (ReflectliteValue.valueError "reflectlite.Value.Type" 0) (fun t _ _ _ => ReflectliteType.toType t)) Tryd.func62 (by kernel_rfl) (by kernel_rfl) (by kernel_rfl) (by kernel_rfl)
  have h8 := @run_callFunc_extern Tryd.prog 63 _ (ReflectliteValue.method (ReflectliteValue.valueError "reflectlite.Value.IsNil" 0) ReflectliteValue.isNil) Tryd.func63 (by kernel_rfl) (by kernel_rfl) (by kernel_rfl) (by kernel_rfl)
  have h27 := @run_callFunc_extern Tryd.prog 86 _ (ReflectliteType.abiMethod fun t => do pure (.int .u8 (← Rtype.kind t))) Tryd.func86 (by kernel_rfl) (by kernel_rfl) (by kernel_rfl) (by kernel_rfl)
  have h37 := @run_callFunc_extern Tryd.prog 97 _ (ReflectliteType.method ReflectliteType.elem) Tryd.func97 (by kernel_rfl) (by kernel_rfl) (by kernel_rfl) (by kernel_rfl)
  have h38 := @run_callFunc_extern Tryd.prog 98 _ (ReflectliteType.relation "Implements" ReflectliteType.implements_) Tryd.func98 (by kernel_rfl) (by kernel_rfl) (by kernel_rfl) (by kernel_rfl)
  have h10 := @run_callFunc_extern Tryd.prog 65 _ ReflectliteType.typeOf Tryd.func65 (by kernel_rfl) (by kernel_rfl) (by kernel_rfl) (by kernel_rfl)
  have h35 := @run_callFunc_extern Tryd.prog 95 _ (ReflectliteType.relation "AssignableTo" ReflectliteType.assignableTo) Tryd.func95 (by kernel_rfl) (by kernel_rfl) (by kernel_rfl) (by kernel_rfl)
  have tO := Tryd.typeOfE
  have mA := Tryd.methodAssignableTo
  have a25 := Tryd.assignableE
  have f6 := Tryd.valueOfPP
  have f7 := Tryd.typePP
  have mK := Tryd.methodKind
  have mE := Tryd.methodElem
  have mI := Tryd.methodImplements
  have k27 := Tryd.kindPP
  have k25 := Tryd.kindP
  have e27 := Tryd.elemPP
  have i25 := Tryd.implementsP
  have aE := Tryd.noAsE
  have uE := Tryd.noUnwrapE
  have vE := Tryd.noUnwrapsE
  have n8 := Tryd.isNilPP ⟨w.heap.size, 0, none⟩ t ((w.alloc (.cells #[.pointer (some t)] 81)).alloc (.cells #[.pointer (some ⟨9, 81, none⟩), .pointer (some ⟨w.heap.size, 0, none⟩), .int .u64 150] 97)) (by simp)
  have hlt : 8 < w.heap.size := lt_of_cell hg
  have hg2 : ((w.alloc (.cells #[.pointer (some t)] 81)).alloc (.cells #[.pointer (some ⟨9, 81, none⟩), .pointer (some ⟨w.heap.size, 0, none⟩), .int .u64 150] 97)).cell? ⟨8, 0, none⟩ = some (.iface 116 (.agg #[.pointer (some ⟨9, 31, none⟩)])) := by
    rw [World.cell?_alloc_lt _ _ ⟨8, 0, none⟩ (by simp; omega), World.cell?_alloc_lt _ _ ⟨8, 0, none⟩ hlt]; exact hg
  go_enter Tryd.func53, Tryd.ntmps53
  go_wp2
  refine wp_loop_rounds 1 ?_
  rw [rounds_succ]
  go_wp2
  go_ret
  exact ⟨rfl, (((Below.refl _ _).alloc (Nat.le_refl _) _).alloc (by simp) _).alloc (by simp; omega) _⟩

/-- errors.Is(x, x) at a sentinel -/
theorem is_same (a : Addr) (w : World) :
    Calls Tryd.prog 54 #[.iface 129 (.pointer (some a)), .iface 129 (.pointer (some a))] w fun e w' => e = .returned (.bool true) ∧ w = w' := by
  obtain ⟨i, hi, hcmp⟩ := Option.map_eq_some_iff.1 Tryd.isComp
  obtain ⟨j, hj, hjs⟩ := Option.map_eq_some_iff.1 Tryd.isSize
  have h8 := @run_callFunc_extern Tryd.prog 65 _ Extern.ReflectliteType.typeOf Tryd.func65 (by kernel_rfl) (by kernel_rfl) (by kernel_rfl) (by kernel_rfl)
  have h32 := @run_callFunc_extern Tryd.prog 96 _ cmpFn Tryd.func96 (by kernel_rfl) (by kernel_rfl) (by kernel_rfl) (by kernel_rfl)
  have tT := Tryd.typeOfE
  have cT := Tryd.isComparable
  have mR := Tryd.isMethodComparable
  have heq := run_eql_iface_ptr_same (P := Tryd.prog) w a Tryd.underlying31 Tryd.underlying129 hi hcmp hj
  go_enter Tryd.func54, Tryd.ntmps54
  go_wp2
  refine wp_loop_rounds 1 ?_
  rw [rounds_succ]
  go_wp2
  go_ret
  exact ⟨rfl, rfl⟩

theorem is_other (a b : Addr) (ca cb : Array Value) (ta tb : TypeId) (w : World) (hne : a ≠ b) (ha : w.heap[a.block]? = some (.cells ca ta (0, 0))) (hb : w.heap[b.block]? = some (.cells cb tb (0, 0))) :
    Calls Tryd.prog 54 #[.iface 129 (.pointer (some a)), .iface 129 (.pointer (some b))] w fun e w' => e = .returned (.bool false) ∧ w = w' := by
  obtain ⟨i, hi, hcmp⟩ := Option.map_eq_some_iff.1 Tryd.isComp
  obtain ⟨j, hj, hjs⟩ := Option.map_eq_some_iff.1 Tryd.isSize
  have h8 := @run_callFunc_extern Tryd.prog 65 _ Extern.ReflectliteType.typeOf Tryd.func65 (by kernel_rfl) (by kernel_rfl) (by kernel_rfl) (by kernel_rfl)
  have h32 := @run_callFunc_extern Tryd.prog 96 _ cmpFn Tryd.func96 (by kernel_rfl) (by kernel_rfl) (by kernel_rfl) (by kernel_rfl)
  have tT := Tryd.typeOfE
  have cT := Tryd.isComparable
  have mR := Tryd.isMethodComparable
  have nE := Tryd.noIsE
  have uE := Tryd.noUnwrapE
  have vE := Tryd.noUnwrapsE
  have heq := run_eql_iface_ptr_other (P := Tryd.prog) w Tryd.underlying31 Tryd.underlying129 hi hcmp hj (by rw [hjs]; decide) hne ha hb
  go_enter Tryd.func54, Tryd.ntmps54
  go_wp2
  refine wp_loop_rounds 1 ?_
  rw [rounds_succ]
  go_wp2
  go_ret
  exact ⟨rfl, rfl⟩

/-- errors.Is of an *api.Fault over the very sentinel -/
theorem is_fault_same (pb po : Nat) (b : Addr) (w : World) (h1 : w.cell? ⟨pb, po + 1, none⟩ = some (.iface 129 (.pointer (some b)))) :
    Calls Tryd.prog 54 #[.iface 79 (.pointer (some ⟨pb, po, none⟩)), .iface 129 (.pointer (some b))] w fun e w' => e = .returned (.bool true) ∧ w = w' := by
  obtain ⟨i, hi, hcmp⟩ := Option.map_eq_some_iff.1 Tryd.isComp
  obtain ⟨j, hj, hjs⟩ := Option.map_eq_some_iff.1 Tryd.isSize
  have h8 := @run_callFunc_extern Tryd.prog 65 _ Extern.ReflectliteType.typeOf Tryd.func65 (by kernel_rfl) (by kernel_rfl) (by kernel_rfl) (by kernel_rfl)
  have h32 := @run_callFunc_extern Tryd.prog 96 _ cmpFn Tryd.func96 (by kernel_rfl) (by kernel_rfl) (by kernel_rfl) (by kernel_rfl)
  have tT := Tryd.typeOfE
  have cT := Tryd.isComparable
  have mR := Tryd.isMethodComparable
  have nW := Tryd.noIsF
  have uW := Tryd.hasUnwrapF
  have mU := Tryd.methodUnwrap
  have heq := run_eql_iface_ptr_same (P := Tryd.prog) w b Tryd.underlying31 Tryd.underlying129 hi hcmp hj
  have hty := run_eql_iface_types (P := Tryd.prog) 79 129 (.pointer (some ⟨pb, po, none⟩)) (.pointer (some b)) Tryd.underlying31 (by decide) w
  go_enter Tryd.func54, Tryd.ntmps54
  go_wp2
  refine wp_loop_rounds 2 ?_
  rw [rounds_succ]
  go_wp2
  rw [rounds_succ]
  go_wp2
  go_ret
  exact ⟨rfl, rfl⟩

theorem is_fault_other (pb po : Nat) (b a : Addr) (ca cb : Array Value) (ta tb : TypeId) (w : World) (h1 : w.cell? ⟨pb, po + 1, none⟩ = some (.iface 129 (.pointer (some a)))) (hne : a ≠ b) (ha : w.heap[a.block]? = some (.cells ca ta (0, 0))) (hb : w.heap[b.block]? = some (.cells cb tb (0, 0))) :
    Calls Tryd.prog 54 #[.iface 79 (.pointer (some ⟨pb, po, none⟩)), .iface 129 (.pointer (some b))] w fun e w' => e = .returned (.bool false) ∧ w = w' := by
  obtain ⟨i, hi, hcmp⟩ := Option.map_eq_some_iff.1 Tryd.isComp
  obtain ⟨j, hj, hjs⟩ := Option.map_eq_some_iff.1 Tryd.isSize
  have h8 := @run_callFunc_extern Tryd.prog 65 _ Extern.ReflectliteType.typeOf Tryd.func65 (by kernel_rfl) (by kernel_rfl) (by kernel_rfl) (by kernel_rfl)
  have h32 := @run_callFunc_extern Tryd.prog 96 _ cmpFn Tryd.func96 (by kernel_rfl) (by kernel_rfl) (by kernel_rfl) (by kernel_rfl)
  have tT := Tryd.typeOfE
  have cT := Tryd.isComparable
  have mR := Tryd.isMethodComparable
  have nE := Tryd.noIsE
  have uE := Tryd.noUnwrapE
  have vE := Tryd.noUnwrapsE
  have nW := Tryd.noIsF
  have uW := Tryd.hasUnwrapF
  have mU := Tryd.methodUnwrap
  have heq := run_eql_iface_ptr_other (P := Tryd.prog) w Tryd.underlying31 Tryd.underlying129 hi hcmp hj (by rw [hjs]; decide) hne ha hb
  have hty := run_eql_iface_types (P := Tryd.prog) 79 129 (.pointer (some ⟨pb, po, none⟩)) (.pointer (some b)) Tryd.underlying31 (by decide) w
  go_enter Tryd.func54, Tryd.ntmps54
  go_wp2
  refine wp_loop_rounds 2 ?_
  rw [rounds_succ]
  go_wp2
  rw [rounds_succ]
  go_wp2
  go_ret
  exact ⟨rfl, rfl⟩

theorem code_nil (w : World) : Calls Tryd.prog 36 #[.nilIface] w fun e w' => e = .returned (.tuple #[.int .i64 0, .int .i64 (-1)]) ∧ w = w' := by
  go_enter Tryd.func36, Tryd.ntmps36
  go_wp2
  go_ret2
  exact ⟨rfl, rfl⟩

theorem is_sent (a : Nat → Addr) (k j : Nat) (hk : k < 8) (hj : j < 8) (hkj : k ≠ j) (w : World) (hS : Sents w a) :
    Calls Tryd.prog 54 #[.iface 129 (.pointer (some (a k))), .iface 129 (.pointer (some (a j)))] w fun e w' => e = .returned (.bool false) ∧ w = w' := by
  obtain ⟨ca, ta, ha⟩ := hS.blk k hk
  obtain ⟨cb, tb, hb⟩ := hS.blk j hj
  exact is_other _ _ ca cb ta tb w (hS.ne k j hk hj hkj) ha hb

set_option maxHeartbeats 4000000 in
theorem code_sent (a : Nat → Addr) (k : Nat) (hk : k < 8) (w : World) (hS : Sents w a) :
    Calls Tryd.prog 36 #[.iface 129 (.pointer (some (a k)))] w fun e w' => e = .returned (.tuple #[.int .i64 ((k : Int) + 1), .int .i64 (-1)]) ∧ Below w.heap.size w w' := by
  go_enter Tryd.func36, Tryd.ntmps36
  go_wp2_with fail
  refine (as_miss _ _ _ ?_).mono ?_
  · exact (hS.below (Below.alloc (Below.refl _ _) (Nat.le_refl _) _) (Nat.le_refl _)).hd
  rintro e w1 ⟨rfl, hb⟩
  have hb1 : Below w.heap.size w w1 := ((Below.refl _ _).alloc (Nat.le_refl _) _).trans (hb.mono (by simp))
  have hS1 : Sents w1 a := hS.below hb1 (Nat.le_refl _)
  have g0 := hS1.g 0 (by decide)
  have g1 := hS1.g 1 (by decide)
  have g2 := hS1.g 2 (by decide)
  have g3 := hS1.g 3 (by decide)
  have g4 := hS1.g 4 (by decide)
  have g5 := hS1.g 5 (by decide)
  have g6 := hS1.g 6 (by decide)
  have g7 := hS1.g 7 (by decide)
  simp only [gnum] at g0 g1 g2 g3 g4 g5 g6 g7
  clear hb
  go_wp2_with fail
  obtain ⟨w2, hw2⟩ : ∃ w2, w2 = w1.alloc (.cells #[.iface 129 (.pointer (some (a 0))), .iface 129 (.pointer (some (a 1))), .iface 129 (.pointer (some (a 2))), .iface 129 (.pointer (some (a 3))), .iface 129 (.pointer (some (a 4))), .iface 129 (.pointer (some (a 5))), .iface 129 (.pointer (some (a 6))), .iface 129 (.pointer (some (a 7)))] 31) := ⟨_, rfl⟩
  rw [← hw2]
  have hb2 : Below w.heap.size w w2 := by rw [hw2]; exact hb1.alloc hb1.size _
  have hS2 : Sents w2 a := hS.below hb2 (Nat.le_refl _)
  have hcell : Hid (∀ j, j < 8 → w2.cell? ⟨w1.heap.size, j, none⟩ = some (.iface 129 (.pointer (some (a j))))) := by
    intro j hj
    rw [hw2]
    match j, hj with
    | 0, _ => simp
    | 1, _ => simp
    | 2, _ => simp
    | 3, _ => simp
    | 4, _ => simp
    | 5, _ => simp
    | 6, _ => simp
    | 7, _ => simp
  clear hw2 g0 g1 g2 g3 g4 g5 g6 g7 hb1 hS1
  go_loop [3, 26] (fun t i => t = .int .i64 (-1) ∧ ∃ j : Nat, j ≤ k ∧ i = .int .i64 j) (fun _ i => 8 - (intOf i).toNat)
  case atStart => exact ⟨rfl, 0, Nat.zero_le _, rfl⟩
  case round =>
    obtain ⟨rfl, j, hj, rfl⟩ := hrel
    have hj8 : j < 8 := by omega
    have hc := hcell.out j hj8
    by_cases hjk : k = j
    · subst hjk
      go_wp2_with (go_at_call 54; refine (is_same _ _).mono ?_; rintro e w' ⟨rfl, rfl⟩)
      go_ret2
      exact ⟨rfl, hb2⟩
    · go_wp2_with (go_at_call 54; refine (is_sent a k j hk hj8 hjk _ hS2).mono ?_; rintro e w' ⟨rfl, rfl⟩)
      go_round
      case rel => exact ⟨rfl, j + 1, by omega, by go_num⟩
      case measure => simp [intOf]; omega

theorem is_fault (a : Nat → Addr) (pb po : Nat) (k j : Nat) (hk : k < 8) (hj : j < 8) (hkj : k ≠ j) (w : World) (hS : Sents w a) (h1 : w.cell? ⟨pb, po + 1, none⟩ = some (.iface 129 (.pointer (some (a k))))) :
    Calls Tryd.prog 54 #[.iface 79 (.pointer (some ⟨pb, po, none⟩)), .iface 129 (.pointer (some (a j)))] w fun e w' => e = .returned (.bool false) ∧ w = w' := by
  obtain ⟨ca, ta, ha⟩ := hS.blk k hk
  obtain ⟨cb, tb, hb⟩ := hS.blk j hj
  exact is_fault_other pb po _ _ ca cb ta tb w h1 (hS.ne k j hk hj hkj) ha hb

set_option maxHeartbeats 4000000 in
/-- of an api.Fault over a sentinel -/
theorem code_fault (a : Nat → Addr) (k : Nat) (hk : k < 8) (pb po : Nat) (n : Int) (w : World) (hS : Sents w a)
    (hf0 : w.cell? ⟨pb, po, none⟩ = some (.int .i64 n)) (hf1 : w.cell? ⟨pb, po + 1, none⟩ = some (.iface 129 (.pointer (some (a k))))) :
    Calls Tryd.prog 36 #[.iface 79 (.pointer (some ⟨pb, po, none⟩))] w fun e w' => e = .returned (.tuple #[.int .i64 ((k : Int) + 1), .int .i64 n]) ∧ Below w.heap.size w w' := by
  have hlt := lt_of_cell hf0
  go_enter Tryd.func36, Tryd.ntmps36
  go_wp2_with fail
  refine (as_hit _ _ (.pointer none) _ ?_ ?_ ?_).mono ?_
  · exact (hS.below (Below.alloc (Below.refl _ _) (Nat.le_refl _) _) (Nat.le_refl _)).hd
  · simp
  · simp
  rintro e w0 ⟨rfl, hw0⟩
  have hc4 : w0.cell? ⟨w.heap.size, 0, none⟩ = some (.pointer (some ⟨pb, po, none⟩)) := by
    rw [hw0]
    refine World.cell?_setCell_same _ _ _ (u := .pointer none) (by
      rw [World.cell?_alloc_lt _ _ _ (by simp; omega), World.cell?_alloc_lt _ _ _ (by simp; omega), World.cell?_alloc_lt _ _ _ (by simp; omega), World.cell?_alloc_lt _ _ _ (by simp)]; simp)
  have hb1 : Below w.heap.size w w0 := by
    rw [hw0]
    exact Below.setCell (((((Below.refl _ _).alloc (Nat.le_refl _) _).alloc (by simp) _).alloc (by simp; omega) _).alloc (by simp; omega) _ |>.alloc (by simp; omega) _) (by simp) _
  clear hw0
  have hS1 : Sents w0 a := hS.below hb1 (Nat.le_refl _)
  have e0 : w0.cell? ⟨pb, po, none⟩ = some (.int .i64 n) := by rw [hb1.cell hlt]; exact hf0
  have e1 : Hid (w0.cell? ⟨pb, po + 1, none⟩ = some (.iface 129 (.pointer (some (a k))))) := by unfold Hid; rw [hb1.cell hlt]; exact hf1
  have g0 := hS1.g 0 (by decide)
  have g1 := hS1.g 1 (by decide)
  have g2 := hS1.g 2 (by decide)
  have g3 := hS1.g 3 (by decide)
  have g4 := hS1.g 4 (by decide)
  have g5 := hS1.g 5 (by decide)
  have g6 := hS1.g 6 (by decide)
  have g7 := hS1.g 7 (by decide)
  simp only [gnum] at g0 g1 g2 g3 g4 g5 g6 g7
  go_wp2_with fail
  obtain ⟨w2, hw2⟩ : ∃ w2, w2 = w0.alloc (.cells #[.iface 129 (.pointer (some (a 0))), .iface 129 (.pointer (some (a 1))), .iface 129 (.pointer (some (a 2))), .iface 129 (.pointer (some (a 3))), .iface 129 (.pointer (some (a 4))), .iface 129 (.pointer (some (a 5))), .iface 129 (.pointer (some (a 6))), .iface 129 (.pointer (some (a 7)))] 31) := ⟨_, rfl⟩
  rw [← hw2]
  have hb2 : Below w.heap.size w w2 := by rw [hw2]; exact hb1.alloc hb1.size _
  have hS2 : Sents w2 a := hS.below hb2 (Nat.le_refl _)
  have hf2 : w2.cell? ⟨pb, po + 1, none⟩ = some (.iface 129 (.pointer (some (a k)))) := by rw [hb2.cell hlt]; exact hf1
  have hcell : Hid (∀ j, j < 8 → w2.cell? ⟨w0.heap.size, j, none⟩ = some (.iface 129 (.pointer (some (a j))))) := by
    intro j hj
    rw [hw2]
    match j, hj with
    | 0, _ => simp
    | 1, _ => simp
    | 2, _ => simp
    | 3, _ => simp
    | 4, _ => simp
    | 5, _ => simp
    | 6, _ => simp
    | 7, _ => simp
  clear hw2 g0 g1 g2 g3 g4 g5 g6 g7 hb1 hS1 e0 hc4 hf0 hf1
  go_loop [3, 26] (fun t i => t = .int .i64 n ∧ ∃ j : Nat, j ≤ k ∧ i = .int .i64 j) (fun _ i => 8 - (intOf i).toNat)
  case atStart => exact ⟨rfl, 0, Nat.zero_le _, rfl⟩
  case round =>
    obtain ⟨rfl, j, hj, rfl⟩ := hrel
    have hj8 : j < 8 := by omega
    have hc := hcell.out j hj8
    by_cases hjk : k = j
    · subst hjk
      go_wp2_with (go_at_call 54; refine (is_fault_same pb po _ _ hf2).mono ?_; rintro e w' ⟨rfl, rfl⟩)
      go_ret2
      exact ⟨rfl, hb2⟩
    · go_wp2_with (go_at_call 54; refine (is_fault a pb po k j hk hj8 hjk _ hS2 hf2).mono ?_; rintro e w' ⟨rfl, rfl⟩)
      go_round
      case rel => exact ⟨rfl, j + 1, by omega, by go_num⟩
      case measure => simp [intOf]; omega

/-- the error 'v' has code 'c' and place 'n' -/
def ErrAt (a : Nat → Addr) (w : World) (v : Value) (c n : Int) : Prop :=
  (v = .nilIface ∧ c = 0 ∧ n = -1) ∨
  (∃ k : Nat, k < 8 ∧ v = .iface 129 (.pointer (some (a k))) ∧ c = (k : Int) + 1 ∧ n = -1) ∨
  (∃ k pb po : Nat, k < 8 ∧ v = .iface 79 (.pointer (some ⟨pb, po, none⟩)) ∧ c = (k : Int) + 1 ∧ w.cell? ⟨pb, po, none⟩ = some (.int .i64 n) ∧ w.cell? ⟨pb, po + 1, none⟩ = some (.iface 129 (.pointer (some (a k)))))

theorem ErrAt.nil (a : Nat → Addr) (w : World) : ErrAt a w .nilIface 0 (-1) := Or.inl ⟨rfl, rfl, rfl⟩
theorem ErrAt.sent (a : Nat → Addr) (w : World) (k : Nat) (hk : k < 8) : ErrAt a w (.iface 129 (.pointer (some (a k)))) ((k : Int) + 1) (-1) := Or.inr (Or.inl ⟨k, hk, rfl, rfl, rfl⟩)

theorem ErrAt.below {a : Nat → Addr} {w w' : World} {v : Value} {c n : Int} {B : Nat} (h : ErrAt a w v c n) (hb : Below B w w') (hB : w.heap.size ≤ B) : ErrAt a w' v c n := by
  rcases h with h | h | ⟨k, pb, po, hk, hv, hc, h0, h1⟩
  · exact Or.inl h
  · exact Or.inr (Or.inl h)
  · exact Or.inr (Or.inr ⟨k, pb, po, hk, hv, hc, by rw [hb.cell (Nat.lt_of_lt_of_le (lt_of_cell h0) hB)]; exact h0, by rw [hb.cell (Nat.lt_of_lt_of_le (lt_of_cell h1) hB)]; exact h1⟩)

/-- an error is nil just if its code is 0 -/
theorem ErrAt.zero {a : Nat → Addr} {w : World} {v : Value} {c n : Int} (h : ErrAt a w v c n) (hc : c = 0) : v = .nilIface := by
  rcases h with h | ⟨k, _, _, h, _⟩ | ⟨k, pb, po, _, _, h, _⟩
  · exact h.1
  · omega
  · omega
theorem ErrAt.some_iface {a : Nat → Addr} {w : World} {v : Value} {c n : Int} (h : ErrAt a w v c n) (hc : c ≠ 0) : ∃ t p, v = .iface t p := by
  rcases h with h | ⟨k, _, h, _⟩ | ⟨k, pb, po, _, h, _⟩
  · exact absurd h.2.1 hc
  · exact ⟨_, _, h⟩
  · exact ⟨_, _, h⟩
theorem ErrAt.range {a : Nat → Addr} {w : World} {v : Value} {c n : Int} (h : ErrAt a w v c n) : 0 ≤ c ∧ c ≤ 8 := by
  rcases h with h | ⟨k, _, _, h, _⟩ | ⟨k, pb, po, _, _, h, _⟩ <;> omega

theorem code_any (a : Nat → Addr) (v : Value) (c n : Int) (w : World) (hS : Sents w a) (h : ErrAt a w v c n) :
    Calls Tryd.prog 36 #[v] w fun e w' => e = .returned (.tuple #[.int .i64 c, .int .i64 n]) ∧ Below w.heap.size w w' := by
  rcases h with ⟨rfl, rfl, rfl⟩ | ⟨k, hk, rfl, rfl, rfl⟩ | ⟨k, pb, po, hk, rfl, rfl, h0, h1⟩
  · exact (code_nil w).mono fun e w' ⟨h, hw⟩ => ⟨h, hw ▸ Below.refl _ _⟩
  · exact code_sent a k hk w hS
  · exact code_fault a k hk pb po n w hS h0 h1

theorem coded_yes (a : Nat → Addr) (v : Value) (c n x : Int) (w : World) (hS : Sents w a) (h : ErrAt a w v c n) (hx : c = x ∧ n = -1) :
    Calls Tryd.prog 17 #[v, .int .i64 x] w fun e w' => e = .returned (.bool true) ∧ Below w.heap.size w w' := by
  obtain ⟨rfl, rfl⟩ := hx
  go_enter Tryd.func17, Tryd.ntmps17
  go_wp2_with (go_at_call 36; refine (code_any a _ _ _ _ hS h).mono ?_; rintro e w' ⟨rfl, hb⟩)
  go_ret
  exact ⟨rfl, hb⟩

theorem coded_no (a : Nat → Addr) (v : Value) (c n x : Int) (w : World) (hS : Sents w a) (h : ErrAt a w v c n) (hx : ¬ (c = x ∧ n = -1)) :
    Calls Tryd.prog 17 #[v, .int .i64 x] w fun e w' => e = .returned (.bool false) ∧ Below w.heap.size w w' := by
  by_cases h1 : c = x
  · subst h1
    have h2 : (n == -1) = false := beq_eq_false_iff_ne.2 (fun e => hx ⟨rfl, e⟩)
    clear hx
    go_enter Tryd.func17, Tryd.ntmps17
    go_wp2_with (go_at_call 36; refine (code_any a _ _ _ _ hS h).mono ?_; rintro e w' ⟨rfl, hb⟩)
    go_ret
    exact ⟨rfl, hb⟩
  · have h2 : (c == x) = false := beq_eq_false_iff_ne.2 h1
    clear hx
    go_enter Tryd.func17, Tryd.ntmps17
    go_wp2_with (go_at_call 36; refine (code_any a _ _ _ _ hS h).mono ?_; rintro e w' ⟨rfl, hb⟩)
    go_ret
    exact ⟨rfl, hb⟩

theorem coded_any (a : Nat → Addr) (v : Value) (c n x : Int) (w : World) (hS : Sents w a) (h : ErrAt a w v c n) :
    Calls Tryd.prog 17 #[v, .int .i64 x] w fun e w' => e = .returned (.bool (decide (c = x ∧ n = -1))) ∧ Below w.heap.size w w' := by
  by_cases hx : c = x ∧ n = -1
  · rw [decide_eq_true hx]; exact coded_yes a v c n x w hS h hx
  · rw [decide_eq_false hx]; exact coded_no a v c n x w hS h hx
end Go.Proofs.YtedehmknijlgpaaDoor
