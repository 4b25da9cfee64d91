/-
  Cosets in memory: lead by a contract.
-/
import Derived.Test.YtedehmknijlgpaaDoorCosA
import Derived.BigRegion
set_option linter.unusedSimpArgs false
set_option linter.unusedVariables false
namespace Go.Proofs.YtedehmknijlgpaaDoor
open Go Go.RowKit Go.Maps

/-- what the cosets at cb write: their own rows, and the block cb -/
structure Fr (O cb : Nat) (w w' : World) : Prop where
  os : w'.os = w.os
  tape : w'.tape = w.tape
  output : w'.output = w.output
  size : w.heap.size ≤ w'.heap.size
  block : ∀ k, k < O → k ≠ cb → w'.heap[k]? = w.heap[k]?
theorem Fr.refl (O cb : Nat) (w : World) : Fr O cb w w := ⟨rfl, rfl, rfl, Nat.le_refl _, fun _ _ _ => rfl⟩
theorem Fr.trans {O cb : Nat} {a b c : World} (h : Fr O cb a b) (k : Fr O cb b c) : Fr O cb a c :=
  ⟨k.os.trans h.os, k.tape.trans h.tape, k.output.trans h.output, Nat.le_trans h.size k.size, fun i hi hn => (k.block i hi hn).trans (h.block i hi hn)⟩
theorem Fr.of_below {O cb : Nat} {w w' : World} (h : Below O w w') : Fr O cb w w' := ⟨h.os, h.tape, h.output, h.size, fun k hk _ => h.block k hk⟩
theorem Fr.of_grown {O cb : Nat} {w w' : World} {row : Option Nat} (h : w.grownBy w' row) (hO : O ≤ w.heap.size) (hr : ∀ k, row = some k → O ≤ k ∨ k = cb) : Fr O cb w w' :=
  ⟨h.os, h.tape, h.output, h.size, fun k hk hn => h.block k (by omega) fun e => (hr k e.symm).elim (fun h => by omega) (fun h => hn h)⟩

theorem Fr.drew {O cb : Nat} {w w' : World} (h : Fr O cb w w') : Fr O cb w w'.drew := ⟨h.os, h.tape, h.output, h.size, h.block⟩
theorem CosH.drew {O cb : Nat} {w : World} {m : TC.St} {vR vS : Value} {hs : List Value} (h : CosH O cb w m vR vS hs) : CosH O cb w.drew m vR vS hs := ⟨h.blk, h.rows, h.same, h.low, h.apart⟩
theorem i64_xor1 (k : Nat) (hk : k < 1000000) : bits .xor .i64 (k : Int) 1 = ((TC.opp k : Nat) : Int) := by
  have hx : k ^^^ 1 < 2 ^ 20 := Nat.xor_lt_two_pow (by omega) (by omega)
  have e1 : (BitVec.ofInt 64 (k : Int)).toNat = k := by rw [BitVec.toNat_ofInt]; omega
  have e2 : (BitVec.ofInt 64 (1 : Int)).toNat = 1 := by decide
  show IntKind.i64.wrap ((BitVec.ofInt 64 (k : Int) ^^^ BitVec.ofInt 64 (1 : Int)).toNat : Int) = _
  rw [BitVec.toNat_xor, e1, e2]
  unfold TC.opp
  unfold IntKind.wrap
  simp [IntKind.signed, IntKind.bits]
  omega

/-- a row in memory: its header, its cells -/
theorem CosH.row {O cb : Nat} {w : World} {m : TC.St} {vR vS : Value} {hs : List Value} (h : CosH O cb w m vR vS hs) {W : Nat} (hw : TC.Wide W m.R) (hW : 0 < W) {x : Nat} (hx : x < m.R.length) :
    ∃ gR cR g c, vR = .slice (some ⟨gR, 0, none⟩) m.R.length cR ∧ w.cell? ⟨gR, x, none⟩ = some (.slice (some ⟨g, 0, none⟩) W c) ∧ hs.getD x .nilIface = .slice (some ⟨g, 0, none⟩) W c ∧ O ≤ g ∧
      (∀ k, k < W → w.cell? ⟨g, k, none⟩ = some (.int .i64 (TC.ent m.R x k)) ∧ w.frozen? ⟨g, k, none⟩ = false) := by
  obtain ⟨gR, cR, hR, -⟩ := h.rows.form (by omega)
  have hlx := hw.len x hx
  have hi := h.rows.2.2.1 x hx
  obtain ⟨g, c, hg, hO, cur, hcur⟩ := hi.form (by omega)
  rw [hlx] at hg
  have hrows := h.rows
  rw [hR] at hrows
  have hc := hrows.cellsAt x hx
  rw [hg] at hc hi
  refine ⟨gR, cR, g, c, hR, hc, hg, hO, fun k hk => ⟨?_, by simp [World.frozen?, hcur]⟩⟩
  have := hi.cellsAt k (by omega)
  rw [this]
  unfold TC.ent
  rw [List.getD_eq_getElem?_getD (l := m.R.getD x []), List.getD_eq_getElem?_getD (l := m.R.getD x []), List.getElem?_eq_getElem (by omega)]
  rfl
/-- an entry is stored -/
theorem CosH.setE {O cb : Nat} {w : World} {m : TC.St} {vR vS : Value} {hs : List Value} (h : CosH O cb w m vR vS hs) (hcb : cb < w.heap.size) {x g n c : Nat} (hx : x < m.R.length) (he : hs.getD x .nilIface = .slice (some ⟨g, 0, none⟩) n c) (hO : O ≤ g) (hOs : O ≤ w.heap.size) (k : Nat) (v : Int) :
    CosH O cb (w.setCell ⟨g, k, none⟩ (.int .i64 v)) ⟨TC.setE m.R x k v, m.S, m.full⟩ vR vS hs ∧ Fr O cb w (w.setCell ⟨g, k, none⟩ (.int .i64 v)) := by
  obtain ⟨h1, h2⟩ := h.rows.put (k := k) hx he v
  have hlow := h.low
  refine ⟨⟨?_, h1, ?_, h.low, fun i hi => h.apart i (by rw [TC.setE_len] at hi; exact hi)⟩, Fr.of_grown h2 hOs (fun k e => by obtain rfl := Option.some.inj e; exact Or.inl hO)⟩
  · rw [h2.block cb hcb (fun e => by have := Option.some.inj e; omega)]; exact h.blk
  · exact h.same.far h2 fun b hb e => by
      obtain rfl := Option.some.inj hb
      exact h.apart x hx g (by rw [he]; rfl) e

def LeadP (O cb : Nat) (m : TC.St) (vR vS : Value) (hs : List Value) (w : World) (e : Ending) (w' : World) : Prop := e = .returned (.tuple #[]) ∧ CosH O cb w' m vR vS hs ∧ Fr O cb w w' ∧ w'.heap.size = w.heap.size
set_option maxRecDepth 100000 in
set_option maxHeartbeats 8000000 in
theorem lead_any (O cb a k b W : Nat) (m : TC.St) (vR vS : Value) (hs : List Value) (w : World) (h : CosH O cb w m vR vS hs) (hw : TC.Wide W m.R) (hW2 : W % 2 = 0) (hW : W ≤ 1000) (hOs : O ≤ w.heap.size) (ha : a < m.R.length) (hb : b < m.R.length) (hab : a ≠ b) (hk : k < W) (hn : m.R.length ≤ 5000) :
    Calls Tryd.prog 51 #[.pointer (some ⟨cb, 0, none⟩), .int .i64 (a : Int), .int .i64 (k : Int), .int .i64 (b : Int)] w (LeadP O cb (TC.leadM m a k b) vR vS hs w) := by
  have hok := TC.opp_lt hW2 hk
  have hcb : cb < w.heap.size := (Array.getElem?_eq_some_iff.1 h.blk).1
  obtain ⟨gR, cR, ga, ca, hR, cA, eA, hOa, rA⟩ := h.row hw (by omega) ha
  obtain ⟨gR', cR', gb, cb', hR', cB, eB, hOb, rB⟩ := h.row hw (by omega) hb
  obtain ⟨rfl, rfl⟩ : gR = gR' ∧ cR = cR' := by rw [hR] at hR'; cases hR'; exact ⟨rfl, rfl⟩
  have hgab : ga ≠ gb := fun e => h.rows.2.2.2 a b ha hb hab ga (by rw [eA]; rfl) (by rw [eB, e]; rfl)
  have hblk := h.blk
  rw [hR] at hblk
  have c0 := (three_at hblk).1
  have fa := (rA k hk).2
  have va := (rA k hk).1
  have fb := (rB _ hok).2
  have vb := (rB _ hok).1
  obtain ⟨s1, f1⟩ := h.setE hcb ha eA hOa hOs k (b : Int)
  have hcb1 : cb < (w.setCell ⟨ga, k, none⟩ (.int .i64 (b : Int))).heap.size := by simp; exact hcb
  obtain ⟨s2, f2⟩ := s1.setE hcb1 (x := b) (g := gb) (by rw [TC.setE_len]; exact hb) eB hOb (by simp; exact hOs) (TC.opp k) (a : Int)
  have H2 := Lib.hid s2
  have F2 := Lib.hid (f1.trans f2)
  obtain ⟨n, hnn⟩ : ∃ n, m.R.length = n := ⟨_, rfl⟩
  rw [hnn] at ha hb hn c0
  have X := Lib.hid (i64_xor1 k (by omega))
  obtain ⟨k', hk'⟩ : ∃ k', TC.opp k = k' := ⟨_, rfl⟩
  have HK := Lib.hid hk'
  rw [hk'] at fb vb hok H2 F2 X
  have x1 := X.out
  unfold LeadP
  have HSZ : Hid (∀ (v u : Value), ((w.setCell ⟨ga, k, none⟩ v).setCell ⟨gb, k', none⟩ u).heap.size = w.heap.size) := fun v u => by simp
  clear h hw hR hR' eA eB rA rB hblk s1 s2 f1 f2 hcb1 hnn hk' X hcb
  go_enter Tryd.func51, Tryd.ntmps51
  go_region
  all_goals
   go_wp2_with fail
   go_end0
   refine ⟨rfl, ?_, ?_, ?_⟩
   · unfold TC.leadM
     rw [HK.out]; first | exact H2.out | exact H2.out.drew
   · first | exact F2.out | exact F2.out.drew
   · exact HSZ.out _ _
end Go.Proofs.YtedehmknijlgpaaDoor
