/-
  cubes.Counts, cubes.Euler; the law's picture, by contracts.
  The laws' ring (a closed fact) and little by contracts.
-/
import Derived.Test.YtoheffkiohfmoaaGreatDoorPro
import Derived.Test.YtoheffkiohfmoaaGreatDoorGri
import Derived.Test.YtoheffkiohfmoaaGreatDoorImE
set_option linter.unusedSimpArgs false
set_option linter.unusedVariables false
namespace Go.Proofs.YtoheffkiohfmoaaGreatDoor
open Go Go.RowKit Go.Maps FL

def cC (ms : List ByteArray) : Int := if errV ms = 0 then (((gridTo (cornAt ms) (wideI ms) (ms.length + 1)).length : Nat) : Int) else 0
def cE (ms : List ByteArray) : Int := if errV ms = 0 then (((gridTo (edgeAt ms) (wideI ms) (ms.length + 1)).length : Nat) : Int) else 0
def cS (ms : List ByteArray) : Int := if errV ms = 0 then (((gridTo (squaAt ms) (wideI ms) (ms.length + 1)).length : Nat) : Int) else 0
def CntP (a : Nat → Addr) (ms : List ByteArray) (w : World) (e : Ending) (w' : World) : Prop := e = .returned (.tuple #[.int .i64 (cC ms), .int .i64 (cE ms), .int .i64 (cS ms), errOf a (errV ms)]) ∧ Below w.heap.size w w'
set_option maxRecDepth 100000 in
set_option maxHeartbeats 8000000 in
theorem counts_any (a : Nat → Addr) (ms : List ByteArray) (v : Value) (w : World) (hS : Sents w a) (h : StrsAt w v ms) (hsz : ∀ j, (rowB ms j).size ≤ 9223372036854775807) :
    Calls Tryz.prog 87 #[v] w (CntP a ms w) := by
  have HVA := Lib.hid (valid_any a ms v w hS h hsz)
  unfold ValP at HVA
  unfold CntP
  obtain ⟨pm, cm, hve, -⟩ := id h
  obtain ⟨H, hHn⟩ : ∃ H, ms.length = H := ⟨_, rfl⟩
  by_cases h0 : errV ms = 0
  rotate_left
  · obtain ⟨t, p, hp⟩ := errOf_iface (a := a) h0
    have e1 : cC ms = 0 := by unfold cC; rw [if_neg h0]
    have e2 : cE ms = 0 := by unfold cE; rw [if_neg h0]
    have e3 : cS ms = 0 := by unfold cS; rw [if_neg h0]
    rw [e1, e2, e3]
    rw [hp] at HVA ⊢
    clear hS h hsz hHn h0 hp e1 e2 e3
    rw [hve] at HVA ⊢
    clear hve
    go_enter Tryz.func87, Tryz.ntmps87
    go_wp2_with fail
    refine HVA.out.mono ?_
    rintro e w1 ⟨rfl, hb⟩
    have HB := Lib.hid hb
    clear hb
    go_wp2_with fail
    refine bodyPost_ret (v := .tuple #[.int .i64 0, .int .i64 0, .int .i64 0, .iface t p]) (by simp [results, Tryz.results87, go_sem]) rfl ?_
    exact ⟨rfl, HB.out⟩
  · obtain ⟨hH24, hrect, hW24⟩ := errV_zero h0
    have e1 : cC ms = (((gridTo (cornAt ms) (wideI ms) (ms.length + 1)).length : Nat) : Int) := by unfold cC; rw [if_pos h0]
    have e2 : cE ms = (((gridTo (edgeAt ms) (wideI ms) (ms.length + 1)).length : Nat) : Int) := by unfold cE; rw [if_pos h0]
    have e3 : cS ms = (((gridTo (squaAt ms) (wideI ms) (ms.length + 1)).length : Nat) : Int) := by unfold cS; rw [if_pos h0]
    rw [e1, e2, e3]
    rw [h0, errOf_zero] at HVA ⊢
    have HG := Lib.hid (fun wx (hx : Below w.heap.size w wx) => grid_any ms v wx (h.below hx (Nat.le_refl _)) (by omega) (by omega))
    unfold GridP at HG
    generalize gridTo (cornAt ms) (wideI ms) (ms.length + 1) = lc at HG ⊢
    generalize gridTo (squaAt ms) (wideI ms) (ms.length + 1) = ls at HG ⊢
    generalize gridTo (edgeAt ms) (wideI ms) (ms.length + 1) = le at HG ⊢
    rw [hve] at HVA HG ⊢
    clear hS h hsz hHn h0 hH24 hrect hW24 e1 e2 e3 hve
    go_enter Tryz.func87, Tryz.ntmps87
    go_wp2_with fail
    refine HVA.out.mono ?_
    rintro e w1 ⟨rfl, hb⟩
    have HB := Lib.hid hb
    clear hb HVA
    go_wp2_with fail
    refine (HG.out _ HB.out).mono ?_
    rintro e w2 ⟨vc, vs, ve, rfl, hb2, hc, hs, he⟩
    obtain ⟨pc, cc, rfl⟩ := hc.sliceOf
    obtain ⟨ps, cs, rfl⟩ := hs.sliceOf
    obtain ⟨pe, ce, rfl⟩ := he.sliceOf
    have HB2 := Lib.hid (HB.out.trans (hb2.mono HB.out.size))
    clear hb2 hc hs he HG
    go_wp2_with fail
    go_quiet (fail)
    go_wp2_with fail
    refine bodyPost_ret (v := .tuple #[.int .i64 (lc.length : Int), .int .i64 (le.length : Int), .int .i64 (ls.length : Int), .nilIface]) (by simp [results, Tryz.results87, go_sem]) rfl ?_
    refine ⟨rfl, ?_⟩
    have h1 := HB2.out.trans (((Below.refl w2.heap.size w2).alloc (Nat.le_refl _) (.cells #[.slice pc lc.length cc, .slice ps ls.length cs, .slice pe le.length ce] 114)).mono HB2.out.size)
    exact ⟨h1.os, h1.tape, h1.output, h1.size, h1.block⟩
theorem cnt_small (ms : List ByteArray) : (0 ≤ cC ms ∧ cC ms ≤ 10000) ∧ (0 ≤ cE ms ∧ cE ms ≤ 10000) ∧ (0 ≤ cS ms ∧ cS ms ≤ 10000) := by
  unfold cC cE cS
  by_cases h0 : errV ms = 0
  · obtain ⟨h1, -, h2⟩ := errV_zero h0
    rw [if_pos h0, if_pos h0, if_pos h0]
    have b : ∀ {α : Type} {at' : Nat → Nat → List α}, (∀ x y, (at' x y).length ≤ 2) → (gridTo at' (wideI ms) (ms.length + 1)).length ≤ 10000 := fun h => by
      have h3 := gridTo_len h (wideI ms) (ms.length + 1)
      have h4 : 2 * (wideI ms + 1) * (ms.length + 1) ≤ 50 * 25 := Nat.mul_le_mul (by omega) (by omega)
      omega
    have b1 := b (at' := cornAt ms) (fun x y => Nat.le_trans (at_len1 x y) (by omega))
    have b2 := b (at' := edgeAt ms) (fun x y => at_len2 x y)
    have b3 := b (at' := squaAt ms) (fun x y => Nat.le_trans (at_len3 x y) (by omega))
    omega
  · rw [if_neg h0, if_neg h0, if_neg h0]; omega
theorem euler_any (a : Nat → Addr) (ms : List ByteArray) (v : Value) (w : World) (hS : Sents w a) (h : StrsAt w v ms) (hsz : ∀ j, (rowB ms j).size ≤ 9223372036854775807) :
    Calls Tryz.prog 60 #[v] w fun e w' => e = .returned (.tuple #[.int .i64 (cC ms - cE ms + cS ms), errOf a (errV ms)]) ∧ Below w.heap.size w w' := by
  have HC := Lib.hid (counts_any a ms v w hS h hsz)
  unfold CntP at HC
  obtain ⟨⟨b1, b2⟩, ⟨b3, b4⟩, b5, b6⟩ := cnt_small ms
  generalize cC ms = x at HC b1 b2 ⊢
  generalize cE ms = y at HC b3 b4 ⊢
  generalize cS ms = z at HC b5 b6 ⊢
  generalize errOf a (errV ms) = ev at HC ⊢
  clear hS h hsz
  go_enter Tryz.func60, Tryz.ntmps60
  go_wp2_with fail
  refine HC.out.mono ?_
  rintro e w1 ⟨rfl, hb⟩
  have HB := Lib.hid hb
  clear hb HC
  go_wp2_with fail
  go_ret2
  exact ⟨rfl, HB.out⟩
/-! ### the law's picture: a copy -/
theorem run_append_nil2 {P : Program} (w : World) (t tx ty e : TypeId) (i : TypeInfo) (z : Value) (ht : P.underlying t = some (.slice e)) (htx : P.underlying tx = some (.slice e)) (hi : P.info? e = some i) (hz : i.zero = some z)
    (a : Addr) (n c : Nat) (news : List Value) (hl : news.length = n * i.size) (hnews : ∀ j v, news[j]? = some v → w.cell? (a.add j) = some v)
    (h0 : 0 < n) (h63 : (n : Int) ≤ 9223372036854775807) (h48 : n * i.bytes ≤ 281474976710656) :
    (Builtin.append_ #[t, tx] ty #[.slice none 0 0, .slice (some a) n c]).run P w =
      .ok (.slice (some ⟨w.heap.size, 0, none⟩) n (grownCap w n 0 e)) (w.drew.alloc (.cells (news.toArray ++ Builtin.zeroCells z.cells (grownCap w n 0 e - n)) e)) := by
  have hn : n ≠ 0 := by omega
  have h63' : ¬ (9223372036854775807 < (n : Int)) := by omega
  have h48' : ¬ (281474976710656 < Builtin.nextslicecap n 0 * i.bytes) := by rw [nextslicecap_zero h0]; omega
  have hf := run_firstCells_some (P := P) w.drew i.size n a n c news hl (by simpa using hnews)
  simp [Builtin.append_, run_underlying ht, run_underlying htx, sizeOf, typeInfo, zeroValue, hi, hz, Builtin.lenOf, hn, h63', h48', Question.forced, run_firstCells_none, hf, newRow, grownCap]
theorem run_append_empty2 {P : Program} (w : World) (t tx ty e : TypeId) (i : TypeInfo) (ht : P.underlying t = some (.slice e)) (htx : P.underlying tx = some (.slice e)) (hi : P.info? e = some i) (p : Option Addr) (c : Nat) (hp : p = none → c = 0) :
    (Builtin.append_ #[t, tx] ty #[.slice none 0 0, .slice p 0 c]).run P w = .ok (.slice none 0 0) w := by
  cases p with
  | none =>
    obtain rfl := hp rfl
    simp [Builtin.append_, run_underlying ht, run_underlying htx, sizeOf, typeInfo, hi, Builtin.lenOf, run_firstCells_none]
  | some a =>
    have hf := run_firstCells_some (P := P) w i.size 0 a 0 c [] (by simp) (by simp)
    simp [Builtin.append_, run_underlying ht, run_underlying htx, sizeOf, typeInfo, hi, Builtin.lenOf, hf]
theorem wpList_append_run2 {P : Program} {w w' : World} {ops : Array Oper} {rest : List Oper} {o : Oper} {a : Act} {Q : Exit → Act → World → Prop} {v' va vx : Value} (hgd : o.guard = none) (s x : Operand) (t tx : TypeId)
    (ho : o.op = .call { callee := .builtin .append, args := #[s, x], argTypes := #[t, tx] }) (hs : a.eval s = va) (hx : a.eval x = vx) (hrun : ∀ ty, (Builtin.append_ #[t, tx] ty #[va, vx]).run P w = .ok v' w') (h : wpList P ops Q rest (a.put o.dst v') w') : wpList P ops Q (o :: rest) a w := by
  refine wpList_plain hgd fun K hK => ?_
  unfold Oper.wp
  simp [execOp, ho, resolve, invoke, builtin, hs, hx, hrun o.type, Result.andThen]
  exact hK _ _ h
theorem infoStr : (Tryz.prog.info? 9).map (fun i => (i.zero, i.size, i.bytes)) = some (some (.string ⟨#[]⟩), 1, 16) := by kernel_rfl
def PicP (ms : List ByteArray) (w : World) (e : Ending) (w' : World) : Prop := ∃ v, e = .returned v ∧ Below w.heap.size w w' ∧ StrsAt w' v ms
theorem picture_any (ms : List ByteArray) (v : Value) (w : World) (h : StrsAt w v ms) (hn : ms.length ≤ 1000000) : Calls Tryz.prog 36 #[v] w (PicP ms w) := by
  obtain ⟨i, hi, hz0, hz1, hz2⟩ := info_parts infoStr
  obtain ⟨p, c, hve, hc, hp, hx⟩ := id h
  unfold PicP
  by_cases h0 : ms.length = 0
  · rw [h0] at hve
    have hrun := fun ty => run_append_empty2 (P := Tryz.prog) w 73 69 ty 9 i Tryz.underlying73 Tryz.underlying69 hi p c hp
    have HRUN := Lib.hid hrun
    have hnil : ms = [] := List.length_eq_zero_iff.1 h0
    subst hve
    have HN := Lib.hid hnil
    clear h hrun h0 hnil hc hp hx hn
    go_enter Tryz.func36, Tryz.ntmps36
    go_wp2_with (at_builtin; refine wpList_append_run2 rfl (.tmp 4) (.tmp 5) 73 69 rfl rfl rfl HRUN.out ?_)
    go_ret
    exact ⟨_, rfl, Below.refl _ _, by rw [HN.out]; exact StrsAt.nil w⟩
  · obtain ⟨b, off, rfl, -⟩ := hx 0 (by omega)
    obtain ⟨n, hnn⟩ : ∃ n, ms.length = n := ⟨_, rfl⟩
    rw [hnn] at hve h0 hn
    have hnews : ∀ j u, (ms.map Value.string)[j]? = some u → w.cell? ((⟨b, off, none⟩ : Addr).add j) = some u := fun j u hu => by
      rw [List.getElem?_map] at hu
      obtain ⟨s, hs, rfl⟩ := Option.map_eq_some_iff.1 hu
      have hj : j < ms.length := (List.getElem?_eq_some_iff.1 hs).1
      obtain ⟨b', off', e1, e2⟩ := hx j hj
      cases e1
      rw [add_off, e2]
      unfold rowB
      rw [List.getD_eq_getElem?_getD, hs]; rfl
    have hrun := fun ty => run_append_nil2 (P := Tryz.prog) w 73 69 ty 9 i (.string ⟨#[]⟩) Tryz.underlying73 Tryz.underlying69 hi hz0 ⟨b, off, none⟩ n c (ms.map Value.string) (by rw [hz1, List.length_map, hnn]; omega) hnews (by omega) (by omega) (by rw [hz2]; omega)
    have hge := grownCap_ge w n 0 9
    generalize grownCap w n 0 9 = gc at hrun hge
    have hfin : StrsAt (w.drew.alloc (.cells ((ms.map Value.string).toArray ++ Builtin.zeroCells (Value.string ⟨#[]⟩).cells (gc - n)) 9)) (.slice (some ⟨w.heap.size, 0, none⟩) n gc) ms := by
      refine ⟨_, gc, by rw [hnn], by rw [hnn]; exact hge, (fun e => by cases e), fun j hj => ⟨w.heap.size, 0, rfl, ?_⟩⟩
      have hb := heap_alloc_new w.drew (.cells ((ms.map Value.string).toArray ++ Builtin.zeroCells (Value.string ⟨#[]⟩).cells (gc - n)) 9)
      have hb' : (w.drew.alloc (.cells ((ms.map Value.string).toArray ++ Builtin.zeroCells (Value.string ⟨#[]⟩).cells (gc - n)) 9)).heap[w.heap.size]? = _ := hb
      simp only [World.cell?, hb', Nat.zero_add]
      rw [Array.getElem?_append_left (by simpa using hj)]
      unfold rowB
      simp [List.getD_eq_getElem?_getD, hj]
    have hbl : Below w.heap.size w (w.drew.alloc (.cells ((ms.map Value.string).toArray ++ Builtin.zeroCells (Value.string ⟨#[]⟩).cells (gc - n)) 9)) := ((Below.refl _ _).drew).alloc (Nat.le_refl _) _
    obtain ⟨w2, hw2⟩ : ∃ w2, w.drew.alloc (.cells ((ms.map Value.string).toArray ++ Builtin.zeroCells (Value.string ⟨#[]⟩).cells (gc - n)) 9) = w2 := ⟨_, rfl⟩
    rw [hw2] at hfin hbl
    simp only [hw2] at hrun
    have HRUN := Lib.hid hrun
    have HF := Lib.hid hfin
    have HB := Lib.hid hbl
    subst hve
    clear h hx hnews hrun hge hfin hbl hw2 hc hp h0 hn hnn
    go_enter Tryz.func36, Tryz.ntmps36
    go_wp2_with (at_builtin; refine wpList_append_run2 rfl (.tmp 4) (.tmp 5) 73 69 rfl rfl rfl HRUN.out ?_)
    go_ret
    exact ⟨_, rfl, HB.out, HF.out⟩

theorem ring_err : errV ringI = 0 := by decide
theorem ring_n : cC ringI - cE ringI + cS ringI = 0 := by
  unfold cC cE cS
  rw [if_pos ring_err, if_pos ring_err, if_pos ring_err]
  decide
theorem ring_p : piecePN ringI = 1 := by
  unfold piecePN
  rw [if_pos ring_err]
  have : ringI.length * wideI ringI = 9 := by decide
  rw [this, ring_pieces]; rfl
theorem ring_h : holePN ringI = 1 := by
  unfold holePN
  rw [if_pos ring_err]
  have : ringI.length * wideI ringI = 9 := by decide
  rw [this, ring_holes]; rfl
set_option maxRecDepth 100000 in
set_option maxHeartbeats 4000000 in
theorem ring_any (a : Nat → Addr) (w : World) (hS : Sents w a) : Calls Tryz.prog 32 #[] w fun e w' => e = .returned (.bool true) ∧ Below w.heap.size w w' := by
  have hb0 := (Below.refl w.heap.size w).alloc (Nat.le_refl _) (.cells #[.string ⟨#[35, 35, 35]⟩, .string ⟨#[35, 46, 35]⟩, .string ⟨#[35, 35, 35]⟩] 9)
  have hst : StrsAt (w.alloc (.cells #[.string ⟨#[35, 35, 35]⟩, .string ⟨#[35, 46, 35]⟩, .string ⟨#[35, 35, 35]⟩] 9)) (.slice (some ⟨w.heap.size, 0, none⟩) 3 3) ringI := by
    have hb := heap_alloc_new w (.cells #[.string ⟨#[35, 35, 35]⟩, .string ⟨#[35, 46, 35]⟩, .string ⟨#[35, 35, 35]⟩] 9)
    refine ⟨_, 3, rfl, Nat.le_refl _, (fun e => by cases e), fun i hi => ⟨w.heap.size, 0, rfl, ?_⟩⟩
    simp only [World.cell?, hb, Nat.zero_add]
    match i, hi with
    | 0, _ => rfl
    | 1, _ => rfl
    | 2, _ => rfl
  have hsz : ∀ j, (rowB ringI j).size ≤ 9223372036854775807 := fun j => by
    match j with
    | 0 => decide
    | 1 => decide
    | 2 => decide
    | n + 3 => exact Nat.zero_le _
  have HEU := Lib.hid (fun wx (hx : Below w.heap.size w wx) (hy : StrsAt wx (.slice (some ⟨w.heap.size, 0, none⟩) 3 3) ringI) => euler_any a ringI _ wx (hS.below hx (Nat.le_refl _)) hy hsz)
  have HPI := Lib.hid (fun wx (hx : Below w.heap.size w wx) (hy : StrsAt wx (.slice (some ⟨w.heap.size, 0, none⟩) 3 3) ringI) => pieceP_any a ringI _ wx (hS.below hx (Nat.le_refl _)) hy hsz)
  have HHO := Lib.hid (fun wx (hx : Below w.heap.size w wx) (hy : StrsAt wx (.slice (some ⟨w.heap.size, 0, none⟩) 3 3) ringI) => holeP_any a ringI _ wx (hS.below hx (Nat.le_refl _)) hy hsz)
  simp only [ring_n, ring_err, errOf_zero] at HEU
  simp only [ring_p, ring_err, errOf_zero] at HPI
  simp only [ring_h, ring_err, errOf_zero] at HHO
  have HB0 := Lib.hid hb0
  have HST := Lib.hid hst
  obtain ⟨w1, hw1⟩ : ∃ w1, w.alloc (.cells #[.string ⟨#[35, 35, 35]⟩, .string ⟨#[35, 46, 35]⟩, .string ⟨#[35, 35, 35]⟩] 9) = w1 := ⟨_, rfl⟩
  rw [hw1] at HB0 HST
  have HW1 := Lib.hid hw1
  clear hb0 hst hsz hS hw1
  go_enter Tryz.func32, Tryz.ntmps32
  go_wp2_with fail
  rw [HW1.out]
  refine (HEU.out _ HB0.out HST.out).mono ?_
  rintro e w2 ⟨rfl, hb⟩
  have HB2 := Lib.hid (HB0.out.trans (hb.mono HB0.out.size))
  have HS2 := Lib.hid (HST.out.below hb (Nat.le_refl _))
  clear hb HB0 HST HEU
  go_wp2_with fail
  refine (HPI.out _ HB2.out HS2.out).mono ?_
  rintro e w3 ⟨rfl, hb⟩
  have HB3 := Lib.hid (HB2.out.trans (hb.mono HB2.out.size))
  have HS3 := Lib.hid (HS2.out.below hb (Nat.le_refl _))
  clear hb HB2 HS2 HPI
  go_wp2_with fail
  refine (HHO.out _ HB3.out HS3.out).mono ?_
  rintro e w4 ⟨rfl, hb⟩
  have HB4 := Lib.hid (HB3.out.trans (hb.mono HB3.out.size))
  clear hb HB3 HS3 HHO
  go_wp2_with fail
  go_ret
  exact ⟨rfl, HB4.out⟩

def LitP (ms : List ByteArray) (w : World) (e : Ending) (w' : World) : Prop := ∃ b, e = .returned (.bool b) ∧ w' = w ∧ (b = true → ms.length ≤ 60)
set_option maxRecDepth 100000 in
set_option maxHeartbeats 4000000 in
theorem litS_any (ms : List ByteArray) (v : Value) (w : World) (h : StrsAt w v ms) (most : Int) (hn : ms.length ≤ 9223372036854775807) : Calls Tryz.prog 33 #[v, .int .i64 most] w (LitP ms w) := by
  obtain ⟨pm, cm, hve, -⟩ := id h
  obtain ⟨n, hnn⟩ : ∃ n, ms.length = n := ⟨_, rfl⟩
  rw [hnn] at hve hn
  subst hve
  have HST := Lib.hid h
  have HN := Lib.hid hnn
  clear h hnn
  go_enter Tryz.func33, Tryz.ntmps33
  go_wp2_with fail
  go_loop [5, 6] (fun s5 s6 => ∃ (k : Nat) (z : Int), k ≤ n ∧ s6 = .int .i64 (k : Int) ∧ s5 = .int .i64 z) (fun _ s6 => n - (intOf s6).toNat)
  case atStart => exact ⟨0, 0, Nat.zero_le _, rfl, rfl⟩
  case round =>
    obtain ⟨k, z, hk, rfl, rfl⟩ := hrel
    by_cases hlt : k < n
    · obtain ⟨b, off, rfl, hcell⟩ := HST.out.at (i := k) (by rw [HN.out]; exact hlt)
      obtain ⟨s, hs⟩ : ∃ s, rowB ms k = s := ⟨_, rfl⟩
      rw [hs] at hcell
      clear hs
      go_wp2_with fail
      go_round
      case rel => exact ⟨k + 1, _, hlt, by go_num, rfl⟩
      case measure => simp [intOf]; omega
    · obtain rfl : k = n := by omega
      by_cases h60 : k ≤ 60
      · have q60 : decide ((k : Int) ≤ 60) = true := decide_eq_true (by omega)
        have q60N : decide (k ≤ 60) = true := decide_eq_true h60
        have H60 := Lib.hid h60
        clear h60
        by_cases h7 : z ≤ most
        · have q7 : decide (z ≤ most) = true := decide_eq_true h7
          clear h7
          go_wp2_with fail
          go_ret
          exact ⟨true, rfl, rfl, fun _ => by rw [HN.out]; exact H60.out⟩
        · have q7 : decide (z ≤ most) = false := decide_eq_false h7
          clear h7
          go_wp2_with fail
          go_ret
          exact ⟨false, rfl, rfl, fun e => by cases e⟩
      · have q60 : decide ((k : Int) ≤ 60) = false := decide_eq_false (by omega)
        have q60N : decide (k ≤ 60) = false := decide_eq_false h60
        clear h60
        go_wp2_with fail
        go_ret
        exact ⟨false, rfl, rfl, fun e => by cases e⟩
end Go.Proofs.YtoheffkiohfmoaaGreatDoor
