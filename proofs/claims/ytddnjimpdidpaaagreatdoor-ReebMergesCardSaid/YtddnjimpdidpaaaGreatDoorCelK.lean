/-
  cells.key by a contract: a face's vertices as bytes. Condition: they are from 0 to 99.
-/
import Derived.Test.YtddnjimpdidpaaaGreatDoorCRefF
import Derived.Laws.IdiomStrings
import Derived.Laws.MakeOwn
namespace Go.Proofs.YtddnjimpdidpaaaGreatDoor
open Go Go.RowKit

theorem Tryz.info5 : (Tryz.prog.info? 5).map (fun i => (i.zero, i.size, i.bytes)) = some (some (.int .u8 0), 1, 1) := by kernel_rfl
/-- a face as a key -/
def keyL (f : List Int) : List UInt8 := f.map fun x => UInt8.ofNat x.toNat
def keyS (f : List Int) : Value := .string ⟨(keyL f).toArray⟩
def Vtx (f : List Int) : Prop := ∀ x ∈ f, 0 ≤ x ∧ x ≤ 99
theorem keyL_inj : ∀ {f g : List Int}, Vtx f → Vtx g → keyL f = keyL g → f = g
  | [], [], _, _, _ => rfl
  | [], y :: g, _, _, h => by cases h
  | x :: f, [], _, _, h => by cases h
  | x :: f, y :: g, hf, hg, h => by
    simp only [keyL, List.map_cons, List.cons.injEq] at h
    obtain ⟨h1, h2⟩ := h
    have a := hf x (List.mem_cons_self ..)
    have b := hg y (List.mem_cons_self ..)
    have e := congrArg UInt8.toNat h1
    rw [UInt8.toNat_ofNat_of_lt' (by show x.toNat < 256; omega), UInt8.toNat_ofNat_of_lt' (by show y.toNat < 256; omega)] at e
    have e2 : x = y := by omega
    rw [e2, keyL_inj (fun z hz => hf z (List.mem_cons_of_mem _ hz)) (fun z hz => hg z (List.mem_cons_of_mem _ hz)) h2]
/-- the bytes while they are written -/
def byteArr (f : List Int) (n k : Nat) : Array Value := ((List.range n).map fun i => Value.int .u8 (if i < k then f.getD i 0 else 0)).toArray
theorem byteArr_zero (f : List Int) (n : Nat) : madeCells #[Value.int .u8 0] n = byteArr f n 0 := by
  unfold madeCells byteArr
  apply Array.ext'
  rw [Array.toList_map, Array.toList_range]
  refine List.map_congr_left fun i _ => ?_
  rw [if_neg (by omega)]
  have : i % (#[Value.int .u8 0] : Array Value).size = 0 := Nat.mod_one i
  rw [this]; rfl
theorem byteArr_at (f : List Int) (n k i : Nat) (h : i < n) : (byteArr f n k)[i]? = some (.int .u8 (if i < k then f.getD i 0 else 0)) := by
  unfold byteArr
  rw [List.getElem?_toArray, List.getElem?_map, List.getElem?_range h]; rfl
theorem byteArr_set (f : List Int) (n k : Nat) (h : k < n) : (byteArr f n k).setIfInBounds k (.int .u8 (f.getD k 0)) = byteArr f n (k + 1) := by
  apply Array.ext_getElem?
  intro i
  rw [Array.getElem?_setIfInBounds]
  by_cases hi : i < n
  · rw [byteArr_at f n k i hi, byteArr_at f n (k + 1) i hi]
    by_cases hk : k = i
    · subst hk
      rw [if_pos rfl, if_pos (show k < (byteArr f n k).size by unfold byteArr; simpa using h), if_pos (show k < k + 1 by omega)]
    · rw [if_neg hk]
      by_cases hik : i < k
      · rw [if_pos hik, if_pos (by omega)]
      · rw [if_neg hik, if_neg (by omega)]
  · have e1 : (byteArr f n k)[i]? = none := Array.getElem?_eq_none (by unfold byteArr; simp; omega)
    have e2 : (byteArr f n (k + 1))[i]? = none := Array.getElem?_eq_none (by unfold byteArr; simp; omega)
    rw [e1, e2, if_neg (by omega)]
theorem wrap_u8 {x : Int} (h0 : 0 ≤ x) (h1 : x ≤ 99) : IntKind.u8.wrap x = x := by
  unfold IntKind.wrap
  simp [IntKind.signed, IntKind.bits]
  omega
theorem set_block {w : World} {g k : Nat} {cs : Array Value} {t : TypeId} {v : Value} (h : w.heap[g]? = some (.cells cs t (0, 0))) : (w.setCell ⟨g, k, none⟩ v).heap[g]? = some (.cells (cs.setIfInBounds k v) t (0, 0)) := by
  simp [World.setCell, Array.getElem?_modify, h]

set_option maxRecDepth 100000 in
set_option maxHeartbeats 4000000 in
theorem key_any (f : List Int) (u : Value) (w : World) (hu : IntsAt w u f) (hf : Vtx f) (hn : f.length ≤ 100000) : Calls Tryz.prog 112 #[u] w (Gives (keyS f) w) := by
  obtain ⟨i5, hi5, hz0, hz1, hz2⟩ := info_parts Tryz.info5
  obtain ⟨p, c, rfl, -, -, hx⟩ := hu
  obtain ⟨n, hfn⟩ : ∃ n, f.length = n := ⟨_, rfl⟩
  rw [hfn] at hn hx ⊢
  have HX := Lib.hid hx
  have HV := Lib.hid hf
  have HN := Lib.hid hfn
  clear hx hf hfn
  go_enter Tryz.func112, Tryz.ntmps112
  go_wp2_with (refine wpList_make_full _ rfl _ _ 212 rfl w.heap.size 5 i5 (.int .u8 0) 1 Tryz.underlying212 hi5 hz0 hz1 .i64 .i64 _ _ n rfl rfl rfl rfl (by rw [hz2]; omega) (by unfold maxLen; omega) (Nat.le_refl _) ?_; intro w1 hown1 hgr1)
  have hblk : w1.heap[w.heap.size]? = some (.cells (byteArr f n 0) 5 (0, 0)) := by
    rcases hown1.2 with ⟨he, _⟩ | ⟨g', cap', cur, he, _, hgg, _, _, hcs, ht⟩
    · cases he
    · cases he
      rw [hgg, ← byteArr_zero]
      have e : cur = madeCells #[Value.int .u8 0] n := by
        apply Array.ext'
        rw [Nat.mul_one] at hcs ht
        rw [List.take_of_length_le (by rw [Array.length_toList]; omega)] at ht
        exact ht
      rw [e]
  have hb1 : Below w.heap.size w w1 := (Below.refl _ _).grown hgr1 (Nat.le_refl _) (fun k hk => by cases hk)
  have HB1 := Lib.hid hb1
  have HBL := Lib.hid hblk
  clear hown1 hgr1 hb1 hblk
  go_wp2_with fail
  go_loopw [11] (fun i wr => ∃ k : Nat, k ≤ n ∧ i = .int .i64 k ∧ Below w.heap.size w wr ∧ wr.heap[w.heap.size]? = some (.cells (byteArr f n k) 5 (0, 0))) (fun i _ => n - (intOf i).toNat)
  case atStart => exact ⟨0, Nat.zero_le _, rfl, HB1.out, HBL.out⟩
  case round =>
    obtain ⟨k, hk, rfl, hb, hblk⟩ := hrel
    have HB := Lib.hid hb
    have HBK := Lib.hid hblk
    by_cases hkn : k < n
    · obtain ⟨b, off, rfl, hc0⟩ := HX.out k hkn
      have hcx := (hb.cell (p := ⟨b, off + k, none⟩) (mem_lt hc0)).trans hc0
      have hxv := HV.out (f.getD k 0) (by rw [List.getD_eq_getElem?_getD, List.getElem?_eq_getElem (by rw [HN.out]; exact hkn)]; exact List.getElem_mem _)
      have hcw : wr.cell? ⟨w.heap.size, k, none⟩ = some (.int .u8 0) := by
        simp only [World.cell?, hblk]
        rw [byteArr_at f n k k hkn, if_neg (Nat.lt_irrefl k)]
        rfl
      have hfz : wr.frozen? ⟨w.heap.size, k, none⟩ = false := by simp [World.frozen?, hblk]
      have HNX := Lib.hid (set_block (k := k) (v := .int .u8 (f.getD k 0)) hblk)
      rw [byteArr_set f n k hkn] at HNX
      have HBS := Lib.hid (show Below w.heap.size w (wr.setCell ⟨w.heap.size, k, none⟩ (.int .u8 (f.getD k 0))) from hb.setCell (Nat.le_refl _) _)
      have hwrap := wrap_u8 hxv.1 hxv.2
      generalize f.getD k 0 = x at hcx hxv hwrap HNX HBS
      obtain ⟨hx0, hx99⟩ := hxv
      clear hb hblk hc0
      go_wp2_with fail
      go_roundw
      case rel => exact ⟨k + 1, by omega, by go_num, HBS.out, HNX.out⟩
      case measure => simp [intOf]; omega
    · obtain rfl : k = n := by omega
      have hconv := run_convert_bytes_back (P := Tryz.prog) wr 212 9 5 ⟨w.heap.size, 0, none⟩ k (keyL f) Tryz.underlying212 Tryz.underlying5 Tryz.underlying9 (fun j hj => by
        have hj' : j < k := by unfold keyL at hj; rw [List.length_map, HN.out] at hj; exact hj
        rw [add_zero]
        simp only [World.cell?, hblk]
        rw [byteArr_at f k k j hj', if_pos hj']
        have hxv := HV.out (f.getD j 0) (by rw [List.getD_eq_getElem?_getD, List.getElem?_eq_getElem (by rw [HN.out]; exact hj')]; exact List.getElem_mem _)
        have e : (keyL f)[j] = UInt8.ofNat (f.getD j 0).toNat := by
          simp [keyL, List.getElem?_eq_getElem (show j < f.length by rw [HN.out]; exact hj')]
        rw [e, UInt8.toNat_ofNat_of_lt' (by show (f.getD j 0).toNat < 256; omega), Int.toNat_of_nonneg hxv.1]
        rfl)
      have hkl : (keyL f).length = k := by unfold keyL; rw [List.length_map, HN.out]
      rw [hkl] at hconv
      clear hb hblk hkl
      go_wp2_with fail
      go_ret
      exact ⟨rfl, HB.out⟩
end Go.Proofs.YtddnjimpdidpaaaGreatDoor
