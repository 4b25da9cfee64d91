/-
  An image's grid (corners, edges, squares) by a contract. Conditions: sides at most 1000.
-/
import Derived.Test.YtoheffkiohfmoaaGreatDoorSpr
set_option linter.unusedSimpArgs false
set_option linter.unusedVariables false
namespace Go.Proofs.YtoheffkiohfmoaaGreatDoor
open Go Go.RowKit Go.Maps FL

def edVs (l : List (PI × Bool)) : List Value := l.flatMap fun e => [.int .i64 e.1.1, .int .i64 e.1.2, .bool e.2]
theorem edVs_app (a b : List (PI × Bool)) : edVs (a ++ b) = edVs a ++ edVs b := List.flatMap_append ..
/-- an owned row of edges -/
def EdO (O : Nat) (w : World) (v : Value) (l : List (PI × Bool)) : Prop := w.ownsRow O 122 3 v l.length (edVs l)
theorem EdO.nil (O : Nat) (w : World) : EdO O w (.slice none 0 0) [] := World.ownsRow_nil _ _ _ _
theorem EdO.below {O C : Nat} {w w' : World} {v : Value} {l : List (PI × Bool)} (h : EdO O w v l) (hb : Below C w w') (hC : w.heap.size ≤ C) : EdO O w' v l :=
  owns_keep h fun k hk => hb.block k (Nat.lt_of_lt_of_le (h.lt k hk).2 hC)
theorem EdO.sliceOf {O : Nat} {w : World} {v : Value} {l : List (PI × Bool)} (h : EdO O w v l) : ∃ p c, v = .slice p l.length c := by
  rcases Joins.ownsRow_forms h with ⟨rfl, h0⟩ | ⟨g, cap, rfl⟩
  · exact ⟨none, 0, by rw [h0]⟩
  · exact ⟨_, cap, rfl⟩
theorem infoEd : (Tryz.prog.info? 122).map (fun i => (i.zero, i.size, i.bytes)) = some (some (.agg #[.int .i64 0, .int .i64 0, .bool false]), 3, 24) := by kernel_rfl
theorem three_one (x y : Int) (b : Bool) : ∀ u ∈ [Value.int .i64 x, .int .i64 y, .bool b], u.oneCell' = true := fun u hu => by
  simp at hu
  rcases hu with rfl | rfl | rfl <;> rfl
theorem grid_at {w : World} {b : Nat} {x y z : Value} {t : TypeId} (h : w.heap[b]? = some (.cells #[x, y, z] t (0, 0))) : w.cell? ⟨b, 0, none⟩ = some x ∧ w.cell? ⟨b, 1, none⟩ = some y ∧ w.cell? ⟨b, 2, none⟩ = some z ∧ w.frozen? ⟨b, 0, none⟩ = false ∧ w.frozen? ⟨b, 1, none⟩ = false ∧ w.frozen? ⟨b, 2, none⟩ = false := by
  refine ⟨?_, ?_, ?_, ?_, ?_, ?_⟩ <;> simp [World.cell?, World.frozen?, h]
theorem set_at {w : World} {g o : Nat} {cur : Array Value} {t : TypeId} {fr : Nat × Nat} {v : Value} (h : w.heap[g]? = some (.cells cur t fr)) : (w.setCell ⟨g, o, none⟩ v).heap[g]? = some (.cells (cur.setIfInBounds o v) t fr) := by
  simp [World.setCell, Array.getElem?_modify, h]
theorem set_off {w : World} {g o k : Nat} {v : Value} (h : k ≠ g) : (w.setCell ⟨g, o, none⟩ v).heap[k]? = w.heap[k]? := by
  simp only [World.setCell, Array.getElem?_modify]
  rw [if_neg (fun e => h e.symm)]
/-- the grid while it is made: its block, three rows of its own; the result's block behind -/
structure GridH (gr : Nat) (w0 w : World) (vc vs ve : Value) (C S : List PI) (E : List (PI × Bool)) : Prop where
  fr : Below gr w0 w
  res : w.heap[gr]? = some (.cells #[.slice none 0 0, .slice none 0 0, .slice none 0 0] 114 (0, 0))
  blk : w.heap[gr + 1]? = some (.cells #[vc, vs, ve] 114 (0, 0))
  rc : SpO (gr + 2) w vc C
  rs : SpO (gr + 2) w vs S
  re : EdO (gr + 2) w ve E
  ap : ∀ k, vc.ownBlock = some k → vs.ownBlock ≠ some k
theorem neSpEd : 117 ≠ 122 := by decide

theorem GridH.lt {gr : Nat} {w0 w : World} {vc vs ve : Value} {C S : List PI} {E : List (PI × Bool)} (h : GridH gr w0 w vc vs ve C S E) : gr + 2 ≤ w.heap.size := (Array.getElem?_eq_some_iff.1 h.blk).1
theorem GridH.same {gr : Nat} {w0 w wx : World} {vc vs ve : Value} {C S : List PI} {E : List (PI × Bool)} (h : GridH gr w0 w vc vs ve C S E) (hb : Below w.heap.size w wx) : GridH gr w0 wx vc vs ve C S E := by
  have hl := h.lt
  exact ⟨h.fr.trans (hb.mono (by omega)), (hb.block _ (by omega)).trans h.res, (hb.block _ (by omega)).trans h.blk, h.rc.below hb (Nat.le_refl _), h.rs.below hb (Nat.le_refl _), h.re.below hb (Nat.le_refl _), h.ap⟩
/-- a row of the grid that is written lies behind the two blocks -/
theorem grid_far {gr k : Nat} {w w' : World} {row : Option Nat} (hg : w.grownBy w' row) (hr : ∀ k, row = some k → gr + 2 ≤ k) (hk : k < gr + 2) (hl : gr + 2 ≤ w.heap.size) : w'.heap[k]? = w.heap[k]? :=
  hg.block k (by omega) (fun e => by have := hr k e.symm; omega)
theorem row_keep {O B s s' n n' : Nat} {e e' : TypeId} {w w' : World} {v v' : Value} {xs xs' : List Value} (h : w.ownsRow O e s v n xs) (h' : w.ownsRow B e' s' v' n' xs') (hne : ∀ k, v.ownBlock = some k → v'.ownBlock ≠ some k) (hg : w.grownBy w' v'.ownBlock) : w'.ownsRow O e s v n xs :=
  owns_keep h fun k hk => hg.block k (h.lt k hk).2 fun e => hne k hk e.symm
theorem row_set {O g o n s : Nat} {e : TypeId} {w : World} {v x : Value} {xs : List Value} (h : w.ownsRow O e s v n xs) (hg : g < O) : (w.setCell ⟨g, o, none⟩ x).ownsRow O e s v n xs :=
  owns_keep h fun k hk => set_off (by have := (h.lt k hk).1; omega)
theorem GridH.storeC {gr : Nat} {w0 w w2 : World} {vc vs ve v' : Value} {C S : List PI} {E : List (PI × Bool)} {C' : List PI} {o : Obj} (h : GridH gr w0 w vc vs ve C S E) (hgr : (w.alloc o).grownBy w2 vc.ownBlock) (hR : SpO (gr + 2) w2 v' C')
    (hat : v'.ownBlock = vc.ownBlock ∨ v'.ownBlock = some (w.alloc o).heap.size) : w2.heap[gr + 1]? = some (.cells #[vc, vs, ve] 114 (0, 0)) ∧ GridH gr w0 (w2.setCell ⟨gr + 1, 0, none⟩ v') v' vs ve C' S E := by
  have ha := h.same (wx := w.alloc o) ((Below.refl _ _).alloc (Nat.le_refl _) o)
  have hl := ha.lt
  have hfar : ∀ k, k < gr + 2 → w2.heap[k]? = (w.alloc o).heap[k]? := fun k hk => grid_far hgr (fun j hj => (ha.rc.lt j hj).1) hk hl
  have hblk : w2.heap[gr + 1]? = some (.cells #[vc, vs, ve] 114 (0, 0)) := (hfar _ (by omega)).trans ha.blk
  refine ⟨hblk, ⟨?_, ?_, ?_, row_set hR (by omega), row_set (row_keep ha.rs ha.rc (fun k hk hk2 => ha.ap k hk2 hk) hgr) (by omega), row_set (row_keep ha.re ha.rc (owns_apart ha.re ha.rc neSpEd.symm) hgr) (by omega), fun k hk hk2 => by
    rcases hat with h3 | h3
    · exact ha.ap k (h3 ▸ hk) hk2
    · rw [h3] at hk
      have := (ha.rs.lt k hk2).2
      have := Option.some.inj hk
      omega⟩⟩
  · exact ⟨hgr.os.trans ha.fr.os, hgr.tape.trans ha.fr.tape, hgr.output.trans ha.fr.output, Nat.le_trans ha.fr.size (by have := hgr.size; simpa [World.setCell] using this), fun k hk => by rw [set_off (by omega), hfar k (by omega)]; exact ha.fr.block k hk⟩
  · rw [set_off (by omega), hfar _ (by omega)]; exact ha.res
  · rw [set_at hblk]; rfl
theorem GridH.storeS {gr : Nat} {w0 w w2 : World} {vc vs ve v' : Value} {C S : List PI} {E : List (PI × Bool)} {S' : List PI} {o : Obj} (h : GridH gr w0 w vc vs ve C S E) (hgr : (w.alloc o).grownBy w2 vs.ownBlock) (hR : SpO (gr + 2) w2 v' S')
    (hat : v'.ownBlock = vs.ownBlock ∨ v'.ownBlock = some (w.alloc o).heap.size) : w2.heap[gr + 1]? = some (.cells #[vc, vs, ve] 114 (0, 0)) ∧ GridH gr w0 (w2.setCell ⟨gr + 1, 1, none⟩ v') vc v' ve C S' E := by
  have ha := h.same (wx := w.alloc o) ((Below.refl _ _).alloc (Nat.le_refl _) o)
  have hl := ha.lt
  have hfar : ∀ k, k < gr + 2 → w2.heap[k]? = (w.alloc o).heap[k]? := fun k hk => grid_far hgr (fun j hj => (ha.rs.lt j hj).1) hk hl
  have hblk : w2.heap[gr + 1]? = some (.cells #[vc, vs, ve] 114 (0, 0)) := (hfar _ (by omega)).trans ha.blk
  refine ⟨hblk, ⟨?_, ?_, ?_, row_set (row_keep ha.rc ha.rs ha.ap hgr) (by omega), row_set hR (by omega), row_set (row_keep ha.re ha.rs (owns_apart ha.re ha.rs neSpEd.symm) hgr) (by omega), fun k hk hk2 => by
    rcases hat with h3 | h3
    · exact ha.ap k hk (h3 ▸ hk2)
    · rw [h3] at hk2
      have := (ha.rc.lt k hk).2
      have := Option.some.inj hk2
      omega⟩⟩
  · exact ⟨hgr.os.trans ha.fr.os, hgr.tape.trans ha.fr.tape, hgr.output.trans ha.fr.output, Nat.le_trans ha.fr.size (by have := hgr.size; simpa [World.setCell] using this), fun k hk => by rw [set_off (by omega), hfar k (by omega)]; exact ha.fr.block k hk⟩
  · rw [set_off (by omega), hfar _ (by omega)]; exact ha.res
  · rw [set_at hblk]; rfl
theorem GridH.storeE {gr : Nat} {w0 w w2 : World} {vc vs ve v' : Value} {C S : List PI} {E : List (PI × Bool)} {E' : List (PI × Bool)} {o : Obj} (h : GridH gr w0 w vc vs ve C S E) (hgr : (w.alloc o).grownBy w2 ve.ownBlock) (hR : EdO (gr + 2) w2 v' E')
    (hat : v'.ownBlock = ve.ownBlock ∨ v'.ownBlock = some (w.alloc o).heap.size) : w2.heap[gr + 1]? = some (.cells #[vc, vs, ve] 114 (0, 0)) ∧ GridH gr w0 (w2.setCell ⟨gr + 1, 2, none⟩ v') vc vs v' C S E' := by
  have ha := h.same (wx := w.alloc o) ((Below.refl _ _).alloc (Nat.le_refl _) o)
  have hl := ha.lt
  have hfar : ∀ k, k < gr + 2 → w2.heap[k]? = (w.alloc o).heap[k]? := fun k hk => grid_far hgr (fun j hj => (ha.re.lt j hj).1) hk hl
  have hblk : w2.heap[gr + 1]? = some (.cells #[vc, vs, ve] 114 (0, 0)) := (hfar _ (by omega)).trans ha.blk
  refine ⟨hblk, ⟨?_, ?_, ?_, row_set (row_keep ha.rc ha.re (owns_apart ha.rc ha.re neSpEd) hgr) (by omega), row_set (row_keep ha.rs ha.re (owns_apart ha.rs ha.re neSpEd) hgr) (by omega), row_set hR (by omega), ha.ap⟩⟩
  · exact ⟨hgr.os.trans ha.fr.os, hgr.tape.trans ha.fr.tape, hgr.output.trans ha.fr.output, Nat.le_trans ha.fr.size (by have := hgr.size; simpa [World.setCell] using this), fun k hk => by rw [set_off (by omega), hfar k (by omega)]; exact ha.fr.block k hk⟩
  · rw [set_off (by omega), hfar _ (by omega)]; exact ha.res
  · rw [set_at hblk]; rfl

theorem grid_len {α : Type} {at' : Nat → Nat → List α} {W y x : Nat} (h : ∀ x y, (at' x y).length ≤ 2) (hW : W ≤ 1000) (hy : y ≤ 1001) (hx : x ≤ 1001) : (gridTo at' W y ++ gridRow at' y x).length ≤ 3000000 := by
  rw [List.length_append]
  have h1 := gridTo_len h W y
  have h2 := gridRow_len h y x
  have h3 : 2 * (W + 1) * y ≤ 2002 * 1001 := Nat.mul_le_mul (by omega) hy
  omega
/-- what a grid holds -/
def GridP (ms : List ByteArray) (w : World) (e : Ending) (w' : World) : Prop :=
  ∃ vc vs ve, e = .returned (.agg #[vc, vs, ve]) ∧ Below w.heap.size w w' ∧ SpO w.heap.size w' vc (gridTo (cornAt ms) (wideI ms) (ms.length + 1)) ∧ SpO w.heap.size w' vs (gridTo (squaAt ms) (wideI ms) (ms.length + 1)) ∧ EdO w.heap.size w' ve (gridTo (edgeAt ms) (wideI ms) (ms.length + 1))
/-- the grid at a place -/
def GridAt (ms : List ByteArray) (gr : Nat) (w0 : World) (y x : Nat) (w : World) : Prop :=
  ∃ vc vs ve, GridH gr w0 w vc vs ve (gridTo (cornAt ms) (wideI ms) y ++ gridRow (cornAt ms) y x) (gridTo (squaAt ms) (wideI ms) y ++ gridRow (squaAt ms) y x) (gridTo (edgeAt ms) (wideI ms) y ++ gridRow (edgeAt ms) y x)
theorem GridAt.row {ms : List ByteArray} {gr : Nat} {w0 w : World} {y : Nat} (h : GridAt ms gr w0 y (wideI ms + 1) w) : GridAt ms gr w0 (y + 1) 0 w := by
  obtain ⟨vc, vs, ve, h⟩ := h
  refine ⟨vc, vs, ve, ?_⟩
  have e : ∀ {α : Type} (at' : Nat → Nat → List α), gridTo at' (wideI ms) (y + 1) ++ gridRow at' (y + 1) 0 = gridTo at' (wideI ms) y ++ gridRow at' y (wideI ms + 1) := fun at' => by
    rw [gridTo_succ]; simp [gridRow]
  rw [e, e, e]; exact h

set_option maxRecDepth 100000 in
set_option maxHeartbeats 16000000 in
theorem grid_any (ms : List ByteArray) (v : Value) (w : World) (h : StrsAt w v ms) (hW : wideI ms ≤ 1000) (hH : ms.length ≤ 1000) : Calls Tryz.prog 65 #[v] w (GridP ms w) := by
  obtain ⟨i2, hi2, hz0, hz1, hz2⟩ := info_parts infoSp
  obtain ⟨i3, hi3, hy0, hy1, hy2⟩ := info_parts infoEd
  obtain ⟨pm, cm, hve, -⟩ := id h
  obtain ⟨gr, hgr⟩ : ∃ gr, w.heap.size = gr := ⟨_, rfl⟩
  obtain ⟨W, hWn⟩ : ∃ W, wideI ms = W := ⟨_, rfl⟩
  obtain ⟨H, hHn⟩ : ∃ H, ms.length = H := ⟨_, rfl⟩
  have hstart : GridAt ms gr w 0 0 ((w.alloc (.cells #[.slice none 0 0, .slice none 0 0, .slice none 0 0] 114)).alloc (.cells #[.slice none 0 0, .slice none 0 0, .slice none 0 0] 114)) := by
    have h1 := heap_alloc_new w (.cells #[.slice none 0 0, .slice none 0 0, .slice none 0 0] 114)
    have h2 := heap_alloc_new (w.alloc (.cells #[.slice none 0 0, .slice none 0 0, .slice none 0 0] 114)) (.cells #[.slice none 0 0, .slice none 0 0, .slice none 0 0] 114)
    have hb := (Below.refl (w.alloc (.cells #[.slice none 0 0, .slice none 0 0, .slice none 0 0] 114)).heap.size (w.alloc (.cells #[.slice none 0 0, .slice none 0 0, .slice none 0 0] 114))).alloc (Nat.le_refl _) (.cells #[.slice none 0 0, .slice none 0 0, .slice none 0 0] 114)
    have hs : (w.alloc (.cells #[.slice none 0 0, .slice none 0 0, .slice none 0 0] 114)).heap.size = gr + 1 := by simp [hgr]
    rw [hs] at h2 hb
    have hb0 : Below gr w (w.alloc (.cells #[.slice none 0 0, .slice none 0 0, .slice none 0 0] 114)) := by rw [← hgr]; exact (Below.refl _ _).alloc (Nat.le_refl _) _
    rw [hgr] at h1
    exact ⟨_, _, _, hb0.trans (hb.mono (by omega)), (hb.block gr (by omega)).trans h1, h2, SpO.nil _ _, SpO.nil _ _, EdO.nil _ _, fun k hk => by cases hk⟩
  have HST := Lib.hid h
  have HSTART := Lib.hid hstart
  have HWN := Lib.hid hWn
  have HHN := Lib.hid hHn
  have HGR := Lib.hid hgr
  rw [hHn] at hve hH
  rw [hWn] at hW
  subst hve
  have HWD := Lib.hid (fun wx (hx : Below gr w wx) => wide_any (.slice pm H cm) ms wx (h.below hx (by rw [hgr]; exact Nat.le_refl _)))
  have HAT := Lib.hid (fun wx (hx : Below gr w wx) x y => at_any (.slice pm H cm) ms x y wx (h.below hx (by rw [hgr]; exact Nat.le_refl _)))
  unfold Plain at HWD HAT
  simp only [hWn] at HWD
  have HLC := Lib.hid (fun (y x : Nat) (hy : y ≤ 1001) (hx : x ≤ 1001) => grid_len (at' := cornAt ms) (W := wideI ms) (fun x y => Nat.le_trans (at_len1 x y) (by omega)) (by rw [hWn]; exact hW) hy hx)
  have HLS := Lib.hid (fun (y x : Nat) (hy : y ≤ 1001) (hx : x ≤ 1001) => grid_len (at' := squaAt ms) (W := wideI ms) (fun x y => Nat.le_trans (at_len3 x y) (by omega)) (by rw [hWn]; exact hW) hy hx)
  have HLE := Lib.hid (fun (y x : Nat) (hy : y ≤ 1001) (hx : x ≤ 1001) => grid_len (at' := edgeAt ms) (W := wideI ms) (fun x y => at_len2 x y) (by rw [hWn]; exact hW) hy hx)
  clear h hstart hWn hHn hgr
  go_enter Tryz.func65, Tryz.ntmps65
  go_wp2_with fail
  rw [HGR.out]
  go_loopw [13] (fun s13 wr => ∃ y : Nat, y ≤ H + 1 ∧ s13 = .int .i64 (y : Int) ∧ GridAt ms gr w y 0 wr) (fun s13 _ => H + 1 - (intOf s13).toNat)
  case atStart => exact ⟨0, Nat.zero_le _, rfl, HSTART.out⟩
  case round =>
    obtain ⟨y, hy, rfl, hg⟩ := hrel
    have HG := Lib.hid hg
    clear hg
    by_cases hyl : y < H + 1
    · have qy : decide ((y : Int) < (H : Int) + 1) = true := decide_eq_true (by omega)
      have HFR : Hid (Below gr w wr) := by obtain ⟨_, _, _, h⟩ := HG.out; exact h.fr
      go_wp2_with fail
      refine (HWD.out _ HFR.out).mono ?_
      rintro e w1 ⟨rfl, hw⟩
      rw [hw]
      clear hw w1
      go_wp2_with fail
      go_loopw [19] (fun s19 wr => ∃ x : Nat, x ≤ W + 1 ∧ s19 = .int .i64 (x : Int) ∧ GridAt ms gr w y x wr) (fun s19 _ => W + 1 - (intOf s19).toNat)
      case atStart => exact ⟨0, Nat.zero_le _, rfl, HG.out⟩
      case round =>
        obtain ⟨x, hx, rfl, hg⟩ := hrel
        by_cases hxl : x < W + 1
        · have qx : decide ((x : Int) < (W : Int) + 1) = true := decide_eq_true (by omega)
          obtain ⟨vc, vs, ve, hg⟩ := hg
          have HG2 := Lib.hid hg
          have hat := fun x y => HAT.out _ hg.fr x y
          have h1 := hat ((x : Int) - 1) ((y : Int) - 1)
          have h2 := hat (x : Int) ((y : Int) - 1)
          have h3 := hat ((x : Int) - 1) (y : Int)
          have h4 := hat (x : Int) (y : Int)
          obtain ⟨b1, hb1⟩ : ∃ b, nwI ms x y = b := ⟨_, rfl⟩
          obtain ⟨b2, hb2⟩ : ∃ b, neI ms x y = b := ⟨_, rfl⟩
          obtain ⟨b3, hb3⟩ : ∃ b, swI ms x y = b := ⟨_, rfl⟩
          obtain ⟨b4, hb4⟩ : ∃ b, seI ms x y = b := ⟨_, rfl⟩
          have HCN : Hid (cornAt ms x y = if b1 || b2 || b3 || b4 then [((x : Int), (y : Int))] else []) := by unfold Hid cornAt; rw [hb1, hb2, hb3, hb4]
          have HEN : Hid (edgeAt ms x y = (if b2 || b4 then [(((x : Int), (y : Int)), false)] else []) ++ (if b3 || b4 then [(((x : Int), (y : Int)), true)] else [])) := by unfold Hid edgeAt; rw [hb2, hb3, hb4]
          have HSN : Hid (squaAt ms x y = if b4 then [((x : Int), (y : Int))] else []) := by unfold Hid squaAt; rw [hb4]
          unfold nwI at hb1
          unfold neI at hb2
          unfold swI at hb3
          unfold seI at hb4
          rw [hb1] at h1
          rw [hb2] at h2
          rw [hb3] at h3
          rw [hb4] at h4
          have H1 := Lib.hid h1
          have H2 := Lib.hid h2
          have H3 := Lib.hid h3
          have H4 := Lib.hid h4
          have hlc := HLC.out y x (by omega) (by omega)
          have hls := HLS.out y x (by omega) (by omega)
          have hle := HLE.out y x (by omega) (by omega)
          generalize hCe : gridTo (cornAt ms) (wideI ms) y ++ gridRow (cornAt ms) y x = C at HG2 hlc
          generalize hSe : gridTo (squaAt ms) (wideI ms) y ++ gridRow (squaAt ms) y x = S at HG2 hls
          generalize hEe : gridTo (edgeAt ms) (wideI ms) y ++ gridRow (edgeAt ms) y x = E at HG2 hle
          have HCE := Lib.hid hCe
          have HSE := Lib.hid hSe
          have HEE := Lib.hid hEe
          clear h1 h2 h3 h4 hat hb1 hb2 hb3 hb4 hg hCe hSe hEe
          go_wp2_with fail
          refine H1.out.mono ?_
          rintro e w1 ⟨rfl, hw⟩
          rw [hw]
          clear hw w1
          go_wp2_with fail
          refine H2.out.mono ?_
          rintro e w1 ⟨rfl, hw⟩
          rw [hw]
          clear hw w1
          go_wp2_with fail
          refine H3.out.mono ?_
          rintro e w1 ⟨rfl, hw⟩
          rw [hw]
          clear hw w1
          go_wp2_with fail
          refine H4.out.mono ?_
          rintro e w1 ⟨rfl, hw⟩
          rw [hw]
          clear hw w1
          obtain ⟨pc, cc, rfl⟩ := HG2.out.rc.sliceOf
          obtain ⟨nC1, hnC1⟩ : ∃ n, C.length = n := ⟨_, rfl⟩
          rw [hnC1] at HG2 hlc
          have HnC1 := Lib.hid hnC1
          clear hnC1
          go_upto_region 9 with fail
          go_cut [51] (fun s wx => s = .bool (b1 || b2 || b3 || b4) ∧ wx = wr)
          case first =>
            cases b1 with
            | true =>
              go_wp2_with fail
              go_meet
              exact ⟨by simp, rfl⟩
            | false =>
              cases b2 with
              | true =>
                go_wp2_with fail
                go_meet
                exact ⟨by simp, rfl⟩
              | false =>
                cases b3 with
                | true =>
                  go_wp2_with fail
                  go_meet
                  exact ⟨by simp, rfl⟩
                | false =>
                  cases b4 with
                  | true =>
                    go_wp2_with fail
                    go_meet
                    exact ⟨by simp, rfl⟩
                  | false =>
                    go_wp2_with fail
                    go_meet
                    exact ⟨rfl, rfl⟩
          case rest =>
          obtain ⟨hs, hwx⟩ := hcut
          subst hs
          subst hwx
          generalize ht : (b1 || b2 || b3 || b4) = tC1
          have HTtC1 := Lib.hid ht
          clear ht
          go_upto_if 51 with fail
          go_cut [] (fun wx => ∃ v', GridH gr w wx v' vs ve (C ++ (if tC1 = true then [((x : Int), (y : Int))] else [])) S E)
          case first =>
            have hG := HG2.out
            have hpush : ∀ v' w2, w2.ownsRow (gr + 2) 117 2 v' (nC1 + 1) (spVs C ++ [.int .i64 (x : Int), .int .i64 (y : Int)]) → (wc.alloc (.cells #[.int .i64 (x : Int), .int .i64 (y : Int)] 117)).grownBy w2 (Value.slice pc nC1 cc).ownBlock → (v'.ownBlock = (Value.slice pc nC1 cc).ownBlock ∨ v'.ownBlock = some (wc.alloc (.cells #[.int .i64 (x : Int), .int .i64 (y : Int)] 117)).heap.size) →
                w2.heap[gr + 1]? = some (.cells #[(.slice pc nC1 cc), vs, ve] 114 (0, 0)) ∧ GridH gr w (w2.setCell ⟨gr + 1, 0, none⟩ v') v' vs ve (C ++ [((x : Int), (y : Int))]) S E := fun v' w2 h1 h2 h3 => by
              exact hG.storeC h2 (by unfold SpO; rw [spVs_app, List.length_append, HnC1.out]; exact h1) h3
            have hr := hG.rc.below ((Below.refl wc.heap.size wc).alloc (Nat.le_refl _) (.cells #[.int .i64 (x : Int), .int .i64 (y : Int)] 117)) (Nat.le_refl _)
            unfold SpO at hr
            rw [HnC1.out] at hr
            have hbase : gr + 2 ≤ (wc.alloc (.cells #[.int .i64 (x : Int), .int .i64 (y : Int)] 117)).heap.size := Nat.le_trans hG.lt ((Below.refl wc.heap.size wc).alloc (Nat.le_refl _) (.cells #[.int .i64 (x : Int), .int .i64 (y : Int)] 117)).size
            have HPUSH := Lib.hid hpush
            have HR := Lib.hid hr
            have HBASE := Lib.hid hbase
            have HNW := Lib.hid (World.news_of_block (cs := #[.int .i64 (x : Int), .int .i64 (y : Int)]) (t := 117) (fr := (0, 0)) (heap_alloc_new wc (.cells #[.int .i64 (x : Int), .int .i64 (y : Int)] 117)))
            obtain ⟨c0, c1, c2, -, -, -⟩ := grid_at ((((Below.refl wc.heap.size wc).alloc (Nat.le_refl _) (.cells #[.int .i64 (x : Int), .int .i64 (y : Int)] 117)).block (gr + 1) (by have := hG.lt; omega)).trans hG.blk)
            obtain ⟨k0, k1, k2, -, -, -⟩ := grid_at hG.blk
            clear hG hpush hr hbase
            cases tC1 with
            | true =>
              go_wp2_with (at_builtin; refine wpList_append_own_at _ rfl (.tmp 53) (.tmp 57) 111 rfl (gr + 2) 117 i2 (.agg #[.int .i64 0, .int .i64 0]) 2 16 Tryz.underlying111 hi2 hz0 hz1 hz2 rfl (by decide) _ nC1 (spVs C) rfl HR.out ⟨_, 0, none⟩ 1 1 [.int .i64 (x : Int), .int .i64 (y : Int)] rfl rfl HNW.out (two_one _ _) (by unfold maxLen; omega) (by omega) HBASE.out ?_; intro v' w2 hown hgw hnil hat; obtain ⟨hk, hg2⟩ := HPUSH.out v' w2 hown hgw hat; obtain ⟨p2, d2, rfl⟩ := hg2.rc.sliceOf; generalize (C ++ [((x : Int), (y : Int))]).length = m2 at hg2; obtain ⟨k0, k1, k2, f0, f1, f2⟩ := grid_at hk; have HG5 := Lib.hid hg2; clear hown hgw hnil hat hk hg2)
              go_meet
              exact ⟨.slice p2 m2 d2, by simpa using HG5.out⟩
            | false =>
              go_wp2_with fail
              go_meet
              exact ⟨.slice pc nC1 cc, by simpa using HG2.out⟩
          case rest =>
          obtain ⟨vc, hcg⟩ := hcut
          generalize hge : C ++ (if tC1 = true then [((x : Int), (y : Int))] else []) = C1 at hcg
          have hbC1 : C1.length ≤ nC1 + 1 := by rw [← hge, List.length_append, HnC1.out]; split <;> simp
          rw [← HTtC1.out] at hge
          have HEC1 := Lib.hid hge
          have HGC1 := Lib.hid hcg
          clear hcg hge HG2
          obtain ⟨pe, ce, rfl⟩ := HGC1.out.re.sliceOf
          obtain ⟨nE1, hnE1⟩ : ∃ n, E.length = n := ⟨_, rfl⟩
          rw [hnE1] at HGC1 hle
          have HnE1 := Lib.hid hnE1
          clear hnE1
          go_upto_region 11 with fail
          go_cut [63] (fun s wx => s = .bool (b2 || b4) ∧ wx = wc)
          case first =>
            cases b2 with
            | true =>
              go_wp2_with fail
              go_meet
              exact ⟨by simp, rfl⟩
            | false =>
              cases b4 with
              | true =>
                go_wp2_with fail
                go_meet
                exact ⟨by simp, rfl⟩
              | false =>
                go_wp2_with fail
                go_meet
                exact ⟨rfl, rfl⟩
          case rest =>
          obtain ⟨hs, hwx⟩ := hcut
          subst hs
          subst hwx
          generalize ht : (b2 || b4) = tE1
          have HTtE1 := Lib.hid ht
          clear ht
          go_upto_if 63 with fail
          go_cut [] (fun wx => ∃ v', GridH gr w wx vc vs v' C1 S (E ++ (if tE1 = true then [(((x : Int), (y : Int)), false)] else [])))
          case first =>
            have hG := HGC1.out
            have hpush : ∀ v' w2, w2.ownsRow (gr + 2) 122 3 v' (nE1 + 1) (edVs E ++ [.int .i64 (x : Int), .int .i64 (y : Int), .bool false]) → (wc.alloc (.cells #[.int .i64 (x : Int), .int .i64 (y : Int), .bool false] 122)).grownBy w2 (Value.slice pe nE1 ce).ownBlock → (v'.ownBlock = (Value.slice pe nE1 ce).ownBlock ∨ v'.ownBlock = some (wc.alloc (.cells #[.int .i64 (x : Int), .int .i64 (y : Int), .bool false] 122)).heap.size) →
                w2.heap[gr + 1]? = some (.cells #[vc, vs, (.slice pe nE1 ce)] 114 (0, 0)) ∧ GridH gr w (w2.setCell ⟨gr + 1, 2, none⟩ v') vc vs v' C1 S (E ++ [(((x : Int), (y : Int)), false)]) := fun v' w2 h1 h2 h3 => by
              exact hG.storeE h2 (by unfold EdO; rw [edVs_app, List.length_append, HnE1.out]; exact h1) h3
            have hr := hG.re.below ((Below.refl wc.heap.size wc).alloc (Nat.le_refl _) (.cells #[.int .i64 (x : Int), .int .i64 (y : Int), .bool false] 122)) (Nat.le_refl _)
            unfold EdO at hr
            rw [HnE1.out] at hr
            have hbase : gr + 2 ≤ (wc.alloc (.cells #[.int .i64 (x : Int), .int .i64 (y : Int), .bool false] 122)).heap.size := Nat.le_trans hG.lt ((Below.refl wc.heap.size wc).alloc (Nat.le_refl _) (.cells #[.int .i64 (x : Int), .int .i64 (y : Int), .bool false] 122)).size
            have HPUSH := Lib.hid hpush
            have HR := Lib.hid hr
            have HBASE := Lib.hid hbase
            have HNW := Lib.hid (World.news_of_block (cs := #[.int .i64 (x : Int), .int .i64 (y : Int), .bool false]) (t := 122) (fr := (0, 0)) (heap_alloc_new wc (.cells #[.int .i64 (x : Int), .int .i64 (y : Int), .bool false] 122)))
            obtain ⟨c0, c1, c2, -, -, -⟩ := grid_at ((((Below.refl wc.heap.size wc).alloc (Nat.le_refl _) (.cells #[.int .i64 (x : Int), .int .i64 (y : Int), .bool false] 122)).block (gr + 1) (by have := hG.lt; omega)).trans hG.blk)
            obtain ⟨k0, k1, k2, -, -, -⟩ := grid_at hG.blk
            clear hG hpush hr hbase
            cases tE1 with
            | true =>
              go_wp2_with (at_builtin; refine wpList_append_own_at _ rfl (.tmp 65) (.tmp 70) 112 rfl (gr + 2) 122 i3 (.agg #[.int .i64 0, .int .i64 0, .bool false]) 3 24 Tryz.underlying112 hi3 hy0 hy1 hy2 rfl (by decide) _ nE1 (edVs E) rfl HR.out ⟨_, 0, none⟩ 1 1 [.int .i64 (x : Int), .int .i64 (y : Int), .bool false] rfl rfl HNW.out (three_one _ _ _) (by unfold maxLen; omega) (by omega) HBASE.out ?_; intro v' w2 hown hgw hnil hat; obtain ⟨hk, hg2⟩ := HPUSH.out v' w2 hown hgw hat; obtain ⟨p2, d2, rfl⟩ := hg2.re.sliceOf; generalize (E ++ [(((x : Int), (y : Int)), false)]).length = m2 at hg2; obtain ⟨k0, k1, k2, f0, f1, f2⟩ := grid_at hk; have HG5 := Lib.hid hg2; clear hown hgw hnil hat hk hg2)
              go_meet
              exact ⟨.slice p2 m2 d2, by simpa using HG5.out⟩
            | false =>
              go_wp2_with fail
              go_meet
              exact ⟨.slice pe nE1 ce, by simpa using HGC1.out⟩
          case rest =>
          obtain ⟨ve, hcg⟩ := hcut
          generalize hge : E ++ (if tE1 = true then [(((x : Int), (y : Int)), false)] else []) = E1 at hcg
          have hbE1 : E1.length ≤ nE1 + 1 := by rw [← hge, List.length_append, HnE1.out]; split <;> simp
          rw [← HTtE1.out] at hge
          have HEE1 := Lib.hid hge
          have HGE1 := Lib.hid hcg
          clear hcg hge HGC1
          obtain ⟨pe, ce, rfl⟩ := HGE1.out.re.sliceOf
          obtain ⟨nE2, hnE2⟩ : ∃ n, E1.length = n := ⟨_, rfl⟩
          rw [hnE2] at HGE1 hbE1
          have HnE2 := Lib.hid hnE2
          clear hnE2
          go_upto_region 13 with fail
          go_cut [76] (fun s wx => s = .bool (b3 || b4) ∧ wx = wc)
          case first =>
            cases b3 with
            | true =>
              go_wp2_with fail
              go_meet
              exact ⟨by simp, rfl⟩
            | false =>
              cases b4 with
              | true =>
                go_wp2_with fail
                go_meet
                exact ⟨by simp, rfl⟩
              | false =>
                go_wp2_with fail
                go_meet
                exact ⟨rfl, rfl⟩
          case rest =>
          obtain ⟨hs, hwx⟩ := hcut
          subst hs
          subst hwx
          generalize ht : (b3 || b4) = tE2
          have HTtE2 := Lib.hid ht
          clear ht
          go_upto_if 76 with fail
          go_cut [] (fun wx => ∃ v', GridH gr w wx vc vs v' C1 S (E1 ++ (if tE2 = true then [(((x : Int), (y : Int)), true)] else [])))
          case first =>
            have hG := HGE1.out
            have hpush : ∀ v' w2, w2.ownsRow (gr + 2) 122 3 v' (nE2 + 1) (edVs E1 ++ [.int .i64 (x : Int), .int .i64 (y : Int), .bool true]) → (wc.alloc (.cells #[.int .i64 (x : Int), .int .i64 (y : Int), .bool true] 122)).grownBy w2 (Value.slice pe nE2 ce).ownBlock → (v'.ownBlock = (Value.slice pe nE2 ce).ownBlock ∨ v'.ownBlock = some (wc.alloc (.cells #[.int .i64 (x : Int), .int .i64 (y : Int), .bool true] 122)).heap.size) →
                w2.heap[gr + 1]? = some (.cells #[vc, vs, (.slice pe nE2 ce)] 114 (0, 0)) ∧ GridH gr w (w2.setCell ⟨gr + 1, 2, none⟩ v') vc vs v' C1 S (E1 ++ [(((x : Int), (y : Int)), true)]) := fun v' w2 h1 h2 h3 => by
              exact hG.storeE h2 (by unfold EdO; rw [edVs_app, List.length_append, HnE2.out]; exact h1) h3
            have hr := hG.re.below ((Below.refl wc.heap.size wc).alloc (Nat.le_refl _) (.cells #[.int .i64 (x : Int), .int .i64 (y : Int), .bool true] 122)) (Nat.le_refl _)
            unfold EdO at hr
            rw [HnE2.out] at hr
            have hbase : gr + 2 ≤ (wc.alloc (.cells #[.int .i64 (x : Int), .int .i64 (y : Int), .bool true] 122)).heap.size := Nat.le_trans hG.lt ((Below.refl wc.heap.size wc).alloc (Nat.le_refl _) (.cells #[.int .i64 (x : Int), .int .i64 (y : Int), .bool true] 122)).size
            have HPUSH := Lib.hid hpush
            have HR := Lib.hid hr
            have HBASE := Lib.hid hbase
            have HNW := Lib.hid (World.news_of_block (cs := #[.int .i64 (x : Int), .int .i64 (y : Int), .bool true]) (t := 122) (fr := (0, 0)) (heap_alloc_new wc (.cells #[.int .i64 (x : Int), .int .i64 (y : Int), .bool true] 122)))
            obtain ⟨c0, c1, c2, -, -, -⟩ := grid_at ((((Below.refl wc.heap.size wc).alloc (Nat.le_refl _) (.cells #[.int .i64 (x : Int), .int .i64 (y : Int), .bool true] 122)).block (gr + 1) (by have := hG.lt; omega)).trans hG.blk)
            obtain ⟨k0, k1, k2, -, -, -⟩ := grid_at hG.blk
            clear hG hpush hr hbase
            cases tE2 with
            | true =>
              go_wp2_with (at_builtin; refine wpList_append_own_at _ rfl (.tmp 78) (.tmp 83) 112 rfl (gr + 2) 122 i3 (.agg #[.int .i64 0, .int .i64 0, .bool false]) 3 24 Tryz.underlying112 hi3 hy0 hy1 hy2 rfl (by decide) _ nE2 (edVs E1) rfl HR.out ⟨_, 0, none⟩ 1 1 [.int .i64 (x : Int), .int .i64 (y : Int), .bool true] rfl rfl HNW.out (three_one _ _ _) (by unfold maxLen; omega) (by omega) HBASE.out ?_; intro v' w2 hown hgw hnil hat; obtain ⟨hk, hg2⟩ := HPUSH.out v' w2 hown hgw hat; obtain ⟨p2, d2, rfl⟩ := hg2.re.sliceOf; generalize (E1 ++ [(((x : Int), (y : Int)), true)]).length = m2 at hg2; obtain ⟨k0, k1, k2, f0, f1, f2⟩ := grid_at hk; have HG5 := Lib.hid hg2; clear hown hgw hnil hat hk hg2)
              go_meet
              exact ⟨.slice p2 m2 d2, by simpa using HG5.out⟩
            | false =>
              go_wp2_with fail
              go_meet
              exact ⟨.slice pe nE2 ce, by simpa using HGE1.out⟩
          case rest =>
          obtain ⟨ve, hcg⟩ := hcut
          generalize hge : E1 ++ (if tE2 = true then [(((x : Int), (y : Int)), true)] else []) = E2 at hcg
          have hbE2 : E2.length ≤ nE2 + 1 := by rw [← hge, List.length_append, HnE2.out]; split <;> simp
          rw [← HTtE2.out] at hge
          have HEE2 := Lib.hid hge
          have HGE2 := Lib.hid hcg
          clear hcg hge HGE1
          obtain ⟨ps, cs, rfl⟩ := HGE2.out.rs.sliceOf
          obtain ⟨nS1, hnS1⟩ : ∃ n, S.length = n := ⟨_, rfl⟩
          rw [hnS1] at HGE2 hls
          have HnS1 := Lib.hid hnS1
          clear hnS1
          have hG := HGE2.out
          have hpush : ∀ v' w2, w2.ownsRow (gr + 2) 117 2 v' (nS1 + 1) (spVs S ++ [.int .i64 (x : Int), .int .i64 (y : Int)]) → (wc.alloc (.cells #[.int .i64 (x : Int), .int .i64 (y : Int)] 117)).grownBy w2 (Value.slice ps nS1 cs).ownBlock → (v'.ownBlock = (Value.slice ps nS1 cs).ownBlock ∨ v'.ownBlock = some (wc.alloc (.cells #[.int .i64 (x : Int), .int .i64 (y : Int)] 117)).heap.size) →
              w2.heap[gr + 1]? = some (.cells #[vc, (.slice ps nS1 cs), ve] 114 (0, 0)) ∧ GridH gr w (w2.setCell ⟨gr + 1, 1, none⟩ v') vc v' ve C1 (S ++ [((x : Int), (y : Int))]) E2 := fun v' w2 h1 h2 h3 => by
            exact hG.storeS h2 (by unfold SpO; rw [spVs_app, List.length_append, HnS1.out]; exact h1) h3
          have hr := hG.rs.below ((Below.refl wc.heap.size wc).alloc (Nat.le_refl _) (.cells #[.int .i64 (x : Int), .int .i64 (y : Int)] 117)) (Nat.le_refl _)
          unfold SpO at hr
          rw [HnS1.out] at hr
          have hbase : gr + 2 ≤ (wc.alloc (.cells #[.int .i64 (x : Int), .int .i64 (y : Int)] 117)).heap.size := Nat.le_trans hG.lt ((Below.refl wc.heap.size wc).alloc (Nat.le_refl _) (.cells #[.int .i64 (x : Int), .int .i64 (y : Int)] 117)).size
          have HPUSH := Lib.hid hpush
          have HR := Lib.hid hr
          have HBASE := Lib.hid hbase
          have HNW := Lib.hid (World.news_of_block (cs := #[.int .i64 (x : Int), .int .i64 (y : Int)]) (t := 117) (fr := (0, 0)) (heap_alloc_new wc (.cells #[.int .i64 (x : Int), .int .i64 (y : Int)] 117)))
          obtain ⟨c0, c1, c2, -, -, -⟩ := grid_at ((((Below.refl wc.heap.size wc).alloc (Nat.le_refl _) (.cells #[.int .i64 (x : Int), .int .i64 (y : Int)] 117)).block (gr + 1) (by have := hG.lt; omega)).trans hG.blk)
          obtain ⟨k0, k1, k2, -, -, -⟩ := grid_at hG.blk
          clear hG hpush hr hbase
          cases b4 with
          | true =>
            go_wp2_with (at_builtin; refine wpList_append_own_at _ rfl (.tmp 88) (.tmp 92) 111 rfl (gr + 2) 117 i2 (.agg #[.int .i64 0, .int .i64 0]) 2 16 Tryz.underlying111 hi2 hz0 hz1 hz2 rfl (by decide) _ nS1 (spVs S) rfl HR.out ⟨_, 0, none⟩ 1 1 [.int .i64 (x : Int), .int .i64 (y : Int)] rfl rfl HNW.out (two_one _ _) (by unfold maxLen; omega) (by omega) HBASE.out ?_; intro v' w2 hown hgw hnil hat; obtain ⟨hk, hg2⟩ := HPUSH.out v' w2 hown hgw hat; obtain ⟨p2, d2, rfl⟩ := hg2.rs.sliceOf; generalize (S ++ [((x : Int), (y : Int))]).length = m2 at hg2; obtain ⟨k0, k1, k2, f0, f1, f2⟩ := grid_at hk; have HG5 := Lib.hid hg2; clear hown hgw hnil hat hk hg2)
            have HFIN : Hid (GridAt ms gr w y (x + 1) (w2.setCell ⟨gr + 1, 1, none⟩ (.slice p2 m2 d2))) := by
              refine ⟨vc, .slice p2 m2 d2, ve, ?_⟩
              rw [gridRow_succ, gridRow_succ, gridRow_succ, HCN.out, HEN.out, HSN.out, ← List.append_assoc, ← List.append_assoc, ← List.append_assoc, HCE.out, HSE.out, HEE.out, ← List.append_assoc, HEC1.out, HEE1.out, HEE2.out]
              simpa using HG5.out
            go_roundw
            case rel => exact ⟨x + 1, hxl, by go_num, HFIN.out⟩
            case measure => simp [intOf]; omega
          | false =>
            have HFIN : Hid (GridAt ms gr w y (x + 1) wc) := by
              refine ⟨vc, (.slice ps nS1 cs), ve, ?_⟩
              rw [gridRow_succ, gridRow_succ, gridRow_succ, HCN.out, HEN.out, HSN.out, ← List.append_assoc, ← List.append_assoc, ← List.append_assoc, HCE.out, HSE.out, HEE.out, ← List.append_assoc, HEC1.out, HEE1.out, HEE2.out]
              simpa using HGE2.out
            go_wp2_with fail
            go_roundw
            case rel => exact ⟨x + 1, hxl, by go_num, HFIN.out⟩
            case measure => simp [intOf]; omega
        · obtain rfl : x = W + 1 := by omega
          have HG3 : Hid (GridAt ms gr w (y + 1) 0 wr) := GridAt.row (by rw [HWN.out]; exact hg)
          have qx : decide ((((W + 1 : Nat) : Int)) < (W : Int) + 1) = false := decide_eq_false (by omega)
          clear hg
          go_wp2_with fail
          go_roundw
          case rel => exact ⟨y + 1, hyl, by go_num, HG3.out⟩
          case measure => simp [intOf]; omega
    · obtain rfl : y = H + 1 := by omega
      obtain ⟨vc, vs, ve, hg⟩ := HG.out
      obtain ⟨pc, cc, rfl⟩ := hg.rc.sliceOf
      obtain ⟨ps, cs, rfl⟩ := hg.rs.sliceOf
      obtain ⟨pe, ce, rfl⟩ := hg.re.sliceOf
      generalize hnc : (gridTo (cornAt ms) (wideI ms) (H + 1) ++ gridRow (cornAt ms) (H + 1) 0).length = nc at hg
      generalize hns : (gridTo (squaAt ms) (wideI ms) (H + 1) ++ gridRow (squaAt ms) (H + 1) 0).length = ns at hg
      generalize hne : (gridTo (edgeAt ms) (wideI ms) (H + 1) ++ gridRow (edgeAt ms) (H + 1) 0).length = ne at hg
      have HG4 := Lib.hid hg
      obtain ⟨c0, c1, c2, -, -, -⟩ := grid_at hg.blk
      obtain ⟨d0, -, -, f0, -, -⟩ := grid_at hg.res
      have r1 := set_at (o := 0) (v := .slice pc nc cc) hg.res
      obtain ⟨-, d1, -, -, f1, -⟩ := grid_at r1
      have r2 := set_at (o := 1) (v := .slice ps ns cs) r1
      obtain ⟨-, -, d2, -, -, f2⟩ := grid_at r2
      have r3 := set_at (o := 2) (v := .slice pe ne ce) r2
      have HR3 := Lib.hid r3
      clear hnc hns hne r1 r2 r3
      have qy : decide ((((H + 1 : Nat) : Int)) < (H : Int) + 1) = false := decide_eq_false (by omega)
      clear hg
      go_wp2_with fail
      obtain ⟨e0, e1, e2, -, -, -⟩ := grid_at HR3.out
      refine bodyPost_ret (v := .agg #[.slice pc nc cc, .slice ps ns cs, .slice pe ne ce]) (by simp [results, Tryz.results65, go_sem, e0, e1, e2]) rfl ?_
      have hG := HG4.out
      have hb : Below w.heap.size w (((wr.setCell ⟨gr, 0, none⟩ (.slice pc nc cc)).setCell ⟨gr, 1, none⟩ (.slice ps ns cs)).setCell ⟨gr, 2, none⟩ (.slice pe ne ce)) := by
        rw [HGR.out]
        exact ⟨hG.fr.os, hG.fr.tape, hG.fr.output, by simpa [World.setCell] using hG.fr.size, fun k hk => by rw [set_off (by omega), set_off (by omega), set_off (by omega)]; exact hG.fr.block k hk⟩
      have e : ∀ {α : Type} (at' : Nat → Nat → List α), gridTo at' (wideI ms) (H + 1) ++ gridRow at' (H + 1) 0 = gridTo at' (wideI ms) (ms.length + 1) := fun at' => by rw [HHN.out]; simp [gridRow]
      have hc := row_set (o := 2) (x := .slice pe ne ce) (row_set (o := 1) (x := .slice ps ns cs) (row_set (o := 0) (x := .slice pc nc cc) hG.rc (show gr < gr + 2 by omega)) (show gr < gr + 2 by omega)) (show gr < gr + 2 by omega)
      have hs := row_set (o := 2) (x := .slice pe ne ce) (row_set (o := 1) (x := .slice ps ns cs) (row_set (o := 0) (x := .slice pc nc cc) hG.rs (show gr < gr + 2 by omega)) (show gr < gr + 2 by omega)) (show gr < gr + 2 by omega)
      have he := row_set (o := 2) (x := .slice pe ne ce) (row_set (o := 1) (x := .slice ps ns cs) (row_set (o := 0) (x := .slice pc nc cc) hG.re (show gr < gr + 2 by omega)) (show gr < gr + 2 by omega)) (show gr < gr + 2 by omega)
      rw [e] at hc hs he
      exact ⟨_, _, _, rfl, hb, Joins.ownsRow_le hc (by rw [HGR.out]; omega), Joins.ownsRow_le hs (by rw [HGR.out]; omega), Joins.ownsRow_le he (by rw [HGR.out]; omega)⟩
end Go.Proofs.YtoheffkiohfmoaaGreatDoor
