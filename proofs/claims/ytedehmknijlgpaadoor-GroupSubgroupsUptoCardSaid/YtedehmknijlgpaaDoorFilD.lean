/-
  A table while it is filled, in memory, and what is told of it: rows of rows in place; rows of rows of rows.
  What Subgroups tells of a table that is full, by a contract.
  Filling a table: what a scan finds; a place given and taken back (plain); a table's entries in memory.
  The program's fill, by a contract.
-/
import Derived.Test.YtedehmknijlgpaaDoorHldD
import Derived.Test.YtedehmknijlgpaaDoorOpnA
set_option linter.unusedSimpArgs false
set_option linter.unusedVariables false
namespace Go.Proofs.YtedehmknijlgpaaDoor
open Go Go.RowKit Go.Maps

theorem cell_one {w : World} {b : Nat} {x : Value} {t : TypeId} (h : w.heap[b]? = some (.cells #[x] t (0, 0))) : w.cell? ⟨b, 0, none⟩ = some x ∧ w.frozen? ⟨b, 0, none⟩ = false := by simp [World.cell?, World.frozen?, h]
theorem cell_put {w : World} {b : Nat} {x v : Value} {t : TypeId} (h : w.heap[b]? = some (.cells #[x] t (0, 0))) : (w.setCell ⟨b, 0, none⟩ v).heap[b]? = some (.cells #[v] t (0, 0)) := by
  have hb := (Array.getElem?_eq_some_iff.1 h).1
  have he := (Array.getElem?_eq_some_iff.1 h).2
  simp [World.setCell, Array.getElem_modify, hb, he]
theorem HasH.keep {O : Nat} {w w' : World} {v : Value} {T : List (List Int)} {hs : List Value} (h : HasH O w v T hs) (hk : ∀ k, O ≤ k → k < w.heap.size → w'.heap[k]? = w.heap[k]?) : HasH O w' v T hs :=
  ⟨owns_keep h.1 fun k e => hk k (h.1.lt k e).1 (h.1.lt k e).2, h.2.1, fun i hi => owns_keep (h.2.2.1 i hi) fun k e => hk k ((h.2.2.1 i hi).lt k e).1 ((h.2.2.1 i hi).lt k e).2, h.2.2.2⟩
theorem HasH.le {O O' : Nat} {w : World} {v : Value} {T : List (List Int)} {hs : List Value} (h : HasH O w v T hs) (hO : O' ≤ O) : HasH O' w v T hs :=
  ⟨Joins.ownsRow_le h.1 hO, h.2.1, fun i hi => Joins.ownsRow_le (h.2.2.1 i hi) hO, h.2.2.2⟩

/-- rows of rows of rows -/
structure OutL (E : Nat) (w : World) (v : Value) (L : List (List (List Int))) (hL : List Value) : Prop where
  row : w.ownsRow E 22 1 v L.length hL
  len : hL.length = L.length
  each : ∀ i, i < L.length → HasO E w (hL.getD i .nilIface) (L.getD i [])
theorem OutL.nil (E : Nat) (w : World) : OutL E w (.slice none 0 0) [] [] := ⟨World.ownsRow_nil _ _ _ _, rfl, fun i h => absurd h (by simp)⟩
theorem OutL.keep {E : Nat} {w w' : World} {v : Value} {L : List (List (List Int))} {hL : List Value} (h : OutL E w v L hL) (hk : ∀ k, E ≤ k → k < w.heap.size → w'.heap[k]? = w.heap[k]?) : OutL E w' v L hL :=
  ⟨owns_keep h.row fun k e => hk k (h.row.lt k e).1 (h.row.lt k e).2, h.len, fun i hi => (h.each i hi).imp fun _ h => h.keep hk⟩
theorem OutL.below {E C : Nat} {w w' : World} {v : Value} {L : List (List (List Int))} {hL : List Value} (h : OutL E w v L hL) (hb : Below C w w') (hC : w.heap.size ≤ C) : OutL E w' v L hL := h.keep fun k _ hk => hb.block k (Nat.lt_of_lt_of_le hk hC)
theorem OutL.push {E : Nat} {w w' : World} {v v' t : Value} {L : List (List (List Int))} {hL : List Value} {T : List (List Int)} (h : OutL E w v L hL) (h' : w'.ownsRow E 22 1 v' (L.length + 1) (hL ++ [t])) (hg : w.grownBy w' v.ownBlock) (ht : HasO E w t T) :
    OutL E w' v' (L ++ [T]) (hL ++ [t]) := by
  have hl := h.len
  have far : ∀ {x : Value} {X : List (List Int)}, HasO E w x X → HasO E w' x X := fun {x X} hx => by
    obtain ⟨hs, hx⟩ := hx
    refine ⟨hs, hx.far hg fun k hk => ⟨fun e => owns_apart hx.1 h.row (by decide) k e hk, fun i hi e => owns_apart (hx.2.2.1 i hi) h.row (by decide) k e hk⟩⟩
  refine ⟨by simpa using h', by simp [hl], fun i hi => ?_⟩
  rw [List.length_append, List.length_singleton] at hi
  rcases (show i < L.length ∨ i = L.length by omega) with hlt | rfl
  · rw [show (hL ++ [t]).getD i .nilIface = hL.getD i .nilIface by simp [List.getD_eq_getElem?_getD, List.getElem?_append_left (show i < hL.length by omega)], show (L ++ [T]).getD i [] = L.getD i [] by simp [List.getD_eq_getElem?_getD, List.getElem?_append_left hlt]]
    exact far (h.each i hlt)
  · rw [show (hL ++ [t]).getD L.length .nilIface = t by rw [← hl]; simp [List.getD_eq_getElem?_getD], show (L ++ [T]).getD L.length [] = T by simp [List.getD_eq_getElem?_getD]]
    exact far ht

structure FilH (O E bt bo : Nat) (w : World) (vT : Value) (hs : List Value) (T : List (List Int)) (L : List (List (List Int))) : Prop where
  tb : w.heap[bt]? = some (.cells #[vT] 22 (0, 0))
  tab : HasH O w vT T hs
  t0 : ∀ k, vT.ownBlock = some k → k < E
  t1 : ∀ i, i < T.length → ∀ k, (hs.getD i .nilIface).ownBlock = some k → k < E
  ob : ∃ vo hL, w.heap[bo]? = some (.cells #[vo] 46 (0, 0)) ∧ OutL E w vo L hL
  btE : bt < E
  boE : bo < E
  btO : O ≤ bt
  boO : O ≤ bo
  sz : E ≤ w.heap.size
theorem FilH.below {O E bt bo C : Nat} {w w' : World} {vT : Value} {hs : List Value} {T : List (List Int)} {L : List (List (List Int))} (h : FilH O E bt bo w vT hs T L) (hb : Below C w w') (hC : w.heap.size ≤ C) : FilH O E bt bo w' vT hs T L := by
  have hsz := h.sz
  refine ⟨(hb.block bt (by have := h.btE; omega)).trans h.tb, h.tab.below hb hC, h.t0, h.t1, ?_, h.btE, h.boE, h.btO, h.boO, Nat.le_trans hsz hb.size⟩
  obtain ⟨vo, hL, h1, h2⟩ := h.ob
  exact ⟨vo, hL, (hb.block bo (by have := h.boE; omega)).trans h1, h2.below hb hC⟩
/-- an entry is stored -/
theorem FilH.put {O E bt bo i g n c k : Nat} {w : World} {vT : Value} {hs : List Value} {T : List (List Int)} {L : List (List (List Int))} (h : FilH O E bt bo w vT hs T L) (hi : i < T.length) (he : hs.getD i .nilIface = .slice (some ⟨g, 0, none⟩) n c) (x : Int) :
    FilH O E bt bo (w.setCell ⟨g, k, none⟩ (.int .i64 x)) vT hs (TC.setE T i k x) L ∧ Below O w (w.setCell ⟨g, k, none⟩ (.int .i64 x)) := by
  obtain ⟨h1, hg⟩ := h.tab.put (k := k) hi he x
  have hr := h.tab.2.2.1 i hi
  rw [he] at hr
  have hgE : g < E := h.t1 i hi g (by rw [he]; rfl)
  have hgO : O ≤ g := (hr.lt g rfl).1
  have hgt : ∀ b v t, w.heap[b]? = some (.cells #[v] t (0, 0)) → t ≠ 3 → b ≠ g := fun b v t e ht eb => by
    rcases hr.2 with ⟨e2, _⟩ | ⟨g', cap', cur, e2, -, e3, -⟩
    · cases e2
    · cases e2
      rw [eb] at e
      rw [e] at e3
      cases e3
      exact ht rfl
  have hsz := h.sz
  refine ⟨⟨(setCell_off (hgt _ _ _ h.tb (by decide))).trans h.tb, h1, h.t0, fun j hj => h.t1 j (by unfold TC.setE at hj; rwa [List.length_set] at hj), ?_, h.btE, h.boE, h.btO, h.boO, by simpa using hsz⟩, (Below.refl O w).setCell hgO _⟩
  obtain ⟨vo, hL, h2, h3⟩ := h.ob
  exact ⟨vo, hL, (setCell_off (hgt _ _ _ h2 (by decide))).trans h2, h3.keep fun q hq _ => setCell_off (by omega)⟩
/-- what is told is stored -/
theorem FilH.tell {O E bt bo : Nat} {w w' : World} {vT vo : Value} {hs hL : List Value} {T : List (List Int)} {L L' : List (List (List Int))} (h : FilH O E bt bo w vT hs T L) (hb : ∀ k, k < E → w'.heap[k]? = w.heap[k]?) (hsz : w.heap.size ≤ w'.heap.size) (ho : OutL E w' vo L' hL) :
    FilH O E bt bo (w'.setCell ⟨bo, 0, none⟩ vo) vT hs T L' := by
  have hs0 := h.sz
  obtain ⟨vo', hL', h2, h3⟩ := h.ob
  have hbo := h.boE
  have h2' := (hb bo hbo).trans h2
  have hbt : bt ≠ bo := fun e => by have h4 := h.tb; rw [e, h2] at h4; cases h4
  have hnt : ∀ {e : TypeId} {v : Value} {n : Nat} {xs : List Value}, w.ownsRow O e 1 v n xs → e ≠ 46 → ∀ k, v.ownBlock = some k → k ≠ bo := fun {e v n xs} hw he k hk eb => by
    rcases hw.2 with ⟨e2, _⟩ | ⟨g', cap', cur, e2, -, e3, -⟩
    · rw [e2] at hk; cases hk
    · rw [e2] at hk
      obtain rfl : g' = k := Option.some.inj hk
      rw [eb, h2] at e3
      cases e3
      exact he rfl
  refine ⟨(setCell_off hbt).trans ((hb bt h.btE).trans h.tb), ⟨owns_keep h.tab.1 fun k e => (setCell_off (hnt h.tab.1 (by decide) k e)).trans (hb k (h.t0 k e)), h.tab.2.1, fun i hi => owns_keep (h.tab.2.2.1 i hi) fun k e => (setCell_off (hnt (h.tab.2.2.1 i hi) (by decide) k e)).trans (hb k (h.t1 i hi k e)), h.tab.2.2.2⟩, h.t0, h.t1, ⟨vo, hL, cell_put h2', ho.keep fun k hk _ => setCell_off (by omega)⟩, h.btE, h.boE, h.btO, h.boO, by simp; omega⟩

/-- slices.Clone of ints -/
def CloneR (xs : List Int) (w : World) (e : Ending) (w' : World) : Prop := ∃ p c, e = .returned (.slice p xs.length c) ∧ IntO w.heap.size w' (.slice p xs.length c) xs ∧ Below w.heap.size w w'
theorem cloneR_any (xs : List Int) (u : Value) (w : World) (hu : IntsAt w u xs) (hn : xs.length ≤ 100000) : Calls Tryd.prog 42 #[u] w (CloneR xs w) := by
  obtain ⟨p, c, rfl, h1, h2, hc⟩ := hu
  have fin : ∀ {e : Ending} {w' : World} {v' : Value}, e = .returned v' → w'.ownsRow w.heap.size 3 1 v' xs.length (intVs xs) → Below w.heap.size w w' → CloneR xs w e w' := fun {e w' v'} he ho hb => by
    obtain ⟨p', c', rfl⟩ := (show IntO w.heap.size w' v' xs from ho).sliceOf
    exact ⟨p', c', he, ho, hb⟩
  rcases p with _ | a
  · have h0 := h2 rfl
    obtain rfl : xs = [] := List.length_eq_zero_iff.1 (by omega)
    exact (Tryd.slices_Clone_int_nil 0 c w).mono fun e w' ⟨he, hw⟩ => fin he (World.ownsRow_nil _ _ _ _) (by rw [hw]; exact Below.refl _ _)
  · rcases Nat.eq_zero_or_pos xs.length with h0 | h0
    · obtain rfl : xs = [] := List.length_eq_zero_iff.1 h0
      exact (Tryd.slices_Clone_int_zero a c w).mono fun e w' ⟨v', he, ho, _, hb⟩ => fin he ho hb
    · obtain ⟨b, off, e1, -⟩ := hc 0 h0
      obtain rfl := Option.some.inj e1
      refine (Tryd.slices_Clone_int b off xs.length c xs w (Nat.le_refl _) (by omega) fun j hj => ?_).mono fun e w' ⟨v', he, ho, _, hb⟩ => fin he (by rw [List.take_length] at ho; exact ho) hb
      obtain ⟨b', off', e2, e3⟩ := hc j hj
      obtain ⟨rfl, rfl⟩ : b = b' ∧ off = off' := by cases e2; exact ⟨rfl, rfl⟩
      exact e3

theorem info_tab : (Tryd.prog.info? 22).map (fun i => (i.zero, i.size, i.bytes)) = some (some (.slice none 0 0), 1, 24) := by kernel_rfl
theorem under_tabs : Tryd.prog.underlying 46 = some (.slice 22) := by kernel_rfl
theorem OutL.sliceOf {E : Nat} {w : World} {v : Value} {L : List (List (List Int))} {hL : List Value} (h : OutL E w v L hL) : ∃ p c, v = .slice p L.length c := by
  rcases h.row.2 with ⟨rfl, h0⟩ | ⟨g, cap, cur, rfl, -⟩
  · exact ⟨none, 0, by rw [h0]⟩
  · exact ⟨_, _, rfl⟩
theorem take_at {α : Type} {d : α} {L : List α} {j : Nat} (h : j < L.length) : L.take (j + 1) = L.take j ++ [L.getD j d] := by
  rw [List.take_succ_eq_append_getElem h, List.getD_eq_getElem?_getD, List.getElem?_eq_getElem h]; rfl
/-- boxes of groups stay -/
def GrpK (w w' : World) : Prop := ∀ (k : Nat) (c : Array Value), w.heap[k]? = some (.cells c 33 (0, 0)) → w'.heap[k]? = some (.cells c 33 (0, 0))
theorem GrpK.refl (w : World) : GrpK w w := fun _ _ h => h
theorem GrpK.trans {w w' w'' : World} (h : GrpK w w') (h' : GrpK w' w'') : GrpK w w'' := fun k c e => h' k c (h k c e)
theorem GrpK.below {w w' : World} (h : Below w.heap.size w w') : GrpK w w' := fun k c e => (h.block k (Array.getElem?_eq_some_iff.1 e).1).trans e
theorem GrpK.set {w : World} {b i : Nat} {v : Value} {c : Array Value} {t : TypeId} (h : w.heap[b]? = some (.cells c t (0, 0))) (ht : t ≠ 33) : GrpK w (w.setCell ⟨b, i, none⟩ v) := fun k c' e => by
  refine (setCell_off fun e2 => ?_).trans e
  rw [e2, h] at e
  cases e
  exact ht rfl
theorem GrpK.grown {w w' : World} {O : Nat} {e : TypeId} {v : Value} {n : Nat} {xs : List Value} (hg : w.grownBy w' v.ownBlock) (ho : w.ownsRow O e 1 v n xs) (ht : e ≠ 33) : GrpK w w' := fun k c h => by
  refine (hg.block k (Array.getElem?_eq_some_iff.1 h).1 fun e2 => ?_).trans h
  rcases ho.2 with ⟨e3, _⟩ | ⟨g', cap', cur, e3, -, e4, -⟩
  · rw [e3] at e2; cases e2
  · rw [e3] at e2
    obtain rfl : k = g' := Option.some.inj e2
    rw [h] at e4
    cases e4
    exact ht rfl
def TelP (O E bt bo : Nat) (vT : Value) (hs : List Value) (T : List (List Int)) (L : List (List (List Int))) (w : World) (e : Ending) (w' : World) : Prop := e = .returned (.tuple #[]) ∧ Below O w w' ∧ GrpK w w' ∧ FilH O E bt bo w' vT hs T L
set_option maxRecDepth 100000 in
set_option maxHeartbeats 8000000 in
theorem tell_any (O E bt bo : Nat) (vT : Value) (hs : List Value) (T : List (List Int)) (L : List (List (List Int))) (w : World) (h : FilH O E bt bo w vT hs T L) (hn : T.length ≤ 1000) (hp : 0 < T.length) (hl : ∀ i, i < T.length → (T.getD i []).length ≤ 1000) (hL : L.length ≤ 100000) :
    Calls Tryd.prog 41 #[.pointer (some ⟨bt, 0, none⟩), .pointer (some ⟨bo, 0, none⟩)] w (TelP O E bt bo vT hs T (L ++ [T]) w) := by
  obtain ⟨i39, hi39, hz0, hz1, hz2⟩ := info_parts Tryd.info27
  obtain ⟨i22, hi22, hx0, hx1, hx2⟩ := info_parts info_tab
  obtain ⟨n, hTn⟩ : ∃ n, T.length = n := ⟨_, rfl⟩
  obtain ⟨gT, cT, hvT, -⟩ := h.tab.form hp
  rw [hTn] at hvT hn hp
  subst hvT
  obtain ⟨nL, hLn⟩ : ∃ nL, L.length = nL := ⟨_, rfl⟩
  rw [hLn] at hL
  have HTN := Lib.hid hTn
  have HLN := Lib.hid hLn
  have HH := Lib.hid h
  have HLR := Lib.hid hl
  have hsz := h.sz
  have hOE : O ≤ E := by have := h.boO; have := h.boE; omega
  have k1 := (cell_one h.tb).1
  unfold TelP
  clear hTn hLn h hl
  go_enter Tryd.func41, Tryd.ntmps41
  go_wp2_with fail
  go_loopw [2, 7] (fun s i wr => ∃ (j : Nat) (hs' : List Value), j ≤ n ∧ i = .int .i64 (j : Int) ∧ Below w.heap.size w wr ∧ HasH w.heap.size wr s (T.take j) hs') (fun _ i _ => n - (intOf i).toNat)
  case atStart => exact ⟨0, [], Nat.zero_le _, rfl, Below.refl _ _, ⟨World.ownsRow_nil _ _ _ _, rfl, fun i h => absurd h (by simp), fun i j h => absurd h (by simp)⟩⟩
  case round =>
    clear k1
    obtain ⟨j, hs', hj, rfl, hb, hP⟩ := hrel
    have HB := Lib.hid hb
    have hwr := hb.size
    have hH2 := HH.out.below hb (Nat.le_refl _)
    obtain ⟨pt, ct, hst⟩ := hP.sliceOf
    have htl : (T.take j).length = j := by rw [List.length_take, HTN.out]; omega
    rw [htl] at hst
    obtain ⟨sT, hsT⟩ : ∃ sT, sT = u2 := ⟨_, rfl⟩
    subst hsT
    subst hst
    by_cases hjn : j < n
    · have hjT : j < T.length := by rw [HTN.out]; exact hjn
      have kc := hH2.tab.cellsAt j hjT
      have hI := hH2.tab.2.2.1 j hjT
      obtain ⟨pj, cj, hvj⟩ := hI.sliceOf
      rw [hvj] at kc hI
      have hlj := HLR.out j hjT
      have HCL := Lib.hid (cloneR_any (T.getD j []) (.slice pj (T.getD j []).length cj) wr (hI.ints (B := 0)).at (by omega))
      unfold CloneR at HCL
      have HTK : Hid (T.take (j + 1) = T.take j ++ [T.getD j []]) := take_at hjT
      obtain ⟨row, hrow⟩ : ∃ row, T.getD j [] = row := ⟨_, rfl⟩
      rw [hrow] at kc HCL HTK hlj
      obtain ⟨l, hll⟩ : ∃ l, row.length = l := ⟨_, rfl⟩
      rw [hll] at kc HCL hlj
      have HLL := Lib.hid hll
      have HP := Lib.hid hP
      have hout := hP.1
      rw [htl] at hout
      have HOUT := Lib.hid hout
      clear hH2 hI hvj hrow hll hP htl hout hb hjT
      go_wp2_with fail
      refine HCL.out.mono ?_
      rintro e w2 ⟨pc, cc, rfl, hI2, hb2⟩
      have HI2 := Lib.hid hI2
      have HB2 := Lib.hid hb2
      have hs2 := hb2.size
      have HO2 : Hid (w2.ownsRow w.heap.size 27 1 (.slice pt j ct) j hs') := owns_keep HOUT.out fun k e => hb2.block k (HOUT.out.lt k e).2
      have HP2 := Lib.hid (HP.out.below hb2 (Nat.le_refl _))
      have HTL : Hid ((T.take j).length = j) := by unfold Hid; rw [List.length_take, HTN.out]; omega
      clear hI2 hb2 kc
      go_wp2_with (at_builtin; refine wpList_append_lies _ rfl (.tmp 11) (.tmp 14) 22 rfl w.heap.size 27 i39 (.slice none 0 0) 1 24 Tryd.underlying22 hi39 hz0 hz1 hz2 rfl (by decide) _ j hs' rfl (HO2.out.alloc _) ⟨w2.heap.size, 0, none⟩ 1 1 [.slice pc l cc] rfl rfl (World.news_of_block (cs := #[.slice pc l cc]) (t := 27) (fr := (0, 0)) (heap_alloc_new w2 _)) (by simp [Value.oneCell']) (by decide) (by unfold maxLen; omega) (by omega) (by simp; omega) (w2.heap.size + 1) (by simp) ?_; intro g2 c2 w10 hown2 hgr2 hat2 hlt2; have HN2 := Lib.hid hown2; have HG2 := Lib.hid hgr2; clear hown2 hgr2 hat2 hlt2)
      go_roundw
      case rel =>
        have hbA : Below w2.heap.size w2 (w2.alloc (.cells #[.slice pc l cc] 27)) := (Below.refl _ _).alloc (Nat.le_refl _) _
        refine ⟨j + 1, hs' ++ [.slice pc l cc], hjn, by go_num, ?_, ?_⟩
        · exact (((HB.out.trans (HB2.out.mono hwr)).alloc (by omega) _).grown HG2.out (by simp; omega) (fun k e => (HO2.out.lt k e).1))
        · rw [HTK.out]
          refine (HP2.out.below hbA (Nat.le_refl _)).push (by rw [HTL.out]; exact HN2.out) HG2.out ((show IntO w.heap.size w2 (.slice pc l cc) row from Joins.ownsRow_le HI2.out hwr).below hbA (Nat.le_refl _)) fun i hi k hk e => ?_
          have h1 := ((HP.out.2.2.1 i hi).lt k hk).2
          have h2 := (HI2.out.lt k (by simpa using e)).1
          omega
      case measure => simp [intOf]; omega
    · obtain rfl : j = n := by omega
      have htk : T.take j = T := List.take_of_length_le (by rw [HTN.out]; exact Nat.le_refl _)
      rw [htk] at hP
      obtain ⟨vo, hL9, hbo, hOL⟩ := hH2.ob
      obtain ⟨po, co, hvo⟩ := hOL.sliceOf
      rw [HLN.out] at hvo
      subst hvo
      have k2 := (cell_one hbo).1
      have hrow := hOL.row
      rw [HLN.out] at hrow
      have HRW := Lib.hid hrow
      have HOL := Lib.hid hOL
      have HP := Lib.hid hP
      have HH2 := Lib.hid hH2
      have HBO := Lib.hid hbo
      have hboE := hH2.boE
      have hOb := hH2.boO
      have hsz2 := hH2.sz
      clear htk htl hP hbo hOL hrow hH2 hb
      go_wp2_with (at_builtin; refine wpList_append_lies _ rfl (.tmp 17) (.tmp 19) 46 rfl E 22 i22 (.slice none 0 0) 1 24 under_tabs hi22 hx0 hx1 hx2 rfl (by decide) _ nL hL9 rfl (HRW.out.alloc _) ⟨wr.heap.size, 0, none⟩ 1 1 [.slice pt j ct] rfl rfl (World.news_of_block (cs := #[.slice pt j ct]) (t := 22) (fr := (0, 0)) (heap_alloc_new wr _)) (by simp [Value.oneCell']) (by decide) (by unfold maxLen; omega) (by omega) (by simp; omega) (wr.heap.size + 1) (by simp) ?_; intro g2 c2 w10 hown2 hgr2 hat2 hlt2; have HN2 := Lib.hid hown2; have HG2 := Lib.hid hgr2; have hkb : w10.heap[bo]? = some (.cells #[.slice po nL co] 46 (0, 0)) := (hgr2.block bo (by simp; omega) (fun e => by have := (HRW.out.lt bo e.symm).1; omega)).trans (by rw [heap_alloc_old wr _ (by omega)]; exact HBO.out); obtain ⟨kb1, kb2⟩ := cell_one hkb; have HKB := Lib.hid hkb; clear hown2 hgr2 hat2 hlt2 hkb)
      go_end0
      have hbA : Below wr.heap.size wr (wr.alloc (.cells #[.slice pt j ct] 22)) := (Below.refl _ _).alloc (Nat.le_refl _) _
      have hb10 : Below E wr w10 := ((Below.refl E wr).alloc hsz2 _).grown HG2.out (by simp; omega) (fun k e => (HRW.out.lt k e).1)
      refine ⟨rfl, ?_, ?_, ?_⟩
      · exact ((HB.out.mono (by omega)).trans (hb10.mono hOE)).trans ((Below.refl O w10).setCell hOb _)
      · exact ((GrpK.below HB.out).trans ((GrpK.below hbA).trans (GrpK.grown HG2.out (HRW.out.alloc _) (by decide)))).trans (GrpK.set HKB.out (by decide))
      · refine HH2.out.tell (fun k hk => hb10.block k hk) hb10.size (hL := hL9 ++ [.slice pt j ct]) ?_
        refine (HOL.out.below hbA (Nat.le_refl _)).push (by rw [HLN.out]; exact HN2.out) HG2.out ⟨_, (HP.out.le (by omega)).below hbA (Nat.le_refl _)⟩

namespace TC
section
variable {hold : Rows → Bool} {W n : Nat}
/-- the scan comes to a place; all places ahead of it are filled -/
theorem fill_to {met : Nat} {T : Rows} {p : Nat} : ∀ {r : Nat}, FOk hold W n r T met → n * W - r ≤ p → p < n * W → p / W < met → (∀ q, q < p → 0 ≤ pent W T q) → FOk hold W n (n * W - p) T met ∧ fillM hold W n r T met = fillM hold W n (n * W - p) T met
  | 0, h, h1, h2, _, _ => absurd h2 (by omega)
  | r + 1, h, h1, h2, h3, h4 => by
    have hr := h.hr
    rcases Nat.eq_or_lt_of_le h1 with e | hlt
    · rw [show n * W - p = r + 1 by omega]; exact ⟨h, rfl⟩
    · have hp := h4 _ hlt
      have hm : ¬ met ≤ (n * W - (r + 1)) / W := by
        have := Nat.div_le_div_right (c := W) (Nat.le_of_lt hlt)
        omega
      obtain ⟨a, b⟩ := fill_to (h.skip hm hp) (by omega) h2 h3 h4
      refine ⟨a, ?_⟩
      rw [← b]
      conv => lhs; unfold fillM
      rw [if_neg hm, if_pos hp]
/-- the scan finds nothing -/
theorem fill_end {met : Nat} {T : Rows} : ∀ {r : Nat}, FOk hold W n r T met → (∀ q, q < met * W → 0 ≤ pent W T q) → fillM hold W n r T met = if met = n then [T] else []
  | 0, h, _ => rfl
  | r + 1, h, h4 => by
    obtain ⟨h1, h2, h3⟩ := place_lt h.hr
    unfold fillM
    by_cases hm : met ≤ (n * W - (r + 1)) / W
    · rw [if_pos hm, if_neg (by omega)]
    · have hp := h4 (n * W - (r + 1)) (by
        have := Nat.div_add_mod (n * W - (r + 1)) W
        have h5 : (n * W - (r + 1)) / W + 1 ≤ met := by omega
        have h6 := Nat.mul_le_mul_right W h5
        rw [Nat.succ_mul, Nat.mul_comm] at h6
        omega)
      rw [if_neg hm, if_pos hp]
      exact fill_end (h.skip hm hp) h4
/-- the tables behind one choice -/
def choiceM (hold : Rows → Bool) (W n r : Nat) (T : Rows) (met i k : Nat) (tq : Nat) : List Rows :=
  if 0 ≤ ent T tq (opp k) then [] else if hold (stepF T i k tq) = true then fillM hold W n r (stepF T i k tq) (max met (tq + 1)) else []
theorem fill_at {met r i k : Nat} {T : Rows} (hm : i < met) (hp : ent T i k < 0) (hi : (n * W - (r + 1)) / W = i) (hk : (n * W - (r + 1)) % W = k) : fillM hold W n (r + 1) T met = (List.range (min (met + 1) n)).flatMap (choiceM hold W n r T met i k) := by
  conv => lhs; unfold fillM
  rw [hi, hk, if_neg (by omega), if_neg (by unfold pent; rw [hi, hk]; omega)]
  rfl
theorem range_flat {α : Type} (f : Nat → List α) (t : Nat) : (List.range (t + 1)).flatMap f = (List.range t).flatMap f ++ f t := by rw [List.range_succ, List.flatMap_append]; simp
theorem flat_le {α : Type} (f : Nat → List α) {t m : Nat} (h : t ≤ m) : ((List.range t).flatMap f).length ≤ ((List.range m).flatMap f).length := by
  induction m with
  | zero => obtain rfl : t = 0 := by omega
            exact Nat.le_refl _
  | succ m ih =>
    rcases Nat.eq_or_lt_of_le h with rfl | hlt
    · exact Nat.le_refl _
    · rw [range_flat, List.length_append]
      have := ih (by omega)
      omega
theorem setE_wide1 {R : Rows} (h : Wide W R) {x k : Nat} (hx : x < R.length) (hk : k < W) : Wide W (setE R x k (-1)) := by
  refine ⟨fun y hy => ?_, fun y j => ?_⟩
  · rw [setE_len] at hy
    have hly := h.len y hy
    unfold setE
    by_cases e : y = x
    · subst e
      rw [List.getD_eq_getElem?_getD, List.getElem?_set_self hy, Option.getD_some, List.length_set]; exact hly
    · rw [List.getD_eq_getElem?_getD, List.getElem?_set_ne (fun h => e h.symm), ← List.getD_eq_getElem?_getD]; exact hly
  · rw [setE_ent h hx hk, setE_len]
    split
    · omega
    · exact h.ent y j
theorem setE_put {R : Rows} (h : Wide W R) {x k u : Nat} (hx : x < R.length) (hk : k < W) (hu : u < R.length) : Wide W (setE R x k (u : Int)) := setE_wide h hx hk hu
/-- a place given is taken back -/
theorem step_back {T : Rows} (hw : Wide W T) (hl : T.length = n) {i k tq : Nat} (hi : i < n) (hk : k < W) (hk2 : opp k < W) (ht : tq < n) (h1 : ent T i k < 0) (h2 : ent T tq (opp k) < 0) :
    setE (setE (stepF T i k tq) i k (-1)) tq (opp k) (-1) = T := by
  have w1 := stepF_wide hw hl hi hk hk2 ht
  have l1 : (stepF T i k tq).length = n := by rw [stepF_len]; exact hl
  have w2 := setE_wide1 w1 (show i < (stepF T i k tq).length by omega) hk
  have l2 : (setE (stepF T i k tq) i k (-1)).length = n := by rw [setE_len]; exact l1
  have w3 := setE_wide1 w2 (show tq < (setE (stepF T i k tq) i k (-1)).length by omega) hk2
  refine rows_eq w3 hw (by rw [setE_len, l2, hl]) fun p _ => ?_
  unfold pent
  rw [setE_ent w2 (by omega) hk2, setE_ent w1 (by omega) hk, stepF_ent hw hl hi hk hk2 ht]
  have e1 := (hw.ent i k).1
  have e2 := (hw.ent tq (opp k)).1
  by_cases c1 : p / W = tq ∧ p % W = opp k
  · rw [if_pos c1, c1.1, c1.2]; omega
  · rw [if_neg c1]
    by_cases c2 : p / W = i ∧ p % W = k
    · rw [if_pos c2, c2.1, c2.2]; omega
    · rw [if_neg c2, if_neg c1, if_neg c2]
end
end TC

/-- a row's header and its entries -/
theorem FilH.rowAt {O E bt bo W i : Nat} {w : World} {vT : Value} {hs : List Value} {T : List (List Int)} {L : List (List (List Int))} (h : FilH O E bt bo w vT hs T L) (hw : TC.Wide W T) (hW : 0 < W) (hi : i < T.length) :
    ∃ gT cT g c, vT = .slice (some ⟨gT, 0, none⟩) T.length cT ∧ w.cell? ⟨gT, i, none⟩ = some (.slice (some ⟨g, 0, none⟩) W c) ∧ hs.getD i .nilIface = .slice (some ⟨g, 0, none⟩) W c ∧
      (∀ k, k < W → w.cell? ⟨g, k, none⟩ = some (.int .i64 (TC.ent T i k)) ∧ w.frozen? ⟨g, k, none⟩ = false) := by
  obtain ⟨gT, cT, hvT, -⟩ := h.tab.form (by omega)
  have hl := hw.len i hi
  have hr := h.tab.2.2.1 i hi
  obtain ⟨g, c, hg, -, cur, hcur⟩ := hr.form (by rw [hl]; exact hW)
  rw [hl] at hg
  have hc : w.cell? ⟨gT, i, none⟩ = some (hs.getD i .nilIface) := by
    have h2 := h.tab
    rw [hvT] at h2
    exact h2.cellsAt i hi
  rw [hg] at hc hr
  refine ⟨gT, cT, g, c, hvT, hc, hg, fun k hk => ⟨?_, by simp [World.frozen?, hcur]⟩⟩
  have h3 := hr.cellsAt k (by rw [hl]; exact hk)
  rw [h3]
  have hkl : k < (T.getD i []).length := by rw [hl]; exact hk
  unfold TC.ent
  rw [List.getD_eq_getElem?_getD (l := T.getD i []), List.getD_eq_getElem?_getD (l := T.getD i []), List.getElem?_eq_getElem hkl]; rfl

theorem FilH.putG {O E bt bo i g n c k : Nat} {w : World} {vT : Value} {hs : List Value} {T : List (List Int)} {L : List (List (List Int))} (h : FilH O E bt bo w vT hs T L) (hi : i < T.length) (he : hs.getD i .nilIface = .slice (some ⟨g, 0, none⟩) n c) (x : Int) : GrpK w (w.setCell ⟨g, k, none⟩ (.int .i64 x)) := by
  have hr := h.tab.2.2.1 i hi
  rw [he] at hr
  rcases hr.2 with ⟨e, _⟩ | ⟨g', cap', cur, e, -, e3, -⟩
  · cases e
  · cases e
    exact GrpK.set e3 (by decide)
/-- a row's header, whatever its length -/
theorem FilH.head {O E bt bo W i : Nat} {w : World} {vT : Value} {hs : List Value} {T : List (List Int)} {L : List (List (List Int))} (h : FilH O E bt bo w vT hs T L) (hw : TC.Wide W T) (hi : i < T.length) :
    ∃ gT cT p c, vT = .slice (some ⟨gT, 0, none⟩) T.length cT ∧ T.length ≤ cT ∧ w.cell? ⟨gT, i, none⟩ = some (.slice p W c) ∧ hs.getD i .nilIface = .slice p W c := by
  rcases h.tab.1.2 with ⟨-, h0⟩ | ⟨gT, cT, cur, hvT, -, -, hle, -⟩
  · omega
  · obtain ⟨p, c, hp⟩ := (h.tab.2.2.1 i hi).sliceOf
    rw [hw.len i hi] at hp
    have h2 := h.tab
    rw [hvT] at h2
    have h3 := h2.cellsAt i hi
    rw [hp] at h3
    exact ⟨gT, cT, p, c, hvT, hle, h3, hp⟩
theorem box_at {w : World} {b : Nat} {x y : Value} {t : TypeId} (h : w.heap[b]? = some (.cells #[x, y] t (0, 0))) : w.cell? ⟨b, 0, none⟩ = some x ∧ w.cell? ⟨b, 1, none⟩ = some y := by simp [World.cell?, h]
theorem box_grp {w : World} {o : Array Value} : (w.alloc (.cells o 33)).heap[w.heap.size]? = some (.cells o 33 (0, 0)) := heap_alloc_new w _
/-- two entries are stored -/
theorem FilH.two {O E bt bo W i t k ko gT cT gJ cJ gt ct n : Nat} {v : World} {hs : List Value} {T : List (List Int)} {L : List (List (List Int))} (h : FilH O E bt bo v (.slice (some ⟨gT, 0, none⟩) n cT) hs T L) (hw : TC.Wide W T) (x y : Int) (hw2 : TC.Wide W (TC.setE T i k x)) (hi : i < T.length) (ht : t < T.length) (hk : k < W) (hk2 : ko < W)
    (hsi : hs.getD i .nilIface = .slice (some ⟨gJ, 0, none⟩) W cJ) (hst : hs.getD t .nilIface = .slice (some ⟨gt, 0, none⟩) W ct) :
    (v.cell? ⟨gT, t, none⟩ = some (.slice (some ⟨gt, 0, none⟩) W ct) ∧ v.cell? ⟨gJ, k, none⟩ = some (.int .i64 (TC.ent T i k)) ∧ v.frozen? ⟨gJ, k, none⟩ = false ∧ (v.setCell ⟨gJ, k, none⟩ (.int .i64 x)).cell? ⟨gt, ko, none⟩ = some (.int .i64 (TC.ent (TC.setE T i k x) t ko)) ∧ (v.setCell ⟨gJ, k, none⟩ (.int .i64 x)).frozen? ⟨gt, ko, none⟩ = false) ∧
      FilH O E bt bo ((v.setCell ⟨gJ, k, none⟩ (.int .i64 x)).setCell ⟨gt, ko, none⟩ (.int .i64 y)) (.slice (some ⟨gT, 0, none⟩) n cT) hs (TC.setE (TC.setE T i k x) t ko y) L ∧ Below O v ((v.setCell ⟨gJ, k, none⟩ (.int .i64 x)).setCell ⟨gt, ko, none⟩ (.int .i64 y)) ∧ GrpK v ((v.setCell ⟨gJ, k, none⟩ (.int .i64 x)).setCell ⟨gt, ko, none⟩ (.int .i64 y)) := by
  obtain ⟨g1, c1, g2, c2, e1, -, e3, e4⟩ := h.rowAt hw (by omega) hi
  rw [hsi] at e3
  obtain ⟨rfl, rfl⟩ : gJ = g2 ∧ cJ = c2 := by cases e3; exact ⟨rfl, rfl⟩
  obtain ⟨h1, hb1⟩ := h.put (k := k) hi hsi x
  have ht2 : t < (TC.setE T i k x).length := by rw [TC.setE_len]; exact ht
  obtain ⟨g3, c3, g4, c4, e5, -, e7, e8⟩ := h1.rowAt hw2 (by omega) ht2
  rw [hst] at e7
  obtain ⟨rfl, rfl⟩ : gt = g4 ∧ ct = c4 := by cases e7; exact ⟨rfl, rfl⟩
  obtain ⟨h2, hb2⟩ := h1.put (k := ko) ht2 hst y
  obtain ⟨g5, c5, g6, c6, e9, e10, e11, -⟩ := h.rowAt hw (by omega) ht
  rw [hst] at e11
  obtain ⟨rfl, rfl⟩ : gt = g6 ∧ ct = c6 := by cases e11; exact ⟨rfl, rfl⟩
  obtain rfl : gT = g5 := by cases e9; rfl
  exact ⟨⟨e10, (e4 k hk).1, (e4 k hk).2, (e8 ko hk2).1, (e8 ko hk2).2⟩, h2, hb1.trans hb2, (h.putG hi hsi x).trans (h1.putG ht2 hst y)⟩
set_option maxRecDepth 100000 in
set_option maxHeartbeats 32000000 in
theorem fill_any (O E bt bo B n g : Nat) (rels : List (List Int)) (vr vT : Value) (hs : List Value) (w0 : World) (HR0 : ∀ w', Below O w0 w' → ListsIn B w' vr rels) (hn : 0 < n) (hn4 : n ≤ 4) (hg : g ≤ 5)
    (hx : ∀ l ∈ rels, ∀ x ∈ l, x ≠ 0 ∧ -1000000 ≤ x ∧ x ≤ 1000000 ∧ colN x < 2 * g) (hlen : ∀ l ∈ rels, l.length ≤ 1000000) (hrl : rels.length ≤ 1000000) :
    ∀ (r : Nat) (T : List (List Int)) (met : Nat) (L : List (List (List Int))) (w : World), Below O w0 w → FilH O E bt bo w vT hs T L → TC.FOk (TC.holdM n (colsL rels)) (2 * g) n r T met → 1 ≤ met → L.length + (TC.fillM (TC.holdM n (colsL rels)) (2 * g) n r T met).length ≤ 90000 →
      Calls Tryd.prog 40 #[.agg #[.int .i64 (g : Int), vr], vT, .int .i64 (met : Int), .func (.func 41) #[] #[.pointer (some ⟨bt, 0, none⟩), .pointer (some ⟨bo, 0, none⟩)]] w (TelP O E bt bo vT hs T (L ++ TC.fillM (TC.holdM n (colsL rels)) (2 * g) n r T met) w) := by
  intro r
  induction r using Nat.strongRecOn with
  | ind r ih =>
  intro T met L w hb0 hF hok hmet hcap
  obtain ⟨hold, hho⟩ : ∃ hold, TC.holdM n (colsL rels) = hold := ⟨_, rfl⟩
  have HHO := Lib.hid hho
  rw [hho] at ih hok hcap ⊢
  obtain ⟨W, hWg⟩ : ∃ W, 2 * g = W := ⟨_, rfl⟩
  have HWG := Lib.hid hWg
  rw [hWg] at ih hx hok hcap ⊢
  have hW10 : W ≤ 10 := by omega
  have hW2 : W % 2 = 0 := by omega
  have IH := Lib.hid ih
  have HR := Lib.hid HR0
  have HX := Lib.hid hx
  have HLE := Lib.hid hlen
  have hTn := hok.len
  obtain ⟨gT, cT, -, -, hvT, hcT, -⟩ := hF.head hok.wide (i := 0) (by omega)
  rw [hTn] at hvT hcT
  subst hvT
  have hmn := hok.le
  have HOK := Lib.hid hok
  have HTN := Lib.hid hTn
  have HB0 := Lib.hid hb0
  have HF := Lib.hid hF
  have HCAP := Lib.hid hcap
  have hszE := hF.sz
  have hOE : O ≤ E := by have := hF.boO; have := hF.boE; omega
  obtain ⟨res, hres⟩ : ∃ res, TC.fillM hold W n r T met = res := ⟨_, rfl⟩
  have HRES := Lib.hid hres
  rw [hres]
  have hb1 : Below w.heap.size w (w.alloc (.cells #[.int .i64 (g : Int), vr] 33)) := (Below.refl _ _).alloc (Nat.le_refl _) _
  have hbox := box_grp (w := w) (o := #[.int .i64 (g : Int), vr])
  obtain ⟨w1, hw1⟩ : ∃ w1, w.alloc (.cells #[.int .i64 (g : Int), vr] 33) = w1 := ⟨_, rfl⟩
  rw [hw1] at hb1 hbox
  have HW1 := Lib.hid hw1
  have HBX := Lib.hid hbox
  have HB1 := Lib.hid hb1
  have HF1 := Lib.hid (hF.below hb1 (Nat.le_refl _))
  have hs1 := hb1.size
  unfold TelP
  clear ih HR0 hx hlen hok hb0 hF hcap hho hWg hTn hres hb1 hbox hw1
  go_enter Tryd.func40, Tryd.ntmps40
  go_upto_region 1 with fail
  rw [HW1.out]
  go_wp2_with fail
  go_loopw [17] (fun i wr => ∃ j : Nat, j ≤ met ∧ i = .int .i64 (j : Int) ∧ wr = w1 ∧ Hid (∀ y, y < j → ∀ k, k < W → 0 ≤ TC.ent T y k)) (fun i _ => met - (intOf i).toNat)
  case atStart => exact ⟨0, Nat.zero_le _, rfl, rfl, fun y h => absurd h (by omega)⟩
  case round =>
    obtain ⟨j, hj, rfl, rfl, HJ⟩ := hrel
    by_cases hjm : j < met
    · have hjT : j < T.length := by rw [HTN.out]; omega
      obtain ⟨gT', cT', p, c, e1, -, kh, hhj⟩ := HF1.out.head HOK.out.wide hjT
      rw [HTN.out] at e1
      obtain ⟨rfl, rfl⟩ : gT = gT' ∧ cT = cT' := by cases e1; exact ⟨rfl, rfl⟩
      clear e1
      have HHJ := Lib.hid hhj
      clear hhj hjT
      go_wp2_with fail
      go_loopw [24] (fun i wr2 => ∃ k : Nat, k ≤ W ∧ i = .int .i64 (k : Int) ∧ wr2 = wr ∧ Hid (∀ k', k' < k → 0 ≤ TC.ent T j k')) (fun i _ => W - (intOf i).toNat)
      case atStart => exact ⟨0, Nat.zero_le _, rfl, rfl, fun y h => absurd h (by omega)⟩
      case round =>
        obtain ⟨k, hk, rfl, rfl, HK⟩ := hrel
        by_cases hkW : k < W
        · have hjT : j < T.length := by rw [HTN.out]; omega
          obtain ⟨gT', cT', gJ, cJ, e1, -, hgj, hrow⟩ := HF1.out.rowAt HOK.out.wide (by omega) hjT
          rw [HTN.out] at e1
          obtain ⟨rfl, rfl⟩ : gT = gT' ∧ cT = cT' := by cases e1; exact ⟨rfl, rfl⟩
          clear e1
          rw [HHJ.out] at hgj
          obtain ⟨rfl, rfl⟩ : p = some ⟨gJ, 0, none⟩ ∧ c = cJ := by cases hgj; exact ⟨rfl, rfl⟩
          have kE := (hrow k hkW).1
          have HE := Lib.hid (show TC.ent T j k = TC.ent T j k from rfl)
          obtain ⟨ez, hez⟩ : ∃ ez, TC.ent T j k = ez := ⟨_, rfl⟩
          rw [hez] at kE
          have HEZ := Lib.hid hez
          clear hrow hez hjT HE
          by_cases hneg : 0 ≤ ez
          · have HK2 : Hid (∀ k', k' < k + 1 → 0 ≤ TC.ent T j k') := by
              intro k' hk'
              rcases Nat.lt_or_ge k' k with h | h
              · exact HK.out k' h
              · obtain rfl : k' = k := by omega
                rw [HEZ.out]; exact hneg
            go_wp2_with fail
            go_roundw
            case rel => exact ⟨k + 1, hkW, by go_num, by first | rfl | trivial, HK2.out⟩
            case measure => simp [intOf]; omega
          · have hWp : 0 < W := by omega
            have hjn : j < n := by omega
            have hpl : j * W + k < n * W := by
              have := Nat.mul_le_mul_right W (show j + 1 ≤ n from hjn)
              rw [Nat.succ_mul] at this
              omega
            have hdiv : (j * W + k) / W = j := by rw [Nat.mul_comm, Nat.mul_add_div hWp, Nat.div_eq_of_lt hkW]; rfl
            have hmod : (j * W + k) % W = k := by rw [Nat.mul_comm, Nat.mul_add_mod, Nat.mod_eq_of_lt hkW]
            have hge : n * W - r ≤ j * W + k := by
              rcases Nat.lt_or_ge (j * W + k) (n * W - r) with h | h
              · have h1 := HOK.out.full _ h
                unfold TC.pent at h1
                rw [hdiv, hmod, HEZ.out] at h1
                exact absurd h1 hneg
              · exact h
            have hall : ∀ q, q < j * W + k → 0 ≤ TC.pent W T q := fun q hq => by
              have h1 := Nat.div_le_div_right (c := W) (Nat.le_of_lt hq)
              rw [hdiv] at h1
              have h2 := Nat.div_add_mod q W
              unfold TC.pent
              rcases Nat.eq_or_lt_of_le h1 with e | e
              · rw [e] at h2 ⊢
                rw [Nat.mul_comm] at h2
                exact HK.out _ (by omega)
              · exact HJ.out _ e _ (Nat.mod_lt _ hWp)
            have hor := HOK.out.hr
            obtain ⟨hok', heq⟩ := TC.fill_to HOK.out hge hpl (by rw [hdiv]; exact hjm) hall
            obtain ⟨r', hr'⟩ : ∃ r', n * W - (j * W + k) = r' + 1 := ⟨n * W - (j * W + k) - 1, by omega⟩
            rw [hr'] at hok' heq
            have hpp : n * W - (r' + 1) = j * W + k := by omega
            have hrr : r' < r := by omega
            have hcf := TC.fill_at (hold := hold) (r := r') (n := n) hjm (by rw [HEZ.out]; omega) (by rw [hpp, hdiv]) (by rw [hpp, hmod])
            have HFM : Hid (res = (List.range (min (met + 1) n)).flatMap (TC.choiceM hold W n r' T met j k)) := by unfold Hid; rw [← HRES.out, heq, hcf]
            have HOK2 := Lib.hid hok'
            obtain ⟨m0, hm0⟩ : ∃ m0, min (met + 1) n = m0 := ⟨_, rfl⟩
            have hmin : min ((met : Int) + 1) (n : Int) = ((m0 : Nat) : Int) := by omega
            have hm1 : m0 ≤ n := by omega
            have hm2 : m0 ≤ met + 1 := by omega
            rw [hm0] at HFM
            have HPD : Hid ((n * W - (r' + 1)) / W = j ∧ (n * W - (r' + 1)) % W = k) := ⟨by rw [hpp, hdiv], by rw [hpp, hmod]⟩
            have hneg' : ez < 0 := by omega
            have HF2 : Hid (FilH O E bt bo wr (.slice (some ⟨gT, 0, none⟩) n cT) hs T (L ++ (List.range 0).flatMap (TC.choiceM hold W n r' T met j k))) := by
              have h := HF1.out
              unfold Hid
              rw [show (List.range 0).flatMap (TC.choiceM hold W n r' T met j k) = [] from rfl, List.append_nil]
              exact h
            clear hpl hdiv hmod hge hall hor hok' heq hr' hpp hcf hneg hm0
            go_wp2_with fail
            try rw [hmin]
            obtain ⟨wS, hwS⟩ : ∃ wS, wS = wr := ⟨_, rfl⟩
            subst hwS
            go_loopw [36] (fun i wr2 => ∃ t : Nat, t ≤ m0 ∧ i = .int .i64 (t : Int) ∧ Below O wS wr2 ∧ GrpK wS wr2 ∧ FilH O E bt bo wr2 (.slice (some ⟨gT, 0, none⟩) n cT) hs T (L ++ (List.range t).flatMap (TC.choiceM hold W n r' T met j k))) (fun i _ => m0 - (intOf i).toNat)
            case atStart => exact ⟨0, Nat.zero_le _, rfl, Below.refl _ _, GrpK.refl _, HF2.out⟩
            case round =>
              clear HF2 kh kE hmin
              obtain ⟨t, ht, rfl, hbA, hgA, hFA⟩ := hrel
              have HBA := Lib.hid hbA
              have HGA := Lib.hid hgA
              have HFA := Lib.hid hFA
              have hoW : TC.opp k < W := TC.opp_lt hW2 hkW
              by_cases htm : t < m0
              · have htn : t < n := by omega
                have htT : t < T.length := by rw [HTN.out]; exact htn
                have hjT : j < T.length := by rw [HTN.out]; exact hjn
                obtain ⟨gT', cT', gt, ct, e1, kt, hst, hrt⟩ := hFA.rowAt HOK.out.wide hWp htT
                rw [HTN.out] at e1
                obtain ⟨rfl, rfl⟩ : gT = gT' ∧ cT = cT' := by cases e1; exact ⟨rfl, rfl⟩
                clear e1
                have ko := (hrt _ hoW).1
                have x1 := i64_xor1 k (by omega)
                have hrf := TC.range_flat (TC.choiceM hold W n r' T met j k) t
                obtain ⟨op, hop⟩ : ∃ op, TC.opp k = op := ⟨_, rfl⟩
                rw [hop] at ko x1 hoW
                obtain ⟨zt, hzt⟩ : ∃ zt, TC.ent T t op = zt := ⟨_, rfl⟩
                rw [hzt] at ko
                have HRF := Lib.hid hrf
                have HOP := Lib.hid hop
                have HZT := Lib.hid hzt
                have HST := Lib.hid hst
                clear hrt hrf hop hzt hst hbA hgA hFA
                by_cases hz0 : 0 ≤ zt
                · have HNX : Hid (FilH O E bt bo wr (.slice (some ⟨gT, 0, none⟩) n cT) hs T (L ++ (List.range (t + 1)).flatMap (TC.choiceM hold W n r' T met j k))) := by
                    unfold Hid
                    rw [HRF.out, show TC.choiceM hold W n r' T met j k t = [] from by unfold TC.choiceM; rw [HOP.out, HZT.out, if_pos hz0], List.append_nil]
                    exact HFA.out
                  clear htT hjT
                  go_wp2_with fail
                  go_roundw
                  case rel => exact ⟨t + 1, htm, by go_num, HBA.out, HGA.out, HNX.out⟩
                  case measure => simp [intOf]; omega
                · have hz1 : zt < 0 := by omega
                  have h2w : TC.Wide W (TC.setE T j k ((t : Nat) : Int)) := TC.setE_put HOK.out.wide hjT hkW (by omega)
                  obtain ⟨⟨a1, a2, a3, a4, a5⟩, hF4, hb4, hg4⟩ := HFA.out.two HOK.out.wide ((t : Nat) : Int) ((j : Nat) : Int) h2w hjT htT hkW hoW HHJ.out HST.out
                  have hT4 : TC.setE (TC.setE T j k ((t : Nat) : Int)) t op ((j : Nat) : Int) = TC.stepF T j k t := by unfold TC.stepF; rw [HOP.out]
                  rw [hT4] at hF4
                  have hw4d := TC.stepF_wide HOK.out.wide HTN.out hjn hkW (by rw [HOP.out]; exact hoW) htn
                  obtain ⟨w4, hw4⟩ : ∃ w4, (wr.setCell ⟨gJ, k, none⟩ (.int .i64 ((t : Nat) : Int))).setCell ⟨gt, op, none⟩ (.int .i64 ((j : Nat) : Int)) = w4 := ⟨_, rfl⟩
                  rw [hw4] at hF4 hb4 hg4
                  have hbx4 := hg4 _ _ (HGA.out _ _ HBX.out)
                  obtain ⟨b0, b1⟩ := box_at hbx4
                  have hb04 : Below O w0 w4 := ((HB0.out.trans (HB1.out.mono (by omega))).trans HBA.out).trans hb4
                  have hhl := hold_any B W n (g : Int) rels (TC.stepF T j k t) vr (.slice (some ⟨gT, 0, none⟩) n cT) w4 (HR.out w4 hb04) (HasO.rows (B := B) ⟨hs, hF4.tab⟩).lists hw4d (by rw [TC.stepF_len]; exact HTN.out) HX.out HLE.out hrl (by omega)
                  rw [HHO.out] at hhl
                  unfold Gives at hhl
                  obtain ⟨bb, hbb⟩ : ∃ bb, hold (TC.stepF T j k t) = bb := ⟨_, rfl⟩
                  rw [hbb] at hhl
                  have HHL := Lib.hid hhl
                  have HW4 := Lib.hid hw4
                  have HBB := Lib.hid hbb
                  have HF4 := Lib.hid hF4
                  have HB4 := Lib.hid (HBA.out.trans hb4)
                  have HG4 := Lib.hid (HGA.out.trans hg4)
                  have HB04 := Lib.hid hb04
                  have HBX4 := Lib.hid hbx4
                  have W4D := Lib.hid hw4d
                  have hs4 : E ≤ w4.heap.size := hF4.sz
                  rw [← hw4] at b0 b1
                  clear hT4 hF4 hb4 hg4 hbx4 hb04 hhl hw4 hbb hw4d h2w
                  cases bb with
                  | false =>
                    go_wp2_with fail
                    rw [HW4.out]
                    refine HHL.out.mono ?_
                    rintro e w5 ⟨rfl, hb5⟩
                    have HF5 := Lib.hid (HF4.out.below hb5 (Nat.le_refl _))
                    have HB5 := Lib.hid (HB4.out.trans (hb5.mono (by omega)))
                    have HG5 := Lib.hid (HG4.out.trans (GrpK.below hb5))
                    clear hb5 a1 a2 a3 a4 a5 b0 b1 kt ko
                    obtain ⟨⟨c1, c2, c3, c4, c5⟩, hF9, hb9, hg9⟩ := HF5.out.two W4D.out (-1) (-1) (TC.setE_wide1 W4D.out (by rw [TC.stepF_len]; exact hjT) hkW) (by rw [TC.stepF_len]; exact hjT) (by rw [TC.stepF_len]; exact htT) hkW hoW HHJ.out HST.out
                    have hbk := TC.step_back HOK.out.wide HTN.out hjn hkW (by rw [HOP.out]; exact hoW) htn (by rw [HEZ.out]; exact hneg') (by rw [HOP.out, HZT.out]; exact hz1)
                    rw [HOP.out] at hbk
                    rw [hbk] at hF9
                    have HCH : Hid (TC.choiceM hold W n r' T met j k t = []) := by unfold Hid TC.choiceM; rw [HOP.out, HZT.out, if_neg (by omega), HBB.out]; rfl
                    have HNX : Hid (FilH O E bt bo ((w5.setCell ⟨gJ, k, none⟩ (.int .i64 (-1))).setCell ⟨gt, op, none⟩ (.int .i64 (-1))) (.slice (some ⟨gT, 0, none⟩) n cT) hs T (L ++ (List.range (t + 1)).flatMap (TC.choiceM hold W n r' T met j k))) := by
                      unfold Hid
                      rw [HRF.out, HCH.out, List.append_nil]
                      exact hF9
                    have HB9 := Lib.hid (HB5.out.trans hb9)
                    have HG9 := Lib.hid (HG5.out.trans hg9)
                    clear hF9 hb9 hg9 hbk
                    go_wp2_with fail
                    go_roundw
                    case rel => exact ⟨t + 1, htm, by go_num, HB9.out, HG9.out, HNX.out⟩
                    case measure => simp [intOf]; omega
                  | true =>
                    go_wp2_with fail
                    rw [HW4.out]
                    refine HHL.out.mono ?_
                    rintro e w6 ⟨rfl, hb6⟩
                    have hF6 := HF4.out.below hb6 (Nat.le_refl _)
                    have hg6 := HG4.out.trans (GrpK.below hb6)
                    obtain ⟨d0, d1⟩ := box_at (GrpK.below hb6 _ _ HBX4.out)
                    have hst4 := (HOK2.out.step hW2 (by rw [HPD.out.1]; omega) (by unfold TC.pent; rw [HPD.out.1, HPD.out.2, HEZ.out]; omega) (show t < min (met + 1) n by omega) (by rw [HPD.out.2, HOP.out, HZT.out]; omega) (by rw [HPD.out.1, HPD.out.2]; exact HBB.out)).1
                    rw [HPD.out.1, HPD.out.2] at hst4
                    have HCH : Hid (TC.choiceM hold W n r' T met j k t = TC.fillM hold W n r' (TC.stepF T j k t) (max met (t + 1))) := by unfold Hid TC.choiceM; rw [HOP.out, HZT.out, if_neg (by omega), HBB.out]; rfl
                    have hlen := TC.flat_le (TC.choiceM hold W n r' T met j k) (show t + 1 ≤ m0 from htm)
                    rw [HRF.out, ← HFM.out, List.length_append, HCH.out] at hlen
                    have hcp := HCAP.out
                    rw [HRES.out] at hcp
                    have hih := IH.out r' hrr (TC.stepF T j k t) (max met (t + 1)) (L ++ (List.range t).flatMap (TC.choiceM hold W n r' T met j k)) w6 (HB04.out.trans (hb6.mono (by omega))) hF6 hst4 (by omega) (by rw [List.length_append]; omega)
                    have hmax : max (met : Int) ((t : Int) + 1) = ((max met (t + 1) : Nat) : Int) := by omega
                    obtain ⟨mx, hmx⟩ : ∃ mx, max met (t + 1) = mx := ⟨_, rfl⟩
                    rw [hmx] at hmax hih HCH
                    rw [List.append_assoc, ← HCH.out, ← HRF.out] at hih
                    unfold TelP at hih
                    have HIH := Lib.hid hih
                    have HB6 := Lib.hid (HB4.out.trans (hb6.mono (by omega)))
                    have HG6 := Lib.hid hg6
                    clear hb6 hF6 hg6 hst4 hlen hcp hih hmx a1 a2 a3 a4 a5 b0 b1 kt ko
                    go_wp2_with fail
                    try rw [hmax]
                    refine HIH.out.mono ?_
                    rintro e w5 ⟨rfl, hb5, hg5, hF5⟩
                    have HF5 := Lib.hid hF5
                    have HB5 := Lib.hid (HB6.out.trans hb5)
                    have HG5 := Lib.hid (HG6.out.trans hg5)
                    clear hb5 hg5 hF5 d0 d1 HCH hmax
                    obtain ⟨⟨c1, c2, c3, c4, c5⟩, hF9, hb9, hg9⟩ := HF5.out.two W4D.out (-1) (-1) (TC.setE_wide1 W4D.out (by rw [TC.stepF_len]; exact hjT) hkW) (by rw [TC.stepF_len]; exact hjT) (by rw [TC.stepF_len]; exact htT) hkW hoW HHJ.out HST.out
                    have hbk := TC.step_back HOK.out.wide HTN.out hjn hkW (by rw [HOP.out]; exact hoW) htn (by rw [HEZ.out]; exact hneg') (by rw [HOP.out, HZT.out]; exact hz1)
                    rw [HOP.out] at hbk
                    rw [hbk] at hF9
                    have HNX : Hid (FilH O E bt bo ((w5.setCell ⟨gJ, k, none⟩ (.int .i64 (-1))).setCell ⟨gt, op, none⟩ (.int .i64 (-1))) (.slice (some ⟨gT, 0, none⟩) n cT) hs T (L ++ (List.range (t + 1)).flatMap (TC.choiceM hold W n r' T met j k))) := by
                      unfold Hid
                      exact hF9
                    have HB9 := Lib.hid (HB5.out.trans hb9)
                    have HG9 := Lib.hid (HG5.out.trans hg9)
                    clear hF9 hb9 hg9 hbk
                    go_wp2_with fail
                    go_roundw
                    case rel => exact ⟨t + 1, htm, by go_num, HB9.out, HG9.out, HNX.out⟩
                    case measure => simp [intOf]; omega
              · obtain rfl : t = m0 := by omega
                have HFE : Hid (FilH O E bt bo wr (.slice (some ⟨gT, 0, none⟩) n cT) hs T (L ++ res)) := by unfold Hid; rw [HFM.out]; exact HFA.out
                have HBE := Lib.hid ((HB1.out.mono (show O ≤ w.heap.size by omega)).trans HBA.out)
                have HGE := Lib.hid ((GrpK.below HB1.out).trans HGA.out)
                clear hbA hgA hFA
                go_wp2_with fail
                refine bodyPost_ret (results_none rfl _ _ _) rfl ?_
                exact ⟨rfl, HBE.out, HGE.out, HFE.out⟩
        · obtain rfl : k = W := by omega
          have HJ2 : Hid (∀ y, y < j + 1 → ∀ k', k' < k → 0 ≤ TC.ent T y k') := by
            intro y hy k' hk'
            rcases Nat.lt_or_ge y j with h | h
            · exact HJ.out y h k' hk'
            · obtain rfl : y = j := by omega
              exact HK.out k' hk'
          go_wp2_with fail
          go_roundw
          case rel => exact ⟨j + 1, hjm, by go_num, by first | rfl | trivial, HJ2.out⟩
          case measure => simp [intOf]; omega
    · obtain rfl : j = met := by omega
      have hfe := TC.fill_end HOK.out (fun q hq => by
        have hWp : 0 < W := by
          rcases Nat.eq_zero_or_pos W with e | e
          · rw [e] at hq; simp at hq
          · exact e
        exact HJ.out _ (Nat.div_lt_of_lt_mul (by rw [Nat.mul_comm]; exact hq)) _ (Nat.mod_lt _ hWp))
      rw [HRES.out] at hfe
      have hor := HCAP.out
      by_cases hjn : j = n
      · rw [if_pos hjn] at hfe
        have q1 : ((j : Int) == (n : Int)) = true := by rw [beq_iff_eq]; omega
        have HTL := Lib.hid (tell_any O E bt bo (.slice (some ⟨gT, 0, none⟩) n cT) hs T L wr HF1.out (by rw [HTN.out]; omega) (by rw [HTN.out]; omega) (fun i hi => by rw [HOK.out.wide.len i hi]; omega) (by omega))
        unfold TelP at HTL
        have HFE := Lib.hid hfe
        clear hfe hor
        go_wp2_with fail
        refine HTL.out.mono ?_
        rintro e w2 ⟨rfl, hb2, hg2, hF2⟩
        have HBE := Lib.hid ((HB1.out.mono (show O ≤ w.heap.size by omega)).trans hb2)
        have HGE := Lib.hid ((GrpK.below HB1.out).trans hg2)
        have HF2 := Lib.hid hF2
        clear hb2 hg2 hF2
        go_wp2_with fail
        go_end0
        rw [HFE.out]
        exact ⟨rfl, HBE.out, HGE.out, HF2.out⟩
      · rw [if_neg hjn] at hfe
        have q1 : ((j : Int) == (n : Int)) = false := by rw [beq_eq_false_iff_ne]; omega
        have HFE := Lib.hid hfe
        clear hfe hor
        go_wp2_with fail
        go_end0
        rw [HFE.out, List.append_nil]
        exact ⟨rfl, HB1.out.mono (show O ≤ w.heap.size by omega), GrpK.below HB1.out, HF1.out⟩
end Go.Proofs.YtedehmknijlgpaaDoor
