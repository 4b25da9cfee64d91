/-
  cells.face by contracts: a set as a face, rising; or none.
  A map of faces: what its block is good for; looked up, counted, stored into.
  cells.parts by a contract: a face and all its parts put into a map; false: there are too many.
-/
import Derived.Test.YtddnjimpdidpaaaGreatDoorPut
import Derived.Maps.OwnSet
import Derived.Maps.OwnOps
import Derived.Maps.AppendAt
import Derived.Maps.RangeWalk

namespace Go.Proofs.YtddnjimpdidpaaaGreatDoor
open Go Go.RowKit Go.Maps

def FaceOk (l : List Int) (w : World) (e : Ending) (w' : World) : Prop :=
  ∃ g cap, e = .returned (.tuple #[.slice (some ⟨g, 0, none⟩) l.length cap, .bool true]) ∧ Below w.heap.size w w' ∧ w'.ownsRow w.heap.size 3 1 (.slice (some ⟨g, 0, none⟩) l.length cap) l.length (intVs (sortI l))
def FaceBad (w : World) (e : Ending) (w' : World) : Prop := e = .returned (.tuple #[.slice none 0 0, .bool false]) ∧ Below w.heap.size w w'

theorem grown_below {w0 w w' : World} {g : Nat} (hb : Below w0.heap.size w0 w) (hg : w.grownBy w' (some g)) (hg0 : w0.heap.size ≤ g) : Below w0.heap.size w0 w' :=
  hb.grown hg hb.size (fun k hk => by cases hk; exact hg0)

set_option maxHeartbeats 2000000 in
theorem face_empty (u : Value) (w : World) (hu : IntsAt w u []) : Calls Tryz.prog 127 #[u] w (FaceBad w) := by
  obtain ⟨p, c, rfl, -, -, -⟩ := hu
  cases p with
  | none =>
    go_enter Tryz.func127, Tryz.ntmps127
    go_wp2_with fail
    refine (Tryz.slices_Clone_int_nil _ _ _).mono ?_
    rintro e w' ⟨rfl, rfl⟩
    go_wp2_with fail
    refine (Tryz.slices_Sort_int_none _ _ _).mono ?_
    rintro e w' ⟨rfl, rfl⟩
    go_wp2_with fail
    go_ret2
    exact ⟨rfl, Below.refl _ _⟩
  | some a =>
    go_enter Tryz.func127, Tryz.ntmps127
    go_wp2_with fail
    refine (Tryz.slices_Clone_int_zero _ _ _).mono ?_
    rintro e w1 ⟨v', rfl, ho, -, hb⟩
    obtain ⟨q, d, rfl⟩ : ∃ q d, v' = .slice q 0 d := by
      rcases Joins.ownsRow_forms ho with ⟨rfl, -⟩ | ⟨g, cap, rfl⟩
      · exact ⟨_, _, rfl⟩
      · exact ⟨_, _, rfl⟩
    have HB := Lib.hid hb
    clear hb ho
    go_wp2_with fail
    refine (Tryz.slices_Sort_int_none _ _ _).mono ?_
    rintro e w' ⟨rfl, rfl⟩
    go_wp2_with fail
    go_ret2
    exact ⟨rfl, HB.out⟩

theorem sort_at {f : List Int} (h : okSet f) : 0 ≤ (sortI f).getD 0 0 ∧ (sortI f).getD (f.length - 1) 0 ≤ 99 := by
  have hp : 0 < f.length := List.length_pos_iff.2 h.1
  have hl := sortI_len f
  constructor
  · exact (h.2.2 _ (mem_sortI.1 (show (sortI f).getD 0 0 ∈ sortI f by rw [List.getD_eq_getElem?_getD, List.getElem?_eq_getElem (show 0 < (sortI f).length by omega)]; exact List.getElem_mem _))).1
  · exact (h.2.2 _ (mem_sortI.1 (show (sortI f).getD (f.length - 1) 0 ∈ sortI f by rw [List.getD_eq_getElem?_getD, List.getElem?_eq_getElem (show f.length - 1 < (sortI f).length by omega)]; exact List.getElem_mem _))).2
theorem okSet_sort {f : List Int} (h0 : f ≠ []) (hn : (sortI f).Nodup) (ha : 0 ≤ (sortI f).getD 0 0) (hb : (sortI f).getD (f.length - 1) 0 ≤ 99) : okSet f := by
  have hp : 0 < f.length := List.length_pos_iff.2 h0
  have hl := sortI_len f
  have hs := sortI_sorted f
  refine ⟨h0, (sortI_perm f).nodup_iff.1 hn, fun x hx => ?_⟩
  obtain ⟨i, hi, e⟩ := List.getElem_of_mem (mem_sortI.2 hx)
  rw [List.getD_eq_getElem?_getD, List.getElem?_eq_getElem (show 0 < (sortI f).length by omega)] at ha
  rw [List.getD_eq_getElem?_getD, List.getElem?_eq_getElem (show f.length - 1 < (sortI f).length by omega)] at hb
  simp only [Option.getD_some] at ha hb
  constructor
  · rcases Nat.eq_zero_or_pos i with rfl | h
    · rw [← e]; exact ha
    · have := List.pairwise_iff_getElem.1 hs 0 i (by omega) hi h
      rw [e] at this; omega
  · rcases (show i = f.length - 1 ∨ i < f.length - 1 by omega) with h | h
    · subst h; rw [← e]; exact hb
    · have := List.pairwise_iff_getElem.1 hs i (f.length - 1) (by omega) (by omega) h
      rw [e] at this; omega

set_option maxRecDepth 100000 in
set_option maxHeartbeats 8000000 in
theorem face_core (l : List Int) (u : Value) (w : World) (hu : IntsAt w u l) (hp : 0 < l.length) (hn : l.length ≤ 100000) :
    Calls Tryz.prog 127 #[u] w fun e w' => (okSet l → FaceOk l w e w') ∧ (¬ okSet l → FaceBad w e w') := by
  have HC := Lib.hid (clone_any l u w hu hp hn)
  unfold ClonePost at HC
  have HS := Lib.hid (fun O g cap wx ho => sort_any l O g cap wx ho hn)
  unfold SortPost at HS
  have hal := sort_at (f := l)
  have HAL := Lib.hid hal
  have HOK := Lib.hid (fun h1 h2 h3 => okSet_sort (f := l) (List.length_pos_iff.1 hp) h1 h2 h3)
  have HRS := Lib.hid (fun h => (rise_sortI (l := l) h))
  have HSP := Lib.hid (sortI_sorted l)
  have HSL := Lib.hid (sortI_len l)
  have HCL := Lib.hid (fun O g cap (wx : World) (ho : wx.ownsRow O 3 1 (.slice (some ⟨g, 0, none⟩) (sortI l).length cap) (sortI l).length (intVs (sortI l))) => clone_any (sortI l) (.slice (some ⟨g, 0, none⟩) (sortI l).length cap) wx (ints_owned (B := O) ho rfl).at (by rw [sortI_len]; exact hp) (by rw [sortI_len]; exact hn))
  have HCM := Lib.hid (fun O g cap (wx : World) (ho : wx.ownsRow O 3 1 (.slice (some ⟨g, 0, none⟩) (sortI l).length cap) (sortI l).length (intVs (sortI l))) => compact_any (sortI l) O g cap wx ho (by rw [sortI_len]; exact hn))
  unfold ClonePost at HCL
  unfold CompactPost at HCM
  have HND : Hid ((sortI l).Nodup ↔ l.Nodup) := (sortI_perm l).nodup_iff
  obtain ⟨s, hs⟩ : ∃ s, sortI l = s := ⟨_, rfl⟩
  have HFO : Hid (∀ wx ex, FaceOk l w ex wx ↔ ∃ g cap, ex = .returned (.tuple #[.slice (some ⟨g, 0, none⟩) l.length cap, .bool true]) ∧ Below w.heap.size w wx ∧ wx.ownsRow w.heap.size 3 1 (.slice (some ⟨g, 0, none⟩) l.length cap) l.length (intVs s)) := fun wx ex => by
    unfold FaceOk; rw [hs]
  rw [hs] at HS HAL HOK HRS HSP HSL HCL HCM HND
  obtain ⟨n, hln⟩ : ∃ n, l.length = n := ⟨_, rfl⟩
  rw [hln] at HC HS HAL HOK HSL hp hn HFO
  have HSN := Lib.hid HSL.out
  clear hal hs hu hln
  go_enter Tryz.func127, Tryz.ntmps127
  go_wp2_with fail
  refine HC.out.mono ?_
  rintro e w1 ⟨g, cap, rfl, hb1, ho1⟩
  have hg := (ho1.lt g rfl).1
  have HB1 := Lib.hid hb1
  have HS1 := Lib.hid (HS.out w.heap.size g cap w1 ho1)
  clear hb1 ho1 HS
  go_wp2_with fail
  refine HS1.out.mono ?_
  rintro e w2 ⟨rfl, hg2, ho2⟩
  have HB2 := Lib.hid (grown_below HB1.out hg2 hg)
  have HO2 := Lib.hid ho2
  have hcells : ∀ i, i < n → w2.cell? ⟨g, i, none⟩ = some (.int .i64 (s.getD i 0)) := fun i hi => by
    have := ho2.cells (g := g) rfl i (.int .i64 (s.getD i 0)) (by simp [intVs, List.getElem?_eq_getElem (show i < s.length by rw [HSL.out]; exact hi), List.getD_eq_getElem?_getD])
    rwa [add_zero] at this
  have hc1 := hcells 0 hp
  have hc2 := hcells (n - 1) (by omega)
  have hsub : (n : Int) - 1 = ((n - 1 : Nat) : Int) := by omega
  have q0 : ((n : Int) == 0) = false := beq_eq_false_iff_ne.2 (by omega)
  have q0' : (n == 0) = false := beq_eq_false_iff_ne.2 (by omega)
  have HOS : Hid (w2.ownsRow w.heap.size 3 1 (.slice (some ⟨g, 0, none⟩) s.length cap) s.length (intVs s)) := by unfold Hid; rw [HSL.out]; exact ho2
  have HCL1 := Lib.hid (HCL.out w.heap.size g cap w2 HOS.out)
  rw [HSL.out] at HCL1
  clear hg2 ho2 hcells HCL
  by_cases ha : s.getD 0 0 < 0
  · have HNO : Hid (¬ okSet l) := fun h => by have := (HAL.out h).1; omega
    have q1 : decide (s.getD 0 0 < 0) = true := decide_eq_true ha
    generalize s.getD 0 0 = z at hc1 q1
    clear ha hc2 hsub
    go_wp2_with fail
    go_ret2
    exact ⟨fun h => absurd h HNO.out, fun _ => ⟨rfl, HB2.out⟩⟩
  by_cases hz : 99 < s.getD (n - 1) 0
  · have HNO : Hid (¬ okSet l) := fun h => by have := (HAL.out h).2; omega
    have q1 : decide (s.getD 0 0 < 0) = false := decide_eq_false ha
    have q2 : decide (99 < s.getD (n - 1) 0) = true := decide_eq_true hz
    generalize s.getD 0 0 = z at hc1 q1
    generalize s.getD (n - 1) 0 = z2 at hc2 q2
    clear ha hz
    go_wp2_with fail
    go_ret2
    exact ⟨fun h => absurd h HNO.out, fun _ => ⟨rfl, HB2.out⟩⟩
  have HOK2 := Lib.hid (fun h => HOK.out h (by omega) (by omega))
  have q1 : decide (s.getD 0 0 < 0) = false := decide_eq_false ha
  have q2 : decide (99 < s.getD (n - 1) 0) = false := decide_eq_false hz
  generalize s.getD 0 0 = z at hc1 q1
  generalize s.getD (n - 1) 0 = z2 at hc2 q2
  clear ha hz HAL HOK
  go_wp2_with fail
  refine HCL1.out.mono ?_
  rintro e w3 ⟨g3, cap3, rfl, hb3, ho3⟩
  have hg3 := (ho3.lt g3 rfl).1
  have HB3 := Lib.hid (HB2.out.trans (hb3.mono HB2.out.size))
  have HO3 := Lib.hid (owns_keep (w' := w3) HO2.out fun j hj => hb3.block j (HO2.out.lt j hj).2)
  have HBA := Lib.hid hb3
  rw [← HSL.out] at ho3
  have HCM1 := Lib.hid (HCM.out w2.heap.size g3 cap3 w3 ho3)
  rw [HSL.out] at HCM1
  clear hb3 ho3 HCL1 HCM
  go_wp2_with fail
  refine HCM1.out.mono ?_
  rintro e w4 ⟨k, rfl, hg4, hkn, hiff⟩
  have HIFF := Lib.hid (hiff HSP.out)
  have hsz2 := HB2.out.size
  have HB4 := Lib.hid (grown_below HB3.out hg4 (by omega))
  have HO4 := Lib.hid (owns_keep (w' := w4) HO3.out fun j hj => hg4.block j (HO3.out.lt j hj).2 (fun e => by
    cases e
    have h1 := (HO2.out.lt g3 hj).2
    omega))
  clear hg4 hiff
  by_cases hk : k = n
  · subst hk
    have HYES := Lib.hid (HOK2.out (HIFF.out.1 rfl))
    have q3 : decide ((k : Int) < (k : Int)) = false := decide_eq_false (by omega)
    have q4 : decide (k < k) = false := decide_eq_false (by omega)
    go_wp2_with fail
    go_ret2
    exact ⟨fun _ => (HFO.out _ _).2 ⟨g, cap, rfl, HB4.out, HO4.out⟩, fun h => absurd HYES.out h⟩
  · have HNO : Hid (¬ okSet l) := fun h => hk (HIFF.out.2 (HND.out.2 h.2.1))
    have q3 : decide ((k : Int) < (n : Int)) = true := decide_eq_true (by omega)
    have q4 : decide (k < n) = true := decide_eq_true (by omega)
    clear hk
    go_wp2_with fail
    go_ret2
    exact ⟨fun h => absurd h HNO.out, fun _ => ⟨rfl, HB4.out⟩⟩

theorem face_ok (l : List Int) (u : Value) (w : World) (hu : IntsAt w u l) (hn : l.length ≤ 100000) (h : okSet l) : Calls Tryz.prog 127 #[u] w (FaceOk l w) :=
  (face_core l u w hu (List.length_pos_iff.2 h.1) hn).mono fun _ _ hp => hp.1 h
theorem face_bad (l : List Int) (u : Value) (w : World) (hu : IntsAt w u l) (hn : l.length ≤ 100000) (h : ¬ okSet l) : Calls Tryz.prog 127 #[u] w (FaceBad w) := by
  rcases Nat.eq_zero_or_pos l.length with h0 | hp
  · obtain rfl : l = [] := List.length_eq_zero_iff.1 h0
    exact face_empty u w hu
  · exact (face_core l u w hu hp hn).mono fun _ _ hp => hp.2 h

/-- an element, a slice, as it stands -/
def valE : Value → Option (DataW Value × List MemPlace)
  | .slice p n c => some (.held (.slice p n c), [])
  | _ => none
theorem valE_inv {v : Value} {y : DataW Value × List MemPlace} (h : valE v = some y) : ∃ x : Option Addr × Nat × Nat, v = .slice x.1 x.2.1 x.2.2 := by
  cases v with
  | slice p n c => exact ⟨(p, n, c), rfl⟩
  | _ => cases h
theorem key_inv {v : Value} {kl : Lit} (h : keyOf Tryz.prog 9 v = some kl) : ∃ x : ByteArray, v = .string x := by
  cases v with
  | string x => exact ⟨x, rfl⟩
  | _ => simp [keyOf, mapKey, Tryz.underlying9] at h
def klit (f : List Int) : Lit := .string (keyL f)
theorem klit_key (f : List Int) : WideAt.IsKeyLit (klit f) := by
  unfold klit; first | exact trivial | simp [WideAt.IsKeyLit]
theorem klit_inj {f g : List Int} (hf : Vtx f) (hg : Vtx g) (h : klit f = klit g) : f = g := by
  unfold klit at h
  exact keyL_inj hf hg (by simpa using h)
theorem keyOf_key (f : List Int) (h : f.length ≤ 100000) : keyOf Tryz.prog 9 (keyS f) = some (klit f) := by
  unfold keyS klit
  have hl : (keyL f).length = f.length := by unfold keyL; rw [List.length_map]
  simp [keyOf, mapKey, Tryz.underlying9, ByteArray.size, hl, maxLen]
  omega

/-- block b of w is a map that has just the faces S; each reads as itself -/
def FMap (B : Nat) (w : World) (b : Nat) (S : List (List Int)) : Prop :=
  ∃ D : DataW Value, w.ownsMap Tryz.prog 9 valE b S.length D ∧ Maps.size D = S.length ∧ S.Nodup ∧ (∀ f ∈ S, Vtx f) ∧
    (∀ f, Vtx f → (Maps.has D (klit f) = true ↔ f ∈ S)) ∧ (∀ f ∈ S, ∃ v, (∀ zd, D.atKey (klit f) zd = .held v) ∧ IntsIn B w v f) ∧ ∀ kl, Maps.has D kl = true → ∃ f ∈ S, kl = klit f
theorem FMap.obj {B : Nat} {w : World} {b : Nat} {S : List (List Int)} (h : FMap B w b S) : ∀ c t fr, w.heap[b]? ≠ some (.cells c t fr) := by
  obtain ⟨D, ⟨es, clock, hb, -⟩, -⟩ := h
  intro c t fr e
  rw [hb] at e; cases e
theorem FMap.lt {B : Nat} {w : World} {b : Nat} {S : List (List Int)} (h : FMap B w b S) : b < w.heap.size := by
  obtain ⟨D, h, -⟩ := h; exact h.lt
theorem FMap.below {B C : Nat} {w w' : World} {b : Nat} {S : List (List Int)} (h : FMap B w b S) (hb : Below C w w') (hC : w.heap.size ≤ C) : FMap B w' b S := by
  have hlt := h.lt
  obtain ⟨D, ⟨es, clock, e1, e2⟩, h1, h2, h3, h4, h5, h6⟩ := h
  exact ⟨D, ⟨es, clock, by rw [hb.block b (Nat.lt_of_lt_of_le hlt hC)]; exact e1, e2⟩, h1, h2, h3, h4, fun f hf => (h5 f hf).imp fun v hv => ⟨hv.1, hv.2.below hb hC⟩, h6⟩
theorem FMap.made (B : Nat) (w : World) : FMap B (w.alloc (.map #[] 0)) w.heap.size [] :=
  ⟨.map [], World.ownsMap_made w _ _ _, rfl, List.nodup_nil, (fun f h => by cases h), (fun f _ => by simp [Maps.has]), (fun f h => by cases h), fun kl h => by simp [Maps.has] at h⟩
theorem zero_ints (w : World) : (zeroValue 23).run Tryz.prog w = .ok (.slice none 0 0) w := by kernel_rfl
theorem FMap.push {B : Nat} {w w' : World} {b : Nat} {S : List (List Int)} {f : List Int} {v : Value} {D : DataW Value} (hB : B ≤ b) (hv : Vtx f) (hf : f ∉ S) (hi : IntsIn B w v f)
    (hown : w.ownsMap Tryz.prog 9 valE b S.length D) (h1 : Maps.size D = S.length) (h2 : S.Nodup) (h3 : ∀ g ∈ S, Vtx g) (h4 : ∀ g, Vtx g → (Maps.has D (klit g) = true ↔ g ∈ S))
    (h5 : ∀ g ∈ S, ∃ v, (∀ zd, D.atKey (klit g) zd = .held v) ∧ IntsIn B w v g) (h6 : ∀ kl, Maps.has D kl = true → ∃ g ∈ S, kl = klit g)
    (hown' : w'.ownsMap Tryz.prog 9 valE b (S.length + 1) (D.put (klit f) (.held v))) (hg : w.grownBy w' (some b)) : FMap B w' b (f :: S) := by
  have hm : Maps.IsMap D := hown.isMap
  have ht : Maps.Tidy D := hown.tidy (string_keyed Tryz.underlying9)
  have hr : ∀ k, some b = some k → B ≤ k ∧ ∀ c, w.heap[k]? ≠ some (.cells c 3 (0, 0)) := fun k e => by
    cases e
    obtain ⟨es, clock, hb, -⟩ := hown
    exact ⟨hB, fun c e => by rw [hb] at e; cases e⟩
  have hhas : Maps.has D (klit f) = false := by
    cases h : Maps.has D (klit f) with
    | false => rfl
    | true => exact absurd ((h4 f hv).1 h) hf
  refine ⟨D.put (klit f) (.held v), hown', ?_, List.nodup_cons.2 ⟨hf, h2⟩, fun g hg => ?_, fun g hgv => ?_, fun g hgm => ?_, fun kl hk => ?_⟩
  · rw [Maps.size_put ht, hhas, h1]; rfl
  · rcases List.mem_cons.1 hg with rfl | h
    · exact hv
    · exact h3 g h
  · rw [List.mem_cons]
    by_cases e : g = f
    · subst e
      exact ⟨fun _ => Or.inl rfl, fun _ => Maps.has_put_same hm (klit_key g) _⟩
    · rw [Maps.has_put_other (fun h => e (klit_inj hgv hv h)), h4 g hgv]
      exact ⟨Or.inr, fun h => h.elim (fun h => absurd h e) id⟩
  · rcases List.mem_cons.1 hgm with rfl | h
    · exact ⟨v, fun zd => Maps.atKey_put_same hm (klit_key g) _ _, hi.grown hg hr⟩
    · obtain ⟨v', e1, e2⟩ := h5 g h
      refine ⟨v', fun zd => ?_, e2.grown hg hr⟩
      rw [Maps.atKey_put_other (fun hh => hf (klit_inj (h3 g h) hv hh ▸ h))]; exact e1 zd
  · by_cases e : kl = klit f
    · exact ⟨f, List.mem_cons_self .., e⟩
    · rw [Maps.has_put_other e] at hk
      obtain ⟨g, h, e2⟩ := h6 kl hk
      exact ⟨g, List.mem_cons_of_mem _ h, e2⟩

/-- each face's slice stands in the map and reads as it -/
def HeldAll (B : Nat) (w : World) (D : DataW Value) (S : List (List Int)) : Prop := ∀ f ∈ S, ∃ v, (∀ zd, D.atKey (klit f) zd = .held v) ∧ IntsIn B w v f
theorem HeldAll.below {B C : Nat} {w w' : World} {D : DataW Value} {S : List (List Int)} (h : HeldAll B w D S) (hb : Below C w w') (hC : w.heap.size ≤ C) : HeldAll B w' D S :=
  fun f hf => (h f hf).imp fun _ hv => ⟨hv.1, hv.2.below hb hC⟩
theorem HeldAll.grown {B : Nat} {w w' : World} {D : DataW Value} {S : List (List Int)} {row : Option Nat} (h : HeldAll B w D S) (hg : w.grownBy w' row) (hr : ∀ k, row = some k → B ≤ k ∧ ∀ c, w.heap[k]? ≠ some (.cells c 3 (0, 0))) : HeldAll B w' D S :=
  fun f hf => (h f hf).imp fun _ hv => ⟨hv.1, hv.2.grown hg hr⟩
/-- block m is a map that counts: 0 just where nothing was hit -/
def CMap (w : World) (m t : Nat) (Hit : List Int → Prop) : Prop :=
  ∃ Dm : DataW Value, w.ownsMap Tryz.prog 9 (plainElem Tryz.prog 3) m t Dm ∧ ∀ g, Vtx g → ∃ c : Int, Dm.atKey (klit g) (.lit (.int .i64 0)) = .lit (.int .i64 c) ∧ 0 ≤ c ∧ c ≤ t ∧ (c = 0 ↔ ¬ Hit g)
theorem CMap.below {C : Nat} {w w' : World} {m t : Nat} {Hit : List Int → Prop} (h : CMap w m t Hit) (hb : Below C w w') (hC : w.heap.size ≤ C) : CMap w' m t Hit := by
  obtain ⟨Dm, hown, hx⟩ := h
  have hlt := hown.lt
  obtain ⟨es, clock, e1, e2⟩ := hown
  exact ⟨Dm, ⟨es, clock, by rw [hb.block m (Nat.lt_of_lt_of_le hlt hC)]; exact e1, e2⟩, hx⟩
theorem CMap.grown {w w' : World} {m t : Nat} {Hit : List Int → Prop} {row : Option Nat} (h : CMap w m t Hit) (hg : w.grownBy w' row) (hr : some m ≠ row) : CMap w' m t Hit := by
  obtain ⟨Dm, hown, hx⟩ := h
  exact ⟨Dm, hown.kept hg hr, hx⟩
theorem CMap.iff {w : World} {m t : Nat} {Hit Hit' : List Int → Prop} (h : CMap w m t Hit) (hi : ∀ g, Hit g ↔ Hit' g) : CMap w m t Hit' := by
  obtain ⟨Dm, hown, hx⟩ := h
  exact ⟨Dm, hown, fun g hg => (hx g hg).imp fun c hc => ⟨hc.1, hc.2.1, hc.2.2.1, by rw [hc.2.2.2, hi]⟩⟩
theorem CMap.made (w : World) : CMap (w.alloc (.map #[] 0)) w.heap.size 0 (fun _ => False) :=
  ⟨.map [], World.ownsMap_made w _ _ _, fun g _ => ⟨0, rfl, Int.le_refl _, Int.le_refl _, by simp⟩⟩
theorem CMap.push {w w' : World} {m t : Nat} {Hit : List Int → Prop} {g : List Int} {c : Int} {Dm : DataW Value} (hown : w.ownsMap Tryz.prog 9 (plainElem Tryz.prog 3) m t Dm)
    (hx : ∀ g, Vtx g → ∃ c : Int, Dm.atKey (klit g) (.lit (.int .i64 0)) = .lit (.int .i64 c) ∧ 0 ≤ c ∧ c ≤ t ∧ (c = 0 ↔ ¬ Hit g)) (hv : Vtx g) (hc : Dm.atKey (klit g) (.lit (.int .i64 0)) = .lit (.int .i64 c))
    (hown' : w'.ownsMap Tryz.prog 9 (plainElem Tryz.prog 3) m (t + 1) (Dm.put (klit g) (.lit (.int .i64 (c + 1))))) : CMap w' m (t + 1) (fun x => Hit x ∨ x = g) := by
  refine ⟨_, hown', fun x hvx => ?_⟩
  have hm : Maps.IsMap Dm := hown.isMap
  obtain ⟨c0, e1, e2, e3, e4⟩ := hx g hv
  rw [hc] at e1
  have e5 : c = c0 := by simpa using e1
  by_cases e : x = g
  · subst e
    refine ⟨c + 1, Maps.atKey_put_same hm (klit_key x) _ _, by omega, by omega, ?_⟩
    exact ⟨fun h => by omega, fun h => absurd (Or.inr rfl) h⟩
  · obtain ⟨c1, f1, f2, f3, f4⟩ := hx x hvx
    refine ⟨c1, by rw [Maps.atKey_put_other (fun h => e (klit_inj hvx hv h))]; exact f1, f2, by omega, ?_⟩
    rw [f4]
    exact ⟨fun h h2 => h2.elim h e, fun h h2 => h (Or.inl h2)⟩
theorem zero_int (w : World) : (zeroValue 3).run Tryz.prog w = .ok (.int .i64 0) w := by kernel_rfl

/-- of its faces of at most k vertices a set has all parts -/
def Inv (S : List (List Int)) (k : Nat) : Prop := ∀ g ∈ S, g.length ≤ k → ∀ h, h.Sublist g → h ≠ [] → h ∈ S
def PartsPost (B b : Nat) (S : List (List Int)) (f : List Int) (w : World) (e : Ending) (w' : World) : Prop :=
  w.grownBy w' (some b) ∧
  ((e = .returned (.bool true) ∧ ∃ S', FMap B w' b S' ∧ S'.length ≤ 600 ∧ ∀ g, g ∈ S' ↔ (g ∈ S ∨ (g ≠ [] ∧ g.Sublist f))) ∨
   (e = .returned (.bool false) ∧ ∃ T : List (List Int), T.Nodup ∧ 600 < T.length ∧ ∀ g ∈ T, g ∈ S ∨ (g ≠ [] ∧ g.Sublist f)))
theorem below_grown {w w' : World} (h : Below w.heap.size w w') (row : Option Nat) : w.grownBy w' row := ⟨h.os, h.tape, h.output, h.size, fun i hi _ => h.block i hi⟩
/-- the faces when the first k parts are in -/
def InK (S : List (List Int)) (f : List Int) (k : Nat) (g : List Int) : Prop := g ∈ S ∨ g = f ∨ ∃ j, j < k ∧ g ≠ [] ∧ g.Sublist (f.eraseIdx j)
theorem inK_step {S : List (List Int)} {f : List Int} {k : Nat} {g : List Int} : InK S f (k + 1) g ↔ InK S f k g ∨ (g ≠ [] ∧ g.Sublist (f.eraseIdx k)) := by
  unfold InK
  constructor
  · rintro (h | h | ⟨j, h1, h2, h3⟩)
    · exact Or.inl (Or.inl h)
    · exact Or.inl (Or.inr (Or.inl h))
    · rcases (show j < k ∨ j = k by omega) with h | rfl
      · exact Or.inl (Or.inr (Or.inr ⟨j, h, h2, h3⟩))
      · exact Or.inr ⟨h2, h3⟩
  · rintro ((h | h | ⟨j, h1, h2, h3⟩) | ⟨h2, h3⟩)
    · exact Or.inl h
    · exact Or.inr (Or.inl h)
    · exact Or.inr (Or.inr ⟨j, by omega, h2, h3⟩)
    · exact Or.inr (Or.inr ⟨k, by omega, h2, h3⟩)
theorem inK_sub {S : List (List Int)} {f : List Int} {k : Nat} {g : List Int} (hf : f ≠ []) (h : InK S f k g) : g ∈ S ∨ (g ≠ [] ∧ g.Sublist f) := by
  rcases h with h | rfl | ⟨j, -, h2, h3⟩
  · exact Or.inl h
  · exact Or.inr ⟨hf, List.Sublist.refl _⟩
  · exact Or.inr ⟨h2, h3.trans (List.eraseIdx_sublist _ _)⟩
theorem inK_all {S : List (List Int)} {f : List Int} {g : List Int} (hf : f ≠ []) : InK S f f.length g ↔ g ∈ S ∨ (g ≠ [] ∧ g.Sublist f) := by
  refine ⟨inK_sub hf, ?_⟩
  rintro (h | ⟨h1, h2⟩)
  · exact Or.inl h
  · rcases Nat.lt_or_ge g.length f.length with h | h
    · obtain ⟨i, hi, h3⟩ := sub_erase h2 h
      exact Or.inr (Or.inr ⟨i, hi, h1, h3⟩)
    · exact Or.inr (Or.inl (h2.eq_of_length (by have := h2.length_le; omega)))
theorem inK_inv {S S' : List (List Int)} {f : List Int} {k n : Nat} (hn : f.length = n) (hp : 1 ≤ n) (hI : Inv S n) (hS : ∀ g, g ∈ S' ↔ InK S f k g) : Inv S' (n - 1) := by
  intro g hg hl h hs hne
  refine (hS h).2 ?_
  rcases (hS g).1 hg with h1 | rfl | ⟨j, h1, h2, h3⟩
  · exact Or.inl (hI g h1 (by omega) h hs hne)
  · omega
  · exact Or.inr (Or.inr ⟨j, h1, hne, hs.trans h3⟩)

set_option maxRecDepth 100000 in
set_option maxHeartbeats 16000000 in
theorem parts_any : ∀ (n : Nat) (f : List Int) (u : Value) (w : World) (b B : Nat) (S : List (List Int)), f.length = n → 1 ≤ n → n ≤ 12 → Vtx f → IntsIn B w u f → FMap B w b S → B ≤ b → S.length ≤ 600 → Inv S n →
    Calls Tryz.prog 128 #[u, .map (some b)] w (PartsPost B b S f w) := by
  intro n
  induction n using Nat.strongRecOn with
  | ind n ih =>
    intro f u w b B S hfn hn1 hn12 hvx hu hM hB hS6 hI
    obtain ⟨pu, cu, hue⟩ := hu.len
    rw [hfn] at hue
    subst hue
    have hne : f ≠ [] := List.length_pos_iff.1 (by omega)
    have HK := Lib.hid (fun wx (h : IntsIn B wx (.slice pu n cu) f) => key_any f _ wx h.at hvx (by omega))
    unfold Gives at HK
    have HKEY := Lib.hid (keyOf_key f (by omega))
    have HFN := Lib.hid hfn
    have HVX := Lib.hid hvx
    have HU := Lib.hid hu
    have HM := Lib.hid hM
    have HI := Lib.hid hI
    have HNE := Lib.hid hne
    have HIH := Lib.hid ih
    have HS6 := Lib.hid hS6
    have hblt := hM.lt
    clear hfn hvx hu hM hI hne ih hS6
    go_enter Tryz.func128, Tryz.ntmps128
    go_wp2_with fail
    refine (HK.out w HU.out).mono ?_
    rintro e w1 ⟨rfl, hb1⟩
    have HB1 := Lib.hid hb1
    have hM1 := HM.out.below hb1 (Nat.le_refl _)
    have HU1 := Lib.hid (HU.out.below hb1 (Nat.le_refl _))
    obtain ⟨D, hown, hsz, hnd, hvs, hhas, hget, honly⟩ := hM1
    have HOWN := Lib.hid hown
    have HSZ := Lib.hid hsz
    have HND := Lib.hid hnd
    have HVS := Lib.hid hvs
    have HHAS := Lib.hid hhas
    have HGET := Lib.hid hget
    have HONLY := Lib.hid honly
    clear hb1 hown hsz hnd hvs hhas hget honly
    by_cases hmem : f ∈ S
    · have hq : Maps.has D (klit f) = true := (HHAS.out f HVX.out).2 hmem
      have HMEM := Lib.hid hmem
      clear hmem
      go_wp2_with (at_lookup; refine wpList_lookup_own_ok _ rfl _ _ 136 rfl 9 23 (string_keyed Tryz.underlying9) Tryz.underlying136 valE (zero_ints _) (.held (.slice none 0 0)) [] rfl b S.length D rfl HOWN.out (keyS f) (klit f) rfl HKEY.out ?_; intro v ps hv)
      go_ret
      refine ⟨below_grown HB1.out _, Or.inl ⟨rfl, S, HM.out.below HB1.out (Nat.le_refl _), HS6.out, fun g => ⟨Or.inl, fun h => h.elim id fun ⟨h1, h2⟩ => ?_⟩⟩⟩
      exact HI.out f HMEM.out (by rw [HFN.out]; exact Nat.le_refl _) g h2 h1
    · have hq : Maps.has D (klit f) = false := by
        cases h : Maps.has D (klit f) with
        | false => rfl
        | true => exact absurd ((HHAS.out f HVX.out).1 h) hmem
      have HMEM := Lib.hid hmem
      clear hmem
      obtain ⟨s, hs⟩ : ∃ s, S.length = s := ⟨_, rfl⟩
      have HSS := Lib.hid hs
      have HS6' := Lib.hid HS6.out
      rw [hs] at HS6' HSZ HOWN
      have hsze := HSZ.out
      clear hs
      by_cases h600 : s = 600
      · subst h600
        go_wp2_with (first
          | (at_lookup; refine wpList_lookup_own_ok _ rfl _ _ 136 rfl 9 23 (string_keyed Tryz.underlying9) Tryz.underlying136 valE (zero_ints _) (.held (.slice none 0 0)) [] rfl b 600 D rfl HOWN.out (keyS f) (klit f) rfl HKEY.out ?_; intro v ps hv)
          | (at_len; refine wpList_len_own _ rfl _ 136 rfl 9 23 Tryz.underlying136 valE b 600 D rfl HOWN.out ?_))
        go_ret
        refine ⟨below_grown HB1.out _, Or.inr ⟨rfl, f :: S, List.nodup_cons.2 ⟨HMEM.out, HND.out⟩, by rw [List.length_cons, HSS.out]; decide, fun g hg => ?_⟩⟩
        rcases List.mem_cons.1 hg with rfl | h
        · exact Or.inr ⟨HNE.out, List.Sublist.refl _⟩
        · exact Or.inl h
      · have q6 : ((s : Int) == 600) = false := beq_eq_false_iff_ne.2 (by omega)
        have q6' : (s == 600) = false := beq_eq_false_iff_ne.2 h600
        have hs600 : s < 600 := by have := HS6'.out; omega
        clear h600
        go_wp2_with (first
          | (at_lookup; refine wpList_lookup_own_ok _ rfl _ _ 136 rfl 9 23 (string_keyed Tryz.underlying9) Tryz.underlying136 valE (zero_ints _) (.held (.slice none 0 0)) [] rfl b s D rfl HOWN.out (keyS f) (klit f) rfl HKEY.out ?_; intro v ps hv)
          | (at_len; refine wpList_len_own _ rfl _ 136 rfl 9 23 Tryz.underlying136 valE b s D rfl HOWN.out ?_))
        refine (HK.out w1 HU1.out).mono ?_
        rintro e w2 ⟨rfl, hb2⟩
        have hb02 := HB1.out.trans (hb2.mono HB1.out.size)
        have HB2 := Lib.hid hb02
        have HU2 := Lib.hid (HU.out.below hb02 (Nat.le_refl _))
        obtain ⟨D2, hown2, hsz2, hnd2, hvs2, hhas2, hget2, honly2⟩ := HM.out.below hb02 (Nat.le_refl _)
        have HPUSH := Lib.hid (fun w3 h3 hg3 => FMap.push (w := w2) (w' := w3) (v := .slice pu n cu) hB HVX.out HMEM.out HU2.out hown2 hsz2 hnd2 hvs2 hhas2 hget2 honly2 h3 hg3)
        rw [HSS.out] at hown2 HPUSH
        have HOWN2 := Lib.hid hown2
        clear hb2 hb02 hown2 hsz2 hnd2 hvs2 hhas2 hget2 honly2 hsze hq
        go_wp2_with (at_mapUpdate; refine wpList_mapUpdate_own _ rfl _ _ _ 136 rfl 9 23 (string_keyed Tryz.underlying9) Tryz.underlying136 valE b s D2 rfl HOWN2.out (by unfold maxLen; omega) _ _ (klit f) rfl rfl HKEY.out (.held (.slice pu n cu)) [] rfl ?_; intro w3 hown3 hgr3; have HM3 := Lib.hid (HPUSH.out w3 hown3 hgr3); have HG3 := Lib.hid ((below_grown HB2.out (some b)).trans hgr3); clear hown3 hgr3)
        have HSTART := Lib.hid (show ∀ g, g ∈ f :: S ↔ InK S f 0 g from fun g => by
          unfold InK
          rw [List.mem_cons]
          constructor
          · rintro (h | h)
            · exact Or.inr (Or.inl h)
            · exact Or.inl h
          · rintro (h | h | ⟨j, h, -⟩)
            · exact Or.inr h
            · exact Or.inl h
            · omega)
        have HLEN1 : Hid ((f :: S).length ≤ 600) := by unfold Hid; rw [List.length_cons, HSS.out]; omega
        go_loopw [25] (fun i wr => ∃ k : Nat, k ≤ n ∧ i = .int .i64 k ∧ w.grownBy wr (some b) ∧ ∃ S', FMap B wr b S' ∧ S'.length ≤ 600 ∧ ∀ g, g ∈ S' ↔ InK S f k g) (fun i _ => n - (intOf i).toNat)
        case atStart => exact ⟨0, Nat.zero_le _, rfl, HG3.out, f :: S, HM3.out, HLEN1.out, HSTART.out⟩
        case round =>
          obtain ⟨k, hk, rfl, hgr, S', hM', hl', hS'⟩ := hrel
          have HGR := Lib.hid hgr
          have HM' := Lib.hid hM'
          have HL' := Lib.hid hl'
          have HS' := Lib.hid hS'
          have HUR := Lib.hid (HU.out.grown hgr (fun q e => by cases e; exact ⟨hB, fun c => HM.out.obj c _ _⟩))
          clear hgr hM' hl' hS'
          by_cases hkn : k < n
          · by_cases h1 : n = 1
            · subst h1
              have HNX : Hid (∀ g, g ∈ S' ↔ InK S f (k + 1) g) := fun g => by
                rw [HS'.out, inK_step]
                refine ⟨Or.inl, fun h => h.elim id fun ⟨h2, h3⟩ => ?_⟩
                have h4 := h3.length_le
                rw [List.length_eraseIdx, HFN.out, if_pos hkn] at h4
                exact absurd (List.length_eq_zero_iff.1 (by omega)) h2
              go_wp2_with fail
              go_roundw
              case rel => exact ⟨k + 1, by omega, by go_num, HGR.out, S', HM'.out, HL'.out, HNX.out⟩
              case measure => simp [intOf]; omega
            · have q1 : decide (1 < (n : Int)) = true := decide_eq_true (by omega)
              have q1' : decide (1 < n) = true := decide_eq_true (by omega)
              have HC := Lib.hid (clone_any f (.slice pu n cu) wr HUR.out.at (by rw [HFN.out]; omega) (by rw [HFN.out]; omega))
              unfold ClonePost at HC
              rw [HFN.out] at HC
              have hn2 : 1 < n := by omega
              clear h1
              go_wp2_with fail
              refine HC.out.mono ?_
              rintro e w4 ⟨g, cap, rfl, hb4, ho4⟩
              have hg4 := (ho4.lt g rfl).1
              have HB4 := Lib.hid hb4
              have ho4' := ho4
              rw [← HFN.out] at ho4'
              have HD := Lib.hid (fun j hj => delete_any f wr.heap.size g cap k j hj w4 ho4' (by rw [HFN.out]; omega) (by rw [HFN.out]; exact hkn))
              unfold DeletePost at HD
              rw [HFN.out] at HD
              clear hb4 ho4 ho4' HC
              go_wp2_with fail
              refine (HD.out _ (by first | rfl | omega)).mono ?_
              rintro e w5 ⟨rfl, hg5, ho5⟩
              have hb5 : Below wr.heap.size wr w5 := grown_below HB4.out hg5 hg4
              have HB5 := Lib.hid hb5
              have hel : (f.eraseIdx k).length = n - 1 := by rw [List.length_eraseIdx, HFN.out, if_pos hkn]
              have hi5 : IntsIn B w5 (.slice (some ⟨g, 0, none⟩) (n - 1) cap) (f.eraseIdx k) := ints_owned ho5 hel.symm
              have HIH5 := Lib.hid (HIH.out (n - 1) (by omega) (f.eraseIdx k) (.slice (some ⟨g, 0, none⟩) (n - 1) cap) w5 b B S' hel (by omega) (by omega) (fun x hx => HVX.out x ((List.eraseIdx_sublist _ _).subset hx)) hi5 (HM'.out.below hb5 (Nat.le_refl _)) hB HL'.out (inK_inv HFN.out hn1 HI.out HS'.out))
              unfold PartsPost at HIH5
              clear hg5 ho5 hb5 hi5 HD
              go_wp2_with fail
              refine HIH5.out.mono ?_
              rintro e w6 ⟨hg6, h6⟩
              have HG6 := Lib.hid ((HGR.out.trans (below_grown HB5.out (some b))).trans hg6)
              clear hg6 HIH5 HIH HPUSH
              rcases h6 with ⟨rfl, S6, hM6, hl6, hS6⟩ | ⟨rfl, T, hT1, hT2, hT3⟩
              · have HM6 := Lib.hid hM6
                have HL6 := Lib.hid hl6
                have HS6N : Hid (∀ g, g ∈ S6 ↔ InK S f (k + 1) g) := fun g => by rw [hS6, HS'.out, inK_step]
                clear hM6 hl6 hS6
                go_wp2_with fail
                go_roundw
                case rel => exact ⟨k + 1, by omega, by go_num, HG6.out, S6, HM6.out, HL6.out, HS6N.out⟩
                case measure => simp [intOf]; omega
              · have HT1 := Lib.hid hT1
                have HT2 := Lib.hid hT2
                have HT3 := Lib.hid hT3
                clear hT1 hT2 hT3
                go_wp2_with fail
                go_ret
                refine ⟨HG6.out, Or.inr ⟨rfl, T, HT1.out, HT2.out, fun g hg => ?_⟩⟩
                rcases HT3.out g hg with h | ⟨h, h2⟩
                · exact inK_sub HNE.out ((HS'.out g).1 h)
                · exact Or.inr ⟨h, h2.trans (List.eraseIdx_sublist _ _)⟩
          · obtain rfl : k = n := by omega
            go_wp2_with fail
            go_ret
            refine ⟨HGR.out, Or.inl ⟨rfl, S', HM'.out, HL'.out, fun g => ?_⟩⟩
            rw [HS'.out, ← HFN.out, inK_all HNE.out]
end Go.Proofs.YtddnjimpdidpaaaGreatDoor
