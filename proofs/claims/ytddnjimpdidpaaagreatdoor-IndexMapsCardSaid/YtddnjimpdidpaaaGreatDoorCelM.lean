/-
  A map of faces: what its block is good for; looked up, counted, stored into.
-/
import Derived.Test.YtddnjimpdidpaaaGreatDoorCelF
import Derived.Maps.OwnSet
import Derived.Maps.OwnOps
import Derived.Maps.AppendAt
import Derived.Maps.RangeWalk
namespace Go.Proofs.YtddnjimpdidpaaaGreatDoor
open Go Go.RowKit Go.Maps

/-- an element, a slice, as it stands -/
def valE : Value → Option (DataW Value × List MemPlace)
  | .slice p n c => some (.held (.slice p n c), [])
  | _ => none
theorem valE_inv {v : Value} {y : DataW Value × List MemPlace} (h : valE v = some y) : ∃ x : Option Addr × Nat × Nat, v = .slice x.1 x.2.1 x.2.2 := by
  cases v with
  | slice p n c => exact ⟨(p, n, c), rfl⟩
  | _ => cases h
theorem key_inv {v : Value} {kl : Lit} (h : keyOf Tryz.prog 9 v = some kl) : ∃ x : ByteArray, v = .string x := by
  cases v with
  | string x => exact ⟨x, rfl⟩
  | _ => simp [keyOf, mapKey, Tryz.underlying9] at h
def klit (f : List Int) : Lit := .string (keyL f)
theorem klit_key (f : List Int) : WideAt.IsKeyLit (klit f) := by
  unfold klit; first | exact trivial | simp [WideAt.IsKeyLit]
theorem klit_inj {f g : List Int} (hf : Vtx f) (hg : Vtx g) (h : klit f = klit g) : f = g := by
  unfold klit at h
  exact keyL_inj hf hg (by simpa using h)
theorem keyOf_key (f : List Int) (h : f.length ≤ 100000) : keyOf Tryz.prog 9 (keyS f) = some (klit f) := by
  unfold keyS klit
  have hl : (keyL f).length = f.length := by unfold keyL; rw [List.length_map]
  simp [keyOf, mapKey, Tryz.underlying9, ByteArray.size, hl, maxLen]
  omega

/-- block b of w is a map that has just the faces S; each reads as itself -/
def FMap (B : Nat) (w : World) (b : Nat) (S : List (List Int)) : Prop :=
  ∃ D : DataW Value, w.ownsMap Tryz.prog 9 valE b S.length D ∧ Maps.size D = S.length ∧ S.Nodup ∧ (∀ f ∈ S, Vtx f) ∧
    (∀ f, Vtx f → (Maps.has D (klit f) = true ↔ f ∈ S)) ∧ (∀ f ∈ S, ∃ v, (∀ zd, D.atKey (klit f) zd = .held v) ∧ IntsIn B w v f) ∧ ∀ kl, Maps.has D kl = true → ∃ f ∈ S, kl = klit f
theorem FMap.obj {B : Nat} {w : World} {b : Nat} {S : List (List Int)} (h : FMap B w b S) : ∀ c t fr, w.heap[b]? ≠ some (.cells c t fr) := by
  obtain ⟨D, ⟨es, clock, hb, -⟩, -⟩ := h
  intro c t fr e
  rw [hb] at e; cases e
theorem FMap.lt {B : Nat} {w : World} {b : Nat} {S : List (List Int)} (h : FMap B w b S) : b < w.heap.size := by
  obtain ⟨D, h, -⟩ := h; exact h.lt
theorem FMap.below {B C : Nat} {w w' : World} {b : Nat} {S : List (List Int)} (h : FMap B w b S) (hb : Below C w w') (hC : w.heap.size ≤ C) : FMap B w' b S := by
  have hlt := h.lt
  obtain ⟨D, ⟨es, clock, e1, e2⟩, h1, h2, h3, h4, h5, h6⟩ := h
  exact ⟨D, ⟨es, clock, by rw [hb.block b (Nat.lt_of_lt_of_le hlt hC)]; exact e1, e2⟩, h1, h2, h3, h4, fun f hf => (h5 f hf).imp fun v hv => ⟨hv.1, hv.2.below hb hC⟩, h6⟩
theorem FMap.made (B : Nat) (w : World) : FMap B (w.alloc (.map #[] 0)) w.heap.size [] :=
  ⟨.map [], World.ownsMap_made w _ _ _, rfl, List.nodup_nil, (fun f h => by cases h), (fun f _ => by simp [Maps.has]), (fun f h => by cases h), fun kl h => by simp [Maps.has] at h⟩
theorem zero_ints (w : World) : (zeroValue 23).run Tryz.prog w = .ok (.slice none 0 0) w := by kernel_rfl
theorem FMap.push {B : Nat} {w w' : World} {b : Nat} {S : List (List Int)} {f : List Int} {v : Value} {D : DataW Value} (hB : B ≤ b) (hv : Vtx f) (hf : f ∉ S) (hi : IntsIn B w v f)
    (hown : w.ownsMap Tryz.prog 9 valE b S.length D) (h1 : Maps.size D = S.length) (h2 : S.Nodup) (h3 : ∀ g ∈ S, Vtx g) (h4 : ∀ g, Vtx g → (Maps.has D (klit g) = true ↔ g ∈ S))
    (h5 : ∀ g ∈ S, ∃ v, (∀ zd, D.atKey (klit g) zd = .held v) ∧ IntsIn B w v g) (h6 : ∀ kl, Maps.has D kl = true → ∃ g ∈ S, kl = klit g)
    (hown' : w'.ownsMap Tryz.prog 9 valE b (S.length + 1) (D.put (klit f) (.held v))) (hg : w.grownBy w' (some b)) : FMap B w' b (f :: S) := by
  have hm : Maps.IsMap D := hown.isMap
  have ht : Maps.Tidy D := hown.tidy (string_keyed Tryz.underlying9)
  have hr : ∀ k, some b = some k → B ≤ k ∧ ∀ c, w.heap[k]? ≠ some (.cells c 3 (0, 0)) := fun k e => by
    cases e
    obtain ⟨es, clock, hb, -⟩ := hown
    exact ⟨hB, fun c e => by rw [hb] at e; cases e⟩
  have hhas : Maps.has D (klit f) = false := by
    cases h : Maps.has D (klit f) with
    | false => rfl
    | true => exact absurd ((h4 f hv).1 h) hf
  refine ⟨D.put (klit f) (.held v), hown', ?_, List.nodup_cons.2 ⟨hf, h2⟩, fun g hg => ?_, fun g hgv => ?_, fun g hgm => ?_, fun kl hk => ?_⟩
  · rw [Maps.size_put ht, hhas, h1]; rfl
  · rcases List.mem_cons.1 hg with rfl | h
    · exact hv
    · exact h3 g h
  · rw [List.mem_cons]
    by_cases e : g = f
    · subst e
      exact ⟨fun _ => Or.inl rfl, fun _ => Maps.has_put_same hm (klit_key g) _⟩
    · rw [Maps.has_put_other (fun h => e (klit_inj hgv hv h)), h4 g hgv]
      exact ⟨Or.inr, fun h => h.elim (fun h => absurd h e) id⟩
  · rcases List.mem_cons.1 hgm with rfl | h
    · exact ⟨v, fun zd => Maps.atKey_put_same hm (klit_key g) _ _, hi.grown hg hr⟩
    · obtain ⟨v', e1, e2⟩ := h5 g h
      refine ⟨v', fun zd => ?_, e2.grown hg hr⟩
      rw [Maps.atKey_put_other (fun hh => hf (klit_inj (h3 g h) hv hh ▸ h))]; exact e1 zd
  · by_cases e : kl = klit f
    · exact ⟨f, List.mem_cons_self .., e⟩
    · rw [Maps.has_put_other e] at hk
      obtain ⟨g, h, e2⟩ := h6 kl hk
      exact ⟨g, List.mem_cons_of_mem _ h, e2⟩

/-- each face's slice stands in the map and reads as it -/
def HeldAll (B : Nat) (w : World) (D : DataW Value) (S : List (List Int)) : Prop := ∀ f ∈ S, ∃ v, (∀ zd, D.atKey (klit f) zd = .held v) ∧ IntsIn B w v f
theorem HeldAll.below {B C : Nat} {w w' : World} {D : DataW Value} {S : List (List Int)} (h : HeldAll B w D S) (hb : Below C w w') (hC : w.heap.size ≤ C) : HeldAll B w' D S :=
  fun f hf => (h f hf).imp fun _ hv => ⟨hv.1, hv.2.below hb hC⟩
theorem HeldAll.grown {B : Nat} {w w' : World} {D : DataW Value} {S : List (List Int)} {row : Option Nat} (h : HeldAll B w D S) (hg : w.grownBy w' row) (hr : ∀ k, row = some k → B ≤ k ∧ ∀ c, w.heap[k]? ≠ some (.cells c 3 (0, 0))) : HeldAll B w' D S :=
  fun f hf => (h f hf).imp fun _ hv => ⟨hv.1, hv.2.grown hg hr⟩
/-- block m is a map that counts: 0 just where nothing was hit -/
def CMap (w : World) (m t : Nat) (Hit : List Int → Prop) : Prop :=
  ∃ Dm : DataW Value, w.ownsMap Tryz.prog 9 (plainElem Tryz.prog 3) m t Dm ∧ ∀ g, Vtx g → ∃ c : Int, Dm.atKey (klit g) (.lit (.int .i64 0)) = .lit (.int .i64 c) ∧ 0 ≤ c ∧ c ≤ t ∧ (c = 0 ↔ ¬ Hit g)
theorem CMap.below {C : Nat} {w w' : World} {m t : Nat} {Hit : List Int → Prop} (h : CMap w m t Hit) (hb : Below C w w') (hC : w.heap.size ≤ C) : CMap w' m t Hit := by
  obtain ⟨Dm, hown, hx⟩ := h
  have hlt := hown.lt
  obtain ⟨es, clock, e1, e2⟩ := hown
  exact ⟨Dm, ⟨es, clock, by rw [hb.block m (Nat.lt_of_lt_of_le hlt hC)]; exact e1, e2⟩, hx⟩
theorem CMap.grown {w w' : World} {m t : Nat} {Hit : List Int → Prop} {row : Option Nat} (h : CMap w m t Hit) (hg : w.grownBy w' row) (hr : some m ≠ row) : CMap w' m t Hit := by
  obtain ⟨Dm, hown, hx⟩ := h
  exact ⟨Dm, hown.kept hg hr, hx⟩
theorem CMap.iff {w : World} {m t : Nat} {Hit Hit' : List Int → Prop} (h : CMap w m t Hit) (hi : ∀ g, Hit g ↔ Hit' g) : CMap w m t Hit' := by
  obtain ⟨Dm, hown, hx⟩ := h
  exact ⟨Dm, hown, fun g hg => (hx g hg).imp fun c hc => ⟨hc.1, hc.2.1, hc.2.2.1, by rw [hc.2.2.2, hi]⟩⟩
theorem CMap.made (w : World) : CMap (w.alloc (.map #[] 0)) w.heap.size 0 (fun _ => False) :=
  ⟨.map [], World.ownsMap_made w _ _ _, fun g _ => ⟨0, rfl, Int.le_refl _, Int.le_refl _, by simp⟩⟩
theorem CMap.push {w w' : World} {m t : Nat} {Hit : List Int → Prop} {g : List Int} {c : Int} {Dm : DataW Value} (hown : w.ownsMap Tryz.prog 9 (plainElem Tryz.prog 3) m t Dm)
    (hx : ∀ g, Vtx g → ∃ c : Int, Dm.atKey (klit g) (.lit (.int .i64 0)) = .lit (.int .i64 c) ∧ 0 ≤ c ∧ c ≤ t ∧ (c = 0 ↔ ¬ Hit g)) (hv : Vtx g) (hc : Dm.atKey (klit g) (.lit (.int .i64 0)) = .lit (.int .i64 c))
    (hown' : w'.ownsMap Tryz.prog 9 (plainElem Tryz.prog 3) m (t + 1) (Dm.put (klit g) (.lit (.int .i64 (c + 1))))) : CMap w' m (t + 1) (fun x => Hit x ∨ x = g) := by
  refine ⟨_, hown', fun x hvx => ?_⟩
  have hm : Maps.IsMap Dm := hown.isMap
  obtain ⟨c0, e1, e2, e3, e4⟩ := hx g hv
  rw [hc] at e1
  have e5 : c = c0 := by simpa using e1
  by_cases e : x = g
  · subst e
    refine ⟨c + 1, Maps.atKey_put_same hm (klit_key x) _ _, by omega, by omega, ?_⟩
    exact ⟨fun h => by omega, fun h => absurd (Or.inr rfl) h⟩
  · obtain ⟨c1, f1, f2, f3, f4⟩ := hx x hvx
    refine ⟨c1, by rw [Maps.atKey_put_other (fun h => e (klit_inj hvx hv h))]; exact f1, f2, by omega, ?_⟩
    rw [f4]
    exact ⟨fun h h2 => h2.elim h e, fun h h2 => h (Or.inl h2)⟩
theorem zero_int (w : World) : (zeroValue 3).run Tryz.prog w = .ok (.int .i64 0) w := by kernel_rfl
end Go.Proofs.YtddnjimpdidpaaaGreatDoor
