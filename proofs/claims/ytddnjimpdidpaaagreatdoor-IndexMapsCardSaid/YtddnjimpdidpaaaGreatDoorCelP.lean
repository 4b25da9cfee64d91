/-
  cells.parts by a contract: a face and all its parts put into a map; false: there are too many.
-/
import Derived.Test.YtddnjimpdidpaaaGreatDoorCelM
namespace Go.Proofs.YtddnjimpdidpaaaGreatDoor
open Go Go.RowKit Go.Maps

/-- of its faces of at most k vertices a set has all parts -/
def Inv (S : List (List Int)) (k : Nat) : Prop := ∀ g ∈ S, g.length ≤ k → ∀ h, h.Sublist g → h ≠ [] → h ∈ S
def PartsPost (B b : Nat) (S : List (List Int)) (f : List Int) (w : World) (e : Ending) (w' : World) : Prop :=
  w.grownBy w' (some b) ∧
  ((e = .returned (.bool true) ∧ ∃ S', FMap B w' b S' ∧ S'.length ≤ 600 ∧ ∀ g, g ∈ S' ↔ (g ∈ S ∨ (g ≠ [] ∧ g.Sublist f))) ∨
   (e = .returned (.bool false) ∧ ∃ T : List (List Int), T.Nodup ∧ 600 < T.length ∧ ∀ g ∈ T, g ∈ S ∨ (g ≠ [] ∧ g.Sublist f)))
theorem below_grown {w w' : World} (h : Below w.heap.size w w') (row : Option Nat) : w.grownBy w' row := ⟨h.os, h.tape, h.output, h.size, fun i hi _ => h.block i hi⟩
/-- the faces when the first k parts are in -/
def InK (S : List (List Int)) (f : List Int) (k : Nat) (g : List Int) : Prop := g ∈ S ∨ g = f ∨ ∃ j, j < k ∧ g ≠ [] ∧ g.Sublist (f.eraseIdx j)
theorem inK_step {S : List (List Int)} {f : List Int} {k : Nat} {g : List Int} : InK S f (k + 1) g ↔ InK S f k g ∨ (g ≠ [] ∧ g.Sublist (f.eraseIdx k)) := by
  unfold InK
  constructor
  · rintro (h | h | ⟨j, h1, h2, h3⟩)
    · exact Or.inl (Or.inl h)
    · exact Or.inl (Or.inr (Or.inl h))
    · rcases (show j < k ∨ j = k by omega) with h | rfl
      · exact Or.inl (Or.inr (Or.inr ⟨j, h, h2, h3⟩))
      · exact Or.inr ⟨h2, h3⟩
  · rintro ((h | h | ⟨j, h1, h2, h3⟩) | ⟨h2, h3⟩)
    · exact Or.inl h
    · exact Or.inr (Or.inl h)
    · exact Or.inr (Or.inr ⟨j, by omega, h2, h3⟩)
    · exact Or.inr (Or.inr ⟨k, by omega, h2, h3⟩)
theorem inK_sub {S : List (List Int)} {f : List Int} {k : Nat} {g : List Int} (hf : f ≠ []) (h : InK S f k g) : g ∈ S ∨ (g ≠ [] ∧ g.Sublist f) := by
  rcases h with h | rfl | ⟨j, -, h2, h3⟩
  · exact Or.inl h
  · exact Or.inr ⟨hf, List.Sublist.refl _⟩
  · exact Or.inr ⟨h2, h3.trans (List.eraseIdx_sublist _ _)⟩
theorem inK_all {S : List (List Int)} {f : List Int} {g : List Int} (hf : f ≠ []) : InK S f f.length g ↔ g ∈ S ∨ (g ≠ [] ∧ g.Sublist f) := by
  refine ⟨inK_sub hf, ?_⟩
  rintro (h | ⟨h1, h2⟩)
  · exact Or.inl h
  · rcases Nat.lt_or_ge g.length f.length with h | h
    · obtain ⟨i, hi, h3⟩ := sub_erase h2 h
      exact Or.inr (Or.inr ⟨i, hi, h1, h3⟩)
    · exact Or.inr (Or.inl (h2.eq_of_length (by have := h2.length_le; omega)))
theorem inK_inv {S S' : List (List Int)} {f : List Int} {k n : Nat} (hn : f.length = n) (hp : 1 ≤ n) (hI : Inv S n) (hS : ∀ g, g ∈ S' ↔ InK S f k g) : Inv S' (n - 1) := by
  intro g hg hl h hs hne
  refine (hS h).2 ?_
  rcases (hS g).1 hg with h1 | rfl | ⟨j, h1, h2, h3⟩
  · exact Or.inl (hI g h1 (by omega) h hs hne)
  · omega
  · exact Or.inr (Or.inr ⟨j, h1, hne, hs.trans h3⟩)

set_option maxRecDepth 100000 in
set_option maxHeartbeats 16000000 in
theorem parts_any : ∀ (n : Nat) (f : List Int) (u : Value) (w : World) (b B : Nat) (S : List (List Int)), f.length = n → 1 ≤ n → n ≤ 12 → Vtx f → IntsIn B w u f → FMap B w b S → B ≤ b → S.length ≤ 600 → Inv S n →
    Calls Tryz.prog 128 #[u, .map (some b)] w (PartsPost B b S f w) := by
  intro n
  induction n using Nat.strongRecOn with
  | ind n ih =>
    intro f u w b B S hfn hn1 hn12 hvx hu hM hB hS6 hI
    obtain ⟨pu, cu, hue⟩ := hu.len
    rw [hfn] at hue
    subst hue
    have hne : f ≠ [] := List.length_pos_iff.1 (by omega)
    have HK := Lib.hid (fun wx (h : IntsIn B wx (.slice pu n cu) f) => key_any f _ wx h.at hvx (by omega))
    unfold Gives at HK
    have HKEY := Lib.hid (keyOf_key f (by omega))
    have HFN := Lib.hid hfn
    have HVX := Lib.hid hvx
    have HU := Lib.hid hu
    have HM := Lib.hid hM
    have HI := Lib.hid hI
    have HNE := Lib.hid hne
    have HIH := Lib.hid ih
    have HS6 := Lib.hid hS6
    have hblt := hM.lt
    clear hfn hvx hu hM hI hne ih hS6
    go_enter Tryz.func128, Tryz.ntmps128
    go_wp2_with fail
    refine (HK.out w HU.out).mono ?_
    rintro e w1 ⟨rfl, hb1⟩
    have HB1 := Lib.hid hb1
    have hM1 := HM.out.below hb1 (Nat.le_refl _)
    have HU1 := Lib.hid (HU.out.below hb1 (Nat.le_refl _))
    obtain ⟨D, hown, hsz, hnd, hvs, hhas, hget, honly⟩ := hM1
    have HOWN := Lib.hid hown
    have HSZ := Lib.hid hsz
    have HND := Lib.hid hnd
    have HVS := Lib.hid hvs
    have HHAS := Lib.hid hhas
    have HGET := Lib.hid hget
    have HONLY := Lib.hid honly
    clear hb1 hown hsz hnd hvs hhas hget honly
    by_cases hmem : f ∈ S
    · have hq : Maps.has D (klit f) = true := (HHAS.out f HVX.out).2 hmem
      have HMEM := Lib.hid hmem
      clear hmem
      go_wp2_with (at_lookup; refine wpList_lookup_own_ok _ rfl _ _ 136 rfl 9 23 (string_keyed Tryz.underlying9) Tryz.underlying136 valE (zero_ints _) (.held (.slice none 0 0)) [] rfl b S.length D rfl HOWN.out (keyS f) (klit f) rfl HKEY.out ?_; intro v ps hv)
      go_ret
      refine ⟨below_grown HB1.out _, Or.inl ⟨rfl, S, HM.out.below HB1.out (Nat.le_refl _), HS6.out, fun g => ⟨Or.inl, fun h => h.elim id fun ⟨h1, h2⟩ => ?_⟩⟩⟩
      exact HI.out f HMEM.out (by rw [HFN.out]; exact Nat.le_refl _) g h2 h1
    · have hq : Maps.has D (klit f) = false := by
        cases h : Maps.has D (klit f) with
        | false => rfl
        | true => exact absurd ((HHAS.out f HVX.out).1 h) hmem
      have HMEM := Lib.hid hmem
      clear hmem
      obtain ⟨s, hs⟩ : ∃ s, S.length = s := ⟨_, rfl⟩
      have HSS := Lib.hid hs
      have HS6' := Lib.hid HS6.out
      rw [hs] at HS6' HSZ HOWN
      have hsze := HSZ.out
      clear hs
      by_cases h600 : s = 600
      · subst h600
        go_wp2_with (first
          | (at_lookup; refine wpList_lookup_own_ok _ rfl _ _ 136 rfl 9 23 (string_keyed Tryz.underlying9) Tryz.underlying136 valE (zero_ints _) (.held (.slice none 0 0)) [] rfl b 600 D rfl HOWN.out (keyS f) (klit f) rfl HKEY.out ?_; intro v ps hv)
          | (at_len; refine wpList_len_own _ rfl _ 136 rfl 9 23 Tryz.underlying136 valE b 600 D rfl HOWN.out ?_))
        go_ret
        refine ⟨below_grown HB1.out _, Or.inr ⟨rfl, f :: S, List.nodup_cons.2 ⟨HMEM.out, HND.out⟩, by rw [List.length_cons, HSS.out]; decide, fun g hg => ?_⟩⟩
        rcases List.mem_cons.1 hg with rfl | h
        · exact Or.inr ⟨HNE.out, List.Sublist.refl _⟩
        · exact Or.inl h
      · have q6 : ((s : Int) == 600) = false := beq_eq_false_iff_ne.2 (by omega)
        have q6' : (s == 600) = false := beq_eq_false_iff_ne.2 h600
        have hs600 : s < 600 := by have := HS6'.out; omega
        clear h600
        go_wp2_with (first
          | (at_lookup; refine wpList_lookup_own_ok _ rfl _ _ 136 rfl 9 23 (string_keyed Tryz.underlying9) Tryz.underlying136 valE (zero_ints _) (.held (.slice none 0 0)) [] rfl b s D rfl HOWN.out (keyS f) (klit f) rfl HKEY.out ?_; intro v ps hv)
          | (at_len; refine wpList_len_own _ rfl _ 136 rfl 9 23 Tryz.underlying136 valE b s D rfl HOWN.out ?_))
        refine (HK.out w1 HU1.out).mono ?_
        rintro e w2 ⟨rfl, hb2⟩
        have hb02 := HB1.out.trans (hb2.mono HB1.out.size)
        have HB2 := Lib.hid hb02
        have HU2 := Lib.hid (HU.out.below hb02 (Nat.le_refl _))
        obtain ⟨D2, hown2, hsz2, hnd2, hvs2, hhas2, hget2, honly2⟩ := HM.out.below hb02 (Nat.le_refl _)
        have HPUSH := Lib.hid (fun w3 h3 hg3 => FMap.push (w := w2) (w' := w3) (v := .slice pu n cu) hB HVX.out HMEM.out HU2.out hown2 hsz2 hnd2 hvs2 hhas2 hget2 honly2 h3 hg3)
        rw [HSS.out] at hown2 HPUSH
        have HOWN2 := Lib.hid hown2
        clear hb2 hb02 hown2 hsz2 hnd2 hvs2 hhas2 hget2 honly2 hsze hq
        go_wp2_with (at_mapUpdate; refine wpList_mapUpdate_own _ rfl _ _ _ 136 rfl 9 23 (string_keyed Tryz.underlying9) Tryz.underlying136 valE b s D2 rfl HOWN2.out (by unfold maxLen; omega) _ _ (klit f) rfl rfl HKEY.out (.held (.slice pu n cu)) [] rfl ?_; intro w3 hown3 hgr3; have HM3 := Lib.hid (HPUSH.out w3 hown3 hgr3); have HG3 := Lib.hid ((below_grown HB2.out (some b)).trans hgr3); clear hown3 hgr3)
        have HSTART := Lib.hid (show ∀ g, g ∈ f :: S ↔ InK S f 0 g from fun g => by
          unfold InK
          rw [List.mem_cons]
          constructor
          · rintro (h | h)
            · exact Or.inr (Or.inl h)
            · exact Or.inl h
          · rintro (h | h | ⟨j, h, -⟩)
            · exact Or.inr h
            · exact Or.inl h
            · omega)
        have HLEN1 : Hid ((f :: S).length ≤ 600) := by unfold Hid; rw [List.length_cons, HSS.out]; omega
        go_loopw [25] (fun i wr => ∃ k : Nat, k ≤ n ∧ i = .int .i64 k ∧ w.grownBy wr (some b) ∧ ∃ S', FMap B wr b S' ∧ S'.length ≤ 600 ∧ ∀ g, g ∈ S' ↔ InK S f k g) (fun i _ => n - (intOf i).toNat)
        case atStart => exact ⟨0, Nat.zero_le _, rfl, HG3.out, f :: S, HM3.out, HLEN1.out, HSTART.out⟩
        case round =>
          obtain ⟨k, hk, rfl, hgr, S', hM', hl', hS'⟩ := hrel
          have HGR := Lib.hid hgr
          have HM' := Lib.hid hM'
          have HL' := Lib.hid hl'
          have HS' := Lib.hid hS'
          have HUR := Lib.hid (HU.out.grown hgr (fun q e => by cases e; exact ⟨hB, fun c => HM.out.obj c _ _⟩))
          clear hgr hM' hl' hS'
          by_cases hkn : k < n
          · by_cases h1 : n = 1
            · subst h1
              have HNX : Hid (∀ g, g ∈ S' ↔ InK S f (k + 1) g) := fun g => by
                rw [HS'.out, inK_step]
                refine ⟨Or.inl, fun h => h.elim id fun ⟨h2, h3⟩ => ?_⟩
                have h4 := h3.length_le
                rw [List.length_eraseIdx, HFN.out, if_pos hkn] at h4
                exact absurd (List.length_eq_zero_iff.1 (by omega)) h2
              go_wp2_with fail
              go_roundw
              case rel => exact ⟨k + 1, by omega, by go_num, HGR.out, S', HM'.out, HL'.out, HNX.out⟩
              case measure => simp [intOf]; omega
            · have q1 : decide (1 < (n : Int)) = true := decide_eq_true (by omega)
              have q1' : decide (1 < n) = true := decide_eq_true (by omega)
              have HC := Lib.hid (clone_any f (.slice pu n cu) wr HUR.out.at (by rw [HFN.out]; omega) (by rw [HFN.out]; omega))
              unfold ClonePost at HC
              rw [HFN.out] at HC
              have hn2 : 1 < n := by omega
              clear h1
              go_wp2_with fail
              refine HC.out.mono ?_
              rintro e w4 ⟨g, cap, rfl, hb4, ho4⟩
              have hg4 := (ho4.lt g rfl).1
              have HB4 := Lib.hid hb4
              have ho4' := ho4
              rw [← HFN.out] at ho4'
              have HD := Lib.hid (fun j hj => delete_any f wr.heap.size g cap k j hj w4 ho4' (by rw [HFN.out]; omega) (by rw [HFN.out]; exact hkn))
              unfold DeletePost at HD
              rw [HFN.out] at HD
              clear hb4 ho4 ho4' HC
              go_wp2_with fail
              refine (HD.out _ (by first | rfl | omega)).mono ?_
              rintro e w5 ⟨rfl, hg5, ho5⟩
              have hb5 : Below wr.heap.size wr w5 := grown_below HB4.out hg5 hg4
              have HB5 := Lib.hid hb5
              have hel : (f.eraseIdx k).length = n - 1 := by rw [List.length_eraseIdx, HFN.out, if_pos hkn]
              have hi5 : IntsIn B w5 (.slice (some ⟨g, 0, none⟩) (n - 1) cap) (f.eraseIdx k) := ints_owned ho5 hel.symm
              have HIH5 := Lib.hid (HIH.out (n - 1) (by omega) (f.eraseIdx k) (.slice (some ⟨g, 0, none⟩) (n - 1) cap) w5 b B S' hel (by omega) (by omega) (fun x hx => HVX.out x ((List.eraseIdx_sublist _ _).subset hx)) hi5 (HM'.out.below hb5 (Nat.le_refl _)) hB HL'.out (inK_inv HFN.out hn1 HI.out HS'.out))
              unfold PartsPost at HIH5
              clear hg5 ho5 hb5 hi5 HD
              go_wp2_with fail
              refine HIH5.out.mono ?_
              rintro e w6 ⟨hg6, h6⟩
              have HG6 := Lib.hid ((HGR.out.trans (below_grown HB5.out (some b))).trans hg6)
              clear hg6 HIH5 HIH HPUSH
              rcases h6 with ⟨rfl, S6, hM6, hl6, hS6⟩ | ⟨rfl, T, hT1, hT2, hT3⟩
              · have HM6 := Lib.hid hM6
                have HL6 := Lib.hid hl6
                have HS6N : Hid (∀ g, g ∈ S6 ↔ InK S f (k + 1) g) := fun g => by rw [hS6, HS'.out, inK_step]
                clear hM6 hl6 hS6
                go_wp2_with fail
                go_roundw
                case rel => exact ⟨k + 1, by omega, by go_num, HG6.out, S6, HM6.out, HL6.out, HS6N.out⟩
                case measure => simp [intOf]; omega
              · have HT1 := Lib.hid hT1
                have HT2 := Lib.hid hT2
                have HT3 := Lib.hid hT3
                clear hT1 hT2 hT3
                go_wp2_with fail
                go_ret
                refine ⟨HG6.out, Or.inr ⟨rfl, T, HT1.out, HT2.out, fun g hg => ?_⟩⟩
                rcases HT3.out g hg with h | ⟨h, h2⟩
                · exact inK_sub HNE.out ((HS'.out g).1 h)
                · exact Or.inr ⟨h, h2.trans (List.eraseIdx_sublist _ _)⟩
          · obtain rfl : k = n := by omega
            go_wp2_with fail
            go_ret
            refine ⟨HGR.out, Or.inl ⟨rfl, S', HM'.out, HL'.out, fun g => ?_⟩⟩
            rw [HS'.out, ← HFN.out, inK_all HNE.out]
end Go.Proofs.YtddnjimpdidpaaaGreatDoor
