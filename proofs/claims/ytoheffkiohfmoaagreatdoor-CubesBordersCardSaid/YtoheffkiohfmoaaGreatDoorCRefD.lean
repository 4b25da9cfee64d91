/-
  The references' Closed by a contract: all faces of any sets, or the number of what is wrong. Conditions: the sets read as lists; bounds on their numbers.
-/
import Derived.Test.YtoheffkiohfmoaaGreatDoorCelB
import Derived.IntWalk
namespace Go.Proofs.YtoheffkiohfmoaaGreatDoor
open Go Go.RowKit

def ClosedPost (B : Nat) (L : List (List Int)) (w : World) (e : Ending) (w' : World) : Prop :=
  ∃ v, e = .returned (.tuple #[v, .int .i64 (errC L : Int)]) ∧ Below w.heap.size w w' ∧ (errC L = 0 → ListsIn B w' v (allF L)) ∧ (errC L ≠ 0 → v = .slice none 0 0)
theorem ret_vi {v : Value} {a b : Int} (h : a = b) : Ending.returned (.tuple #[v, .int .i64 a]) = .returned (.tuple #[v, .int .i64 b]) := by rw [h]
theorem closed_bad {B : Nat} {L : List (List Int)} {w w' : World} {k : Nat} {e : Ending} (hk : errC L = k) (h0 : k ≠ 0) (he : e = .returned (.tuple #[.slice none 0 0, .int .i64 (k : Int)])) (hb : Below w.heap.size w w') : ClosedPost B L w e w' :=
  ⟨_, by rw [hk]; exact he, hb, fun h => absurd (hk.symm.trans h) h0, fun _ => rfl⟩

def setsTo (L : List (List Int)) (j : Nat) : List (List Int) := (L.take j).map sortI
theorem setsTo_len {L : List (List Int)} {j : Nat} (h : j ≤ L.length) : (setsTo L j).length = j := by unfold setsTo; rw [List.length_map, List.length_take]; omega
theorem setsTo_snoc {L : List (List Int)} {j : Nat} (h : j < L.length) : setsTo L (j + 1) = setsTo L j ++ [sortI (L.getD j [])] := by
  unfold setsTo
  rw [take_snoc_getD [] L j h, List.map_append]; rfl
theorem setsTo_at {L : List (List Int)} {i : Nat} (h : i < L.length) : (setsTo L L.length).getD i [] = sortI (L.getD i []) := by
  unfold setsTo
  rw [List.take_length, List.getD_eq_getElem?_getD, List.getElem?_map, List.getElem?_eq_getElem h, List.getD_eq_getElem?_getD, List.getElem?_eq_getElem h]; rfl

/-- a sorted list of faces, in memory -/
def AllAt (B : Nat) (P : List Int → Prop) (w0 wr : World) (v : Value) : Prop :=
  ∃ A, SortedF A ∧ (∀ g, g ∈ A ↔ P g) ∧ A.length ≤ 600 ∧ Below w0.heap.size w0 wr ∧ ListsIn B wr v A ∧ (A = [] → v = .slice none 0 0)
theorem AllAt.below {B : Nat} {P : List Int → Prop} {w0 wr w' : World} {v : Value} (h : AllAt B P w0 wr v) (hb : Below wr.heap.size wr w') : AllAt B P w0 w' v := by
  obtain ⟨A, a1, a2, a3, a4, a5, a6⟩ := h
  exact ⟨A, a1, a2, a3, a4.trans (hb.mono a4.size), a5.below hb (Nat.le_refl _), a6⟩
theorem AllAt.iff {B : Nat} {P Q : List Int → Prop} {w0 wr : World} {v : Value} (h : AllAt B P w0 wr v) (hq : ∀ g, P g ↔ Q g) : AllAt B Q w0 wr v := by
  obtain ⟨A, a1, a2, a3⟩ := h
  exact ⟨A, a1, fun g => (a2 g).trans (hq g), a3⟩
theorem allF_of {A L : List (List Int)} (h : SortedF A) (hm : ∀ g, g ∈ A ↔ IsF L g) : A = allF L := h.ext (allF_sorted L) fun g => (hm g).trans mem_allF.symm
theorem pow_7 {n : Nat} (h : n ≤ 7) : 2 ^ n ≤ 128 := Nat.le_trans (Nat.pow_le_pow_right (by decide) h) (by decide)
theorem wrap_pow {n : Nat} (h : n ≤ 7) : IntKind.i64.wrap ((2 : Int) ^ n) = ((2 ^ n : Nat) : Int) := by
  have h1 := pow_7 h
  have e : (2 : Int) ^ n = ((2 ^ n : Nat) : Int) := by rw [Int.natCast_pow]; rfl
  rw [e]
  generalize 2 ^ n = p at h1 ⊢
  exact IntWalk.i64_in _ (by omega)
theorem div_pow (k q : Nat) : (k : Int) / 2 ^ q = ((k / 2 ^ q : Nat) : Int) := by
  rw [Int.natCast_ediv, Int.natCast_pow]; rfl

set_option maxRecDepth 100000 in
set_option maxHeartbeats 16000000 in
theorem closed_any (B : Nat) (L : List (List Int)) (v : Value) (w : World) (hB : B ≤ w.heap.size) (hv : ListsIn B w v L) (hn : L.length ≤ 100000) (hl : ∀ l ∈ L, l.length ≤ 100000) :
    Calls Tryz.prog 14 #[v] w (ClosedPost B L w) := by
  obtain ⟨i3, hi3, hz30, hz31, hz32⟩ := info_parts Tryz.info3
  obtain ⟨i39, hi39, hz0, hz1, hz2⟩ := info_parts Tryz.info51
  obtain ⟨pv, cv, hve, -⟩ := id hv
  obtain ⟨n, hLn⟩ : ∃ n, L.length = n := ⟨_, rfl⟩
  rw [hLn] at hve hn
  subst hve
  have HLN := Lib.hid hLn
  have HV := Lib.hid hv
  have HB := Lib.hid hB
  have HL := Lib.hid hl
  clear hLn hv hB hl
  go_enter Tryz.func14, Tryz.ntmps14
  go_wp2_with fail
  go_loopw [4, 5] (fun s i wr => ∃ j : Nat, j ≤ n ∧ i = .int .i64 j ∧ (∀ q, q < j → okSet (L.getD q [])) ∧ Below w.heap.size w wr ∧ RowsO w.heap.size B wr s (setsTo L j)) (fun _ i _ => n - (intOf i).toNat)
  case atStart => exact ⟨0, Nat.zero_le _, rfl, fun q h => absurd h (by omega), Below.refl _ _, RowsO.nil _ _ _⟩
  case round =>
    obtain ⟨j, hj, rfl, hok, hb, hR⟩ := hrel
    have HOK := Lib.hid hok
    have HBR := Lib.hid hb
    have HR := Lib.hid hR
    clear hok hb hR
    by_cases hjn : j < n
    · obtain ⟨b, off, c, x, hve, -, hc0, hix0⟩ := HV.out.at_ne j (by rw [HLN.out]; exact hjn)
      rw [HLN.out] at hve
      obtain ⟨rfl, rfl⟩ : pv = some ⟨b, off, none⟩ ∧ cv = c := by cases hve; exact ⟨rfl, rfl⟩
      have hcx := (HBR.out.cell (p := ⟨b, off + j, none⟩) (mem_lt hc0)).trans hc0
      have hix := hix0.below HBR.out (Nat.le_refl _)
      have hlj : (L.getD j []).length ≤ 100000 := HL.out _ (getL_mem (by rw [HLN.out]; exact hjn))
      have HS := Lib.hid (sorted_any (L.getD j []) x wr hix.at (by omega))
      clear hc0 hix0 hix hve
      go_wp2_with fail
      refine HS.out.mono ?_
      rintro e w1 ⟨vf, rfl, hb1, hof⟩
      have HB1 := Lib.hid (HBR.out.trans (hb1.mono HBR.out.size))
      have hif : IntsIn B w1 vf (setL (L.getD j [])) := ints_owned hof rfl
      have HF := Lib.hid hif
      have HR1 := Lib.hid (HR.out.below hb1 (Nat.le_refl _))
      have hcells : ∀ q, q < (setL (L.getD j [])).length → ∃ bf of, (∃ cf, vf = .slice (some ⟨bf, of, none⟩) (setL (L.getD j [])).length cf) ∧ w1.cell? ⟨bf, of + q, none⟩ = some (.int .i64 ((setL (L.getD j [])).getD q 0)) := fun q hq => by
        obtain ⟨p, cc, e0, -, -, hx⟩ := hif
        obtain ⟨bf, of, e1, e2, -⟩ := hx q hq
        subst e1
        exact ⟨bf, of, ⟨cc, e0⟩, e2⟩
      have HC := Lib.hid hcells
      have hfl : (setL (L.getD j [])).length ≤ 100000 := Nat.le_trans (setL_len _) hlj
      have HX := Lib.hid (show ∀ (a : setL (L.getD j []) = [] ∨ onceB (L.getD j []) = false ∨ (0 < (setL (L.getD j [])).length ∧ (setL (L.getD j [])).getD 0 0 < 0) ∨ (0 < (setL (L.getD j [])).length ∧ 99 < (setL (L.getD j [])).getD ((setL (L.getD j [])).length - 1) 0)), errC L = 4 from fun a => errC_4 (getL_mem (by rw [HLN.out]; exact hjn)) (not_okSet a))
      have HY := Lib.hid (show onceB (L.getD j []) = true → setL (L.getD j []) ≠ [] → 0 ≤ (setL (L.getD j [])).getD 0 0 → (setL (L.getD j [])).getD ((setL (L.getD j [])).length - 1) 0 ≤ 99 → okSet (L.getD j []) from fun a b c d => okSet_of a b c d)
      have HZ := Lib.hid (setsTo_snoc (L := L) (j := j) (by rw [HLN.out]; exact hjn))
      have HW := Lib.hid (fun h => setL_nodup (l := L.getD j []) h)
      obtain ⟨f, hff⟩ : ∃ f, setL (L.getD j []) = f := ⟨_, rfl⟩
      obtain ⟨oo, hoo⟩ : ∃ oo, onceB (L.getD j []) = oo := ⟨_, rfl⟩
      rw [hoo] at HX HY ⊢
      rw [hff] at HF HC HX HY HW hfl
      have HOO := Lib.hid hoo
      obtain ⟨pf, cf, hvf⟩ := HF.out.len
      obtain ⟨nf, hnf⟩ : ∃ nf, f.length = nf := ⟨_, rfl⟩
      rw [hnf] at hvf hfl HC HX HY
      subst hvf
      have HNF := Lib.hid hnf
      clear hb1 hof hif hcells hff hoo hnf hcx HS hlj
      by_cases h0 : nf = 0
      · subst h0
        have h4 := HX.out (Or.inl (List.length_eq_zero_iff.1 HNF.out))
        have H4 := Lib.hid h4
        clear h4
        go_wp2_with fail
        go_ret2
        exact closed_bad H4.out (by decide) rfl HB1.out
      have hp : 0 < nf := by omega
      have hne : f ≠ [] := List.length_pos_iff.1 (by rw [HNF.out]; exact hp)
      have q0 : ((nf : Int) == 0) = false := beq_eq_false_iff_ne.2 (by omega)
      have q0' : (nf == 0) = false := beq_eq_false_iff_ne.2 h0
      have HNE := Lib.hid hne
      clear hne h0
      cases oo with
      | false =>
        have H4 := Lib.hid (HX.out (Or.inr (Or.inl rfl)))
        go_wp2_with fail
        go_ret2
        exact closed_bad H4.out (by decide) rfl HB1.out
      | true =>
        obtain ⟨bf, of, ⟨cf', e⟩, hc1⟩ := HC.out 0 hp
        obtain ⟨bf', of', ⟨cf'', e'⟩, hc2⟩ := HC.out (nf - 1) (by omega)
        cases e
        cases e'
        rw [Nat.add_zero] at hc1
        have hsub : (nf : Int) - 1 = ((nf - 1 : Nat) : Int) := by omega
        by_cases ha : f.getD 0 0 < 0
        · have H4 := Lib.hid (HX.out (Or.inr (Or.inr (Or.inl ⟨hp, ha⟩))))
          have q1 : decide (f.getD 0 0 < 0) = true := decide_eq_true ha
          generalize f.getD 0 0 = z at hc1 q1
          clear ha hc2 hsub
          go_wp2_with fail
          go_ret2
          exact closed_bad H4.out (by decide) rfl HB1.out
        by_cases hz : 99 < f.getD (nf - 1) 0
        · have H4 := Lib.hid (HX.out (Or.inr (Or.inr (Or.inr ⟨hp, hz⟩))))
          have q1 : decide (f.getD 0 0 < 0) = false := decide_eq_false ha
          have q2 : decide (99 < f.getD (nf - 1) 0) = true := decide_eq_true hz
          generalize f.getD 0 0 = z at hc1 q1
          generalize f.getD (nf - 1) 0 = z2 at hc2 q2
          clear ha hz
          go_wp2_with fail
          go_ret2
          exact closed_bad H4.out (by decide) rfl HB1.out
        have HOKJ := Lib.hid (HY.out rfl HNE.out (by omega) (by omega))
        have HSF : Hid (f = sortI (L.getD j [])) := (HW.out HOKJ.out.2.1)
        have q1 : decide (f.getD 0 0 < 0) = false := decide_eq_false ha
        have q2 : decide (99 < f.getD (nf - 1) 0) = false := decide_eq_false hz
        generalize f.getD 0 0 = z at hc1 q1
        generalize f.getD (nf - 1) 0 = z2 at hc2 q2
        clear ha hz HX HY HW
        obtain ⟨hs1, ho1, hl1, hi1⟩ := HR1.out
        rw [setsTo_len (by rw [HLN.out]; exact hj)] at ho1
        have HO1 := Lib.hid ho1
        have HL1 := Lib.hid hl1
        have HI1 := Lib.hid hi1
        have hs1b := HB1.out.size
        clear ho1 hl1 hi1
        go_wp2_with (at_builtin; go_must (refine wpList_append_own _ rfl _ _ 22 rfl w.heap.size 51 i39 (.slice none 0 0) 1 24 Tryz.underlying22 hi39 hz0 hz1 hz2 rfl (by decide) _ j _ rfl (HO1.out.alloc _) ⟨w1.heap.size, 0, none⟩ 1 1 [.slice (some ⟨bf, of, none⟩) nf cf] rfl rfl (cells_new _ _ _) (fun u hu => by simp at hu; subst hu; rfl) (by unfold maxLen; omega) (by omega) (by simp; omega) ?_); intro v2 w2 hown2 hgr2 _; have HO2 := Lib.hid hown2; have HG2 := Lib.hid hgr2; clear hown2 hgr2)
        go_roundw
        case rel =>
          have hbA : Below w1.heap.size w1 (w1.alloc (.cells #[.slice (some ⟨bf, of, none⟩) nf cf] 51)) := (Below.refl _ _).alloc (Nat.le_refl _) _
          have hlen : (setsTo L j).length = j := setsTo_len (by rw [HLN.out]; exact hj)
          refine ⟨j + 1, by omega, by go_num, fun q hq => ?_, (HB1.out.alloc hs1b _).grown HG2.out (by simp; omega) (fun i hi => (HO1.out.lt i hi).1), ?_⟩
          · rcases (show q < j ∨ q = j by omega) with h | rfl
            · exact HOK.out q h
            · exact HOKJ.out
          · rw [HZ.out, ← HSF.out]
            exact rowsO_push (w := w1.alloc (.cells #[.slice (some ⟨bf, of, none⟩) nf cf] 51)) (hs := hs1) HB.out (by rw [hlen]; exact HO1.out.alloc _) (HL1.out) (fun i hi => (HI1.out i hi).below hbA (Nat.le_refl _)) (HF.out.below hbA (Nat.le_refl _)) (by rw [hlen]; exact HO2.out) HG2.out
        case measure => simp [intOf]; omega
    · obtain rfl : j = n := by omega
      have hokL : ∀ l ∈ L, okSet l := fun l hl => by
        obtain ⟨q, hq, rfl⟩ := List.getElem_of_mem hl
        have := HOK.out q (by rw [← HLN.out]; exact hq)
        rwa [List.getD_eq_getElem?_getD, List.getElem?_eq_getElem hq] at this
      have HOL := Lib.hid hokL
      have hLS := HR.out.lists
      obtain ⟨ps, cs, hse, -⟩ := id hLS
      rw [setsTo_len (by rw [HLN.out]; exact Nat.le_refl _)] at hse
      subst hse
      have HLS := Lib.hid hLS
      clear hokL hLS HOK HR
      obtain ⟨ws, rfl⟩ : ∃ ws : World, ws = wr := ⟨_, rfl⟩
      go_wp2_with fail
      go_loopw [8, 9] (fun al i wr => ∃ i' : Nat, i' ≤ j ∧ i = .int .i64 i' ∧ (∀ q, q < i' → (L.getD q []).length ≤ 7) ∧ AllAt B (IsF (L.take i')) ws wr al) (fun _ i _ => j - (intOf i).toNat)
      case atStart => exact ⟨0, Nat.zero_le _, rfl, fun q h => absurd h (by omega), [], List.Pairwise.nil, fun g => by simp [IsF], by simp, Below.refl _ _, ListsIn.nil _ _, fun _ => rfl⟩
      case round =>
        obtain ⟨i, hi, rfl, h7, hA⟩ := hrel
        have H7 := Lib.hid h7
        have HA := Lib.hid hA
        clear h7 hA
        by_cases hij : i < j
        · have hiL : i < L.length := by rw [HLN.out]; exact hij
          obtain ⟨b, off, c, x, hse, -, hc0, hix0⟩ := HLS.out.at_ne i (by rw [setsTo_len (by rw [HLN.out]; exact Nat.le_refl _)]; exact hij)
          rw [setsTo_len (by rw [HLN.out]; exact Nat.le_refl _)] at hse
          obtain ⟨rfl, rfl⟩ : ps = some ⟨b, off, none⟩ ∧ cs = c := by cases hse; exact ⟨rfl, rfl⟩
          have e0 : (setsTo L j).getD i [] = sortI (L.getD i []) := by rw [← HLN.out]; exact setsTo_at hiL
          rw [e0] at hix0
          have hmem := getL_mem hiL
          have H8 := Lib.hid (fun h : 7 < (L.getD i []).length => errC_2 HOL.out (Or.inl ⟨_, hmem, h⟩))
          have H6 := Lib.hid (fun (A : List (List Int)) k (hk : k ≤ 2 ^ (sortI (L.getD i [])).length) (hs : SortedF A) (hm : ∀ g, g ∈ A ↔ IsB L i (sortI (L.getD i [])) k g) (h : 600 < A.length) => errC_2 HOL.out (Or.inr (Nat.lt_of_lt_of_le h (len_le_of_members hs.nodup (allF_sorted L).nodup fun g hg => mem_allF.2 (isB_F hiL hk ((hm g).1 hg))))))
          have HEND := Lib.hid (fun g => (isB_end (L := L) hiL (g := g)))
          have HST := Lib.hid (show ∀ g, IsF (L.take i) g ↔ IsB L i (sortI (L.getD i [])) 1 g from fun g => ⟨Or.inl, fun h => h.elim id fun ⟨b, h1, h2, _⟩ => by omega⟩)
          have HLEN := Lib.hid (show ∀ k g, IsB L i (sortI (L.getD i [])) k g → g.length ≤ 100000 from fun k g h => h.elim (fun h => isF_len (fun l hl => HL.out l (List.mem_of_mem_take hl)) h) (fun ⟨b, _, _, e⟩ => by
            rw [e]
            have h1 := (bitsR_sub (sortI (L.getD i [])) b).length_le
            rw [sortI_len] at h1
            exact Nat.le_trans h1 (HL.out _ hmem)))
          have hsl := sortI_len (L.getD i [])
          obtain ⟨ln, hln⟩ : ∃ ln, (L.getD i []).length = ln := ⟨_, rfl⟩
          rw [hln] at hsl H8
          have HLI := Lib.hid hln
          obtain ⟨sI, hsI⟩ : ∃ sI, sortI (L.getD i []) = sI := ⟨_, rfl⟩
          rw [hsI] at hix0 H6 HEND HST HLEN hsl
          obtain ⟨px, cx, hx⟩ := hix0.len
          rw [hsl] at hx H6 HEND
          subst hx
          have HSL := Lib.hid hsl
          have HC0 := Lib.hid hc0
          have HX0 := Lib.hid hix0
          have hAb : Below ws.heap.size ws wr := by obtain ⟨A, -, -, -, h, -⟩ := HA.out; exact h
          have HBW := Lib.hid hAb
          have hcx := (hAb.cell (p := ⟨b, off + i, none⟩) (mem_lt hc0)).trans hc0
          clear hmem hln hsI hse e0 hc0 hix0 hAb hsl
          by_cases h8 : 7 < ln
          · have H2 := Lib.hid (H8.out h8)
            have q1 : decide (7 < (ln : Int)) = true := decide_eq_true (by omega)
            have q2 : decide (7 < ln) = true := decide_eq_true h8
            have HBF := Lib.hid (HBR.out.trans (HBW.out.mono HBR.out.size))
            clear h8
            go_wp2_with fail
            go_ret2
            exact closed_bad H2.out (by decide) rfl HBF.out
          have h8' : ln ≤ 7 := by omega
          have q1 : decide (7 < (ln : Int)) = false := decide_eq_false (by omega)
          have q2 : decide (7 < ln) = false := decide_eq_false h8
          clear h8
          have hwp := wrap_pow h8'
          have hp7 := pow_7 h8'
          have HP2 := Lib.hid (show (2 : Nat) ^ ln = 2 ^ ln from rfl)
          obtain ⟨p2, hp2⟩ : ∃ p2, 2 ^ ln = p2 := ⟨_, rfl⟩
          rw [hp2] at hwp hp7 H6 HEND
          have hp1 : 1 ≤ p2 := by rw [← hp2]; exact Nat.two_pow_pos _
          clear hp2 HP2
          go_wp2_with fail
          obtain ⟨wu, rfl⟩ : ∃ wu : World, wu = wr := ⟨_, rfl⟩
          go_loopw [8, 10] (fun al bt wr => ∃ k : Nat, 1 ≤ k ∧ k ≤ p2 ∧ bt = .int .i64 k ∧ AllAt B (IsB L i sI k) ws wr al ∧ Below wu.heap.size wu wr) (fun _ bt _ => p2 - (intOf bt).toNat)
          case atStart => exact ⟨1, Nat.le_refl _, hp1, rfl, HA.out.iff HST.out, Below.refl _ _⟩
          case round =>
            obtain ⟨k, hk1, hk2, rfl, hA, hbu⟩ := hrel
            have HA := Lib.hid hA
            have hcx := (hbu.cell (p := ⟨b, off + i, none⟩) (mem_lt hcx)).trans hcx
            have HBU := Lib.hid hbu
            clear hA hbu
            by_cases hkp : k < p2
            · have hkd : decide ((k : Int) < (p2 : Int)) = true := decide_eq_true (by omega)
              have HX := Lib.hid (HX0.out.below (HBW.out.trans (HBU.out.mono HBW.out.size)) (Nat.le_refl _))
              have HSTEP := Lib.hid (fun g => (isB_step (L := L) (i := i) (s := sI) hk1 (g := g)))
              go_wp2_with fail
              obtain ⟨wo, rfl⟩ : ∃ wo : World, wo = wr := ⟨_, rfl⟩
              go_loopw [11, 12] (fun fv q wr => ∃ q' : Nat, q' ≤ ln ∧ q = .int .i64 q' ∧ Below wo.heap.size wo wr ∧ wr.ownsRow wo.heap.size 3 1 fv (bitsTo sI k q').length (intVs (bitsTo sI k q'))) (fun _ q _ => ln - (intOf q).toNat)
              case atStart => exact ⟨0, Nat.zero_le _, rfl, Below.refl _ _, by
                have : bitsTo sI k 0 = [] := by unfold bitsTo; rfl
                rw [this]; exact World.ownsRow_nil _ _ _ _⟩
              case round =>
                obtain ⟨q, hq, rfl, hbo, hown⟩ := hrel
                have HBO := Lib.hid hbo
                have HOWN := Lib.hid hown
                have hcx := (hbo.cell (p := ⟨b, off + i, none⟩) (mem_lt hcx)).trans hcx
                have hbos := hbo.size
                clear hbo hown
                by_cases hql : q < ln
                · obtain ⟨pp, cc, hpe, -, -, hxx⟩ := HX.out
                  obtain ⟨bx, ox, rfl, hcq0, -⟩ := hxx q (by rw [HSL.out]; exact hql)
                  rw [HSL.out] at hpe
                  obtain ⟨rfl, rfl⟩ : px = some ⟨bx, ox, none⟩ ∧ cx = cc := by cases hpe; exact ⟨rfl, rfl⟩
                  have hcq := (HBO.out.cell (p := ⟨bx, ox + q, none⟩) (mem_lt hcq0)).trans hcq0
                  have HQ := Lib.hid (bitsTo_step sI k q (by rw [HSL.out]; exact hql))
                  have hdv := div_pow k q
                  have hbl : (bitsTo sI k q).length ≤ 7 := Nat.le_trans (bitsTo_len sI k q) (by omega)
                  obtain ⟨y, hy⟩ : ∃ y, k / 2 ^ q = y := ⟨_, rfl⟩
                  rw [hy] at hdv HQ
                  obtain ⟨z, hz⟩ : ∃ z, sI.getD q 0 = z := ⟨_, rfl⟩
                  rw [hz] at hcq HQ
                  obtain ⟨F, hF⟩ : ∃ F, bitsTo sI k q = F := ⟨_, rfl⟩
                  rw [hF] at HQ HOWN hbl
                  clear hy hz hpe hxx hcq0 hF
                  rcases (show y % 2 = 1 ∨ y % 2 = 0 by omega) with h1 | h1
                  · have q3 : (((y : Nat) : Int) % 2 == 1) = true := beq_iff_eq.2 (by omega)
                    have q4 : (y % 2 == 1) = true := beq_iff_eq.2 h1
                    rw [if_pos h1] at HQ
                    clear h1
                    go_wp2_with (at_builtin; go_must (refine wpList_append_own _ rfl _ _ 51 rfl wo.heap.size 3 i3 (.int .i64 0) 1 8 Tryz.underlying51 hi3 hz30 hz31 hz32 rfl (by decide) _ F.length _ rfl (HOWN.out.alloc _) ⟨wr.heap.size, 0, none⟩ 1 1 [.int .i64 z] rfl rfl (cells_new _ _ _) (fun u hu => by simp at hu; subst hu; rfl) (by unfold maxLen; omega) (by omega) (by simp; omega) ?_); intro v2 w2 hown2 hgr2 _; have HO2 := Lib.hid hown2; have HG2 := Lib.hid hgr2; clear hown2 hgr2)
                    go_roundw
                    case rel => exact ⟨q + 1, by omega, by go_num, (HBO.out.alloc hbos _).grown HG2.out (by simp; omega) (fun i hi => (HOWN.out.lt i hi).1), by rw [HQ.out, List.length_append]; simpa [intVs] using HO2.out⟩
                    case measure => simp [intOf]; omega
                  · have q3 : (((y : Nat) : Int) % 2 == 1) = false := beq_eq_false_iff_ne.2 (by omega)
                    have q4 : (y % 2 == 1) = false := beq_eq_false_iff_ne.2 (by omega)
                    rw [if_neg (by omega), List.append_nil] at HQ
                    clear h1
                    go_wp2_with fail
                    go_roundw
                    case rel => exact ⟨q + 1, by omega, by go_num, HBO.out, by rw [HQ.out]; exact HOWN.out⟩
                    case measure => simp [intOf]; omega
                · obtain rfl : q = ln := by omega
                  have hfull : bitsTo sI k q = bitsR sI k := by rw [← HSL.out]; exact bitsTo_all sI k
                  rw [hfull] at HOWN
                  have hbl : (bitsR sI k).length ≤ 7 := by have := (bitsR_sub sI k).length_le; rw [HSL.out] at this; omega
                  have hif : IntsIn B wr u11 (bitsR sI k) := ints_owned HOWN.out rfl
                  obtain ⟨A, a1, a2, a3, a4, a5, a6⟩ := HA.out.below HBO.out
                  have hlA : ∀ g ∈ A, g.length ≤ 1000000 := fun g hg => Nat.le_trans (HLEN.out k g ((a2 g).1 hg)) (by decide)
                  have hsz : B ≤ wr.heap.size := Nat.le_trans HB.out (Nat.le_trans HBR.out.size (Nat.le_trans HBW.out.size (Nat.le_trans HBU.out.size hbos)))
                  have HPUT := Lib.hid (put_any B A (bitsR sI k) u8 u11 wr hsz a1 a5 a6 hif (by omega) hlA (by omega))
                  have HA1 := Lib.hid (sorted_putF a1 (bitsR sI k))
                  have HA2 := Lib.hid (show ∀ g, g ∈ putF A (bitsR sI k) ↔ IsB L i sI (k + 1) g from fun g => by rw [mem_putF, a2, HSTEP.out])
                  have HA4 := Lib.hid a4
                  have HNE := Lib.hid (show putF A (bitsR sI k) ≠ [] from fun e => by
                    have : bitsR sI k ∈ putF A (bitsR sI k) := mem_putF.2 (Or.inr rfl)
                    rw [e] at this; cases this)
                  obtain ⟨PA, hPA⟩ : ∃ PA, putF A (bitsR sI k) = PA := ⟨_, rfl⟩
                  unfold PutPost at HPUT
                  rw [hPA] at HPUT HA1 HA2 HNE
                  obtain ⟨pf, cf, hvf⟩ := hif.len
                  obtain ⟨nf, hnf⟩ : ∃ nf, (bitsR sI k).length = nf := ⟨_, rfl⟩
                  rw [hnf] at hvf hbl
                  subst hvf
                  clear hfull hif a1 a2 a3 a4 a5 a6 hlA hsz hPA HOWN hnf
                  go_wp2_with fail
                  refine HPUT.out.mono ?_
                  rintro e w4 ⟨v4, rfl, hb4, hl4⟩
                  have HB4 := Lib.hid (HA4.out.trans (hb4.mono HA4.out.size))
                  have HL4 := Lib.hid hl4
                  obtain ⟨p4, c4, hv4, -⟩ := hl4
                  obtain ⟨n4, hn4⟩ : ∃ n4, PA.length = n4 := ⟨_, rfl⟩
                  rw [hn4] at hv4
                  subst hv4
                  have HN4 := Lib.hid hn4
                  have HBX := Lib.hid (HBU.out.trans ((HBO.out.trans (hb4.mono HBO.out.size)).mono HBU.out.size))
                  clear hb4 hn4 HPUT
                  by_cases h6 : 600 < n4
                  · have H2 := Lib.hid (H6.out PA (k + 1) (by omega) HA1.out HA2.out (by rw [HN4.out]; exact h6))
                    have q3 : decide (600 < (n4 : Int)) = true := decide_eq_true (by omega)
                    have q4 : decide (600 < n4) = true := decide_eq_true h6
                    have HBF := Lib.hid (HBR.out.trans (HB4.out.mono HBR.out.size))
                    clear h6
                    go_wp2_with fail
                    go_ret2
                    exact closed_bad H2.out (by decide) rfl HBF.out
                  · have q3 : decide (600 < (n4 : Int)) = false := decide_eq_false (by omega)
                    have q4 : decide (600 < n4) = false := decide_eq_false h6
                    have HA6 : Hid (PA.length ≤ 600) := by unfold Hid; rw [HN4.out]; omega
                    clear h6
                    go_wp2_with fail
                    go_roundw
                    case rel =>
                      refine ⟨k + 1, by omega, by omega, by go_num, ⟨PA, HA1.out, HA2.out, HA6.out, HB4.out, HL4.out, fun h => absurd h HNE.out⟩, HBX.out⟩
                    case measure => simp [intOf]; omega
            · obtain rfl : k = p2 := by omega
              have hkd : decide ((k : Int) < (k : Int)) = false := decide_eq_false (by omega)
              have HAN := Lib.hid (HA.out.iff HEND.out)
              have H7N : Hid (∀ q, q < i + 1 → (L.getD q []).length ≤ 7) := fun q hq => by
                rcases (show q < i ∨ q = i by omega) with h | rfl
                · exact H7.out q h
                · rw [HLI.out]; exact h8'
              go_wp2_with fail
              go_roundw
              case rel => exact ⟨i + 1, by omega, by go_num, H7N.out, HAN.out⟩
              case measure => simp [intOf]; omega
        · obtain rfl : i = j := by omega
          obtain ⟨A, a1, a2, a3, a4, a5, -⟩ := HA.out
          have hA : A = allF L := allF_of a1 fun g => by rw [a2, List.take_of_length_le (by rw [HLN.out]; exact Nat.le_refl _)]
          subst hA
          have h7 : ∀ l ∈ L, l.length ≤ 7 := fun l hl => by
            obtain ⟨q, hq, rfl⟩ := List.getElem_of_mem hl
            have := H7.out q (by rw [← HLN.out]; exact hq)
            rwa [List.getD_eq_getElem?_getD, List.getElem?_eq_getElem hq] at this
          have HE := Lib.hid (errC_0 HOL.out h7 a3)
          have HA5 := Lib.hid a5
          have HBF := Lib.hid (HBR.out.trans (a4.mono HBR.out.size))
          clear a1 a2 a3 a4 a5 h7
          go_wp2_with fail
          go_ret2
          exact ⟨_, ret_vi (by rw [HE.out]; rfl), HBF.out, fun _ => HA5.out, fun h => absurd HE.out h⟩
end Go.Proofs.YtoheffkiohfmoaaGreatDoor
