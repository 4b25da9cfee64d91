/-
  Opposite, SquareFault, OppositeOf by one contract each: 'Verdict' says what is wrong.
-/
import Derived.Test.YtnijedeopnjklaaDoorOppD1
import Derived.Test.YtnijedeopnjklaaDoorOppD2
import Derived.Test.YtnijedeopnjklaaDoorOppD3
import Derived.Test.YtnijedeopnjklaaDoorOppD4
import Derived.Test.YtnijedeopnjklaaDoorOppD5
import Derived.Test.YtnijedeopnjklaaDoorOppD6
import Derived.Test.YtnijedeopnjklaaDoorOppE1
import Derived.Test.YtnijedeopnjklaaDoorOppE2
import Derived.Test.YtnijedeopnjklaaDoorOppE3
import Derived.Test.YtnijedeopnjklaaDoorOppE4
import Derived.Test.YtnijedeopnjklaaDoorOppE5
import Derived.Test.YtnijedeopnjklaaDoorOppE6
import Derived.Test.YtnijedeopnjklaaDoorOppF
import Derived.Test.YtnijedeopnjklaaDoorRefB1
import Derived.Test.YtnijedeopnjklaaDoorRefB2
import Derived.Test.YtnijedeopnjklaaDoorRefB3
import Derived.Test.YtnijedeopnjklaaDoorRefB4
import Derived.Test.YtnijedeopnjklaaDoorRefB5
import Derived.Test.YtnijedeopnjklaaDoorRefB6
import Derived.Test.YtnijedeopnjklaaDoorTuckC1
import Derived.Test.YtnijedeopnjklaaDoorTuckC2
import Derived.Test.YtnijedeopnjklaaDoorTuckN
namespace Go.Proofs.YtnijedeopnjklaaDoor
open Go Go.RowKit

/-- the code and the place of what is wrong; 0: the labels are right -/
def Verdict (n : Int) (xs : List Int) (c k : Int) : Prop :=
  ((n < 1 ∨ 6 < n) ∧ c = 2 ∧ k = -1) ∨
  ∃ m : Nat, n = (m : Int) ∧ 1 ≤ m ∧ m ≤ 6 ∧
    ((xs.length ≠ (2 * m + 1) * (2 * m + 1) ∧ c = 3 ∧ k = -1) ∨
     (xs.length = (2 * m + 1) * (2 * m + 1) ∧
       ((∃ j : Nat, j < (2 * m + 1) * (2 * m + 1) ∧ fineK m xs j ∧ badAt m xs (j % (2 * m + 1)) (j / (2 * m + 1)) = true ∧ c = 8 ∧ k = (j : Int)) ∨
        (fineK m xs ((2 * m + 1) * (2 * m + 1)) ∧ c = 0 ∧ k = -1))))

theorem verdict (n : Int) (xs : List Int) : ∃ c k, Verdict n xs c k := by
  rcases (show (n < 1 ∨ 6 < n) ∨ (1 ≤ n ∧ n ≤ 6) by omega) with h | h
  · exact ⟨2, -1, Or.inl ⟨h, rfl, rfl⟩⟩
  · obtain ⟨m, rfl⟩ : ∃ m : Nat, n = (m : Int) := ⟨n.toNat, by omega⟩
    by_cases hl : xs.length = (2 * m + 1) * (2 * m + 1)
    · rcases first_bad m xs ((2 * m + 1) * (2 * m + 1)) with hf | ⟨j, h1, h2, h3⟩
      · exact ⟨0, -1, Or.inr ⟨m, rfl, by omega, by omega, Or.inr ⟨hl, Or.inr ⟨hf, rfl, rfl⟩⟩⟩⟩
      · exact ⟨8, j, Or.inr ⟨m, rfl, by omega, by omega, Or.inr ⟨hl, Or.inl ⟨j, h1, h2, h3, rfl, rfl⟩⟩⟩⟩
    · exact ⟨3, -1, Or.inr ⟨m, rfl, by omega, by omega, Or.inl ⟨hl, rfl, rfl⟩⟩⟩

def OppAny (a : Nat → Addr) (n : Int) (xs : List Int) (c k : Int) (w : World) (e : Ending) (w' : World) : Prop :=
  ∃ l err, e = .returned (.tuple #[l, err]) ∧ Below w.heap.size w w' ∧ ErrAt a w' err c k ∧
    ((c ≠ 0 ∧ l = .slice none 0 0) ∨
     (c = 0 ∧ ∃ m : Nat, n = (m : Int) ∧ 1 ≤ m ∧ m ≤ 6 ∧ xs.length = (2 * m + 1) * (2 * m + 1) ∧ fineK m xs ((2 * m + 1) * (2 * m + 1)) ∧
       w'.ownsRow w.heap.size 48 2 l (sort2 (outTo m xs ((2 * m + 1) * (2 * m + 1)))).length (cells2 (sort2 (outTo m xs ((2 * m + 1) * (2 * m + 1)))))))

theorem opp_any (a : Nat → Addr) (n : Int) (xs : List Int) (v : Value) (c k : Int) (w : World) (hS : Sents w a) (hv : IntsAt w v xs) (hV : Verdict n xs c k) :
    Calls Tryd.prog 12 #[.int .i64 n, v] w (OppAny a n xs c k w) := by
  obtain ⟨p, cap, rfl, hcap, hnone, hcells⟩ := hv
  rcases hV with ⟨h, rfl, rfl⟩ | ⟨m, rfl, hm1, hm, ⟨h, rfl, rfl⟩ | ⟨hl, h⟩⟩
  · refine (opp_bound a n p xs.length cap w hS h).mono fun e w' hp => ?_
    obtain ⟨v, he, hb, hE⟩ := hp
    exact ⟨_, v, he, hb, hE, Or.inl ⟨by decide, rfl⟩⟩
  · refine (opp_shape a m hm1 hm p xs.length cap w hS h).mono fun e w' hp => ?_
    obtain ⟨v, he, hb, hE⟩ := hp
    exact ⟨_, v, he, hb, hE, Or.inl ⟨by decide, rfl⟩⟩
  · have hpos : 0 < xs.length := by rw [hl]; exact Nat.mul_pos (by omega) (by omega)
    obtain ⟨b, off, rfl, -⟩ := hcells 0 hpos
    have hc : ∀ i, i < xs.length → w.cell? ⟨b, off + i, none⟩ = some (.int .i64 (xs.getD i 0)) := fun i hi => by
      obtain ⟨b', off', e1, e2⟩ := hcells i hi
      cases e1
      exact e2
    have hl2 := hl
    rw [hl] at hc ⊢
    rcases h with ⟨j, hj, hf, hb, rfl, rfl⟩ | ⟨hf, rfl, rfl⟩
    · have H : Calls Tryd.prog 12 #[.int .i64 (m : Int), .slice (some ⟨b, off, none⟩) ((2 * m + 1) * (2 * m + 1)) cap] w (BadPost a j w) := by
        rcases (show m = 1 ∨ m = 2 ∨ m = 3 ∨ m = 4 ∨ m = 5 ∨ m = 6 by omega) with rfl | rfl | rfl | rfl | rfl | rfl
        · exact opp_bad_1 a xs b off cap j w hS hj hc hf hb
        · exact opp_bad_2 a xs b off cap j w hS hj hc hf hb
        · exact opp_bad_3 a xs b off cap j w hS hj hc hf hb
        · exact opp_bad_4 a xs b off cap j w hS hj hc hf hb
        · exact opp_bad_5 a xs b off cap j w hS hj hc hf hb
        · exact opp_bad_6 a xs b off cap j w hS hj hc hf hb
      refine H.mono fun e w' hp => ?_
      obtain ⟨v, he, hb, hE⟩ := hp
      exact ⟨_, v, he, hb, hE, Or.inl ⟨by decide, rfl⟩⟩
    · have H : Calls Tryd.prog 12 #[.int .i64 (m : Int), .slice (some ⟨b, off, none⟩) ((2 * m + 1) * (2 * m + 1)) cap] w (OkPost m xs w) := by
        rcases (show m = 1 ∨ m = 2 ∨ m = 3 ∨ m = 4 ∨ m = 5 ∨ m = 6 by omega) with rfl | rfl | rfl | rfl | rfl | rfl
        · exact opp_ok_1 xs b off cap w hl hc hf
        · exact opp_ok_2 xs b off cap w hl hc hf
        · exact opp_ok_3 xs b off cap w hl hc hf
        · exact opp_ok_4 xs b off cap w hl hc hf
        · exact opp_ok_5 xs b off cap w hl hc hf
        · exact opp_ok_6 xs b off cap w hl hc hf
      refine H.mono fun e w' hp => ?_
      obtain ⟨v, he, hb, hO⟩ := hp
      exact ⟨v, _, he, hb, ErrAt.nil a w', Or.inr ⟨rfl, m, rfl, hm1, hm, hl2, hf, hO⟩⟩

def SFAny (c k : Int) (w : World) (e : Ending) (w' : World) : Prop := e = .returned (.agg #[.int .i64 c, .int .i64 k]) ∧ Below w.heap.size w w'
theorem sf_any (n : Int) (xs : List Int) (v : Value) (c k : Int) (w : World) (hv : IntsAt w v xs) (hwf : ∀ i, -9223372036854775808 ≤ xs.getD i 0 ∧ xs.getD i 0 ≤ 9223372036854775807) (hV : Verdict n xs c k) :
    Calls Tryd.prog 13 #[.int .i64 n, v] w (SFAny c k w) := by
  obtain ⟨p, cap, rfl, hcap, hnone, hcells⟩ := hv
  rcases hV with ⟨h, rfl, rfl⟩ | ⟨m, rfl, hm1, hm, ⟨h, rfl, rfl⟩ | ⟨hl, h⟩⟩
  · exact sf_bound n p xs.length cap w h
  · exact sf_shape m hm1 hm p xs.length cap w h
  · have hpos : 0 < xs.length := by rw [hl]; exact Nat.mul_pos (by omega) (by omega)
    obtain ⟨b, off, rfl, -⟩ := hcells 0 hpos
    have hc : ∀ i, i < xs.length → w.cell? ⟨b, off + i, none⟩ = some (.int .i64 (xs.getD i 0)) := fun i hi => by
      obtain ⟨b', off', e1, e2⟩ := hcells i hi
      cases e1
      exact e2
    rw [hl] at hc ⊢
    have H : Calls Tryd.prog 13 #[.int .i64 (m : Int), .slice (some ⟨b, off, none⟩) ((2 * m + 1) * (2 * m + 1)) cap] w (SFPost m xs w) := by
      rcases (show m = 1 ∨ m = 2 ∨ m = 3 ∨ m = 4 ∨ m = 5 ∨ m = 6 by omega) with rfl | rfl | rfl | rfl | rfl | rfl
      · exact sf_1 xs b off cap w hwf hc
      · exact sf_2 xs b off cap w hwf hc
      · exact sf_3 xs b off cap w hwf hc
      · exact sf_4 xs b off cap w hwf hc
      · exact sf_5 xs b off cap w hwf hc
      · exact sf_6 xs b off cap w hwf hc
    rcases h with ⟨j, hj, hf, hb, rfl, rfl⟩ | ⟨hf, rfl, rfl⟩
    · exact H.mono fun e w' hp => sf_bad hj hf hb hp
    · exact H.mono fun e w' hp => sf_fine hf hp

theorem ref_any (m : Nat) (hm1 : 1 ≤ m) (hm : m ≤ 6) (xs : List Int) (v : Value) (w : World) (hv : IntsAt w v xs) (hl : xs.length = (2 * m + 1) * (2 * m + 1)) (hf : fineK m xs ((2 * m + 1) * (2 * m + 1))) :
    Calls Tryd.prog 15 #[.int .i64 (m : Int), v] w fun e w' => ∃ v, e = .returned v ∧ Below w.heap.size w w' ∧ RowsAt 22 3 w' w.heap.size v ((sort2 (outTo m xs ((2 * m + 1) * (2 * m + 1)))).map pairI) := by
  obtain ⟨p, cap, rfl, hcap, hnone, hcells⟩ := hv
  have hpos : 0 < xs.length := by rw [hl]; exact Nat.mul_pos (by omega) (by omega)
  obtain ⟨b, off, rfl, -⟩ := hcells 0 hpos
  have hc : ∀ i, i < xs.length → w.cell? ⟨b, off + i, none⟩ = some (.int .i64 (xs.getD i 0)) := fun i hi => by
    obtain ⟨b', off', e1, e2⟩ := hcells i hi
    cases e1
    exact e2
  rw [hl] at hc ⊢
  have hbd := fun i (hi : i < (2 * m + 1) * (2 * m + 1)) => fine_bd hf i hi
  have hp : (refC m ((2 * m + 1) * (2 * m + 1)) ((2 * m + 1) * (2 * m + 1))).Perm (cand m ((2 * m + 1) * (2 * m + 1))) := by
    rcases (show m = 1 ∨ m = 2 ∨ m = 3 ∨ m = 4 ∨ m = 5 ∨ m = 6 by omega) with rfl | rfl | rfl | rfl | rfl | rfl
    · exact perm_1
    · exact perm_2
    · exact perm_3
    · exact perm_4
    · exact perm_5
    · exact perm_6
  rw [sort2_filter hp, ← refTo_eq]
  rcases (show m = 1 ∨ m = 2 ∨ m = 3 ∨ m = 4 ∨ m = 5 ∨ m = 6 by omega) with rfl | rfl | rfl | rfl | rfl | rfl
  · exact ref_1 xs b off cap w hc hbd
  · exact ref_2 xs b off cap w hc hbd
  · exact ref_3 xs b off cap w hc hbd
  · exact ref_4 xs b off cap w hc hbd
  · exact ref_5 xs b off cap w hc hbd
  · exact ref_6 xs b off cap w hc hbd

theorem ints_of_owns {w : World} {B : Nat} {v : Value} {xs : List Int} (h : w.ownsRow B 3 1 v xs.length (intVs xs)) : IntsAt w v xs := by
  rcases Joins.ownsRow_forms h with ⟨rfl, h0⟩ | ⟨g, cap, rfl⟩
  · obtain rfl : xs = [] := List.length_eq_zero_iff.1 h0
    exact IntsAt.nil w
  · have hadd : ∀ b j, (⟨b, 0, none⟩ : Addr).add j = ⟨b, j, none⟩ := fun b j => by unfold Addr.add; split <;> simp_all
    have hcap : xs.length ≤ cap := by
      rcases h.2 with ⟨he, _⟩ | ⟨g', cap', cur, he, _, _, hle, _⟩
      · cases he
      · cases he; exact hle
    refine ⟨_, cap, rfl, hcap, (fun e => by cases e), fun i hi => ⟨g, 0, rfl, ?_⟩⟩
    have := h.cells (g := g) rfl i (.int .i64 (xs.getD i 0)) (by simp [intVs, List.getElem?_eq_getElem hi, List.getD_eq_getElem?_getD])
    rw [hadd] at this
    rw [Nat.zero_add]; exact this
end Go.Proofs.YtnijedeopnjklaaDoor
