/-
  The small triangles of a triangle in 1 to 12 parts, written out, and what holds of them (written by a program of mine).
-/
import Derived.Test.YtnijedeopnjklaaGreatDoorSmallD
import Derived.Test.YtnijedeopnjklaaGreatDoorSperO
namespace Go.Proofs.YtnijedeopnjklaaGreatDoor
open Go Go.RowKit Sper

def sortedB : List (Nat × Nat × Nat) → Bool
  | x :: y :: r => lt3 x y && sortedB (y :: r)
  | _ => true
theorem lt3_trans {x y z : Nat × Nat × Nat} (h1 : lt3 x y = true) (h2 : lt3 y z = true) : lt3 x z = true := by
  simp only [lt3, decide_eq_true_eq] at *; omega
theorem sortedB_head : ∀ (x : Nat × Nat × Nat) (r : List (Nat × Nat × Nat)), sortedB (x :: r) = true → ∀ y ∈ r, lt3 x y = true
  | x, [], _, y, hy => by cases hy
  | x, z :: r, h, y, hy => by
    simp only [sortedB, Bool.and_eq_true] at h
    rcases List.mem_cons.1 hy with rfl | hy
    · exact h.1
    · exact lt3_trans h.1 (sortedB_head z r h.2 y hy)
theorem sortedB_pairwise : ∀ l : List (Nat × Nat × Nat), sortedB l = true → l.Pairwise fun x y => lt3 x y = true
  | [], _ => List.Pairwise.nil
  | x :: r, h => by
    refine List.Pairwise.cons (sortedB_head x r h) (sortedB_pairwise r ?_)
    cases r with
    | nil => rfl
    | cons y r => simp only [sortedB, Bool.and_eq_true] at h; exact h.2
theorem sort3_is {l L : List (Nat × Nat × Nat)} (hp : L.isPerm l = true) (hs : sortedB L = true) : sort3 l = L := by
  have h1 : (sort3 l).Pairwise fun x y => (!lt3 y x) = true := by
    unfold sort3
    exact List.pairwise_mergeSort (fun x y z h1 h2 => by simp only [lt3, Bool.not_eq_true', decide_eq_false_iff_not] at *; omega) (fun x y => by
      simp only [lt3, Bool.or_eq_true, Bool.not_eq_true', decide_eq_false_iff_not]; omega) _
  have h2 : L.Pairwise fun x y => (!lt3 y x) = true := (sortedB_pairwise L hs).imp fun {x y} h => by
    simp only [lt3, Bool.not_eq_true', decide_eq_false_iff_not, decide_eq_true_eq] at *; omega
  exact List.Perm.eq_of_pairwise (fun x y _ _ a b => by
    simp only [lt3, Bool.not_eq_true', decide_eq_false_iff_not] at a b
    exact Prod.ext (by omega) (Prod.ext (by omega) (by omega))) h1 h2 ((List.mergeSort_perm _ _).trans (List.isPerm_iff.1 hp).symm)

/-- the side on which the third number is 0 -/
def rimQ (n i : Nat) : Nat := numN n i (n - i)
def rim (n : Nat) : List (Nat × Nat) := (List.range n).map fun i => (rimQ n i, rimQ n (i + 1))
/-- each door of the side lies in some triangle -/
def rimIn (L : List (Nat × Nat × Nat)) (B : List (Nat × Nat)) : Bool := B.all fun e => L.any fun t => (sides t).contains e
def tris1 : List (Nat × Nat × Nat) := [(0, 1, 2)]
theorem small_is_1 : smallL 1 = tris1 := sort3_is (by kernel_rfl) (by kernel_rfl)
theorem chk_1 : chk tris1 (ptsL 1) (rim 1) = true := by kernel_rfl
theorem rimIn_1 : rimIn tris1 (rim 1) = true := by kernel_rfl
def tris2 : List (Nat × Nat × Nat) := [(0, 1, 3), (1, 2, 4), (1, 3, 4), (3, 4, 5)]
theorem small_is_2 : smallL 2 = tris2 := sort3_is (by kernel_rfl) (by kernel_rfl)
theorem chk_2 : chk tris2 (ptsL 2) (rim 2) = true := by kernel_rfl
theorem rimIn_2 : rimIn tris2 (rim 2) = true := by kernel_rfl
def tris3 : List (Nat × Nat × Nat) := [(0, 1, 4), (1, 2, 5), (1, 4, 5), (2, 3, 6), (2, 5, 6), (4, 5, 7), (5, 6, 8), (5, 7, 8), (7, 8, 9)]
theorem small_is_3 : smallL 3 = tris3 := sort3_is (by kernel_rfl) (by kernel_rfl)
theorem chk_3 : chk tris3 (ptsL 3) (rim 3) = true := by kernel_rfl
theorem rimIn_3 : rimIn tris3 (rim 3) = true := by kernel_rfl
def tris4 : List (Nat × Nat × Nat) := [(0, 1, 5), (1, 2, 6), (1, 5, 6), (2, 3, 7), (2, 6, 7), (3, 4, 8), (3, 7, 8), (5, 6, 9), (6, 7, 10), (6, 9, 10), (7, 8, 11), (7, 10, 11), (9, 10, 12), (10, 11, 13), (10, 12, 13), (12, 13, 14)]
theorem small_is_4 : smallL 4 = tris4 := sort3_is (by kernel_rfl) (by kernel_rfl)
theorem chk_4 : chk tris4 (ptsL 4) (rim 4) = true := by kernel_rfl
theorem rimIn_4 : rimIn tris4 (rim 4) = true := by kernel_rfl
def tris5 : List (Nat × Nat × Nat) := [(0, 1, 6), (1, 2, 7), (1, 6, 7), (2, 3, 8), (2, 7, 8), (3, 4, 9), (3, 8, 9), (4, 5, 10), (4, 9, 10), (6, 7, 11), (7, 8, 12), (7, 11, 12), (8, 9, 13), (8, 12, 13), (9, 10, 14), (9, 13, 14), (11, 12, 15), (12, 13, 16), (12, 15, 16), (13, 14, 17), (13, 16, 17), (15, 16, 18), (16, 17, 19), (16, 18, 19), (18, 19, 20)]
theorem small_is_5 : smallL 5 = tris5 := sort3_is (by kernel_rfl) (by kernel_rfl)
theorem chk_5 : chk tris5 (ptsL 5) (rim 5) = true := by kernel_rfl
theorem rimIn_5 : rimIn tris5 (rim 5) = true := by kernel_rfl
def tris6 : List (Nat × Nat × Nat) := [(0, 1, 7), (1, 2, 8), (1, 7, 8), (2, 3, 9), (2, 8, 9), (3, 4, 10), (3, 9, 10), (4, 5, 11), (4, 10, 11), (5, 6, 12), (5, 11, 12), (7, 8, 13), (8, 9, 14), (8, 13, 14), (9, 10, 15), (9, 14, 15), (10, 11, 16), (10, 15, 16), (11, 12, 17), (11, 16, 17), (13, 14, 18), (14, 15, 19), (14, 18, 19), (15, 16, 20), (15, 19, 20), (16, 17, 21), (16, 20, 21), (18, 19, 22), (19, 20, 23), (19, 22, 23), (20, 21, 24), (20, 23, 24), (22, 23, 25), (23, 24, 26), (23, 25, 26), (25, 26, 27)]
theorem small_is_6 : smallL 6 = tris6 := sort3_is (by kernel_rfl) (by kernel_rfl)
theorem chk_6 : chk tris6 (ptsL 6) (rim 6) = true := by kernel_rfl
theorem rimIn_6 : rimIn tris6 (rim 6) = true := by kernel_rfl
def tris7 : List (Nat × Nat × Nat) := [(0, 1, 8), (1, 2, 9), (1, 8, 9), (2, 3, 10), (2, 9, 10), (3, 4, 11), (3, 10, 11), (4, 5, 12), (4, 11, 12), (5, 6, 13), (5, 12, 13), (6, 7, 14), (6, 13, 14), (8, 9, 15), (9, 10, 16), (9, 15, 16), (10, 11, 17), (10, 16, 17), (11, 12, 18), (11, 17, 18), (12, 13, 19), (12, 18, 19), (13, 14, 20), (13, 19, 20), (15, 16, 21), (16, 17, 22), (16, 21, 22), (17, 18, 23), (17, 22, 23), (18, 19, 24), (18, 23, 24), (19, 20, 25), (19, 24, 25), (21, 22, 26), (22, 23, 27), (22, 26, 27), (23, 24, 28), (23, 27, 28), (24, 25, 29), (24, 28, 29), (26, 27, 30), (27, 28, 31), (27, 30, 31), (28, 29, 32), (28, 31, 32), (30, 31, 33), (31, 32, 34), (31, 33, 34), (33, 34, 35)]
theorem small_is_7 : smallL 7 = tris7 := sort3_is (by kernel_rfl) (by kernel_rfl)
theorem chk_7 : chk tris7 (ptsL 7) (rim 7) = true := by kernel_rfl
theorem rimIn_7 : rimIn tris7 (rim 7) = true := by kernel_rfl
def tris8 : List (Nat × Nat × Nat) := [(0, 1, 9), (1, 2, 10), (1, 9, 10), (2, 3, 11), (2, 10, 11), (3, 4, 12), (3, 11, 12), (4, 5, 13), (4, 12, 13), (5, 6, 14), (5, 13, 14), (6, 7, 15), (6, 14, 15), (7, 8, 16), (7, 15, 16), (9, 10, 17), (10, 11, 18), (10, 17, 18), (11, 12, 19), (11, 18, 19), (12, 13, 20), (12, 19, 20), (13, 14, 21), (13, 20, 21), (14, 15, 22), (14, 21, 22), (15, 16, 23), (15, 22, 23), (17, 18, 24), (18, 19, 25), (18, 24, 25), (19, 20, 26), (19, 25, 26), (20, 21, 27), (20, 26, 27), (21, 22, 28), (21, 27, 28), (22, 23, 29), (22, 28, 29), (24, 25, 30), (25, 26, 31), (25, 30, 31), (26, 27, 32), (26, 31, 32), (27, 28, 33), (27, 32, 33), (28, 29, 34), (28, 33, 34), (30, 31, 35), (31, 32, 36), (31, 35, 36), (32, 33, 37), (32, 36, 37), (33, 34, 38), (33, 37, 38), (35, 36, 39), (36, 37, 40), (36, 39, 40), (37, 38, 41), (37, 40, 41), (39, 40, 42), (40, 41, 43), (40, 42, 43), (42, 43, 44)]
theorem small_is_8 : smallL 8 = tris8 := sort3_is (by kernel_rfl) (by kernel_rfl)
theorem chk_8 : chk tris8 (ptsL 8) (rim 8) = true := by kernel_rfl
theorem rimIn_8 : rimIn tris8 (rim 8) = true := by kernel_rfl
def tris9 : List (Nat × Nat × Nat) := [(0, 1, 10), (1, 2, 11), (1, 10, 11), (2, 3, 12), (2, 11, 12), (3, 4, 13), (3, 12, 13), (4, 5, 14), (4, 13, 14), (5, 6, 15), (5, 14, 15), (6, 7, 16), (6, 15, 16), (7, 8, 17), (7, 16, 17), (8, 9, 18), (8, 17, 18), (10, 11, 19), (11, 12, 20), (11, 19, 20), (12, 13, 21), (12, 20, 21), (13, 14, 22), (13, 21, 22), (14, 15, 23), (14, 22, 23), (15, 16, 24), (15, 23, 24), (16, 17, 25), (16, 24, 25), (17, 18, 26), (17, 25, 26), (19, 20, 27), (20, 21, 28), (20, 27, 28), (21, 22, 29), (21, 28, 29), (22, 23, 30), (22, 29, 30), (23, 24, 31), (23, 30, 31), (24, 25, 32), (24, 31, 32), (25, 26, 33), (25, 32, 33), (27, 28, 34), (28, 29, 35), (28, 34, 35), (29, 30, 36), (29, 35, 36), (30, 31, 37), (30, 36, 37), (31, 32, 38), (31, 37, 38), (32, 33, 39), (32, 38, 39), (34, 35, 40), (35, 36, 41), (35, 40, 41), (36, 37, 42), (36, 41, 42), (37, 38, 43), (37, 42, 43), (38, 39, 44), (38, 43, 44), (40, 41, 45), (41, 42, 46), (41, 45, 46), (42, 43, 47), (42, 46, 47), (43, 44, 48), (43, 47, 48), (45, 46, 49), (46, 47, 50), (46, 49, 50), (47, 48, 51), (47, 50, 51), (49, 50, 52), (50, 51, 53), (50, 52, 53), (52, 53, 54)]
theorem small_is_9 : smallL 9 = tris9 := sort3_is (by kernel_rfl) (by kernel_rfl)
theorem chk_9 : chk tris9 (ptsL 9) (rim 9) = true := by kernel_rfl
theorem rimIn_9 : rimIn tris9 (rim 9) = true := by kernel_rfl
def tris10 : List (Nat × Nat × Nat) := [(0, 1, 11), (1, 2, 12), (1, 11, 12), (2, 3, 13), (2, 12, 13), (3, 4, 14), (3, 13, 14), (4, 5, 15), (4, 14, 15), (5, 6, 16), (5, 15, 16), (6, 7, 17), (6, 16, 17), (7, 8, 18), (7, 17, 18), (8, 9, 19), (8, 18, 19), (9, 10, 20), (9, 19, 20), (11, 12, 21), (12, 13, 22), (12, 21, 22), (13, 14, 23), (13, 22, 23), (14, 15, 24), (14, 23, 24), (15, 16, 25), (15, 24, 25), (16, 17, 26), (16, 25, 26), (17, 18, 27), (17, 26, 27), (18, 19, 28), (18, 27, 28), (19, 20, 29), (19, 28, 29), (21, 22, 30), (22, 23, 31), (22, 30, 31), (23, 24, 32), (23, 31, 32), (24, 25, 33), (24, 32, 33), (25, 26, 34), (25, 33, 34), (26, 27, 35), (26, 34, 35), (27, 28, 36), (27, 35, 36), (28, 29, 37), (28, 36, 37), (30, 31, 38), (31, 32, 39), (31, 38, 39), (32, 33, 40), (32, 39, 40), (33, 34, 41), (33, 40, 41), (34, 35, 42), (34, 41, 42), (35, 36, 43), (35, 42, 43), (36, 37, 44), (36, 43, 44), (38, 39, 45), (39, 40, 46), (39, 45, 46), (40, 41, 47), (40, 46, 47), (41, 42, 48), (41, 47, 48), (42, 43, 49), (42, 48, 49), (43, 44, 50), (43, 49, 50), (45, 46, 51), (46, 47, 52), (46, 51, 52), (47, 48, 53), (47, 52, 53), (48, 49, 54), (48, 53, 54), (49, 50, 55), (49, 54, 55), (51, 52, 56), (52, 53, 57), (52, 56, 57), (53, 54, 58), (53, 57, 58), (54, 55, 59), (54, 58, 59), (56, 57, 60), (57, 58, 61), (57, 60, 61), (58, 59, 62), (58, 61, 62), (60, 61, 63), (61, 62, 64), (61, 63, 64), (63, 64, 65)]
theorem small_is_10 : smallL 10 = tris10 := sort3_is (by kernel_rfl) (by kernel_rfl)
theorem chk_10 : chk tris10 (ptsL 10) (rim 10) = true := by kernel_rfl
theorem rimIn_10 : rimIn tris10 (rim 10) = true := by kernel_rfl
def tris11 : List (Nat × Nat × Nat) := [(0, 1, 12), (1, 2, 13), (1, 12, 13), (2, 3, 14), (2, 13, 14), (3, 4, 15), (3, 14, 15), (4, 5, 16), (4, 15, 16), (5, 6, 17), (5, 16, 17), (6, 7, 18), (6, 17, 18), (7, 8, 19), (7, 18, 19), (8, 9, 20), (8, 19, 20), (9, 10, 21), (9, 20, 21), (10, 11, 22), (10, 21, 22), (12, 13, 23), (13, 14, 24), (13, 23, 24), (14, 15, 25), (14, 24, 25), (15, 16, 26), (15, 25, 26), (16, 17, 27), (16, 26, 27), (17, 18, 28), (17, 27, 28), (18, 19, 29), (18, 28, 29), (19, 20, 30), (19, 29, 30), (20, 21, 31), (20, 30, 31), (21, 22, 32), (21, 31, 32), (23, 24, 33), (24, 25, 34), (24, 33, 34), (25, 26, 35), (25, 34, 35), (26, 27, 36), (26, 35, 36), (27, 28, 37), (27, 36, 37), (28, 29, 38), (28, 37, 38), (29, 30, 39), (29, 38, 39), (30, 31, 40), (30, 39, 40), (31, 32, 41), (31, 40, 41), (33, 34, 42), (34, 35, 43), (34, 42, 43), (35, 36, 44), (35, 43, 44), (36, 37, 45), (36, 44, 45), (37, 38, 46), (37, 45, 46), (38, 39, 47), (38, 46, 47), (39, 40, 48), (39, 47, 48), (40, 41, 49), (40, 48, 49), (42, 43, 50), (43, 44, 51), (43, 50, 51), (44, 45, 52), (44, 51, 52), (45, 46, 53), (45, 52, 53), (46, 47, 54), (46, 53, 54), (47, 48, 55), (47, 54, 55), (48, 49, 56), (48, 55, 56), (50, 51, 57), (51, 52, 58), (51, 57, 58), (52, 53, 59), (52, 58, 59), (53, 54, 60), (53, 59, 60), (54, 55, 61), (54, 60, 61), (55, 56, 62), (55, 61, 62), (57, 58, 63), (58, 59, 64), (58, 63, 64), (59, 60, 65), (59, 64, 65), (60, 61, 66), (60, 65, 66), (61, 62, 67), (61, 66, 67), (63, 64, 68), (64, 65, 69), (64, 68, 69), (65, 66, 70), (65, 69, 70), (66, 67, 71), (66, 70, 71), (68, 69, 72), (69, 70, 73), (69, 72, 73), (70, 71, 74), (70, 73, 74), (72, 73, 75), (73, 74, 76), (73, 75, 76), (75, 76, 77)]
theorem small_is_11 : smallL 11 = tris11 := sort3_is (by kernel_rfl) (by kernel_rfl)
theorem chk_11 : chk tris11 (ptsL 11) (rim 11) = true := by kernel_rfl
theorem rimIn_11 : rimIn tris11 (rim 11) = true := by kernel_rfl
def tris12 : List (Nat × Nat × Nat) := [(0, 1, 13), (1, 2, 14), (1, 13, 14), (2, 3, 15), (2, 14, 15), (3, 4, 16), (3, 15, 16), (4, 5, 17), (4, 16, 17), (5, 6, 18), (5, 17, 18), (6, 7, 19), (6, 18, 19), (7, 8, 20), (7, 19, 20), (8, 9, 21), (8, 20, 21), (9, 10, 22), (9, 21, 22), (10, 11, 23), (10, 22, 23), (11, 12, 24), (11, 23, 24), (13, 14, 25), (14, 15, 26), (14, 25, 26), (15, 16, 27), (15, 26, 27), (16, 17, 28), (16, 27, 28), (17, 18, 29), (17, 28, 29), (18, 19, 30), (18, 29, 30), (19, 20, 31), (19, 30, 31), (20, 21, 32), (20, 31, 32), (21, 22, 33), (21, 32, 33), (22, 23, 34), (22, 33, 34), (23, 24, 35), (23, 34, 35), (25, 26, 36), (26, 27, 37), (26, 36, 37), (27, 28, 38), (27, 37, 38), (28, 29, 39), (28, 38, 39), (29, 30, 40), (29, 39, 40), (30, 31, 41), (30, 40, 41), (31, 32, 42), (31, 41, 42), (32, 33, 43), (32, 42, 43), (33, 34, 44), (33, 43, 44), (34, 35, 45), (34, 44, 45), (36, 37, 46), (37, 38, 47), (37, 46, 47), (38, 39, 48), (38, 47, 48), (39, 40, 49), (39, 48, 49), (40, 41, 50), (40, 49, 50), (41, 42, 51), (41, 50, 51), (42, 43, 52), (42, 51, 52), (43, 44, 53), (43, 52, 53), (44, 45, 54), (44, 53, 54), (46, 47, 55), (47, 48, 56), (47, 55, 56), (48, 49, 57), (48, 56, 57), (49, 50, 58), (49, 57, 58), (50, 51, 59), (50, 58, 59), (51, 52, 60), (51, 59, 60), (52, 53, 61), (52, 60, 61), (53, 54, 62), (53, 61, 62), (55, 56, 63), (56, 57, 64), (56, 63, 64), (57, 58, 65), (57, 64, 65), (58, 59, 66), (58, 65, 66), (59, 60, 67), (59, 66, 67), (60, 61, 68), (60, 67, 68), (61, 62, 69), (61, 68, 69), (63, 64, 70), (64, 65, 71), (64, 70, 71), (65, 66, 72), (65, 71, 72), (66, 67, 73), (66, 72, 73), (67, 68, 74), (67, 73, 74), (68, 69, 75), (68, 74, 75), (70, 71, 76), (71, 72, 77), (71, 76, 77), (72, 73, 78), (72, 77, 78), (73, 74, 79), (73, 78, 79), (74, 75, 80), (74, 79, 80), (76, 77, 81), (77, 78, 82), (77, 81, 82), (78, 79, 83), (78, 82, 83), (79, 80, 84), (79, 83, 84), (81, 82, 85), (82, 83, 86), (82, 85, 86), (83, 84, 87), (83, 86, 87), (85, 86, 88), (86, 87, 89), (86, 88, 89), (88, 89, 90)]
theorem small_is_12 : smallL 12 = tris12 := sort3_is (by kernel_rfl) (by kernel_rfl)
theorem chk_12 : chk tris12 (ptsL 12) (rim 12) = true := by kernel_rfl
theorem rimIn_12 : rimIn tris12 (rim 12) = true := by kernel_rfl

theorem chk_all (n : Nat) (h1 : 1 ≤ n) (h2 : n ≤ 12) : chk (smallL n) (ptsL n) (rim n) = true := by
  rcases (show n = 1 ∨ n = 2 ∨ n = 3 ∨ n = 4 ∨ n = 5 ∨ n = 6 ∨ n = 7 ∨ n = 8 ∨ n = 9 ∨ n = 10 ∨ n = 11 ∨ n = 12 by omega) with rfl | rfl | rfl | rfl | rfl | rfl | rfl | rfl | rfl | rfl | rfl | rfl
  · rw [small_is_1]; exact chk_1
  · rw [small_is_2]; exact chk_2
  · rw [small_is_3]; exact chk_3
  · rw [small_is_4]; exact chk_4
  · rw [small_is_5]; exact chk_5
  · rw [small_is_6]; exact chk_6
  · rw [small_is_7]; exact chk_7
  · rw [small_is_8]; exact chk_8
  · rw [small_is_9]; exact chk_9
  · rw [small_is_10]; exact chk_10
  · rw [small_is_11]; exact chk_11
  · rw [small_is_12]; exact chk_12
theorem rimIn_all (n : Nat) (h1 : 1 ≤ n) (h2 : n ≤ 12) : rimIn (smallL n) (rim n) = true := by
  rcases (show n = 1 ∨ n = 2 ∨ n = 3 ∨ n = 4 ∨ n = 5 ∨ n = 6 ∨ n = 7 ∨ n = 8 ∨ n = 9 ∨ n = 10 ∨ n = 11 ∨ n = 12 by omega) with rfl | rfl | rfl | rfl | rfl | rfl | rfl | rfl | rfl | rfl | rfl | rfl
  · rw [small_is_1]; exact rimIn_1
  · rw [small_is_2]; exact rimIn_2
  · rw [small_is_3]; exact rimIn_3
  · rw [small_is_4]; exact rimIn_4
  · rw [small_is_5]; exact rimIn_5
  · rw [small_is_6]; exact rimIn_6
  · rw [small_is_7]; exact rimIn_7
  · rw [small_is_8]; exact rimIn_8
  · rw [small_is_9]; exact rimIn_9
  · rw [small_is_10]; exact rimIn_10
  · rw [small_is_11]; exact rimIn_11
  · rw [small_is_12]; exact rimIn_12
end Go.Proofs.YtnijedeopnjklaaGreatDoor
