/-
  Texts of complexes (plain): what the document reads out of bytes; the text of facets; the text read again is the facets.
  Texts: what a text says (plain); digits as the library has them; owned rows of owned rows of numbers.
  The references' Decimal by a contract. Condition: a number from 0 to 99.
  cells.Text by a contract. Condition: 'Sents', the reading of the facets.
  The references' FacetText by a contract. Condition: at most 600 facets of at most 7 numbers from 0 to 99.
  The references' ReadComplex by a contract. Condition: a text of at most 20000 bytes.
  Read's closures (a fault; blanks) and strconv.Atoi by contracts.
  cells.Read by a contract: the document's machine reads the same. Condition: a text of at most 20000 bytes.
  'faulted' by a contract: is an error of a fault's code and place? Conditions: 'Sents', 'ErrAt'.
  The law CellsTexts says true.
-/
import Derived.Test.YtipblphfjejpbaaGreatDoorMrV
import Derived.Lib.Atoi
import Derived.Lib.ItoaNum
import Derived.Laws.IdiomStrings
import Derived.Laws.MakeOwn
import Derived.Test.YtipblphfjejpbaaGreatDoorAto
import Derived.Deep.LoopGhost
import Derived.Maps.AppendAt
import Derived.WalkMore
import Derived.ScopeJumps
import Derived.Deep.DeepCutAuto
import Derived.Deep.CutBlock
import Derived.Test.YtipblphfjejpbaaGreatDoorErrsD
set_option linter.unusedVariables false
set_option linter.unusedSimpArgs false
namespace Go.Proofs.YtipblphfjejpbaaGreatDoor
open Go Go.RowKit Go.Maps

/-- what is read: a fault of the text at a byte; nothing but blanks; sets -/
inductive RdR where
  | bad (at_ : Nat) : RdR
  | nil : RdR
  | sets (l : List (List Int)) : RdR

def isDg (c : UInt8) : Bool := decide (48 ≤ c.toNat) && decide (c.toNat ≤ 57)
def dgv (c : UInt8) : Int := (c.toNat : Int) - 48
def finS (set : List Int) (n : Int) (d : Nat) : List Int := if d = 0 then set else set ++ [n]
/-- the document's machine: sets, the set, the number, its digits, whether anything was there, the place -/
def rd : List UInt8 → List (List Int) → List Int → Int → Nat → Bool → Nat → RdR
  | [], l, set, n, d, b, i => if b = false then .nil else if finS set n d = [] then .bad i else .sets (l ++ [finS set n d])
  | c :: t, l, set, n, d, b, i =>
    if isDg c = true then
      if d = 2 then .bad i else rd t l set (if d = 0 then dgv c else n * 10 + dgv c) (d + 1) true (i + 1)
    else if c.toNat = 32 then rd t l (finS set n d) n 0 b (i + 1)
    else if c.toNat = 59 then
      if finS set n d = [] then .bad i else rd t (l ++ [finS set n d]) [] n 0 true (i + 1)
    else .bad i

theorem isDg_iff {c : UInt8} : isDg c = true ↔ 48 ≤ c.toNat ∧ c.toNat ≤ 57 := by unfold isDg; simp
theorem isDg_no {c : UInt8} : isDg c = false ↔ ¬ (48 ≤ c.toNat ∧ c.toNat ≤ 57) := by rw [← Bool.not_eq_true, isDg_iff]
theorem dgv_bd {c : UInt8} (h : isDg c = true) : 0 ≤ dgv c ∧ dgv c ≤ 9 := by rw [isDg_iff] at h; unfold dgv; omega
theorem finS_0 (set : List Int) (n : Int) : finS set n 0 = set := if_pos rfl
theorem finS_s (set : List Int) (n : Int) (d : Nat) : finS set n (d + 1) = set ++ [n] := if_neg (Nat.succ_ne_zero d)

section
variable {l : List (List Int)} {set : List Int} {n : Int} {d : Nat} {b : Bool} {i : Nat} {c : UInt8} {t : List UInt8}
theorem rd_nil : rd [] l set n d b i = if b = false then .nil else if finS set n d = [] then .bad i else .sets (l ++ [finS set n d]) := rfl
theorem rd_cons : rd (c :: t) l set n d b i = if isDg c = true then (if d = 2 then .bad i else rd t l set (if d = 0 then dgv c else n * 10 + dgv c) (d + 1) true (i + 1))
    else if c.toNat = 32 then rd t l (finS set n d) n 0 b (i + 1)
    else if c.toNat = 59 then (if finS set n d = [] then .bad i else rd t (l ++ [finS set n d]) [] n 0 true (i + 1)) else .bad i := rfl
theorem rd_dg (h : isDg c = true) (hd : d ≠ 2) : rd (c :: t) l set n d b i = rd t l set (if d = 0 then dgv c else n * 10 + dgv c) (d + 1) true (i + 1) := by
  rw [rd_cons, if_pos h, if_neg hd]
theorem rd_dg2 (h : isDg c = true) : rd (c :: t) l set n 2 b i = .bad i := by rw [rd_cons, if_pos h, if_pos rfl]
theorem not_dg {k : Nat} (h : c.toNat = k) (hk : k < 48 ∨ 57 < k) : ¬ isDg c = true := by rw [isDg_iff]; omega
theorem rd_sp (h : c.toNat = 32) : rd (c :: t) l set n d b i = rd t l (finS set n d) n 0 b (i + 1) := by
  rw [rd_cons, if_neg (not_dg h (by decide)), if_pos h]
theorem rd_semi (h : c.toNat = 59) : rd (c :: t) l set n d b i = if finS set n d = [] then .bad i else rd t (l ++ [finS set n d]) [] n 0 true (i + 1) := by
  rw [rd_cons, if_neg (not_dg h (by decide)), if_neg (by omega), if_pos h]
theorem rd_other (h1 : isDg c = false) (h2 : c.toNat ≠ 32) (h3 : c.toNat ≠ 59) : rd (c :: t) l set n d b i = .bad i := by
  rw [rd_cons, if_neg (by rw [h1]; exact Bool.false_ne_true), if_neg h2, if_neg h3]
/-- the number does not matter where it has no digits -/
theorem rd_n0 (n m : Int) : rd t l set n 0 b i = rd t l set m 0 b i := by
  induction t generalizing l set n m b i with
  | nil => simp only [rd_nil, finS_0]
  | cons c t ih =>
    rw [rd_cons, rd_cons]
    simp only [finS_0, if_true, ih n m]
/-- behind a number a blank, a semicolon or nothing: the number may go to its set ahead -/
theorem rd_push (h : t = [] ∨ ∃ c t', t = c :: t' ∧ isDg c = false) : rd t l set n (d + 1) b i = rd t l (set ++ [n]) n 0 b i := by
  rcases h with rfl | ⟨c, t', rfl, hc⟩
  · rw [rd_nil, rd_nil, finS_0, finS_s]
  · have hc' : ¬ isDg c = true := by rw [hc]; exact Bool.false_ne_true
    rw [rd_cons, rd_cons, finS_0, finS_s, if_neg hc', if_neg hc']
end

/-- numbers below a hundred, as text -/
def decT (v : Int) : List UInt8 := if v < 10 then [UInt8.ofNat (48 + v.toNat)] else [UInt8.ofNat (48 + (v / 10).toNat), UInt8.ofNat (48 + (v % 10).toNat)]
def setT : List Int → List UInt8
  | [] => []
  | [v] => decT v
  | v :: t => decT v ++ 32 :: setT t
def facT : List (List Int) → List UInt8
  | [] => []
  | [s] => setT s
  | s :: t => setT s ++ 59 :: 32 :: facT t
theorem setT_cons {v u : Int} {t : List Int} : setT (v :: u :: t) = decT v ++ 32 :: setT (u :: t) := rfl
theorem facT_cons {s r : List Int} {t : List (List Int)} : facT (s :: r :: t) = setT s ++ 59 :: 32 :: facT (r :: t) := rfl
/-- as a loop makes it: a separator ahead of all but the first -/
def setU (t : List Int) : List UInt8 := t.flatMap fun v => 32 :: decT v
def facU (t : List (List Int)) : List UInt8 := t.flatMap fun s => 59 :: 32 :: setT s
theorem setT_eq (v : Int) (t : List Int) : setT (v :: t) = decT v ++ setU t := by
  induction t generalizing v with
  | nil => simp [setT, setU]
  | cons u t ih => rw [setT_cons, ih]; simp [setU]
theorem facT_eq (s : List Int) (t : List (List Int)) : facT (s :: t) = setT s ++ facU t := by
  induction t generalizing s with
  | nil => simp [facT, facU]
  | cons u t ih => rw [facT_cons, ih]; simp [facU]
theorem setT_snoc {t : List Int} (h : t ≠ []) (v : Int) : setT (t ++ [v]) = setT t ++ 32 :: decT v := by
  cases t with
  | nil => exact absurd rfl h
  | cons u t => rw [List.cons_append, setT_eq, setT_eq]; simp [setU]
theorem facT_snoc {t : List (List Int)} (h : t ≠ []) (s : List Int) : facT (t ++ [s]) = facT t ++ 59 :: 32 :: setT s := by
  cases t with
  | nil => exact absurd rfl h
  | cons u t => rw [List.cons_append, facT_eq, facT_eq]; simp [facU]

def Dec (v : Int) : Prop := 0 ≤ v ∧ v ≤ 99
theorem ofNat_toNat {k : Nat} (h : k < 256) : (UInt8.ofNat k).toNat = k := by
  rw [UInt8.toNat_ofNat']; exact Nat.mod_eq_of_lt (by simpa using h)
theorem decT_len (v : Int) : (decT v).length ≤ 2 := by unfold decT; split <;> simp
theorem decT_rd {v : Int} (hv : Dec v) {t : List UInt8} {l : List (List Int)} {set : List Int} {n : Int} {b : Bool} {i : Nat}
    (h : t = [] ∨ ∃ c t', t = c :: t' ∧ isDg c = false) : rd (decT v ++ t) l set n 0 b i = rd t l (set ++ [v]) 0 0 true (i + (decT v).length) := by
  obtain ⟨h0, h1⟩ := hv
  unfold decT
  by_cases h2 : v < 10
  · rw [if_pos h2]
    have e : (UInt8.ofNat (48 + v.toNat)).toNat = 48 + v.toNat := ofNat_toNat (by omega)
    have hd : isDg (UInt8.ofNat (48 + v.toNat)) = true := by rw [isDg_iff, e]; omega
    have hg : dgv (UInt8.ofNat (48 + v.toNat)) = v := by unfold dgv; rw [e]; omega
    rw [List.singleton_append, rd_dg hd (by decide), if_pos rfl, hg, rd_push h, rd_n0 v 0]
    rfl
  · rw [if_neg h2]
    have e : (UInt8.ofNat (48 + (v / 10).toNat)).toNat = 48 + (v / 10).toNat := ofNat_toNat (by omega)
    have e' : (UInt8.ofNat (48 + (v % 10).toNat)).toNat = 48 + (v % 10).toNat := ofNat_toNat (by omega)
    have hd : isDg (UInt8.ofNat (48 + (v / 10).toNat)) = true := by rw [isDg_iff, e]; omega
    have hd' : isDg (UInt8.ofNat (48 + (v % 10).toNat)) = true := by rw [isDg_iff, e']; omega
    have hg : dgv (UInt8.ofNat (48 + (v / 10).toNat)) = v / 10 := by unfold dgv; rw [e]; omega
    have hg' : dgv (UInt8.ofNat (48 + (v % 10).toNat)) = v % 10 := by unfold dgv; rw [e']; omega
    have hs : v / 10 * 10 + v % 10 = v := by omega
    rw [show [UInt8.ofNat (48 + (v / 10).toNat), UInt8.ofNat (48 + (v % 10).toNat)] ++ t = UInt8.ofNat (48 + (v / 10).toNat) :: UInt8.ofNat (48 + (v % 10).toNat) :: t from rfl,
      rd_dg hd (by decide), if_pos rfl, hg, rd_dg hd' (by decide), if_neg (by decide), hg', hs, rd_push h, rd_n0 v 0]
    rfl
theorem sep_sp (t : List UInt8) : (32 :: t : List UInt8) = [] ∨ ∃ c t', (32 :: t : List UInt8) = c :: t' ∧ isDg c = false := Or.inr ⟨_, _, rfl, by decide⟩
theorem sep_semi (t : List UInt8) : (59 :: t : List UInt8) = [] ∨ ∃ c t', (59 :: t : List UInt8) = c :: t' ∧ isDg c = false := Or.inr ⟨_, _, rfl, by decide⟩
theorem setU_rd {s : List Int} (hs : ∀ v ∈ s, Dec v) {t : List UInt8} {l : List (List Int)} {set : List Int} {i : Nat}
    (h : t = [] ∨ ∃ c t', t = c :: t' ∧ isDg c = false) : ∃ j, rd (setU s ++ t) l set 0 0 true i = rd t l (set ++ s) 0 0 true j := by
  induction s generalizing set i with
  | nil => exact ⟨i, by simp [setU]⟩
  | cons v s ih =>
    have hsep : setU s ++ t = [] ∨ ∃ c t', setU s ++ t = c :: t' ∧ isDg c = false := by
      cases s with
      | nil => simpa [setU] using h
      | cons u s => exact Or.inr ⟨32, decT u ++ setU s ++ t, by simp [setU], by decide⟩
    obtain ⟨j, hj⟩ := ih (fun u hu => hs u (List.mem_cons_of_mem _ hu)) (set := set ++ [v]) (i := i + 1 + (decT v).length)
    refine ⟨j, ?_⟩
    rw [show setU (v :: s) ++ t = 32 :: (decT v ++ (setU s ++ t)) by simp [setU], rd_sp (by decide), finS_0, decT_rd (hs v List.mem_cons_self) hsep, hj]
    simp
theorem setT_rd {s : List Int} (hne : s ≠ []) (hs : ∀ v ∈ s, Dec v) {t : List UInt8} {l : List (List Int)} {n : Int} {b : Bool} {i : Nat}
    (h : t = [] ∨ ∃ c t', t = c :: t' ∧ isDg c = false) : ∃ j, rd (setT s ++ t) l [] n 0 b i = rd t l s 0 0 true j := by
  cases s with
  | nil => exact absurd rfl hne
  | cons v s =>
    have hsep : setU s ++ t = [] ∨ ∃ c t', setU s ++ t = c :: t' ∧ isDg c = false := by
      cases s with
      | nil => simpa [setU] using h
      | cons u s => exact Or.inr ⟨32, decT u ++ setU s ++ t, by simp [setU], by decide⟩
    obtain ⟨j, hj⟩ := setU_rd (s := s) (fun u hu => hs u (List.mem_cons_of_mem _ hu)) h (l := l) (set := [v]) (i := i + (decT v).length)
    refine ⟨j, ?_⟩
    rw [setT_eq, List.append_assoc, decT_rd (hs v List.mem_cons_self) hsep]
    exact hj
theorem facU_rd {L : List (List Int)} (hne : ∀ s ∈ L, s ≠ []) (hs : ∀ s ∈ L, ∀ v ∈ s, Dec v) {l : List (List Int)} {set : List Int} {i : Nat} (h0 : set ≠ []) :
    rd (facU L) l set 0 0 true i = .sets (l ++ set :: L) := by
  induction L generalizing l set i with
  | nil => simp [facU, rd_nil, finS_0, h0]
  | cons s L ih =>
    have hsep : facU L = [] ∨ ∃ c t', facU L = c :: t' ∧ isDg c = false := by
      cases L with
      | nil => exact Or.inl rfl
      | cons u L => exact Or.inr ⟨59, 32 :: (setT u ++ facU L), by simp [facU], by decide⟩
    obtain ⟨j, hj⟩ := setT_rd (s := s) (hne s List.mem_cons_self) (hs s List.mem_cons_self) hsep (l := l ++ [set]) (n := 0) (b := true) (i := i + 1 + 1)
    rw [show facU (s :: L) = 59 :: 32 :: (setT s ++ facU L) by simp [facU], rd_semi (by decide), finS_0, if_neg h0, rd_sp (by decide), finS_0, hj,
      ih (fun u hu => hne u (List.mem_cons_of_mem _ hu)) (fun u hu => hs u (List.mem_cons_of_mem _ hu)) (hne s List.mem_cons_self)]
    simp
/-- PARSE OF PRINT -/
theorem facT_rd {L : List (List Int)} (hne : ∀ s ∈ L, s ≠ []) (hs : ∀ s ∈ L, ∀ v ∈ s, Dec v) (hL : L ≠ []) : rd (facT L) [] [] (-1) 0 false 0 = .sets L := by
  cases L with
  | nil => exact absurd rfl hL
  | cons s L =>
    have hsep : facU L = [] ∨ ∃ c t', facU L = c :: t' ∧ isDg c = false := by
      cases L with
      | nil => exact Or.inl rfl
      | cons u L => exact Or.inr ⟨59, 32 :: (setT u ++ facU L), by simp [facU], by decide⟩
    obtain ⟨j, hj⟩ := setT_rd (s := s) (hne s List.mem_cons_self) (hs s List.mem_cons_self) hsep (l := []) (n := -1) (b := false) (i := 0)
    rw [facT_eq, hj, facU_rd (fun u hu => hne u (List.mem_cons_of_mem _ hu)) (fun u hu => hs u (List.mem_cons_of_mem _ hu)) (hne s List.mem_cons_self)]
    simp
/-- how long it is -/
theorem setU_len (s : List Int) : (setU s).length ≤ 3 * s.length := by
  induction s with
  | nil => simp [setU]
  | cons v s ih => have := decT_len v; rw [show setU (v :: s) = 32 :: decT v ++ setU s by simp [setU]]; simp; omega
theorem setT_len (s : List Int) : (setT s).length ≤ 3 * s.length := by
  cases s with
  | nil => simp [setT]
  | cons v s => have := decT_len v; have := setU_len s; rw [setT_eq]; simp; omega
theorem facU_len (L : List (List Int)) : (facU L).length ≤ 3 * L.flatten.length + 2 * L.length := by
  induction L with
  | nil => simp [facU]
  | cons s L ih => have := setT_len s; rw [show facU (s :: L) = 59 :: 32 :: setT s ++ facU L by simp [facU]]; simp at ih ⊢; omega
theorem facT_len (L : List (List Int)) : (facT L).length ≤ 3 * L.flatten.length + 2 * L.length := by
  cases L with
  | nil => simp [facT]
  | cons s L => have := setT_len s; have := facU_len L; rw [facT_eq]; simp at this ⊢; omega

theorem decT_digits (i : Nat) (hi : i < 100) : Lib.decDigits i = decT (i : Int) := by
  by_cases h : i < 10
  · rw [Lib.decDigits_one h]
    unfold decT
    rw [if_pos (by omega), Int.toNat_natCast]
  · rw [Lib.decDigits_two h hi]
    unfold decT
    rw [if_neg (by omega), show ((i : Int) / 10).toNat = i / 10 by omega, show ((i : Int) % 10).toNat = i % 10 by omega]
theorem digit_val {c : UInt8} (h : isDg c = true) : Lib.digitVal c = some (c.toNat - 48) := by unfold Lib.digitVal; exact if_pos (isDg_iff.1 h)
theorem no_sign {c : UInt8} (h : isDg c = true) : (c == 45) = false ∧ (c == 43) = false :=
  ⟨beq_eq_false_iff_ne.2 fun e => by subst e; revert h; decide, beq_eq_false_iff_ne.2 fun e => by subst e; revert h; decide⟩
theorem atoi_one {c : UInt8} (h : isDg c = true) : Lib.atoi [c] = some (dgv c) := by
  obtain ⟨s1, s2⟩ := no_sign h
  have hb := isDg_iff.1 h
  simp only [Lib.atoi, s1, s2, Lib.decNat, Lib.decFrom, digit_val h, List.isEmpty_cons, Bool.false_eq_true, if_false, Option.map_some]
  congr 1
  unfold dgv
  omega
theorem atoi_two {c d : UInt8} (h : isDg c = true) (h' : isDg d = true) : Lib.atoi [c, d] = some (dgv c * 10 + dgv d) := by
  obtain ⟨s1, s2⟩ := no_sign h
  have hb := isDg_iff.1 h
  have hb' := isDg_iff.1 h'
  simp only [Lib.atoi, s1, s2, Lib.decNat, Lib.decFrom, digit_val h, digit_val h', List.isEmpty_cons, Bool.false_eq_true, if_false, Option.map_some]
  congr 1
  unfold dgv
  omega

/-- what is wrong with a text, where, and the facets -/
noncomputable def outC : RdR → Nat
  | .bad _ => 1
  | .nil => 0
  | .sets l => errC l
noncomputable def outP : RdR → Int
  | .bad i => (i : Int)
  | .nil => -1
  | .sets l => if errC l = 0 then -1 else 0
noncomputable def outL : RdR → List (List Int)
  | .bad _ => []
  | .nil => []
  | .sets l => if errC l = 0 then madeF l else []

section
variable {l : List (List Int)} {set : List Int} {n : Int} {d : Nat} {b : Bool} {i : Nat} {c : UInt8} {t : List UInt8}
/-- behind a byte that is no blank it is all the same whether anything was there -/
theorem rd_b (h : c.toNat ≠ 32) : rd (c :: t) l set n d b i = rd (c :: t) l set n d true i := by
  rw [rd_cons, rd_cons]
  simp only [if_neg h]
end
theorem drop_byte (s : ByteArray) (k : Nat) (h : k < s.size) : s.data.toList.drop k = s[k] :: s.data.toList.drop (k + 1) := by
  rw [List.drop_eq_getElem_cons (by simpa using h)]; rfl
theorem drop_end (s : ByteArray) (k : Nat) (h : s.size ≤ k) : s.data.toList.drop k = [] := List.drop_eq_nil_of_le (by simpa using h)
theorem byte_lt (c : UInt8) : c.toNat < 256 := UInt8.toNat_lt c

/-- the text grows -/
theorem facT_step {L : List (List Int)} {i : Nat} (h : i < L.length) : facT (L.take (i + 1)) = (if i = 0 then [] else facT (L.take i) ++ [59, 32]) ++ setT (L.getD i []) := by
  rw [take_snoc_getD [] L i h]
  by_cases h0 : i = 0
  · subst h0
    rw [if_pos rfl, List.take_zero]; rfl
  · rw [if_neg h0, facT_snoc (fun e => by have := congrArg List.length e; rw [List.length_take, List.length_nil] at this; omega)]
    simp
theorem setT_step {f : List Int} {k : Nat} (h : k < f.length) : setT (f.take (k + 1)) = (if k = 0 then [] else setT (f.take k) ++ [32]) ++ decT (f.getD k 0) := by
  rw [take_snoc_getD 0 f k h]
  by_cases h0 : k = 0
  · subst h0
    rw [if_pos rfl, List.take_zero]; rfl
  · rw [if_neg h0, setT_snoc (fun e => by have := congrArg List.length e; rw [List.length_take, List.length_nil] at this; omega)]
    simp
theorem setT_take_len (f : List Int) (k : Nat) : (setT (f.take k)).length ≤ 3 * f.length := by
  have h1 := setT_len (f.take k)
  have h2 : (f.take k).length ≤ f.length := by rw [List.length_take]; omega
  omega
theorem facT_take_len (L : List (List Int)) (k : Nat) : (facT (L.take k)).length ≤ 3 * L.flatten.length + 2 * L.length := by
  have h1 := facT_len (L.take k)
  have h2 := flat_len L k
  have h3 : (L.take k).length ≤ L.length := by rw [List.length_take]; omega
  omega

/-- an owned row of headers of owned rows of numbers; their blocks lie below C -/
def RowsN (O C : Nat) (w : World) (v : Value) (L : List (List Int)) : Prop :=
  ∃ hs : List Value, w.ownsRow O 26 1 v L.length hs ∧ hs.length = L.length ∧
    ∀ i, i < L.length → w.ownsRow O 3 1 (hs.getD i .nilIface) (L.getD i []).length (intVs (L.getD i [])) ∧ ∀ k, (hs.getD i .nilIface).ownBlock = some k → k < C
theorem RowsN.nil (O C : Nat) (w : World) : RowsN O C w (.slice none 0 0) [] := ⟨[], World.ownsRow_nil _ _ _ _, rfl, fun i h => absurd h (by simp)⟩
theorem RowsN.rows {O C : Nat} {w : World} {v : Value} {L : List (List Int)} (h : RowsN O C w v L) (B : Nat) : RowsO O B w v L :=
  h.imp fun hs ⟨h1, h2, h3⟩ => ⟨h1, h2, fun i hi => ints_owned (h3 i hi).1 rfl⟩
theorem RowsN.below {O C D : Nat} {w w' : World} {v : Value} {L : List (List Int)} (h : RowsN O C w v L) (hb : Below D w w') (hD : w.heap.size ≤ D) : RowsN O C w' v L :=
  h.imp fun hs ⟨h1, h2, h3⟩ => ⟨owns_keep h1 fun k hk => hb.block k (Nat.lt_of_lt_of_le (h1.lt k hk).2 hD), h2, fun i hi => ⟨owns_keep (h3 i hi).1 fun k hk => hb.block k (Nat.lt_of_lt_of_le ((h3 i hi).1.lt k hk).2 hD), (h3 i hi).2⟩⟩
theorem RowsN.grown {O C : Nat} {w w' : World} {row : Option Nat} {v : Value} {L : List (List Int)} (h : RowsN O C w v L) (hg : w.grownBy w' row) (hr : ∀ k, row = some k → k < O ∨ (C ≤ k ∧ v.ownBlock ≠ some k)) : RowsN O C w' v L := by
  obtain ⟨hs, h1, h2, h3⟩ := h
  refine ⟨hs, owns_keep h1 fun k hk => hg.block k (h1.lt k hk).2 fun e => ?_, h2, fun i hi => ?_⟩
  · rcases hr k e.symm with h | ⟨_, h⟩
    · have := (h1.lt k hk).1; omega
    · exact h hk
  · obtain ⟨ho, hc⟩ := h3 i hi
    refine ⟨owns_keep ho fun k hk => hg.block k (ho.lt k hk).2 fun e => ?_, hc⟩
    rcases hr k e.symm with h | ⟨h, _⟩
    · have := (ho.lt k hk).1; omega
    · have := hc k hk; omega
/-- a row of numbers more, behind append's law -/
theorem RowsN.push {O C n : Nat} {w w' : World} {v v' x : Value} {L : List (List Int)} {hs : List Value} {xs : List Int} (h1 : w.ownsRow O 26 1 v L.length hs) (h2 : hs.length = L.length)
    (h3 : ∀ i, i < L.length → w.ownsRow O 3 1 (hs.getD i .nilIface) (L.getD i []).length (intVs (L.getD i [])) ∧ ∀ k, (hs.getD i .nilIface).ownBlock = some k → k < C)
    (hx : w.ownsRow O 3 1 x n (intVs xs)) (hn : n = xs.length) (h' : w'.ownsRow O 26 1 v' (L.length + 1) (hs ++ [x])) (hg : w.grownBy w' v.ownBlock) : RowsN O w'.heap.size w' v' (L ++ [xs]) := by
  subst hn
  have hk : ∀ {y : Value} {m : Nat} {ys : List Value}, w.ownsRow O 3 1 y m ys → w'.ownsRow O 3 1 y m ys := fun hy => owns_keep hy fun k hk => hg.block k (hy.lt k hk).2 fun e => owns_apart hy h1 (by decide) k hk e.symm
  refine ⟨hs ++ [x], by simpa using h', by simp [h2], fun i hi => ?_⟩
  rcases (show i < L.length ∨ i = L.length by simp at hi; omega) with hlt | rfl
  · have e1 : (hs ++ [x]).getD i .nilIface = hs.getD i .nilIface := by simp [List.getD_eq_getElem?_getD, List.getElem?_append_left (show i < hs.length by omega)]
    have e2 : (L ++ [xs]).getD i [] = L.getD i [] := by simp [List.getD_eq_getElem?_getD, List.getElem?_append_left hlt]
    rw [e1, e2]
    exact ⟨hk (h3 i hlt).1, fun k hb => ((hk (h3 i hlt).1).lt k hb).2⟩
  · have e1 : (hs ++ [x]).getD L.length .nilIface = x := by rw [← h2]; simp [List.getD_eq_getElem?_getD]
    have e2 : (L ++ [xs]).getD L.length [] = xs := by simp [List.getD_eq_getElem?_getD]
    rw [e1, e2]
    exact ⟨hk hx, fun k hb => ((hk hx).lt k hb).2⟩
theorem own_cell {w : World} {O e n g k : Nat} {v y : Value} {xs : List Value} (h : w.ownsRow O e 1 v n xs) (hg : g < O) : (w.setCell ⟨g, k, none⟩ y).ownsRow O e 1 v n xs :=
  owns_keep h fun q hq => Below.heap_setCell _ _ _ q (fun e => by have := (h.lt q hq).1; simp at e; omega)

theorem wrap8 {x : Int} (h0 : 0 ≤ x) (h1 : x ≤ 99) : IntKind.u8.wrap x = x := by
  unfold IntKind.wrap
  simp [IntKind.signed, IntKind.bits]
  omega
/-- one byte, laid and read -/
theorem conv_one (b : Nat) (x : Int) (h0 : 0 ≤ x) (h1 : x ≤ 99) (w' : World) (hc : w'.cell? ⟨b, 0, none⟩ = some (.int .u8 x)) :
    (convert 127 9 (.slice (some ⟨b, 0, none⟩) 1 1)).run Tryz.prog w' = .ok (.string ⟨#[UInt8.ofNat x.toNat]⟩) w' := by
  have h := run_convert_bytes_back (P := Tryz.prog) w' 127 9 5 ⟨b, 0, none⟩ 1 [UInt8.ofNat x.toNat] Tryz.underlying127 Tryz.underlying5 Tryz.underlying9 (fun j hj => by
    obtain rfl : j = 0 := by simpa using hj
    rw [add_zero, hc]
    rw [List.getElem_cons_zero, UInt8.toNat_ofNat_of_lt' (by show x.toNat < 256; omega), Int.toNat_of_nonneg h0])
  exact h
theorem dec_small (n : Int) (h0 : 0 ≤ n) (h1 : n < 10) (w : World) :
    Calls Tryz.prog 91 #[.int .i64 n] w fun e w' => e = .returned (.string ⟨#[UInt8.ofNat (48 + n).toNat]⟩) ∧ w' = w.alloc (.cells #[.int .u8 (48 + n)] 5) := by
  have q1 : decide (n < 10) = true := decide_eq_true h1
  have hw := wrap8 (x := 48 + n) (by omega) (by omega)
  have hconv := conv_one w.heap.size (48 + n) (by omega) (by omega) (w.alloc (.cells #[.int .u8 (48 + n)] 5)) (by simp)
  go_enter Tryz.func91, Tryz.ntmps91
  go_wp2_with fail
  go_ret
  exact ⟨rfl, rfl⟩
set_option maxRecDepth 100000 in
set_option maxHeartbeats 4000000 in
theorem dec_big (n : Int) (h0 : 10 ≤ n) (h1 : n ≤ 99) (w : World) :
    Calls Tryz.prog 91 #[.int .i64 n] w (Gives (.string ⟨[UInt8.ofNat (48 + n / 10).toNat, UInt8.ofNat (48 + n % 10).toNat].toArray⟩) w) := by
  obtain ⟨y, hy⟩ : ∃ y, n / 10 = y := ⟨_, rfl⟩
  obtain ⟨z, hz⟩ : ∃ z, n % 10 = z := ⟨_, rfl⟩
  have hy0 : 0 ≤ y ∧ y < 10 := by omega
  have hz0 : 0 ≤ z ∧ z < 10 := by omega
  obtain ⟨a1, a2⟩ := hy0
  obtain ⟨b1, b2⟩ := hz0
  rw [hy, hz]
  have q1 : decide (n < 10) = false := decide_eq_false (by omega)
  have e1 : Int.tdiv n 10 = y := by rw [Int.tdiv_eq_ediv_of_nonneg (by omega)]; exact hy
  have e2 : Int.tmod n 10 = z := by rw [Int.tmod_eq_emod_of_nonneg (by omega)]; exact hz
  have hw := wrap8 (x := 48 + z) (by omega) (by omega)
  have hw1 : IntKind.i64.wrap y = y := by unfold IntKind.wrap; simp [IntKind.signed, IntKind.bits]; omega
  have hw2 : IntKind.i64.wrap (48 + z) = 48 + z := by unfold IntKind.wrap; simp [IntKind.signed, IntKind.bits]; omega
  have hc1 := conv_one w.heap.size (48 + z) (by omega) (by omega) (w.alloc (.cells #[.int .u8 (48 + z)] 5)).drew (by simp)
  have hc2 := conv_one w.heap.size (48 + z) (by omega) (by omega) ((w.alloc (.cells #[.int .u8 (48 + z)] 5)).alloc (.cells #[.int .u8 (48 + y)] 5)).drew (by simp)
  have hc3 := conv_one (w.heap.size + 1) (48 + z) (by omega) (by omega) ((w.alloc (.cells #[.int .u8 (48 + y)] 5)).alloc (.cells #[.int .u8 (48 + z)] 5)).drew (by simp)
  go_enter Tryz.func91, Tryz.ntmps91
  go_wp2_with fail
  go_region_with (go_at_call 91; refine (dec_small y a1 a2 _).mono ?_; rintro e w' ⟨rfl, rfl⟩)
  all_goals (go_wp2_with fail; go_ret; exact ⟨rfl, (((Below.refl _ _).alloc (Nat.le_refl _) _).alloc (by simp) _).drew⟩)
theorem decimal_any (n : Int) (h : Dec n) (w : World) : Calls Tryz.prog 91 #[.int .i64 n] w (Gives (.string ⟨(decT n).toArray⟩) w) := by
  obtain ⟨h0, h1⟩ := h
  by_cases h2 : n < 10
  · have e : decT n = [UInt8.ofNat (48 + n).toNat] := by
      unfold decT
      rw [if_pos h2, show (48 + n).toNat = 48 + n.toNat by omega]
    rw [e]
    exact (dec_small n h0 h2 w).mono fun e w' ⟨h1, h2⟩ => ⟨h1, by rw [h2]; exact (Below.refl _ _).alloc (Nat.le_refl _) _⟩
  · have e : decT n = [UInt8.ofNat (48 + n / 10).toNat, UInt8.ofNat (48 + n % 10).toNat] := by
      unfold decT
      rw [if_neg h2, show (48 + n / 10).toNat = 48 + (n / 10).toNat by omega, show (48 + n % 10).toNat = 48 + (n % 10).toNat by omega]
    rw [e]
    exact dec_big n (by omega) h1 w

theorem flat_bdT {L : List (List Int)} {b : Nat} (h : ∀ l ∈ L, l.length ≤ b) : L.flatten.length ≤ b * L.length := by
  induction L with
  | nil => simp
  | cons l L ih =>
    have h1 := h l List.mem_cons_self
    have h2 := ih fun x hx => h x (List.mem_cons_of_mem _ hx)
    rw [List.flatten_cons, List.length_append, List.length_cons, Nat.mul_add]
    omega
/-- the text of facets, if they are a complex -/
noncomputable def textF (L : List (List Int)) : List UInt8 := if errX L = 0 then facT L else []
theorem textF_ok {L : List (List Int)} (h : errX L = 0) : textF L = facT L := if_pos h
theorem textF_bad {L : List (List Int)} (h : errX L ≠ 0) : textF L = [] := if_neg h
/-- a text and an error -/
def TextP (a : Nat → Addr) (L : List (List Int)) (w : World) (e : Ending) (w' : World) : Prop :=
  ∃ ev, e = .returned (.tuple #[.string ⟨(textF L).toArray⟩, ev]) ∧ Below w.heap.size w w' ∧ ErrAt a w' ev (errX L : Int) (-1)
theorem ret_tx {t t' : List UInt8} {v : Value} (h : t = t') : Ending.returned (.tuple #[.string ⟨t.toArray⟩, v]) = .returned (.tuple #[.string ⟨t'.toArray⟩, v]) := by rw [h]
theorem ret_sx {t t' : ByteArray} {v : Value} (h : t = t') : Ending.returned (.tuple #[.string t, v]) = .returned (.tuple #[.string t', v]) := by rw [h]
theorem bytes_size (t : List UInt8) : (ByteArray.mk t.toArray).size = t.length := by show t.toArray.size = _; simp

set_option maxRecDepth 100000 in
set_option maxHeartbeats 4000000 in
theorem text_any (a : Nat → Addr) (B : Nat) (L : List (List Int)) (v : Value) (w : World) (hS : Sents w a) (hB : B ≤ w.heap.size) (hv : ListsIn B w v L) (hn : L.length ≤ 100000) (hl : ∀ l ∈ L, l.length ≤ 100000) :
    Calls Tryz.prog 48 #[.agg #[v]] w (TextP a L w) := by
  obtain ⟨pv, cv, hve, -⟩ := id hv
  obtain ⟨n, hLn⟩ : ∃ n, L.length = n := ⟨_, rfl⟩
  rw [hLn] at hve
  subst hve
  have HN := Lib.hid hLn
  have hb0 : Below w.heap.size w (w.alloc (.cells #[.slice pv n cv] 34)) := (Below.refl _ _).alloc (Nat.le_refl _) _
  have HB0 := Lib.hid hb0
  have HC := Lib.hid (valid_any a B L (.slice pv n cv) _ (hS.below hb0 (Nat.le_refl _)) (Nat.le_trans hB hb0.size) (hv.below hb0 (Nat.le_refl _)) hn hl)
  unfold ValP at HC
  have HV0 := Lib.hid (hv.below hb0 (Nat.le_refl _))
  unfold TextP
  clear hS hB hv hn hl hb0 hLn
  go_enter Tryz.func48, Tryz.ntmps48
  go_wp2_with fail
  refine HC.out.mono ?_
  rintro e w1 ⟨hb1, ⟨he, rfl⟩ | ⟨k, hk, hek, rfl⟩⟩
  rotate_left
  · have HB1 := Lib.hid (HB0.out.trans (hb1.mono HB0.out.size))
    have HEK := Lib.hid hek
    clear hb1 hek
    unfold errE
    go_wp2_with fail
    go_ret2
    exact ⟨_, ret_tx (t := []) (textF_bad (by rw [HEK.out]; omega)).symm, HB1.out, Or.inr (Or.inl ⟨k, hk, rfl, by rw [HEK.out]; rfl, rfl⟩)⟩
  have HB1 := Lib.hid (HB0.out.trans (hb1.mono HB0.out.size))
  have hc1 : w1.cell? ⟨w.heap.size, 0, none⟩ = some (.slice pv n cv) := (hb1.cell (by simp)).trans (by simp)
  have HV := Lib.hid (HV0.out.below hb1 (Nat.le_refl _))
  have HE := Lib.hid he
  have hx := errX_ok he
  have h7 := (errC_ok hx.1).2.1
  have hn6 : n ≤ 600 := by have := made_len hx.1; rw [← hx.2] at this; rw [← HN.out]; exact this
  have hfl := flat_bdT h7
  rw [HN.out] at hfl
  have HFT := Lib.hid (fun k => Nat.le_trans (facT_take_len L k) (by rw [HN.out]; omega : _ ≤ 20000))
  have H7 := Lib.hid h7
  have HD := Lib.hid (fun l hl x hx' => ((errC_ok hx.1).1 l hl).2.2 x hx' : ∀ l ∈ L, ∀ x ∈ l, 0 ≤ x ∧ x ≤ 99)
  clear hb1 he hx h7 hfl
  go_wp2_with fail
  go_loop [5, 18] (fun s i => ∃ (j : Nat) (T : ByteArray), j ≤ n ∧ i = .int .i64 j ∧ s = .string T ∧ Hid (T = ⟨(facT (L.take j)).toArray⟩)) (fun _ i => n - (intOf i).toNat)
  case atStart => exact ⟨0, _, Nat.zero_le _, rfl, rfl, rfl⟩
  case round =>
    obtain ⟨j, T, hj, rfl, rfl, HT⟩ := hrel
    by_cases hjn : j < n
    · have hjL : j < L.length := by rw [HN.out]; exact hjn
      obtain ⟨b, off, c, hve⟩ := HV.out.form (by omega)
      rw [HN.out] at hve
      obtain ⟨rfl, rfl⟩ : pv = some ⟨b, off, none⟩ ∧ cv = c := by cases hve; exact ⟨rfl, rfl⟩
      obtain ⟨pj, cj, hcj, hij⟩ := cells_at HV.out j hjL
      have hm7 := H7.out _ (getL_mem hjL)
      have HDJ := Lib.hid (HD.out _ (getL_mem hjL))
      have HSTEP := Lib.hid (facT_step hjL)
      obtain ⟨f, hf⟩ : ∃ f, L.getD j [] = f := ⟨_, rfl⟩
      rw [hf] at hcj hij hm7 HDJ HSTEP
      obtain ⟨m, hm⟩ : ∃ m, f.length = m := ⟨_, rfl⟩
      rw [hm] at hcj hm7
      have HM := Lib.hid hm
      have HIJ := Lib.hid hij
      have hTs : T.size ≤ 20000 := by rw [HT.out, bytes_size]; exact HFT.out j
      obtain ⟨pre, hpre⟩ : ∃ pre, (if j = 0 then [] else facT (L.take j) ++ [59, 32]) = pre := ⟨_, rfl⟩
      rw [hpre] at HSTEP
      have hpl : pre.length ≤ 20002 := by
        rw [← hpre]
        split
        · simp
        · have := HFT.out j; simp; omega
      have HPL := Lib.hid hpl
      clear hve hjL hf hm hij hpl
      by_cases h0 : j = 0
      case' pos =>
        have q1 : decide ((0 : Int) < (j : Int)) = false := decide_eq_false (by omega)
        have q2 : decide (0 < j) = false := decide_eq_false (by omega)
        have HT1 : Hid (T = ⟨pre.toArray⟩) := by unfold Hid; rw [← hpre, HT.out, if_pos h0, h0]; rfl
        clear h0 hpre
        go_wp2_with fail
        obtain ⟨T1, hT1⟩ : ∃ T1, T = T1 := ⟨_, rfl⟩
        rw [hT1] at HT1 ⊢
      case' neg =>
        have q1 : decide ((0 : Int) < (j : Int)) = true := decide_eq_true (by omega)
        have q2 : decide (0 < j) = true := decide_eq_true (by omega)
        have HT1 : Hid (T ++ ⟨#[59, 32]⟩ = ⟨pre.toArray⟩) := by
          unfold Hid
          rw [← hpre, HT.out, if_neg h0]
          exact ByteArray.mk_append_mk _ [59, 32]
        clear h0 hpre
        go_wp2_with fail
        obtain ⟨T1, hT1⟩ : ∃ T1, T ++ ⟨#[59, 32]⟩ = T1 := ⟨_, rfl⟩
        rw [hT1] at HT1 ⊢
      all_goals
        clear hT1
        go_loop [5, 29] (fun s i => ∃ (k : Nat) (U : ByteArray), k ≤ m ∧ i = .int .i64 k ∧ s = .string U ∧ Hid (U = ⟨(pre ++ setT (f.take k)).toArray⟩)) (fun _ i => m - (intOf i).toNat)
        case atStart => exact ⟨0, _, Nat.zero_le _, rfl, rfl, by unfold Hid; rw [HT1.out]; simp [setT]⟩
        case round =>
          obtain ⟨k, U, hk, rfl, rfl, HU⟩ := hrel
          by_cases hkm : k < m
          · have hkf : k < f.length := by rw [HM.out]; exact hkm
            obtain ⟨p', c', hv', -, -, hx⟩ := id HIJ.out.at
            obtain ⟨b2, off2, e1, e2⟩ := hx k hkf
            obtain ⟨rfl, rfl⟩ : p' = pj ∧ c' = cj := by cases hv'; exact ⟨rfl, rfl⟩
            subst e1
            have hxb := HDJ.out _ (getD_mem hkf)
            have hs2 := setT_step hkf
            obtain ⟨x, hxx⟩ : ∃ x : Nat, f.getD k 0 = (x : Int) := ⟨(f.getD k 0).toNat, by omega⟩
            rw [hxx] at e2 hxb hs2
            have HS2 := Lib.hid hs2
            have hx99 : x < 100 := by omega
            have hit := Tryz.strconv_Itoa_small x hx99 w1
            obtain ⟨D, hD⟩ : ∃ D : ByteArray, (⟨(Lib.decDigits x).toArray⟩ : ByteArray) = D := ⟨_, rfl⟩
            rw [hD] at hit
            have HIT := Lib.hid hit
            have HDD : Hid (D = ⟨(decT (x : Int)).toArray⟩) := by unfold Hid; rw [← hD, decT_digits x hx99]
            have hDs : D.size ≤ 2 := by rw [HDD.out, bytes_size]; exact decT_len _
            have hUs : U.size ≤ 20100 := by
              have := setT_take_len f k
              rw [HM.out] at this
              have h2 := HPL.out
              rw [HU.out, bytes_size, List.length_append]
              omega
            clear hv' hx hkf hs2 hit hD hxx hxb
            by_cases h0 : k = 0
            · have r1 : decide ((0 : Int) < (k : Int)) = false := decide_eq_false (by omega)
              have r2 : decide (0 < k) = false := decide_eq_false (by omega)
              have HN1 : Hid (U ++ D = ⟨(pre ++ setT (f.take (k + 1))).toArray⟩) := by
                unfold Hid
                rw [HS2.out, HU.out, HDD.out, if_pos h0, h0, ByteArray.mk_append_mk]
                simp [setT]
              clear h0
              go_wp2_with fail
              refine HIT.out.mono ?_
              rintro e w2 ⟨rfl, rfl⟩
              go_wp2_with fail
              go_round
              case rel => exact ⟨k + 1, _, by omega, by go_num, rfl, HN1⟩
              case measure => simp [intOf]; omega
            · have r1 : decide ((0 : Int) < (k : Int)) = true := decide_eq_true (by omega)
              have r2 : decide (0 < k) = true := decide_eq_true (by omega)
              have HN1 : Hid (U ++ ⟨#[32]⟩ ++ D = ⟨(pre ++ setT (f.take (k + 1))).toArray⟩) := by
                unfold Hid
                rw [HS2.out, HU.out, HDD.out, if_neg h0, show (⟨#[32]⟩ : ByteArray) = ⟨[32].toArray⟩ from rfl, ByteArray.mk_append_mk, ByteArray.mk_append_mk]
                simp
              clear h0
              go_wp2_with fail
              refine HIT.out.mono ?_
              rintro e w2 ⟨rfl, rfl⟩
              go_wp2_with fail
              go_round
              case rel => exact ⟨k + 1, _, by omega, by go_num, rfl, HN1⟩
              case measure => simp [intOf]; omega
          · obtain rfl : k = m := by omega
            have HN2 : Hid (U = ⟨(facT (L.take (j + 1))).toArray⟩) := by
              unfold Hid
              rw [HSTEP.out, HU.out, List.take_of_length_le (by rw [HM.out]; exact Nat.le_refl _)]
            go_wp2_with fail
            go_round
            case rel => exact ⟨j + 1, _, by omega, by go_num, rfl, HN2⟩
            case measure => simp [intOf]; omega
    · obtain rfl : j = n := by omega
      have HT2 : Hid (T = ⟨(facT L).toArray⟩) := by unfold Hid; rw [HT.out, List.take_of_length_le (by rw [HN.out]; exact Nat.le_refl _)]
      go_wp2_with fail
      go_ret2
      exact ⟨_, ret_sx (HT2.out.trans (by rw [textF_ok HE.out])), HB1.out, by rw [HE.out]; exact ErrAt.nil _ _⟩

theorem ret_s {t t' : ByteArray} (h : t = t') : Ending.returned (.string t) = .returned (.string t') := by rw [h]
set_option maxRecDepth 100000 in
set_option maxHeartbeats 4000000 in
theorem facetText_any (B : Nat) (L : List (List Int)) (v : Value) (w : World) (hv : ListsIn B w v L) (hn : L.length ≤ 600) (h7 : ∀ l ∈ L, l.length ≤ 7) (hd : ∀ l ∈ L, ∀ x ∈ l, 0 ≤ x ∧ x ≤ 99) :
    Calls Tryz.prog 49 #[v] w (Gives (.string ⟨(facT L).toArray⟩) w) := by
  obtain ⟨pv, cv, hve, -⟩ := id hv
  have hfl := flat_bdT h7
  have HFT := Lib.hid (fun k => Nat.le_trans (facT_take_len L k) (by omega : _ ≤ 20000))
  obtain ⟨n, hLn⟩ : ∃ n, L.length = n := ⟨_, rfl⟩
  rw [hLn] at hve
  subst hve
  have HN := Lib.hid hLn
  have HV := Lib.hid hv
  have H7 := Lib.hid h7
  have HD := Lib.hid hd
  have hn6 : n ≤ 600 := by omega
  clear hv hn h7 hd hfl hLn
  unfold Gives
  go_enter Tryz.func49, Tryz.ntmps49
  go_wp2_with fail
  go_loopw [3, 4] (fun s i wr => ∃ (j : Nat) (T : ByteArray), j ≤ n ∧ i = .int .i64 j ∧ s = .string T ∧ Hid (T = ⟨(facT (L.take j)).toArray⟩) ∧ Below w.heap.size w wr) (fun _ i _ => n - (intOf i).toNat)
  case atStart => exact ⟨0, _, Nat.zero_le _, rfl, rfl, rfl, Below.refl _ _⟩
  case round =>
    obtain ⟨j, T, hj, rfl, rfl, HT, hb⟩ := hrel
    have HB := Lib.hid hb
    by_cases hjn : j < n
    · have hjL : j < L.length := by rw [HN.out]; exact hjn
      obtain ⟨b, off, c, hve⟩ := HV.out.form (by omega)
      rw [HN.out] at hve
      obtain ⟨rfl, rfl⟩ : pv = some ⟨b, off, none⟩ ∧ cv = c := by cases hve; exact ⟨rfl, rfl⟩
      obtain ⟨pj, cj, hcj, hij⟩ := cells_at HV.out j hjL
      have hm7 := H7.out _ (getL_mem hjL)
      have HDJ := Lib.hid (HD.out _ (getL_mem hjL))
      have HSTEP := Lib.hid (facT_step hjL)
      obtain ⟨f, hf⟩ : ∃ f, L.getD j [] = f := ⟨_, rfl⟩
      rw [hf] at hcj hij hm7 HDJ HSTEP
      obtain ⟨m, hm⟩ : ∃ m, f.length = m := ⟨_, rfl⟩
      rw [hm] at hcj hm7
      have HCJ := Lib.hid hcj
      have HM := Lib.hid hm
      have HIJ := Lib.hid hij
      have hTs : T.size ≤ 20000 := by rw [HT.out, bytes_size]; exact HFT.out j
      obtain ⟨pre, hpre⟩ : ∃ pre, (if j = 0 then [] else facT (L.take j) ++ [59, 32]) = pre := ⟨_, rfl⟩
      rw [hpre] at HSTEP
      have hpl : pre.length ≤ 20002 := by
        rw [← hpre]
        split
        · simp
        · have := HFT.out j; simp; omega
      have HPL := Lib.hid hpl
      clear hve hjL hf hm hij hpl hcj hb
      by_cases h0 : j = 0
      case' pos =>
        have q1 : decide ((0 : Int) < (j : Int)) = false := decide_eq_false (by omega)
        have q2 : decide (0 < j) = false := decide_eq_false (by omega)
        have HT1 : Hid (T = ⟨pre.toArray⟩) := by unfold Hid; rw [← hpre, HT.out, if_pos h0, h0]; rfl
        clear h0 hpre
        go_wp2_with fail
        obtain ⟨T1, hT1⟩ : ∃ T1, T = T1 := ⟨_, rfl⟩
        rw [hT1] at HT1 ⊢
      case' neg =>
        have q1 : decide ((0 : Int) < (j : Int)) = true := decide_eq_true (by omega)
        have q2 : decide (0 < j) = true := decide_eq_true (by omega)
        have HT1 : Hid (T ++ ⟨#[59, 32]⟩ = ⟨pre.toArray⟩) := by
          unfold Hid
          rw [← hpre, HT.out, if_neg h0]
          exact ByteArray.mk_append_mk _ [59, 32]
        clear h0 hpre
        go_wp2_with fail
        obtain ⟨T1, hT1⟩ : ∃ T1, T ++ ⟨#[59, 32]⟩ = T1 := ⟨_, rfl⟩
        rw [hT1] at HT1 ⊢
      all_goals
        clear hT1
        go_loopw [3, 5] (fun s i wq => ∃ (k : Nat) (U : ByteArray), k ≤ m ∧ i = .int .i64 k ∧ s = .string U ∧ Hid (U = ⟨(pre ++ setT (f.take k)).toArray⟩) ∧ Below w.heap.size w wq) (fun _ i _ => m - (intOf i).toNat)
        case atStart => exact ⟨0, _, Nat.zero_le _, rfl, rfl, by unfold Hid; rw [HT1.out]; simp [setT], HB.out⟩
        case round =>
          obtain ⟨k, U, hk, rfl, rfl, HU, hbq⟩ := hrel
          have HBQ := Lib.hid hbq
          have hcj := (hbq.cell (p := ⟨b, off + j, none⟩) (mem_lt HCJ.out)).trans HCJ.out
          by_cases hkm : k < m
          · have hkf : k < f.length := by rw [HM.out]; exact hkm
            obtain ⟨p', c', hv', -, -, hx⟩ := id HIJ.out.at
            obtain ⟨b2, off2, e1, e2⟩ := hx k hkf
            obtain ⟨rfl, rfl⟩ : p' = pj ∧ c' = cj := by cases hv'; exact ⟨rfl, rfl⟩
            subst e1
            have hxb := HDJ.out _ (getD_mem hkf)
            have hs2 := setT_step hkf
            obtain ⟨x, hxx⟩ : ∃ x : Int, f.getD k 0 = x := ⟨_, rfl⟩
            rw [hxx] at e2 hxb hs2
            have e3 := (hbq.cell (p := ⟨b2, off2 + k, none⟩) (mem_lt e2)).trans e2
            have HS2 := Lib.hid hs2
            have hit := decimal_any x hxb
            obtain ⟨D, hD⟩ : ∃ D : ByteArray, (⟨(decT x).toArray⟩ : ByteArray) = D := ⟨_, rfl⟩
            rw [hD] at hit
            unfold Gives at hit
            have HIT := Lib.hid hit
            have HDD : Hid (D = ⟨(decT x).toArray⟩) := hD.symm
            have hDs : D.size ≤ 2 := by rw [HDD.out, bytes_size]; exact decT_len _
            have hUs : U.size ≤ 20100 := by
              have := setT_take_len f k
              rw [HM.out] at this
              have h2 := HPL.out
              rw [HU.out, bytes_size, List.length_append]
              omega
            clear hv' hx hkf hs2 hit hD hxx hxb hbq e2
            by_cases h0 : k = 0
            · have r1 : decide ((0 : Int) < (k : Int)) = false := decide_eq_false (by omega)
              have r2 : decide (0 < k) = false := decide_eq_false (by omega)
              have HN1 : Hid (U ++ D = ⟨(pre ++ setT (f.take (k + 1))).toArray⟩) := by
                unfold Hid
                rw [HS2.out, HU.out, HDD.out, if_pos h0, h0, ByteArray.mk_append_mk]
                simp [setT]
              clear h0
              go_wp2_with fail
              refine (HIT.out _).mono ?_
              rintro e w2 ⟨rfl, hb2⟩
              have HB2 := Lib.hid (HBQ.out.trans (hb2.mono HBQ.out.size))
              clear hb2
              go_wp2_with fail
              go_roundw
              case rel => exact ⟨k + 1, _, by omega, by go_num, rfl, HN1, HB2.out⟩
              case measure => simp [intOf]; omega
            · have r1 : decide ((0 : Int) < (k : Int)) = true := decide_eq_true (by omega)
              have r2 : decide (0 < k) = true := decide_eq_true (by omega)
              have HN1 : Hid (U ++ ⟨#[32]⟩ ++ D = ⟨(pre ++ setT (f.take (k + 1))).toArray⟩) := by
                unfold Hid
                rw [HS2.out, HU.out, HDD.out, if_neg h0, show (⟨#[32]⟩ : ByteArray) = ⟨[32].toArray⟩ from rfl, ByteArray.mk_append_mk, ByteArray.mk_append_mk]
                simp
              clear h0
              go_wp2_with fail
              refine (HIT.out _).mono ?_
              rintro e w2 ⟨rfl, hb2⟩
              have HB2 := Lib.hid (HBQ.out.trans (hb2.mono HBQ.out.size))
              clear hb2
              go_wp2_with fail
              go_roundw
              case rel => exact ⟨k + 1, _, by omega, by go_num, rfl, HN1, HB2.out⟩
              case measure => simp [intOf]; omega
          · obtain rfl : k = m := by omega
            have HN2 : Hid (U = ⟨(facT (L.take (j + 1))).toArray⟩) := by
              unfold Hid
              rw [HSTEP.out, HU.out, List.take_of_length_le (by rw [HM.out]; exact Nat.le_refl _)]
            clear hbq
            go_wp2_with fail
            go_roundw
            case rel => exact ⟨j + 1, _, by omega, by go_num, rfl, HN2, HBQ.out⟩
            case measure => simp [intOf]; omega
    · obtain rfl : j = n := by omega
      have HT2 : Hid (T = ⟨(facT L).toArray⟩) := by unfold Hid; rw [HT.out, List.take_of_length_le (by rw [HN.out]; exact Nat.le_refl _)]
      clear hb
      go_wp2_with fail
      go_ret
      exact ⟨ret_s HT2.out, HB.out⟩

theorem RowsN.more {O C q : Nat} {w w1 : World} {lv sv : Value} {L : List (List Int)} {ys : List Value} (h : RowsN O C w lv L) (ho : w.ownsRow C 3 1 sv q ys) (hg : w.grownBy w1 sv.ownBlock) : RowsN O C w1 lv L :=
  h.grown hg fun k hk => Or.inr ⟨(ho.lt k hk).1, fun e => by
    obtain ⟨hs, h1, -⟩ := h
    exact owns_apart ho h1 (by decide) k hk e⟩
theorem RowsN.le {O C D : Nat} {w : World} {v : Value} {L : List (List Int)} (h : RowsN O C w v L) (hD : C ≤ D) : RowsN O D w v L :=
  h.imp fun hs ⟨h1, h2, h3⟩ => ⟨h1, h2, fun i hi => ⟨(h3 i hi).1, fun k hk => Nat.lt_of_lt_of_le ((h3 i hi).2 k hk) hD⟩⟩
def FltB (w : World) (h : Nat) : Prop := w.heap[h]? = some (.cells #[.int .i64 0, .int .i64 0] 75 (0, 0))
theorem FltB.below {w w' : World} {h D : Nat} (hf : FltB w h) (hb : Below D w w') (hD : w.heap.size ≤ D) : FltB w' h := by
  have hlt : h < w.heap.size := by
    unfold FltB at hf
    exact (Array.getElem?_eq_some_iff.1 hf).1
  unfold FltB
  rw [hb.block h (Nat.lt_of_lt_of_le hlt hD)]; exact hf
theorem FltB.grown {w w' : World} {h : Nat} {row : Option Nat} (hf : FltB w h) (hg : w.grownBy w' row) (hr : ∀ k, row = some k → h < k) : FltB w' h := by
  have hlt : h < w.heap.size := by
    unfold FltB at hf
    exact (Array.getElem?_eq_some_iff.1 hf).1
  unfold FltB
  rw [hg.block h hlt (fun e => by have := hr h e.symm; omega)]; exact hf
theorem FltB.cells {w : World} {h : Nat} (hf : FltB w h) : w.cell? ⟨h, 0, none⟩ = some (.int .i64 0) ∧ w.cell? ⟨h, 1, none⟩ = some (.int .i64 0) ∧ w.frozen? ⟨h, 0, none⟩ = false ∧ w.frozen? ⟨h, 1, none⟩ = false := by
  unfold FltB at hf
  refine ⟨?_, ?_, ?_, ?_⟩ <;> simp [World.cell?, World.frozen?, hf]

theorem FltB.lt {w : World} {h : Nat} (hf : FltB w h) : h < w.heap.size := by
  unfold FltB at hf
  exact (Array.getElem?_eq_some_iff.1 hf).1
theorem FltB.store {w : World} {h : Nat} (hf : FltB w h) (x y : Value) : ((w.setCell ⟨h, 0, none⟩ x).setCell ⟨h, 1, none⟩ y).cell? ⟨h, 0, none⟩ = some x ∧ ((w.setCell ⟨h, 0, none⟩ x).setCell ⟨h, 1, none⟩ y).cell? ⟨h, 1, none⟩ = some y := by
  have h1 := set_block (k := 0) (v := x) hf
  have h2 := set_block (k := 1) (v := y) h1
  constructor <;> simp [World.cell?, h2]
theorem ListsIn.off {B g : Nat} {w w' : World} {v : Value} {L : List (List Int)} (h : ListsIn B w v L) (hk : ∀ k, k ≠ g → w'.heap[k]? = w.heap[k]?) (hB : B ≤ g) (hf : FltB w g) : ListsIn B w' v L := by
  have hc : ∀ {b off : Nat} {u : Value}, b ≠ g → w.cell? ⟨b, off, none⟩ = some u → w'.cell? ⟨b, off, none⟩ = some u := fun {b off u} hb h => by rw [World.cell?_of_block (hk b hb)]; exact h
  obtain ⟨p, c, hv, h1, h2, hx⟩ := h
  refine ⟨p, c, hv, h1, h2, fun i hi => ?_⟩
  obtain ⟨b, off, u, e1, e2, p', c', e3, e4, e5, e6⟩ := hx i hi
  have hbg : b ≠ g := fun e => by
    subst e
    unfold FltB at hf
    simp only [World.cell?, hf] at e2
    have : off + i = 0 ∨ off + i = 1 ∨ 2 ≤ off + i := by omega
    rcases this with h | h | h
    · rw [h] at e2; simp at e2; rw [← e2] at e3; cases e3
    · rw [h] at e2; simp at e2; rw [← e2] at e3; cases e3
    · rw [show (#[Value.int .i64 0, Value.int .i64 0] : Array Value)[off + i]? = none from Array.getElem?_eq_none (by simpa using h)] at e2
      simp at e2
  refine ⟨b, off, u, e1, hc hbg e2, p', c', e3, e4, e5, fun j hj => ?_⟩
  obtain ⟨b2, off2, a1, a2, a3⟩ := e6 j hj
  have hb2 : b2 ≠ g := fun e => by
    subst e
    rcases a3 with h | ⟨c3, h⟩
    · omega
    · unfold FltB at hf
      rw [hf] at h
      cases h
  exact ⟨b2, off2, a1, hc hb2 a2, a3.imp id fun ⟨c3, h⟩ => ⟨c3, by rw [hk b2 hb2]; exact h⟩⟩
theorem ListsIn.flt {B g : Nat} {w : World} {v : Value} {L : List (List Int)} (h : ListsIn B w v L) (hf : FltB w g) (hB : B ≤ g) (x y : Value) : ListsIn B ((w.setCell ⟨g, 0, none⟩ x).setCell ⟨g, 1, none⟩ y) v L :=
  h.off (fun k hk => (Below.heap_setCell _ _ _ k (fun e => hk (by rw [e]))).trans (Below.heap_setCell _ _ _ k (fun e => hk (by rw [e])))) hB hf
theorem finS_pos {set : List Int} {n : Int} {d : Nat} (h : 0 < d) : finS set n d = set ++ [n] := if_neg (by omega)
theorem out_0 {l : List (List Int)} (h : errC l = 0) : outC (.sets l) = 0 := h
theorem out_1 {l : List (List Int)} (h : errC l = 0) : outP (.sets l) = -1 := if_pos h
theorem out_2 {l : List (List Int)} (h : errC l = 0) : outL (.sets l) = madeF l := if_pos h
theorem out_4 {l : List (List Int)} (h : errC l ≠ 0) : outP (.sets l) = 0 := if_neg h
theorem out_5 {l : List (List Int)} (h : errC l ≠ 0) : outL (.sets l) = [] := if_neg h

/-- facets, a code, a place -/
def RdP (B : Nat) (R : RdR) (w : World) (e : Ending) (w' : World) : Prop :=
  ∃ v x y, e = .returned (.tuple #[v, .agg #[.int .i64 x, .int .i64 y]]) ∧ x = (outC R : Int) ∧ y = outP R ∧ Below w.heap.size w w' ∧ ListsIn B w' v (outL R)

set_option maxRecDepth 100000 in
set_option maxHeartbeats 8000000 in
theorem readComplex_any (B : Nat) (s : ByteArray) (w : World) (hB : B ≤ w.heap.size) (hs : s.size ≤ 20000) :
    Calls Tryz.prog 51 #[.string s] w (RdP B (rd s.data.toList [] [] (-1) 0 false 0) w) := by
  obtain ⟨i3, hi3, hy0, hy1, hy2⟩ := info_parts Tryz.info3
  obtain ⟨i39, hi39, hz0, hz1, hz2⟩ := info_parts Tryz.info26
  obtain ⟨R, hR⟩ : ∃ R, rd s.data.toList [] [] (-1) 0 false 0 = R := ⟨_, rfl⟩
  rw [hR]
  have HR0 := Lib.hid hR
  obtain ⟨m, hm⟩ : ∃ m, s.size = m := ⟨_, rfl⟩
  rw [hm] at hs
  have HM := Lib.hid hm
  have HBB := Lib.hid hB
  have p1 : decide ((20000 : Int) < (m : Int)) = false := decide_eq_false (by omega)
  have p2 : decide (20000 < m) = false := decide_eq_false (by omega)
  unfold RdP
  clear hR hB
  go_enter Tryz.func51, Tryz.ntmps51
  go_wp2_with fail
  go_loopw [4, 5, 6, 7, 8, 9] (fun l set n d b i wr => ∃ (k dd q nl C : Nat) (nn : Int) (bb : Bool) (L : List (List Int)) (xs : List Int) (pl ps : Option Addr) (cl cs : Nat), k ≤ m ∧ i = .int .i64 k ∧ d = .int .i64 dd ∧ n = .int .i64 nn ∧ b = .bool bb ∧ l = .slice pl nl cl ∧ set = .slice ps q cs ∧
      dd ≤ 2 ∧ -1 ≤ nn ∧ nn ≤ 99 ∧ (dd = 1 → 0 ≤ nn ∧ nn ≤ 9) ∧ q ≤ k ∧ nl ≤ k ∧ Hid (L.length = nl) ∧ Hid (xs.length = q) ∧ Hid (∀ x ∈ L, x.length ≤ 30000) ∧ Hid (rd (s.data.toList.drop k) L xs nn dd bb k = R) ∧
      Below w.heap.size w wr ∧ w.heap.size + 1 ≤ C ∧ C ≤ wr.heap.size ∧ RowsN (w.heap.size + 1) C wr (.slice pl nl cl) L ∧ wr.ownsRow C 3 1 (.slice ps q cs) q (intVs xs) ∧ FltB wr w.heap.size) (fun _ _ _ _ _ i _ => m - (intOf i).toNat)
  case atStart =>
    exact ⟨0, 0, 0, 0, w.heap.size + 1, -1, false, [], [], none, none, 0, 0, Nat.zero_le _, rfl, rfl, rfl, rfl, rfl, rfl, Nat.zero_le _, by omega, by omega, (fun h => by omega), Nat.le_refl _, Nat.le_refl _, rfl, rfl, (fun x hx => by cases hx), HR0.out,
      (Below.refl _ _).alloc (Nat.le_refl _) _, Nat.le_refl _, by simp, RowsN.nil _ _ _, World.ownsRow_nil _ _ _ _, heap_alloc_new w _⟩
  case round =>
    obtain ⟨k, dd, q, nl, C, nn, bb, L, xs, pl, ps, cl, cs, hk, rfl, rfl, rfl, rfl, rfl, rfl, hdd, hn0, hn1, hnd, hqk, hlk, HLL, HXL, HL2, HRD, hb, hC0, hC1, hRN, hOW, hFB⟩ := hrel
    have HB := Lib.hid hb
    have HRN := Lib.hid hRN
    have HOW := Lib.hid hOW
    have HFB := Lib.hid hFB
    obtain ⟨f0, f1, f2, f3⟩ := hFB.cells
    clear hb hRN hOW hFB
    by_cases hkm : k < m
    · have hks : k < s.size := by rw [HM.out]; exact hkm
      have HDR := Lib.hid (drop_byte s k hks)
      obtain ⟨z, hz⟩ : ∃ z, (s[k]'hks).toNat = z := ⟨_, rfl⟩
      have hz256 : z < 256 := by rw [← hz]; exact byte_lt _
      have nz : ((z : Int) == 32) = decide (z = 32) := by rw [Bool.eq_iff_iff]; simp; omega
      have ny : ((z : Int) == 59) = decide (z = 59) := by rw [Bool.eq_iff_iff]; simp; omega
      have nx : ((z : Int) != 32) = !decide (z = 32) := by rw [bne, nz]
      by_cases hdg : 48 ≤ z ∧ z ≤ 57
      · obtain ⟨hd1, hd2⟩ := hdg
        have HDG : Hid (isDg s[k] = true) := isDg_iff.2 (by rw [hz]; exact ⟨hd1, hd2⟩)
        have HGV : Hid (dgv s[k] = (z : Int) - 48) := by unfold Hid dgv; rw [hz]
        have g1 : decide ((48 : Int) ≤ (z : Int)) = true := decide_eq_true (by omega)
        have g2 : decide (48 ≤ z) = true := decide_eq_true hd1
        have g3 : decide ((z : Int) ≤ 57) = true := decide_eq_true (by omega)
        have g4 : decide (z ≤ 57) = true := decide_eq_true hd2
        rw [decide_eq_false (by omega)] at nz ny nx
        have hw8 : IntKind.u8.wrap ((z : Int) - 48) = (z : Int) - 48 := wrap8 (by omega) (by omega)
        rcases (show dd = 2 ∨ dd = 0 ∨ dd = 1 by omega) with rfl | rfl | rfl
        · have HBAD : Hid (R = .bad k) := by unfold Hid; rw [← HRD.out, HDR.out, rd_dg2 HDG.out]
          cases bb with
          | false =>
            go_wp2_with fail
            obtain ⟨R0, R1⟩ := HFB.out.store (.int .i64 1) (.int .i64 k)
            refine bodyPost_ret (v := .tuple #[.slice none 0 0, .agg #[.int .i64 1, .int .i64 k]]) (by simp [results, Tryz.results51, go_sem, R0, R1]) rfl ?_
            exact ⟨_, _, _, rfl, by rw [HBAD.out]; rfl, by rw [HBAD.out]; rfl, (HB.out.setCell (Nat.le_refl _) _).setCell (Nat.le_refl _) _, by rw [HBAD.out]; exact ListsIn.nil _ _⟩
          | true =>
            go_wp2_with fail
            obtain ⟨R0, R1⟩ := HFB.out.store (.int .i64 1) (.int .i64 k)
            refine bodyPost_ret (v := .tuple #[.slice none 0 0, .agg #[.int .i64 1, .int .i64 k]]) (by simp [results, Tryz.results51, go_sem, R0, R1]) rfl ?_
            exact ⟨_, _, _, rfl, by rw [HBAD.out]; rfl, by rw [HBAD.out]; rfl, (HB.out.setCell (Nat.le_refl _) _).setCell (Nat.le_refl _) _, by rw [HBAD.out]; exact ListsIn.nil _ _⟩
        · have HNX : ∀ b, rd (s[k] :: s.data.toList.drop (k + 1)) L xs nn 0 b k = rd (s.data.toList.drop (k + 1)) L xs ((z : Int) - 48) 1 true (k + 1) := fun b => by rw [rd_dg HDG.out (by decide), if_pos rfl, HGV.out]
          rw [HDR.out, HNX] at HRD
          clear HNX
          cases bb with
          | false =>
            go_wp2_with fail
            go_roundw
            case rel => exact ⟨k + 1, 1, q, nl, C, (z : Int) - 48, true, L, xs, pl, ps, cl, cs, by omega, by go_num, by first | rfl | go_num, by first | rfl | go_num, rfl, rfl, rfl, by omega, by omega, by omega, fun h => by omega, by omega, by omega, HLL, HXL, HL2, HRD, HB.out, hC0, hC1, HRN.out, HOW.out, HFB.out⟩
            case measure => simp [intOf]; omega
          | true =>
            go_wp2_with fail
            go_roundw
            case rel => exact ⟨k + 1, 1, q, nl, C, (z : Int) - 48, true, L, xs, pl, ps, cl, cs, by omega, by go_num, by first | rfl | go_num, by first | rfl | go_num, rfl, rfl, rfl, by omega, by omega, by omega, fun h => by omega, by omega, by omega, HLL, HXL, HL2, HRD, HB.out, hC0, hC1, HRN.out, HOW.out, HFB.out⟩
            case measure => simp [intOf]; omega
        · have HNX : ∀ b, rd (s[k] :: s.data.toList.drop (k + 1)) L xs nn 1 b k = rd (s.data.toList.drop (k + 1)) L xs (nn * 10 + ((z : Int) - 48)) 2 true (k + 1) := fun b => by rw [rd_dg HDG.out (by decide), if_neg (by decide), HGV.out]
          rw [HDR.out, HNX] at HRD
          clear HNX
          obtain ⟨hn2, hn3⟩ := hnd rfl
          cases bb with
          | false =>
            go_wp2_with fail
            go_roundw
            case rel => exact ⟨k + 1, 2, q, nl, C, nn * 10 + ((z : Int) - 48), true, L, xs, pl, ps, cl, cs, by omega, by go_num, by first | rfl | go_num, by first | rfl | go_num, rfl, rfl, rfl, by omega, by omega, by omega, fun h => by omega, by omega, by omega, HLL, HXL, HL2, HRD, HB.out, hC0, hC1, HRN.out, HOW.out, HFB.out⟩
            case measure => simp [intOf]; omega
          | true =>
            go_wp2_with fail
            go_roundw
            case rel => exact ⟨k + 1, 2, q, nl, C, nn * 10 + ((z : Int) - 48), true, L, xs, pl, ps, cl, cs, by omega, by go_num, by first | rfl | go_num, by first | rfl | go_num, rfl, rfl, rfl, by omega, by omega, by omega, fun h => by omega, by omega, by omega, HLL, HXL, HL2, HRD, HB.out, hC0, hC1, HRN.out, HOW.out, HFB.out⟩
            case measure => simp [intOf]; omega
      · have HDG : Hid (isDg s[k] = false) := by unfold Hid; rw [isDg_no, hz]; exact hdg
        by_cases h32 : z = 32
        · have g1 : decide ((48 : Int) ≤ (z : Int)) = false := decide_eq_false (by omega)
          have g2 : decide (48 ≤ z) = false := decide_eq_false (by omega)
          rw [decide_eq_true h32] at nz nx
          rw [decide_eq_false (by omega)] at ny
          rw [HDR.out, rd_sp (by rw [hz]; exact h32)] at HRD
          rcases Nat.eq_zero_or_pos dd with rfl | hdp
          · rw [finS_0] at HRD
            cases bb with
            | false =>
              go_wp2_with fail
              go_roundw
              case rel => exact ⟨k + 1, 0, q, nl, C, nn, false, L, xs, pl, ps, cl, cs, by omega, by go_num, rfl, rfl, rfl, rfl, rfl, by omega, by omega, by omega, fun h => by omega, by omega, by omega, HLL, HXL, HL2, HRD, HB.out, hC0, hC1, HRN.out, HOW.out, HFB.out⟩
              case measure => simp [intOf]; omega
            | true =>
              go_wp2_with fail
              go_roundw
              case rel => exact ⟨k + 1, 0, q, nl, C, nn, true, L, xs, pl, ps, cl, cs, by omega, by go_num, rfl, rfl, rfl, rfl, rfl, by omega, by omega, by omega, fun h => by omega, by omega, by omega, HLL, HXL, HL2, HRD, HB.out, hC0, hC1, HRN.out, HOW.out, HFB.out⟩
              case measure => simp [intOf]; omega
          · rw [finS_pos hdp] at HRD
            have j1 : decide ((0 : Int) < (dd : Int)) = true := decide_eq_true (by omega)
            have j2 : decide (0 < dd) = true := decide_eq_true hdp
            cases bb with
            | false =>
              go_wp2_with (at_builtin; refine wpList_append_lies _ rfl (.tmp 74) (.tmp 76) 26 rfl C 3 i3 (.int .i64 0) 1 8 Tryz.underlying26 hi3 hy0 hy1 hy2 rfl (by decide) _ q (intVs xs) rfl (HOW.out.alloc _) ⟨wr.heap.size, 0, none⟩ 1 1 [.int .i64 nn] rfl rfl (World.news_of_block (cs := #[.int .i64 nn]) (t := 3) (fr := (0, 0)) (heap_alloc_new wr _)) (by simp [Value.oneCell']) (by decide) (by unfold maxLen; omega) (by omega) (by simp; omega) (wr.heap.size + 1) (by simp) ?_; intro g2 c2 w9 hown2 hgr2 hat2 hlt2; have HO2 := Lib.hid hown2; have HG2 := Lib.hid hgr2; clear hown2 hgr2 hat2 hlt2)
              have HA1 : Hid (Below wr.heap.size wr (wr.alloc (.cells #[.int .i64 nn] 3))) := (Below.refl _ _).alloc (Nat.le_refl _) _
              have HB3 := Lib.hid ((HB.out.alloc (by omega) _).grown HG2.out (by simp; omega) (fun i hi => by have := (HOW.out.lt i hi).1; omega))
              have HRN3 := Lib.hid ((HRN.out.below HA1.out (Nat.le_refl _)).more (HOW.out.alloc _) HG2.out)
              have HFB3 := Lib.hid ((HFB.out.below HA1.out (Nat.le_refl _)).grown HG2.out (fun i hi => by have := (HOW.out.lt i hi).1; omega))
              have HOW3 : Hid (w9.ownsRow C 3 1 (.slice (some ⟨g2, 0, none⟩) (q + 1) c2) (q + 1) (intVs (xs ++ [nn]))) := by unfold Hid; rw [intVs_snoc]; exact HO2.out
              have HX3 : Hid ((xs ++ [nn]).length = q + 1) := by unfold Hid; rw [List.length_append, HXL.out]; rfl
              have hs9 : C ≤ w9.heap.size := by have h1 := HG2.out.size; have h2 := HA1.out.size; omega
              go_wp2_with fail
              go_roundw
              case rel => exact ⟨k + 1, 0, q + 1, nl, C, nn, false, L, xs ++ [nn], pl, _, cl, _, by omega, by go_num, rfl, rfl, rfl, rfl, rfl, by omega, by omega, by omega, fun h => by omega, by omega, by omega, HLL, HX3, HL2, HRD, HB3.out, hC0, hs9, HRN3.out, HOW3.out, HFB3.out⟩
              case measure => simp [intOf]; omega
            | true =>
              go_wp2_with (at_builtin; refine wpList_append_lies _ rfl (.tmp 74) (.tmp 76) 26 rfl C 3 i3 (.int .i64 0) 1 8 Tryz.underlying26 hi3 hy0 hy1 hy2 rfl (by decide) _ q (intVs xs) rfl (HOW.out.alloc _) ⟨wr.heap.size, 0, none⟩ 1 1 [.int .i64 nn] rfl rfl (World.news_of_block (cs := #[.int .i64 nn]) (t := 3) (fr := (0, 0)) (heap_alloc_new wr _)) (by simp [Value.oneCell']) (by decide) (by unfold maxLen; omega) (by omega) (by simp; omega) (wr.heap.size + 1) (by simp) ?_; intro g2 c2 w9 hown2 hgr2 hat2 hlt2; have HO2 := Lib.hid hown2; have HG2 := Lib.hid hgr2; clear hown2 hgr2 hat2 hlt2)
              have HA1 : Hid (Below wr.heap.size wr (wr.alloc (.cells #[.int .i64 nn] 3))) := (Below.refl _ _).alloc (Nat.le_refl _) _
              have HB3 := Lib.hid ((HB.out.alloc (by omega) _).grown HG2.out (by simp; omega) (fun i hi => by have := (HOW.out.lt i hi).1; omega))
              have HRN3 := Lib.hid ((HRN.out.below HA1.out (Nat.le_refl _)).more (HOW.out.alloc _) HG2.out)
              have HFB3 := Lib.hid ((HFB.out.below HA1.out (Nat.le_refl _)).grown HG2.out (fun i hi => by have := (HOW.out.lt i hi).1; omega))
              have HOW3 : Hid (w9.ownsRow C 3 1 (.slice (some ⟨g2, 0, none⟩) (q + 1) c2) (q + 1) (intVs (xs ++ [nn]))) := by unfold Hid; rw [intVs_snoc]; exact HO2.out
              have HX3 : Hid ((xs ++ [nn]).length = q + 1) := by unfold Hid; rw [List.length_append, HXL.out]; rfl
              have hs9 : C ≤ w9.heap.size := by have h1 := HG2.out.size; have h2 := HA1.out.size; omega
              go_wp2_with fail
              go_roundw
              case rel => exact ⟨k + 1, 0, q + 1, nl, C, nn, true, L, xs ++ [nn], pl, _, cl, _, by omega, by go_num, rfl, rfl, rfl, rfl, rfl, by omega, by omega, by omega, fun h => by omega, by omega, by omega, HLL, HX3, HL2, HRD, HB3.out, hC0, hs9, HRN3.out, HOW3.out, HFB3.out⟩
              case measure => simp [intOf]; omega
        · rw [decide_eq_false h32] at nz nx
          by_cases h59 : z = 59
          · have g1 : decide ((48 : Int) ≤ (z : Int)) = true := decide_eq_true (by omega)
            have g2 : decide (48 ≤ z) = true := decide_eq_true (by omega)
            have g3 : decide ((z : Int) ≤ 57) = false := decide_eq_false (by omega)
            have g4 : decide (z ≤ 57) = false := decide_eq_false (by omega)
            rw [decide_eq_true h59] at ny
            rw [HDR.out, rd_semi (by rw [hz]; exact h59)] at HRD
            rcases Nat.eq_zero_or_pos dd with rfl | hdp
            · rw [finS_0] at HRD
              rcases Nat.eq_zero_or_pos q with rfl | hqp
              · have HBAD : Hid (R = .bad k) := by unfold Hid; rw [← HRD.out, if_pos (List.length_eq_zero_iff.1 HXL.out)]
                cases bb with
                | false =>
                  go_wp2_with fail
                  obtain ⟨R0, R1⟩ := HFB.out.store (.int .i64 1) (.int .i64 k)
                  refine bodyPost_ret (v := .tuple #[.slice none 0 0, .agg #[.int .i64 1, .int .i64 k]]) (by simp [results, Tryz.results51, go_sem, R0, R1]) rfl ?_
                  exact ⟨_, _, _, rfl, by rw [HBAD.out]; rfl, by rw [HBAD.out]; rfl, (HB.out.setCell (Nat.le_refl _) _).setCell (Nat.le_refl _) _, by rw [HBAD.out]; exact ListsIn.nil _ _⟩
                | true =>
                  go_wp2_with fail
                  obtain ⟨R0, R1⟩ := HFB.out.store (.int .i64 1) (.int .i64 k)
                  refine bodyPost_ret (v := .tuple #[.slice none 0 0, .agg #[.int .i64 1, .int .i64 k]]) (by simp [results, Tryz.results51, go_sem, R0, R1]) rfl ?_
                  exact ⟨_, _, _, rfl, by rw [HBAD.out]; rfl, by rw [HBAD.out]; rfl, (HB.out.setCell (Nat.le_refl _) _).setCell (Nat.le_refl _) _, by rw [HBAD.out]; exact ListsIn.nil _ _⟩
              · rw [if_neg (fun e => by have := HXL.out; rw [e] at this; simp at this; omega)] at HRD
                have q0 : ((q : Int) == 0) = false := beq_eq_false_iff_ne.2 (by omega)
                have q1 : (q == 0) = false := beq_eq_false_iff_ne.2 (by omega)
                cases bb with
                | false =>
                  obtain ⟨hs, h1, h2, h3⟩ := HRN.out
                  rw [HLL.out] at h1
                  have H1 := Lib.hid h1
                  clear h1
                  go_wp2_with (at_builtin; refine wpList_append_lies _ rfl (.tmp 89) (.tmp 91) 22 rfl (w.heap.size + 1) 26 i39 (.slice none 0 0) 1 24 Tryz.underlying22 hi39 hz0 hz1 hz2 rfl (by decide) _ nl hs rfl (H1.out.alloc _) ⟨wr.heap.size, 0, none⟩ 1 1 [.slice ps q cs] rfl rfl (World.news_of_block (cs := #[.slice ps q cs]) (t := 26) (fr := (0, 0)) (heap_alloc_new wr _)) (by simp [Value.oneCell']) (by decide) (by unfold maxLen; omega) (by omega) (by simp; omega) (wr.heap.size + 1) (by simp) ?_; intro g4 c4 w10 hown4 hgr4 hat4 hlt4; have HO4 := Lib.hid hown4; have HG4 := Lib.hid hgr4; clear hown4 hgr4 hat4 hlt4)
                  have HA4 : Hid (Below wr.heap.size wr (wr.alloc (.cells #[.slice ps q cs] 26))) := (Below.refl _ _).alloc (Nat.le_refl _) _
                  have HB4 := Lib.hid ((HB.out.alloc (by omega) _).grown HG4.out (by simp; omega) (fun i hi => by have := (H1.out.lt i hi).1; omega))
                  have HRN4 := Lib.hid (RowsN.push (w := wr.alloc (.cells #[.slice ps q cs] 26)) (by rw [HLL.out]; exact H1.out.alloc _) h2 (fun i hi => ⟨(h3 i hi).1.alloc _, (h3 i hi).2⟩) ((Joins.ownsRow_le HOW.out (by omega)).alloc _) HXL.out.symm (by rw [HLL.out]; exact HO4.out) HG4.out)
                  have HFB4 := Lib.hid ((HFB.out.below HA4.out (Nat.le_refl _)).grown HG4.out (fun i hi => by have := (H1.out.lt i hi).1; omega))
                  have HLL4 := Lib.hid (show (L ++ [xs]).length = nl + 1 by rw [List.length_append, HLL.out]; rfl)
                  have HL24 := Lib.hid (show ∀ x ∈ L ++ [xs], x.length ≤ 30000 from fun x hx => by
                    rcases List.mem_append.1 hx with h | h
                    · exact HL2.out x h
                    · rw [List.mem_singleton] at h; rw [h, HXL.out]; omega)
                  go_wp2_with fail
                  go_roundw
                  case rel => exact ⟨k + 1, 0, 0, nl + 1, w10.heap.size, nn, true, L ++ [xs], [], _, none, _, 0, by omega, by go_num, rfl, rfl, rfl, rfl, rfl, by omega, by omega, by omega, fun h => by omega, by omega, by omega, HLL4, rfl, HL24, HRD, HB4.out, by have := HFB4.out.lt; omega, Nat.le_refl _, HRN4.out, World.ownsRow_nil _ _ _ _, HFB4.out⟩
                  case measure => simp [intOf]; omega
                | true =>
                  obtain ⟨hs, h1, h2, h3⟩ := HRN.out
                  rw [HLL.out] at h1
                  have H1 := Lib.hid h1
                  clear h1
                  go_wp2_with (at_builtin; refine wpList_append_lies _ rfl (.tmp 89) (.tmp 91) 22 rfl (w.heap.size + 1) 26 i39 (.slice none 0 0) 1 24 Tryz.underlying22 hi39 hz0 hz1 hz2 rfl (by decide) _ nl hs rfl (H1.out.alloc _) ⟨wr.heap.size, 0, none⟩ 1 1 [.slice ps q cs] rfl rfl (World.news_of_block (cs := #[.slice ps q cs]) (t := 26) (fr := (0, 0)) (heap_alloc_new wr _)) (by simp [Value.oneCell']) (by decide) (by unfold maxLen; omega) (by omega) (by simp; omega) (wr.heap.size + 1) (by simp) ?_; intro g4 c4 w10 hown4 hgr4 hat4 hlt4; have HO4 := Lib.hid hown4; have HG4 := Lib.hid hgr4; clear hown4 hgr4 hat4 hlt4)
                  have HA4 : Hid (Below wr.heap.size wr (wr.alloc (.cells #[.slice ps q cs] 26))) := (Below.refl _ _).alloc (Nat.le_refl _) _
                  have HB4 := Lib.hid ((HB.out.alloc (by omega) _).grown HG4.out (by simp; omega) (fun i hi => by have := (H1.out.lt i hi).1; omega))
                  have HRN4 := Lib.hid (RowsN.push (w := wr.alloc (.cells #[.slice ps q cs] 26)) (by rw [HLL.out]; exact H1.out.alloc _) h2 (fun i hi => ⟨(h3 i hi).1.alloc _, (h3 i hi).2⟩) ((Joins.ownsRow_le HOW.out (by omega)).alloc _) HXL.out.symm (by rw [HLL.out]; exact HO4.out) HG4.out)
                  have HFB4 := Lib.hid ((HFB.out.below HA4.out (Nat.le_refl _)).grown HG4.out (fun i hi => by have := (H1.out.lt i hi).1; omega))
                  have HLL4 := Lib.hid (show (L ++ [xs]).length = nl + 1 by rw [List.length_append, HLL.out]; rfl)
                  have HL24 := Lib.hid (show ∀ x ∈ L ++ [xs], x.length ≤ 30000 from fun x hx => by
                    rcases List.mem_append.1 hx with h | h
                    · exact HL2.out x h
                    · rw [List.mem_singleton] at h; rw [h, HXL.out]; omega)
                  go_wp2_with fail
                  go_roundw
                  case rel => exact ⟨k + 1, 0, 0, nl + 1, w10.heap.size, nn, true, L ++ [xs], [], _, none, _, 0, by omega, by go_num, rfl, rfl, rfl, rfl, rfl, by omega, by omega, by omega, fun h => by omega, by omega, by omega, HLL4, rfl, HL24, HRD, HB4.out, by have := HFB4.out.lt; omega, Nat.le_refl _, HRN4.out, World.ownsRow_nil _ _ _ _, HFB4.out⟩
                  case measure => simp [intOf]; omega
            · rw [finS_pos hdp, if_neg (by simp)] at HRD
              have j1 : decide ((0 : Int) < (dd : Int)) = true := decide_eq_true (by omega)
              have j2 : decide (0 < dd) = true := decide_eq_true hdp
              have q0 : (((q : Int) + 1) == 0) = false := beq_eq_false_iff_ne.2 (by omega)
              have q2 : (((q + 1 : Nat) : Int) == 0) = false := beq_eq_false_iff_ne.2 (by omega)
              have q1 : ((q + 1) == 0) = false := beq_eq_false_iff_ne.2 (by omega)
              cases bb with
              | false =>
                go_upto_region 30 with (at_builtin; refine wpList_append_lies _ rfl (.tmp 74) (.tmp 76) 26 rfl C 3 i3 (.int .i64 0) 1 8 Tryz.underlying26 hi3 hy0 hy1 hy2 rfl (by decide) _ q (intVs xs) rfl (HOW.out.alloc _) ⟨wr.heap.size, 0, none⟩ 1 1 [.int .i64 nn] rfl rfl (World.news_of_block (cs := #[.int .i64 nn]) (t := 3) (fr := (0, 0)) (heap_alloc_new wr _)) (by simp [Value.oneCell']) (by decide) (by unfold maxLen; omega) (by omega) (by simp; omega) (wr.heap.size + 1) (by simp) ?_; intro g2 c2 w9 hown2 hgr2 hat2 hlt2; have HO2 := Lib.hid hown2; have HG2 := Lib.hid hgr2; clear hown2 hgr2 hat2 hlt2)
                have HA1 : Hid (Below wr.heap.size wr (wr.alloc (.cells #[.int .i64 nn] 3))) := (Below.refl _ _).alloc (Nat.le_refl _) _
                have HB3 := Lib.hid ((HB.out.alloc (by omega) _).grown HG2.out (by simp; omega) (fun i hi => by have := (HOW.out.lt i hi).1; omega))
                have HRN3 := Lib.hid ((HRN.out.below HA1.out (Nat.le_refl _)).more (HOW.out.alloc _) HG2.out)
                have HFB3 := Lib.hid ((HFB.out.below HA1.out (Nat.le_refl _)).grown HG2.out (fun i hi => by have := (HOW.out.lt i hi).1; omega))
                have HOW3 : Hid (w9.ownsRow C 3 1 (.slice (some ⟨g2, 0, none⟩) (q + 1) c2) (q + 1) (intVs (xs ++ [nn]))) := by unfold Hid; rw [intVs_snoc]; exact HO2.out
                have HX3 : Hid ((xs ++ [nn]).length = q + 1) := by unfold Hid; rw [List.length_append, HXL.out]; rfl
                have hs9 : C ≤ w9.heap.size := by have h1 := HG2.out.size; have h2 := HA1.out.size; omega
                obtain ⟨hs, h1, h2, h3⟩ := HRN3.out
                rw [HLL.out] at h1
                have H1 := Lib.hid h1
                clear h1
                go_wp2_with (at_builtin; refine wpList_append_lies _ rfl (.tmp 89) (.tmp 91) 22 rfl (w.heap.size + 1) 26 i39 (.slice none 0 0) 1 24 Tryz.underlying22 hi39 hz0 hz1 hz2 rfl (by decide) _ nl hs rfl (H1.out.alloc _) ⟨w9.heap.size, 0, none⟩ 1 1 [.slice (some ⟨g2, 0, none⟩) (q + 1) c2] rfl rfl (World.news_of_block (cs := #[.slice (some ⟨g2, 0, none⟩) (q + 1) c2]) (t := 26) (fr := (0, 0)) (heap_alloc_new w9 _)) (by simp [Value.oneCell']) (by decide) (by unfold maxLen; omega) (by omega) (by simp; omega) (w9.heap.size + 1) (by simp) ?_; intro g4 c4 w10 hown4 hgr4 hat4 hlt4; have HO4 := Lib.hid hown4; have HG4 := Lib.hid hgr4; clear hown4 hgr4 hat4 hlt4)
                have HA4 : Hid (Below w9.heap.size w9 (w9.alloc (.cells #[.slice (some ⟨g2, 0, none⟩) (q + 1) c2] 26))) := (Below.refl _ _).alloc (Nat.le_refl _) _
                have HB4 := Lib.hid ((HB3.out.alloc (by omega) _).grown HG4.out (by simp; omega) (fun i hi => by have := (H1.out.lt i hi).1; omega))
                have HRN4 := Lib.hid (RowsN.push (w := w9.alloc (.cells #[.slice (some ⟨g2, 0, none⟩) (q + 1) c2] 26)) (by rw [HLL.out]; exact H1.out.alloc _) h2 (fun i hi => ⟨(h3 i hi).1.alloc _, (h3 i hi).2⟩) ((Joins.ownsRow_le HOW3.out (by omega)).alloc _) HX3.out.symm (by rw [HLL.out]; exact HO4.out) HG4.out)
                have HFB4 := Lib.hid ((HFB3.out.below HA4.out (Nat.le_refl _)).grown HG4.out (fun i hi => by have := (H1.out.lt i hi).1; omega))
                have HLL4 := Lib.hid (show (L ++ [(xs ++ [nn])]).length = nl + 1 by rw [List.length_append, HLL.out]; rfl)
                have HL24 := Lib.hid (show ∀ x ∈ L ++ [(xs ++ [nn])], x.length ≤ 30000 from fun x hx => by
                  rcases List.mem_append.1 hx with h | h
                  · exact HL2.out x h
                  · rw [List.mem_singleton] at h; rw [h, HX3.out]; omega)
                go_wp2_with fail
                go_roundw
                case rel => exact ⟨k + 1, 0, 0, nl + 1, w10.heap.size, nn, true, L ++ [xs ++ [nn]], [], _, none, _, 0, by omega, by go_num, rfl, rfl, rfl, rfl, rfl, by omega, by omega, by omega, fun h => by omega, by omega, by omega, HLL4, rfl, HL24, HRD, HB4.out, by have := HFB4.out.lt; omega, Nat.le_refl _, HRN4.out, World.ownsRow_nil _ _ _ _, HFB4.out⟩
                case measure => simp [intOf]; omega
              | true =>
                go_upto_region 30 with (at_builtin; refine wpList_append_lies _ rfl (.tmp 74) (.tmp 76) 26 rfl C 3 i3 (.int .i64 0) 1 8 Tryz.underlying26 hi3 hy0 hy1 hy2 rfl (by decide) _ q (intVs xs) rfl (HOW.out.alloc _) ⟨wr.heap.size, 0, none⟩ 1 1 [.int .i64 nn] rfl rfl (World.news_of_block (cs := #[.int .i64 nn]) (t := 3) (fr := (0, 0)) (heap_alloc_new wr _)) (by simp [Value.oneCell']) (by decide) (by unfold maxLen; omega) (by omega) (by simp; omega) (wr.heap.size + 1) (by simp) ?_; intro g2 c2 w9 hown2 hgr2 hat2 hlt2; have HO2 := Lib.hid hown2; have HG2 := Lib.hid hgr2; clear hown2 hgr2 hat2 hlt2)
                have HA1 : Hid (Below wr.heap.size wr (wr.alloc (.cells #[.int .i64 nn] 3))) := (Below.refl _ _).alloc (Nat.le_refl _) _
                have HB3 := Lib.hid ((HB.out.alloc (by omega) _).grown HG2.out (by simp; omega) (fun i hi => by have := (HOW.out.lt i hi).1; omega))
                have HRN3 := Lib.hid ((HRN.out.below HA1.out (Nat.le_refl _)).more (HOW.out.alloc _) HG2.out)
                have HFB3 := Lib.hid ((HFB.out.below HA1.out (Nat.le_refl _)).grown HG2.out (fun i hi => by have := (HOW.out.lt i hi).1; omega))
                have HOW3 : Hid (w9.ownsRow C 3 1 (.slice (some ⟨g2, 0, none⟩) (q + 1) c2) (q + 1) (intVs (xs ++ [nn]))) := by unfold Hid; rw [intVs_snoc]; exact HO2.out
                have HX3 : Hid ((xs ++ [nn]).length = q + 1) := by unfold Hid; rw [List.length_append, HXL.out]; rfl
                have hs9 : C ≤ w9.heap.size := by have h1 := HG2.out.size; have h2 := HA1.out.size; omega
                obtain ⟨hs, h1, h2, h3⟩ := HRN3.out
                rw [HLL.out] at h1
                have H1 := Lib.hid h1
                clear h1
                go_wp2_with (at_builtin; refine wpList_append_lies _ rfl (.tmp 89) (.tmp 91) 22 rfl (w.heap.size + 1) 26 i39 (.slice none 0 0) 1 24 Tryz.underlying22 hi39 hz0 hz1 hz2 rfl (by decide) _ nl hs rfl (H1.out.alloc _) ⟨w9.heap.size, 0, none⟩ 1 1 [.slice (some ⟨g2, 0, none⟩) (q + 1) c2] rfl rfl (World.news_of_block (cs := #[.slice (some ⟨g2, 0, none⟩) (q + 1) c2]) (t := 26) (fr := (0, 0)) (heap_alloc_new w9 _)) (by simp [Value.oneCell']) (by decide) (by unfold maxLen; omega) (by omega) (by simp; omega) (w9.heap.size + 1) (by simp) ?_; intro g4 c4 w10 hown4 hgr4 hat4 hlt4; have HO4 := Lib.hid hown4; have HG4 := Lib.hid hgr4; clear hown4 hgr4 hat4 hlt4)
                have HA4 : Hid (Below w9.heap.size w9 (w9.alloc (.cells #[.slice (some ⟨g2, 0, none⟩) (q + 1) c2] 26))) := (Below.refl _ _).alloc (Nat.le_refl _) _
                have HB4 := Lib.hid ((HB3.out.alloc (by omega) _).grown HG4.out (by simp; omega) (fun i hi => by have := (H1.out.lt i hi).1; omega))
                have HRN4 := Lib.hid (RowsN.push (w := w9.alloc (.cells #[.slice (some ⟨g2, 0, none⟩) (q + 1) c2] 26)) (by rw [HLL.out]; exact H1.out.alloc _) h2 (fun i hi => ⟨(h3 i hi).1.alloc _, (h3 i hi).2⟩) ((Joins.ownsRow_le HOW3.out (by omega)).alloc _) HX3.out.symm (by rw [HLL.out]; exact HO4.out) HG4.out)
                have HFB4 := Lib.hid ((HFB3.out.below HA4.out (Nat.le_refl _)).grown HG4.out (fun i hi => by have := (H1.out.lt i hi).1; omega))
                have HLL4 := Lib.hid (show (L ++ [(xs ++ [nn])]).length = nl + 1 by rw [List.length_append, HLL.out]; rfl)
                have HL24 := Lib.hid (show ∀ x ∈ L ++ [(xs ++ [nn])], x.length ≤ 30000 from fun x hx => by
                  rcases List.mem_append.1 hx with h | h
                  · exact HL2.out x h
                  · rw [List.mem_singleton] at h; rw [h, HX3.out]; omega)
                go_wp2_with fail
                go_roundw
                case rel => exact ⟨k + 1, 0, 0, nl + 1, w10.heap.size, nn, true, L ++ [xs ++ [nn]], [], _, none, _, 0, by omega, by go_num, rfl, rfl, rfl, rfl, rfl, by omega, by omega, by omega, fun h => by omega, by omega, by omega, HLL4, rfl, HL24, HRD, HB4.out, by have := HFB4.out.lt; omega, Nat.le_refl _, HRN4.out, World.ownsRow_nil _ _ _ _, HFB4.out⟩
                case measure => simp [intOf]; omega
          · rw [decide_eq_false h59] at ny
            have HBAD : Hid (R = .bad k) := by unfold Hid; rw [← HRD.out, HDR.out, rd_other HDG.out (by rw [hz]; exact h32) (by rw [hz]; exact h59)]
            cases bb with
            | false =>
              by_cases hlo : 48 ≤ z
              · have g1 : decide ((48 : Int) ≤ (z : Int)) = true := decide_eq_true (by omega)
                have g2 : decide (48 ≤ z) = true := decide_eq_true (by omega)
                have g3 : decide ((z : Int) ≤ 57) = false := decide_eq_false (by omega)
                have g4 : decide (z ≤ 57) = false := decide_eq_false (by omega)
                go_wp2_with fail
                obtain ⟨R0, R1⟩ := HFB.out.store (.int .i64 1) (.int .i64 k)
                refine bodyPost_ret (v := .tuple #[.slice none 0 0, .agg #[.int .i64 1, .int .i64 k]]) (by simp [results, Tryz.results51, go_sem, R0, R1]) rfl ?_
                exact ⟨_, _, _, rfl, by rw [HBAD.out]; rfl, by rw [HBAD.out]; rfl, (HB.out.setCell (Nat.le_refl _) _).setCell (Nat.le_refl _) _, by rw [HBAD.out]; exact ListsIn.nil _ _⟩
              · have g1 : decide ((48 : Int) ≤ (z : Int)) = false := decide_eq_false (by omega)
                have g2 : decide (48 ≤ z) = false := decide_eq_false (by omega)
                go_wp2_with fail
                obtain ⟨R0, R1⟩ := HFB.out.store (.int .i64 1) (.int .i64 k)
                refine bodyPost_ret (v := .tuple #[.slice none 0 0, .agg #[.int .i64 1, .int .i64 k]]) (by simp [results, Tryz.results51, go_sem, R0, R1]) rfl ?_
                exact ⟨_, _, _, rfl, by rw [HBAD.out]; rfl, by rw [HBAD.out]; rfl, (HB.out.setCell (Nat.le_refl _) _).setCell (Nat.le_refl _) _, by rw [HBAD.out]; exact ListsIn.nil _ _⟩
            | true =>
              by_cases hlo : 48 ≤ z
              · have g1 : decide ((48 : Int) ≤ (z : Int)) = true := decide_eq_true (by omega)
                have g2 : decide (48 ≤ z) = true := decide_eq_true (by omega)
                have g3 : decide ((z : Int) ≤ 57) = false := decide_eq_false (by omega)
                have g4 : decide (z ≤ 57) = false := decide_eq_false (by omega)
                go_wp2_with fail
                obtain ⟨R0, R1⟩ := HFB.out.store (.int .i64 1) (.int .i64 k)
                refine bodyPost_ret (v := .tuple #[.slice none 0 0, .agg #[.int .i64 1, .int .i64 k]]) (by simp [results, Tryz.results51, go_sem, R0, R1]) rfl ?_
                exact ⟨_, _, _, rfl, by rw [HBAD.out]; rfl, by rw [HBAD.out]; rfl, (HB.out.setCell (Nat.le_refl _) _).setCell (Nat.le_refl _) _, by rw [HBAD.out]; exact ListsIn.nil _ _⟩
              · have g1 : decide ((48 : Int) ≤ (z : Int)) = false := decide_eq_false (by omega)
                have g2 : decide (48 ≤ z) = false := decide_eq_false (by omega)
                go_wp2_with fail
                obtain ⟨R0, R1⟩ := HFB.out.store (.int .i64 1) (.int .i64 k)
                refine bodyPost_ret (v := .tuple #[.slice none 0 0, .agg #[.int .i64 1, .int .i64 k]]) (by simp [results, Tryz.results51, go_sem, R0, R1]) rfl ?_
                exact ⟨_, _, _, rfl, by rw [HBAD.out]; rfl, by rw [HBAD.out]; rfl, (HB.out.setCell (Nat.le_refl _) _).setCell (Nat.le_refl _) _, by rw [HBAD.out]; exact ListsIn.nil _ _⟩
    · obtain rfl : k = m := by omega
      rw [drop_end s k (by rw [HM.out]; exact Nat.le_refl _), rd_nil] at HRD
      cases bb with
      | false =>
        have HNIL : Hid (R = .nil) := by unfold Hid; rw [← HRD.out, if_pos rfl]
        rcases Nat.eq_zero_or_pos dd with rfl | hdp
        · go_wp2_with fail
          obtain ⟨R0, R1⟩ := HFB.out.store (.int .i64 0) (.int .i64 (-1))
          refine bodyPost_ret (v := .tuple #[.slice none 0 0, .agg #[.int .i64 0, .int .i64 (-1)]]) (by simp [results, Tryz.results51, go_sem, R0, R1]) rfl ?_
          exact ⟨_, _, _, rfl, by rw [HNIL.out]; rfl, by rw [HNIL.out]; rfl, (HB.out.setCell (Nat.le_refl _) _).setCell (Nat.le_refl _) _, by rw [HNIL.out]; exact ListsIn.nil _ _⟩
        · have j1 : decide ((0 : Int) < (dd : Int)) = true := decide_eq_true (by omega)
          have j2 : decide (0 < dd) = true := decide_eq_true hdp
          go_upto_region 35 with (at_builtin; refine wpList_append_lies _ rfl (.tmp 95) (.tmp 97) 26 rfl C 3 i3 (.int .i64 0) 1 8 Tryz.underlying26 hi3 hy0 hy1 hy2 rfl (by decide) _ q (intVs xs) rfl (HOW.out.alloc _) ⟨wr.heap.size, 0, none⟩ 1 1 [.int .i64 nn] rfl rfl (World.news_of_block (cs := #[.int .i64 nn]) (t := 3) (fr := (0, 0)) (heap_alloc_new wr _)) (by simp [Value.oneCell']) (by decide) (by unfold maxLen; omega) (by omega) (by simp; omega) (wr.heap.size + 1) (by simp) ?_; intro g2 c2 w9 hown2 hgr2 hat2 hlt2; have HO2 := Lib.hid hown2; have HG2 := Lib.hid hgr2; clear hown2 hgr2 hat2 hlt2)
          have HA1 : Hid (Below wr.heap.size wr (wr.alloc (.cells #[.int .i64 nn] 3))) := (Below.refl _ _).alloc (Nat.le_refl _) _
          have HB3 := Lib.hid ((HB.out.alloc (by omega) _).grown HG2.out (by simp; omega) (fun i hi => by have := (HOW.out.lt i hi).1; omega))
          have HRN3 := Lib.hid ((HRN.out.below HA1.out (Nat.le_refl _)).more (HOW.out.alloc _) HG2.out)
          have HFB3 := Lib.hid ((HFB.out.below HA1.out (Nat.le_refl _)).grown HG2.out (fun i hi => by have := (HOW.out.lt i hi).1; omega))
          have HOW3 : Hid (w9.ownsRow C 3 1 (.slice (some ⟨g2, 0, none⟩) (q + 1) c2) (q + 1) (intVs (xs ++ [nn]))) := by unfold Hid; rw [intVs_snoc]; exact HO2.out
          have HX3 : Hid ((xs ++ [nn]).length = q + 1) := by unfold Hid; rw [List.length_append, HXL.out]; rfl
          have hs9 : C ≤ w9.heap.size := by have h1 := HG2.out.size; have h2 := HA1.out.size; omega
          obtain ⟨e0, e1, e2, e3⟩ := HFB3.out.cells
          go_wp2_with fail
          obtain ⟨R0, R1⟩ := HFB3.out.store (.int .i64 0) (.int .i64 (-1))
          refine bodyPost_ret (v := .tuple #[.slice none 0 0, .agg #[.int .i64 0, .int .i64 (-1)]]) (by simp [results, Tryz.results51, go_sem, R0, R1]) rfl ?_
          exact ⟨_, _, _, rfl, by rw [HNIL.out]; rfl, by rw [HNIL.out]; rfl, (HB3.out.setCell (Nat.le_refl _) _).setCell (Nat.le_refl _) _, by rw [HNIL.out]; exact ListsIn.nil _ _⟩
      | true =>
        rw [if_neg (by decide)] at HRD
        rcases Nat.eq_zero_or_pos dd with rfl | hdp
        · rw [finS_0] at HRD
          rcases Nat.eq_zero_or_pos q with rfl | hqp
          · have HBAD : Hid (R = .bad k) := by unfold Hid; rw [← HRD.out, if_pos (List.length_eq_zero_iff.1 HXL.out)]
            go_wp2_with fail
            obtain ⟨R0, R1⟩ := HFB.out.store (.int .i64 1) (.int .i64 k)
            refine bodyPost_ret (v := .tuple #[.slice none 0 0, .agg #[.int .i64 1, .int .i64 k]]) (by simp [results, Tryz.results51, go_sem, R0, R1]) rfl ?_
            exact ⟨_, _, _, rfl, by rw [HBAD.out]; rfl, by rw [HBAD.out]; rfl, (HB.out.setCell (Nat.le_refl _) _).setCell (Nat.le_refl _) _, by rw [HBAD.out]; exact ListsIn.nil _ _⟩
          · rw [if_neg (fun e => by have := HXL.out; rw [e] at this; simp at this; omega)] at HRD
            have q0 : ((q : Int) == 0) = false := beq_eq_false_iff_ne.2 (by omega)
            have q1 : (q == 0) = false := beq_eq_false_iff_ne.2 (by omega)
            obtain ⟨hs, h1, h2, h3⟩ := HRN.out
            rw [HLL.out] at h1
            have H1 := Lib.hid h1
            clear h1
            go_wp2_with (at_builtin; refine wpList_append_lies _ rfl (.tmp 109) (.tmp 111) 22 rfl (w.heap.size + 1) 26 i39 (.slice none 0 0) 1 24 Tryz.underlying22 hi39 hz0 hz1 hz2 rfl (by decide) _ nl hs rfl (H1.out.alloc _) ⟨wr.heap.size, 0, none⟩ 1 1 [.slice ps q cs] rfl rfl (World.news_of_block (cs := #[.slice ps q cs]) (t := 26) (fr := (0, 0)) (heap_alloc_new wr _)) (by simp [Value.oneCell']) (by decide) (by unfold maxLen; omega) (by omega) (by simp; omega) (wr.heap.size + 1) (by simp) ?_; intro g4 c4 w10 hown4 hgr4 hat4 hlt4; have HO4 := Lib.hid hown4; have HG4 := Lib.hid hgr4; clear hown4 hgr4 hat4 hlt4)
            have HA4 : Hid (Below wr.heap.size wr (wr.alloc (.cells #[.slice ps q cs] 26))) := (Below.refl _ _).alloc (Nat.le_refl _) _
            have HB4 := Lib.hid ((HB.out.alloc (by omega) _).grown HG4.out (by simp; omega) (fun i hi => by have := (H1.out.lt i hi).1; omega))
            have HRN4 := Lib.hid (RowsN.push (w := wr.alloc (.cells #[.slice ps q cs] 26)) (by rw [HLL.out]; exact H1.out.alloc _) h2 (fun i hi => ⟨(h3 i hi).1.alloc _, (h3 i hi).2⟩) ((Joins.ownsRow_le HOW.out (by omega)).alloc _) HXL.out.symm (by rw [HLL.out]; exact HO4.out) HG4.out)
            have HFB4 := Lib.hid ((HFB.out.below HA4.out (Nat.le_refl _)).grown HG4.out (fun i hi => by have := (H1.out.lt i hi).1; omega))
            have HLL4 := Lib.hid (show (L ++ [xs]).length = nl + 1 by rw [List.length_append, HLL.out]; rfl)
            have HL24 := Lib.hid (show ∀ x ∈ L ++ [xs], x.length ≤ 30000 from fun x hx => by
              rcases List.mem_append.1 hx with h | h
              · exact HL2.out x h
              · rw [List.mem_singleton] at h; rw [h, HXL.out]; omega)
            have HMD := Lib.hid (made_any B (L ++ [xs]) _ w10 (Nat.le_trans HBB.out HB4.out.size) (HRN4.out.rows B).lists (by rw [HLL4.out]; omega) (fun l hl => Nat.le_trans (HL24.out l hl) (by decide)))
            unfold MadePost at HMD
            obtain ⟨ec, hec⟩ : ∃ ec, errC (L ++ [xs]) = ec := ⟨_, rfl⟩
            rw [hec] at HMD
            have HEC := Lib.hid hec
            clear hec
            rcases Nat.eq_zero_or_pos ec with rfl | hp
            · go_wp2_with fail
              refine HMD.out.mono ?_
              rintro e w11 ⟨v1, rfl, hb11, hl11, -⟩
              have HFB5 := Lib.hid (HFB4.out.below hb11 (Nat.le_refl _))
              have HB5 := Lib.hid (HB4.out.trans (hb11.mono HB4.out.size))
              have HV1 := Lib.hid (hl11 (by trivial))
              obtain ⟨e0, e1, e2, e3⟩ := HFB5.out.cells
              clear hb11 hl11
              go_wp2_with fail
              obtain ⟨R0, R1⟩ := HFB5.out.store (.int .i64 0) (.int .i64 (-1))
              refine bodyPost_ret (v := .tuple #[v1, .agg #[.int .i64 0, .int .i64 (-1)]]) (by simp [results, Tryz.results51, go_sem, R0, R1]) rfl ?_
              exact ⟨_, _, _, rfl, by rw [← HRD.out, out_0 HEC.out]; rfl, by rw [← HRD.out, out_1 HEC.out], (HB5.out.setCell (Nat.le_refl _) _).setCell (Nat.le_refl _) _, by rw [← HRD.out, out_2 HEC.out]; exact HV1.out.flt HFB5.out HBB.out _ _⟩
            · have x1 : decide ((0 : Int) < (ec : Int)) = true := decide_eq_true (by omega)
              have x2 : decide (0 < ec) = true := decide_eq_true hp
              go_wp2_with fail
              refine HMD.out.mono ?_
              rintro e w11 ⟨v1, rfl, hb11, -, -⟩
              have HFB5 := Lib.hid (HFB4.out.below hb11 (Nat.le_refl _))
              have HB5 := Lib.hid (HB4.out.trans (hb11.mono HB4.out.size))
              obtain ⟨e0, e1, e2, e3⟩ := HFB5.out.cells
              clear hb11
              go_wp2_with fail
              obtain ⟨R0, R1⟩ := HFB5.out.store (.int .i64 ec) (.int .i64 0)
              refine bodyPost_ret (v := .tuple #[.slice none 0 0, .agg #[.int .i64 ec, .int .i64 0]]) (by simp [results, Tryz.results51, go_sem, R0, R1]) rfl ?_
              exact ⟨_, _, _, rfl, by rw [← HRD.out, ← HEC.out]; rfl, by rw [← HRD.out, out_4 (by rw [HEC.out]; omega)], (HB5.out.setCell (Nat.le_refl _) _).setCell (Nat.le_refl _) _, by rw [← HRD.out, out_5 (by rw [HEC.out]; omega)]; exact ListsIn.nil _ _⟩
        · rw [finS_pos hdp, if_neg (by simp)] at HRD
          have j1 : decide ((0 : Int) < (dd : Int)) = true := decide_eq_true (by omega)
          have j2 : decide (0 < dd) = true := decide_eq_true hdp
          have q0 : (((q : Int) + 1) == 0) = false := beq_eq_false_iff_ne.2 (by omega)
          have q2 : (((q + 1 : Nat) : Int) == 0) = false := beq_eq_false_iff_ne.2 (by omega)
          have q1 : ((q + 1) == 0) = false := beq_eq_false_iff_ne.2 (by omega)
          go_upto_region 38 with (at_builtin; refine wpList_append_lies _ rfl (.tmp 95) (.tmp 97) 26 rfl C 3 i3 (.int .i64 0) 1 8 Tryz.underlying26 hi3 hy0 hy1 hy2 rfl (by decide) _ q (intVs xs) rfl (HOW.out.alloc _) ⟨wr.heap.size, 0, none⟩ 1 1 [.int .i64 nn] rfl rfl (World.news_of_block (cs := #[.int .i64 nn]) (t := 3) (fr := (0, 0)) (heap_alloc_new wr _)) (by simp [Value.oneCell']) (by decide) (by unfold maxLen; omega) (by omega) (by simp; omega) (wr.heap.size + 1) (by simp) ?_; intro g2 c2 w9 hown2 hgr2 hat2 hlt2; have HO2 := Lib.hid hown2; have HG2 := Lib.hid hgr2; clear hown2 hgr2 hat2 hlt2)
          have HA1 : Hid (Below wr.heap.size wr (wr.alloc (.cells #[.int .i64 nn] 3))) := (Below.refl _ _).alloc (Nat.le_refl _) _
          have HB3 := Lib.hid ((HB.out.alloc (by omega) _).grown HG2.out (by simp; omega) (fun i hi => by have := (HOW.out.lt i hi).1; omega))
          have HRN3 := Lib.hid ((HRN.out.below HA1.out (Nat.le_refl _)).more (HOW.out.alloc _) HG2.out)
          have HFB3 := Lib.hid ((HFB.out.below HA1.out (Nat.le_refl _)).grown HG2.out (fun i hi => by have := (HOW.out.lt i hi).1; omega))
          have HOW3 : Hid (w9.ownsRow C 3 1 (.slice (some ⟨g2, 0, none⟩) (q + 1) c2) (q + 1) (intVs (xs ++ [nn]))) := by unfold Hid; rw [intVs_snoc]; exact HO2.out
          have HX3 : Hid ((xs ++ [nn]).length = q + 1) := by unfold Hid; rw [List.length_append, HXL.out]; rfl
          have hs9 : C ≤ w9.heap.size := by have h1 := HG2.out.size; have h2 := HA1.out.size; omega
          obtain ⟨hs, h1, h2, h3⟩ := HRN3.out
          rw [HLL.out] at h1
          have H1 := Lib.hid h1
          clear h1
          go_wp2_with (at_builtin; refine wpList_append_lies _ rfl (.tmp 109) (.tmp 111) 22 rfl (w.heap.size + 1) 26 i39 (.slice none 0 0) 1 24 Tryz.underlying22 hi39 hz0 hz1 hz2 rfl (by decide) _ nl hs rfl (H1.out.alloc _) ⟨w9.heap.size, 0, none⟩ 1 1 [.slice (some ⟨g2, 0, none⟩) (q + 1) c2] rfl rfl (World.news_of_block (cs := #[.slice (some ⟨g2, 0, none⟩) (q + 1) c2]) (t := 26) (fr := (0, 0)) (heap_alloc_new w9 _)) (by simp [Value.oneCell']) (by decide) (by unfold maxLen; omega) (by omega) (by simp; omega) (w9.heap.size + 1) (by simp) ?_; intro g4 c4 w10 hown4 hgr4 hat4 hlt4; have HO4 := Lib.hid hown4; have HG4 := Lib.hid hgr4; clear hown4 hgr4 hat4 hlt4)
          have HA4 : Hid (Below w9.heap.size w9 (w9.alloc (.cells #[.slice (some ⟨g2, 0, none⟩) (q + 1) c2] 26))) := (Below.refl _ _).alloc (Nat.le_refl _) _
          have HB4 := Lib.hid ((HB3.out.alloc (by omega) _).grown HG4.out (by simp; omega) (fun i hi => by have := (H1.out.lt i hi).1; omega))
          have HRN4 := Lib.hid (RowsN.push (w := w9.alloc (.cells #[.slice (some ⟨g2, 0, none⟩) (q + 1) c2] 26)) (by rw [HLL.out]; exact H1.out.alloc _) h2 (fun i hi => ⟨(h3 i hi).1.alloc _, (h3 i hi).2⟩) ((Joins.ownsRow_le HOW3.out (by omega)).alloc _) HX3.out.symm (by rw [HLL.out]; exact HO4.out) HG4.out)
          have HFB4 := Lib.hid ((HFB3.out.below HA4.out (Nat.le_refl _)).grown HG4.out (fun i hi => by have := (H1.out.lt i hi).1; omega))
          have HLL4 := Lib.hid (show (L ++ [(xs ++ [nn])]).length = nl + 1 by rw [List.length_append, HLL.out]; rfl)
          have HL24 := Lib.hid (show ∀ x ∈ L ++ [(xs ++ [nn])], x.length ≤ 30000 from fun x hx => by
            rcases List.mem_append.1 hx with h | h
            · exact HL2.out x h
            · rw [List.mem_singleton] at h; rw [h, HX3.out]; omega)
          have HMD := Lib.hid (made_any B (L ++ [xs ++ [nn]]) _ w10 (Nat.le_trans HBB.out HB4.out.size) (HRN4.out.rows B).lists (by rw [HLL4.out]; omega) (fun l hl => Nat.le_trans (HL24.out l hl) (by decide)))
          unfold MadePost at HMD
          obtain ⟨ec, hec⟩ : ∃ ec, errC (L ++ [xs ++ [nn]]) = ec := ⟨_, rfl⟩
          rw [hec] at HMD
          have HEC := Lib.hid hec
          clear hec
          rcases Nat.eq_zero_or_pos ec with rfl | hp
          · go_wp2_with fail
            refine HMD.out.mono ?_
            rintro e w11 ⟨v1, rfl, hb11, hl11, -⟩
            have HFB5 := Lib.hid (HFB4.out.below hb11 (Nat.le_refl _))
            have HB5 := Lib.hid (HB4.out.trans (hb11.mono HB4.out.size))
            have HV1 := Lib.hid (hl11 (by trivial))
            obtain ⟨e0, e1, e2, e3⟩ := HFB5.out.cells
            clear hb11 hl11
            go_wp2_with fail
            obtain ⟨R0, R1⟩ := HFB5.out.store (.int .i64 0) (.int .i64 (-1))
            refine bodyPost_ret (v := .tuple #[v1, .agg #[.int .i64 0, .int .i64 (-1)]]) (by simp [results, Tryz.results51, go_sem, R0, R1]) rfl ?_
            exact ⟨_, _, _, rfl, by rw [← HRD.out, out_0 HEC.out]; rfl, by rw [← HRD.out, out_1 HEC.out], (HB5.out.setCell (Nat.le_refl _) _).setCell (Nat.le_refl _) _, by rw [← HRD.out, out_2 HEC.out]; exact HV1.out.flt HFB5.out HBB.out _ _⟩
          · have x1 : decide ((0 : Int) < (ec : Int)) = true := decide_eq_true (by omega)
            have x2 : decide (0 < ec) = true := decide_eq_true hp
            go_wp2_with fail
            refine HMD.out.mono ?_
            rintro e w11 ⟨v1, rfl, hb11, -, -⟩
            have HFB5 := Lib.hid (HFB4.out.below hb11 (Nat.le_refl _))
            have HB5 := Lib.hid (HB4.out.trans (hb11.mono HB4.out.size))
            obtain ⟨e0, e1, e2, e3⟩ := HFB5.out.cells
            clear hb11
            go_wp2_with fail
            obtain ⟨R0, R1⟩ := HFB5.out.store (.int .i64 ec) (.int .i64 0)
            refine bodyPost_ret (v := .tuple #[.slice none 0 0, .agg #[.int .i64 ec, .int .i64 0]]) (by simp [results, Tryz.results51, go_sem, R0, R1]) rfl ?_
            exact ⟨_, _, _, rfl, by rw [← HRD.out, ← HEC.out]; rfl, by rw [← HRD.out, out_4 (by rw [HEC.out]; omega)], (HB5.out.setCell (Nat.le_refl _) _).setCell (Nat.le_refl _) _, by rw [← HRD.out, out_5 (by rw [HEC.out]; omega)]; exact ListsIn.nil _ _⟩

/-- an error with a place -/
def WrP (at_ : Int) (ev : Value) (w : World) (e : Ending) (w' : World) : Prop :=
  ∃ n, e = .returned (.tuple #[.agg #[.slice none 0 0], .iface 118 (.pointer (some ⟨n, 0, none⟩))]) ∧ Below w.heap.size w w' ∧ w'.heap[n]? = some (.cells #[.int .i64 at_, ev] 120 (0, 0))
set_option maxHeartbeats 4000000 in
theorem wrong_any (at_ : Int) (a : Addr) (w : World) : Calls Tryz.prog 92 #[.int .i64 at_, errE a] w (WrP at_ (errE a) w) := by
  unfold WrP errE
  have hk : ((w.alloc (.cells #[.slice none 0 0] 34)).alloc (.cells #[.int .i64 at_, .iface 225 (.pointer (some a))] 120)).heap[w.heap.size + 1]? = some (.cells #[.int .i64 at_, .iface 225 (.pointer (some a))] 120 (0, 0)) := by
    have h := heap_alloc_new (w.alloc (.cells #[.slice none 0 0] 34)) (.cells #[.int .i64 at_, .iface 225 (.pointer (some a))] 120)
    rw [lit_size] at h
    exact h
  have HK := Lib.hid hk
  clear hk
  go_enter Tryz.func92, Tryz.ntmps92
  go_wp2_with fail
  refine bodyPost_ret (v := .tuple #[.agg #[.slice none 0 0], .iface 118 (.pointer (some ⟨w.heap.size + 1, 0, none⟩))]) (by simp [results, Tryz.results92, go_sem]) rfl ?_
  exact ⟨_, rfl, ((Below.refl _ _).alloc (Nat.le_refl _) _).alloc (by simp) _, HK.out⟩
theorem WrP.err {a : Nat → Addr} {k : Nat} (hk : k < 8) {at_ : Int} {n : Nat} {w : World} (h : w.heap[n]? = some (.cells #[.int .i64 at_, errE (a k)] 120 (0, 0))) : ErrAt a w (.iface 118 (.pointer (some ⟨n, 0, none⟩))) ((k : Int) + 1) at_ := by
  refine Or.inr (Or.inr ⟨k, n, 0, hk, rfl, rfl, ?_, ?_⟩)
  · simp [World.cell?, h]
  · simp [World.cell?, h]; rfl

/-- a number of one or two digits -/
def AtoP (v : Int) (w : World) (e : Ending) (w' : World) : Prop := e = .returned (.tuple #[.int .i64 v, .nilIface]) ∧ Below w.heap.size w w'
theorem bytes_below (w : World) (e : TypeId) (s : ByteArray) : Below w.heap.size w (Lib.bytesWorld w e s) := by
  exact ⟨rfl, rfl, rfl, by rw [Lib.bytesWorld_size]; omega, fun k hk => Lib.bytesWorld_at_old _ _ _ _ hk⟩
theorem atoi_any (s : ByteArray) (v : Int) (w : World) (hs : s.size ≤ 18) (h : Lib.atoi s.data.toList = some v) : Calls Tryz.prog 94 #[.string s] w (AtoP v w) :=
  (Tryz.strconv_Atoi s v hs h w).mono fun e w' ⟨h1, t, h2⟩ => ⟨h1, by rw [h2]; exact bytes_below _ _ _⟩

theorem blk_ltT {w : World} {b : Nat} {o : Obj} (h : w.heap[b]? = some o) : b < w.heap.size := (Array.getElem?_eq_some_iff.1 h).1
/-- the place in the text, in a cell -/
def AtC (w : World) (g p : Nat) : Prop := w.heap[g]? = some (.cells #[.int .i64 p] 3 (0, 0))
/-- blanks are passed over -/
def BlP (s : ByteArray) (g p : Nat) (w : World) (e : Ending) (w' : World) : Prop :=
  ∃ p' : Nat, e = .returned (.tuple #[]) ∧ p ≤ p' ∧ p' ≤ s.size ∧ (∀ h : p' < s.size, (s[p']'h).toNat ≠ 32) ∧ (∀ l set n b, rd (s.data.toList.drop p) l set n 0 b p = rd (s.data.toList.drop p') l set n 0 b p') ∧ w.grownBy w' (some g) ∧ AtC w' g p'
set_option maxRecDepth 100000 in
set_option maxHeartbeats 4000000 in
theorem blank_any (s : ByteArray) (g t p : Nat) (w : World) (hp : p ≤ s.size) (hs : s.size ≤ 1000000) (hg : AtC w g p) (ht : w.heap[t]? = some (.cells #[.string s] 9 (0, 0))) (hne : g ≠ t) :
    Calls Tryz.prog 93 #[.pointer (some ⟨g, 0, none⟩), .pointer (some ⟨t, 0, none⟩)] w (BlP s g p w) := by
  have HG := Lib.hid hg
  have HT := Lib.hid ht
  clear hg ht
  unfold BlP
  go_enter Tryz.func93, Tryz.ntmps93
  go_wp2_with fail
  go_loopg [] (s.size - p) (fun k wr => ∃ q : Nat, p ≤ q ∧ q ≤ s.size ∧ k = s.size - q ∧ Hid (∀ l set n b, rd (s.data.toList.drop p) l set n 0 b p = rd (s.data.toList.drop q) l set n 0 b q) ∧ w.grownBy wr (some g) ∧ AtC wr g q)
  case atStart => exact ⟨p, Nat.le_refl _, hp, rfl, fun _ _ _ _ => rfl, World.grownBy.refl _ _, HG.out⟩
  case round =>
    obtain ⟨q, hpq, hqs, rfl, HRD, hgr, hat⟩ := hrel
    have HGR := Lib.hid hgr
    have HAT := Lib.hid hat
    obtain ⟨d0, f0⟩ := one_at hat
    have d1 := (one_at ((hgr.block t (blk_ltT HT.out) (fun e => hne (by simpa using e.symm))).trans HT.out)).1
    clear hgr hat
    by_cases hlt : q < s.size
    · have HDR := Lib.hid (drop_byte s q hlt)
      obtain ⟨z, hz⟩ : ∃ z, (s[q]'hlt).toNat = z := ⟨_, rfl⟩
      have hz256 : z < 256 := by rw [← hz]; exact byte_lt _
      by_cases h32 : z = 32
      · have n1 : ((z : Int) == 32) = true := beq_iff_eq.2 (by omega)
        have n2 : (z == 32) = true := beq_iff_eq.2 h32
        have HRD2 : Hid (∀ l set n b, rd (s.data.toList.drop p) l set n 0 b p = rd (s.data.toList.drop (q + 1)) l set n 0 b (q + 1)) := fun l set n b => by
          rw [HRD.out l set n b, HDR.out, rd_sp (by rw [hz]; exact h32), finS_0]
        have HG2 := Lib.hid (HGR.out.trans (grown_cell wr g (.int .i64 ((q + 1 : Nat) : Int))))
        have HA2 : Hid (AtC (wr.setCell ⟨g, 0, none⟩ (.int .i64 ((q + 1 : Nat) : Int))) g (q + 1)) := one_blk HAT.out
        clear h32
        go_wp2_with fail
        go_roundg (s.size - (q + 1))
        case measure => omega
        case rel => exact ⟨q + 1, by omega, by omega, rfl, HRD2, HG2.out, HA2.out⟩
      · have n1 : ((z : Int) == 32) = false := beq_eq_false_iff_ne.2 (by omega)
        have n2 : (z == 32) = false := beq_eq_false_iff_ne.2 h32
        have HNE : Hid (∀ h : q < s.size, (s[q]'h).toNat ≠ 32) := fun h => by rw [hz]; exact h32
        clear h32
        go_wp2_with fail
        go_end0
        exact ⟨q, rfl, hpq, hqs, HNE.out, HRD.out, HGR.out, HAT.out⟩
    · go_wp2_with fail
      go_end0
      exact ⟨q, rfl, hpq, hqs, fun h => absurd h hlt, HRD.out, HGR.out, HAT.out⟩

/-- the state of the reading: the text, the result's cell, the place, the sets -/
def RdSt (s : ByteArray) (w : World) (C : Nat) (wr : World) (p : Nat) (lv : Value) (L : List (List Int)) : Prop :=
  Below w.heap.size w wr ∧ wr.heap[w.heap.size]? = some (.cells #[.string s] 9 (0, 0)) ∧ wr.heap[w.heap.size + 1]? = some (.cells #[.slice none 0 0] 34 (0, 0)) ∧ AtC wr (w.heap.size + 1 + 1) p ∧
    w.heap.size + 1 + 1 + 1 ≤ C ∧ C ≤ wr.heap.size ∧ RowsN (w.heap.size + 1 + 1 + 1) C wr lv L
theorem RdSt.below {s : ByteArray} {w wr w' : World} {C p : Nat} {lv : Value} {L : List (List Int)} (h : RdSt s w C wr p lv L) (hb : Below wr.heap.size wr w') : RdSt s w C w' p lv L := by
  obtain ⟨h1, h2, h3, h4, h5, h6, h7⟩ := h
  exact ⟨h1.trans (hb.mono h1.size), (hb.block _ (blk_ltT h2)).trans h2, (hb.block _ (blk_ltT h3)).trans h3, (hb.block _ (blk_ltT h4)).trans h4, h5, Nat.le_trans h6 hb.size, h7.below hb (Nat.le_refl _)⟩
theorem RdSt.grow {s : ByteArray} {w wr w' : World} {C C' p : Nat} {lv lv' : Value} {L L' : List (List Int)} {row : Option Nat} (h : RdSt s w C wr p lv L) (hg : wr.grownBy w' row) (hr : ∀ k, row = some k → w.heap.size + 1 + 1 + 1 ≤ k) (hC : w.heap.size + 1 + 1 + 1 ≤ C') (hC2 : C' ≤ w'.heap.size) (hR : RowsN (w.heap.size + 1 + 1 + 1) C' w' lv' L') : RdSt s w C' w' p lv' L' := by
  obtain ⟨h1, h2, h3, h4, h5, h6, h7⟩ := h
  have hne : ∀ k, k < w.heap.size + 1 + 1 + 1 → some k ≠ row := fun k hk e => by have := hr k e.symm; omega
  exact ⟨h1.grown hg h1.size (fun k e => by have := hr k e; omega), (hg.block _ (blk_ltT h2) (hne _ (by omega))).trans h2, (hg.block _ (blk_ltT h3) (hne _ (by omega))).trans h3, (hg.block _ (blk_ltT h4) (hne _ (by omega))).trans h4, hC, hC2, hR⟩
theorem RdSt.at {s : ByteArray} {w wr w' : World} {C p p' : Nat} {lv : Value} {L : List (List Int)} (h : RdSt s w C wr p lv L) (hg : wr.grownBy w' (some (w.heap.size + 1 + 1))) (ha : AtC w' (w.heap.size + 1 + 1) p') : RdSt s w C w' p' lv L := by
  obtain ⟨h1, h2, h3, h4, h5, h6, h7⟩ := h
  exact ⟨h1.grown hg h1.size (fun k e => by obtain rfl := Option.some.inj e; omega), (hg.block _ (blk_ltT h2) (fun e => by have := Option.some.inj e; omega)).trans h2, (hg.block _ (blk_ltT h3) (fun e => by have := Option.some.inj e; omega)).trans h3, ha, h5, Nat.le_trans h6 hg.size, h7.grown hg (fun k e => by obtain rfl := Option.some.inj e; exact Or.inl (by omega))⟩
theorem RdSt.facts {s : ByteArray} {w wr : World} {C p : Nat} {lv : Value} {L : List (List Int)} (h : RdSt s w C wr p lv L) : wr.cell? ⟨w.heap.size, 0, none⟩ = some (.string s) ∧ wr.cell? ⟨w.heap.size + 1 + 1, 0, none⟩ = some (.int .i64 p) ∧ wr.frozen? ⟨w.heap.size + 1 + 1, 0, none⟩ = false ∧
    wr.cell? ⟨w.heap.size + 1, 0, none⟩ = some (.slice none 0 0) ∧ wr.frozen? ⟨w.heap.size + 1, 0, none⟩ = false ∧ w.heap.size + 1 + 1 < wr.heap.size := by
  obtain ⟨-, h2, h3, h4, -⟩ := h
  exact ⟨(one_at h2).1, (one_at h4).1, (one_at h4).2, (one_at h3).1, (one_at h3).2, blk_ltT h4⟩
theorem own_grown {w w' : World} {C g q : Nat} {sv : Value} {ys : List Value} (h : w.ownsRow C 3 1 sv q ys) (hg : w.grownBy w' (some g)) (hC : g < C) : w'.ownsRow C 3 1 sv q ys :=
  owns_keep h fun k hk => hg.block k (h.lt k hk).2 (fun e => by have := (h.lt k hk).1; simp at e; omega)

/-- what Read hands back -/
def RdQ (a : Nat → Addr) (B : Nat) (R : RdR) (w : World) (e : Ending) (w' : World) : Prop :=
  ∃ p n c ev, e = .returned (.tuple #[.agg #[.slice p n c], ev]) ∧ Below w.heap.size w w' ∧ ErrAt a w' ev (outC R : Int) (outP R) ∧ RowsO w.heap.size B w' (.slice p n c) (outL R)
/-- at each jump -/
def RdJ (s : ByteArray) (R : RdR) (w : World) (a' : Act) (w' : World) : Prop :=
  ∃ (p C : Nat) (lv : Value) (L : List (List Int)) (u3 u6 u10 u11 u12 u15 u16 u17 u23 u24 u25 u26 u27 u28 u29 u30 u31 u32 u33 u35 u36 u37 u38 u39 u40 u41 u42 u43 u44 u45 u46 u47 u48 u49 u50 u51 u52 u53 u54 u55 u56 u57 u58 u59 u60 u61 u62 u63 u64 u65 u66 u67 u68 u69 u70 u71 u72 u73 u74 u75 u76 u77 u78 u79 u80 u81 u82 u83 u84 u85 u86 u87 u88 u89 u90 u91 u92 u93 u94 u95 u96 u97 u98 u99 u100 u101 u102 u103 u104 u105 u106 u107 u108 u109 u110 u111 u112 u113 u114 u115 u116 u117 u118 u119 u120 u121 u122 u123 u124 u125 u126 u127 u128 u129 u130 : Value), a' = { tmps := #[.string s, .pointer (some ⟨w.heap.size, 0, none⟩), .pointer (some ⟨w.heap.size + 1, 0, none⟩), u3, .func (.func 92) #[] #[], lv, u6, .pointer (some ⟨w.heap.size + 1 + 1, 0, none⟩), .bool true, .func (.func 93) #[] #[.pointer (some ⟨w.heap.size + 1 + 1, 0, none⟩), .pointer (some ⟨w.heap.size, 0, none⟩)], u10, u11, u12, undef, undef, u15, u16, u17, undef, undef, undef, undef, undef, u23, u24, u25, u26, u27, u28, u29, u30, u31, u32, u33, undef, u35, u36, u37, u38, u39, u40, u41, u42, u43, u44, u45, u46, u47, u48, u49, u50, u51, u52, u53, u54, u55, u56, u57, u58, u59, u60, u61, u62, u63, u64, u65, u66, u67, u68, u69, u70, u71, u72, u73, u74, u75, u76, u77, u78, u79, u80, u81, u82, u83, u84, u85, u86, u87, u88, u89, u90, u91, u92, u93, u94, u95, u96, u97, u98, u99, u100, u101, u102, u103, u104, u105, u106, u107, u108, u109, u110, u111, u112, u113, u114, u115, u116, u117, u118, u119, u120, u121, u122, u123, u124, u125, u126, u127, u128, u129, u130, undef, undef, undef, undef, undef, undef, undef, undef, undef, undef, undef, undef, undef], defers := [] } ∧ p ≤ s.size ∧ RdSt s w C w' p lv L ∧ L.length ≤ p ∧ (∀ x ∈ L, x.length ≤ 30000) ∧ (∀ n, rd (s.data.toList.drop p) L [] n 0 true p = R)
/-- while a set is read -/
def RdL (s : ByteArray) (R : RdR) (w : World) (m : Nat) (lv : Value) (L : List (List Int)) (p1 k : Nat) (s6 : Value) (wr : World) : Prop :=
  ∃ (p C q : Nat) (ps : Option Addr) (cs : Nat) (xs : List Int), s6 = .slice ps q cs ∧ k = m - p ∧ p1 ≤ p ∧ p ≤ m ∧ q ≤ p ∧ xs.length = q ∧ RdSt s w C wr p lv L ∧ wr.ownsRow C 3 1 (.slice ps q cs) q (intVs xs) ∧ (∀ h : p < s.size, (s[p]'h).toNat ≠ 32) ∧ (∀ n, rd (s.data.toList.drop p) L xs n 0 true p = R)
/-- behind a set -/
def RdB (s : ByteArray) (R : RdR) (w : World) (m : Nat) (lv : Value) (L : List (List Int)) (p1 : Nat) (s6 : Value) (wr : World) : Prop :=
  ∃ (p C q : Nat) (ps : Option Addr) (cs : Nat) (xs : List Int), s6 = .slice ps q cs ∧ p1 ≤ p ∧ p ≤ m ∧ q ≤ p ∧ xs.length = q ∧ RdSt s w C wr p lv L ∧ wr.ownsRow C 3 1 (.slice ps q cs) q (intVs xs) ∧
    ((p = m ∧ R = .sets (L ++ [xs])) ∨ (p < m ∧ ∀ n, rd (s.data.toList.drop (p + 1)) (L ++ [xs]) [] n 0 true (p + 1) = R))
theorem rd_bad {a : Nat → Addr} {s : ByteArray} {w wr : World} {C p nf k : Nat} {lv : Value} {L : List (List Int)} {at_ : Int} (v : Value) (h : RdSt s w C wr p lv L) (hf : wr.heap[nf]? = some (.cells #[.int .i64 at_, errE (a k)] 120 (0, 0))) (hk : k < 8) :
    ErrAt a (wr.setCell ⟨w.heap.size + 1, 0, none⟩ v) (.iface 118 (.pointer (some ⟨nf, 0, none⟩))) ((k : Int) + 1) at_ := by
  have hne : nf ≠ w.heap.size + 1 := fun e => by
    subst e
    rw [h.2.2.1] at hf
    cases hf
  refine WrP.err hk (n := nf) ?_
  rw [Below.heap_setCell _ _ _ nf (fun e => hne (by simp at e; omega))]
  exact hf
theorem ext_one (s : ByteArray) (p : Nat) (h : p < s.size) : (s.extract p (p + 1)).data.toList = [s[p]] := by
  rw [Lib.extract_data, show p + 1 - p = 1 by omega, drop_byte s p h]; rfl
theorem ext_two (s : ByteArray) (p : Nat) (h : p + 1 < s.size) : (s.extract p (p + 1 + 1)).data.toList = [s[p], s[p + 1]] := by
  rw [Lib.extract_data, show p + 1 + 1 - p = 2 by omega, drop_byte s p (by omega), drop_byte s (p + 1) h]; rfl
/-- a number of one or two digits is read -/
theorem rd_num (s : ByteArray) (p y : Nat) (hpy : p < y) (hy2 : y ≤ p + 2) (hys : y ≤ s.size) (hd : ∀ i (h : i < s.size), p ≤ i → i < y → isDg (s[i]'h) = true) (L : List (List Int)) (xs : List Int) (n : Int) :
    ∃ v : Int, 0 ≤ v ∧ v ≤ 99 ∧ Lib.atoi (s.extract p y).data.toList = some v ∧ rd (s.data.toList.drop p) L xs n 0 true p = rd (s.data.toList.drop y) L xs v (y - p) true y := by
  have hp : p < s.size := by omega
  have d1 := hd p hp (Nat.le_refl _) hpy
  have b1 := dgv_bd d1
  rcases (show y = p + 1 ∨ y = p + 1 + 1 by omega) with rfl | rfl
  · refine ⟨dgv s[p], b1.1, by omega, by rw [ext_one s p hp]; exact atoi_one d1, ?_⟩
    rw [drop_byte s p hp, rd_dg d1 (by decide), if_pos rfl, show p + 1 - p = 0 + 1 by omega]
  · have hp1 : p + 1 < s.size := by omega
    have d2 := hd (p + 1) hp1 (by omega) (by omega)
    have b2 := dgv_bd d2
    refine ⟨dgv s[p] * 10 + dgv s[p + 1], by omega, by omega, by rw [ext_two s p hp1]; exact atoi_two d1 d2, ?_⟩
    rw [drop_byte s p hp, rd_dg d1 (by decide), if_pos rfl, drop_byte s (p + 1) hp1, rd_dg d2 (by decide), if_neg (by decide), show p + 1 + 1 - p = 1 + 1 by omega]

set_option maxRecDepth 1000000 in
set_option maxHeartbeats 64000000 in
theorem read_any (a : Nat → Addr) (B : Nat) (s : ByteArray) (w : World) (hS : Sents w a) (hB : B ≤ w.heap.size) (hs : s.size ≤ 20000) :
    Calls Tryz.prog 50 #[.string s] w (RdQ a B (rd s.data.toList [] [] (-1) 0 false 0) w) := by
  obtain ⟨i3, hi3, ky0, ky1, ky2⟩ := info_parts Tryz.info3
  obtain ⟨i39, hi39, hz0, hz1, hz2⟩ := info_parts Tryz.info26
  obtain ⟨R, hR⟩ : ∃ R, rd s.data.toList [] [] (-1) 0 false 0 = R := ⟨_, rfl⟩
  rw [hR]
  have HR0 := Lib.hid hR
  obtain ⟨m, hm⟩ : ∃ m, s.size = m := ⟨_, rfl⟩
  rw [hm] at hs
  have HM := Lib.hid hm
  have HBB := Lib.hid hB
  have HS := Lib.hid hS
  have x1 : decide ((20000 : Int) < (m : Int)) = false := decide_eq_false (by omega)
  have x2 : decide (20000 < m) = false := decide_eq_false (by omega)
  unfold RdQ
  clear hR hB hS
  go_enter Tryz.func50, Tryz.ntmps50
  go_wp2_with fail
  refine wp_scope_jumps 0 (RdJ s R w) (fun _ w' => m + 1 - (intOf ((w'.cell? ⟨w.heap.size + 1 + 1, 0, none⟩).getD undef)).toNat) rfl ?_ ?_
  case' refine_1 =>
    go_wp2_with fail
    go_step3
    obtain ⟨w1, hw1⟩ : ∃ w1, w1 = ((w.alloc (.cells #[.string s] 9)).alloc (.cells #[.slice none 0 0] 34)).alloc (.cells #[.int .i64 0] 3) := ⟨_, rfl⟩
    have hst : RdSt s w (w.heap.size + 1 + 1 + 1) w1 0 (.slice none 0 0) [] := by
      have e2 : ((w.alloc (.cells #[.string s] 9)).alloc (.cells #[.slice none 0 0] 34)).heap.size = w.heap.size + 1 + 1 := by simp
      refine ⟨?_, ?_, ?_, ?_, Nat.le_refl _, ?_, RowsN.nil _ _ _⟩
      · rw [hw1]; exact (((Below.refl _ _).alloc (Nat.le_refl _) _).alloc (by simp) _).alloc (by simp; omega) _
      · rw [hw1]; exact ((lit_below _ _).block _ (by simp; omega)).trans (((lit_below _ _).block _ (by simp)).trans (heap_alloc_new w _))
      · rw [hw1]
        have h := heap_alloc_new (w.alloc (.cells #[.string s] 9)) (.cells #[.slice none 0 0] 34)
        rw [lit_size] at h
        exact ((lit_below _ _).block _ (by simp)).trans h
      · rw [hw1]
        have h := heap_alloc_new ((w.alloc (.cells #[.string s] 9)).alloc (.cells #[.slice none 0 0] 34)) (.cells #[.int .i64 0] 3)
        rw [e2] at h
        exact h
      · rw [hw1, lit_size, e2]; exact Nat.le_refl _
    have HST := Lib.hid hst
    have HW1 := Lib.hid hw1
    have HBL := Lib.hid (blank_any s (w.heap.size + 1 + 1) w.heap.size 0 w1 (Nat.zero_le _) (by omega) hst.2.2.2.1 hst.2.1 (by omega))
    unfold BlP at HBL
    clear hst hw1
    go_wp2_with fail
    rw [← HW1.out]
    refine HBL.out.mono ?_
    rintro e w2 ⟨p, rfl, hp0, hps, hnb, hrd, hg2, ha2⟩
    have HST2 := Lib.hid (HST.out.at hg2 ha2)
    rw [HM.out] at hps
    have HNB := Lib.hid hnb
    have HRD1 : Hid (rd (s.data.toList.drop p) [] [] (-1) 0 false p = R) := by
      unfold Hid
      rw [← hrd [] [] (-1) false, List.drop_zero]; exact HR0.out
    obtain ⟨d1, d2, d3, d4, d5, d6⟩ := HST2.out.facts
    clear hg2 ha2 hnb hrd hp0 HBL
    by_cases hpm : p = m
    · have HNIL : Hid (R = .nil) := by
        unfold Hid
        rw [← HRD1.out, drop_end s p (by rw [HM.out, hpm]; exact Nat.le_refl _), rd_nil, if_pos rfl]
      obtain rfl : p = m := hpm
      have R0 := Lib.hid (one_set (v := .slice none 0 0) HST2.out.2.2.1)
      have HBF := Lib.hid (show Below w.heap.size w (w2.setCell ⟨w.heap.size + 1, 0, none⟩ (.slice none 0 0)) from HST2.out.1.setCell (Nat.le_succ _) _)
      go_wp2_with fail
      simp only [Exit.jump]
      refine bodyPost_ret (v := .tuple #[.agg #[.slice none 0 0], .nilIface]) (by simp [results, Tryz.results50, go_sem, R0.out]) rfl ?_
      exact ⟨none, 0, 0, _, rfl, HBF.out, by rw [HNIL.out]; exact ErrAt.nil _ _, by rw [HNIL.out]; exact RowsO.nil _ _ _⟩
    have n1 : ((p : Int) == (m : Int)) = false := beq_eq_false_iff_ne.2 (by omega)
    have n2 : (p == m) = false := beq_eq_false_iff_ne.2 hpm
    have HRD : Hid (∀ n, rd (s.data.toList.drop p) [] [] n 0 true p = R) := fun n => by
      have hlt : p < s.size := by rw [HM.out]; omega
      rw [← HRD1.out, drop_byte s p hlt, rd_b (b := false) (HNB.out hlt), rd_n0 n (-1)]
    obtain ⟨L, hL⟩ : ∃ L : List (List Int), L = [] := ⟨_, rfl⟩
    have HLL : Hid (L.length ≤ p) := by unfold Hid; rw [hL]; exact Nat.zero_le _
    have HL3 : Hid (∀ x ∈ L, x.length ≤ 30000) := by unfold Hid; rw [hL]; intro x hx; cases hx
    rw [← hL] at HRD
    obtain ⟨C, hC⟩ : ∃ C, C = w.heap.size + 1 + 1 + 1 := ⟨_, rfl⟩
    rw [← hC, ← hL] at HST2
    clear hpm hL hC
    obtain ⟨p1, hp1⟩ : ∃ p1, p1 = p := ⟨_, rfl⟩
    have hp1p : p1 ≤ p := Nat.le_of_eq hp1
    have hp1e : Hid (p1 = p) := hp1
    clear hp1
    go_upto_block 0 with fail
    clear n1 n2 x1 x2 HRD1 HW1 HST
    obtain ⟨lv, hlv⟩ : ∃ lv, lv = Value.slice none 0 0 := ⟨_, rfl⟩
    rw [← hlv] at HST2
    rw [← hlv]
    have H6 : Hid (lv = Value.slice none 0 0) := hlv
    have HLP : Hid (L.length ≤ p1) := Nat.le_trans HLL.out (Nat.le_of_eq hp1e.out.symm)
    have HRL0 : Hid (RdL s R w m lv L p1 (m - p) lv w2) := ⟨p, C, 0, none, 0, [], hlv, rfl, hp1p, hps, Nat.zero_le _, rfl, HST2.out, World.ownsRow_nil _ _ _ _, HNB.out, HRD.out⟩
    clear hlv
  case' refine_2 =>
    intro a' w' hJ
    unfold RdJ at hJ
    obtain ⟨p0, hJ⟩ := hJ
    obtain ⟨C, hJ⟩ := hJ
    obtain ⟨lv, hJ⟩ := hJ
    obtain ⟨L, hJ⟩ := hJ
    obtain ⟨u3, hJ⟩ := hJ
    obtain ⟨u6, hJ⟩ := hJ
    obtain ⟨u10, hJ⟩ := hJ
    obtain ⟨u11, hJ⟩ := hJ
    obtain ⟨u12, hJ⟩ := hJ
    obtain ⟨u15, hJ⟩ := hJ
    obtain ⟨u16, hJ⟩ := hJ
    obtain ⟨u17, hJ⟩ := hJ
    obtain ⟨u23, hJ⟩ := hJ
    obtain ⟨u24, hJ⟩ := hJ
    obtain ⟨u25, hJ⟩ := hJ
    obtain ⟨u26, hJ⟩ := hJ
    obtain ⟨u27, hJ⟩ := hJ
    obtain ⟨u28, hJ⟩ := hJ
    obtain ⟨u29, hJ⟩ := hJ
    obtain ⟨u30, hJ⟩ := hJ
    obtain ⟨u31, hJ⟩ := hJ
    obtain ⟨u32, hJ⟩ := hJ
    obtain ⟨u33, hJ⟩ := hJ
    obtain ⟨u35, hJ⟩ := hJ
    obtain ⟨u36, hJ⟩ := hJ
    obtain ⟨u37, hJ⟩ := hJ
    obtain ⟨u38, hJ⟩ := hJ
    obtain ⟨u39, hJ⟩ := hJ
    obtain ⟨u40, hJ⟩ := hJ
    obtain ⟨u41, hJ⟩ := hJ
    obtain ⟨u42, hJ⟩ := hJ
    obtain ⟨u43, hJ⟩ := hJ
    obtain ⟨u44, hJ⟩ := hJ
    obtain ⟨u45, hJ⟩ := hJ
    obtain ⟨u46, hJ⟩ := hJ
    obtain ⟨u47, hJ⟩ := hJ
    obtain ⟨u48, hJ⟩ := hJ
    obtain ⟨u49, hJ⟩ := hJ
    obtain ⟨u50, hJ⟩ := hJ
    obtain ⟨u51, hJ⟩ := hJ
    obtain ⟨u52, hJ⟩ := hJ
    obtain ⟨u53, hJ⟩ := hJ
    obtain ⟨u54, hJ⟩ := hJ
    obtain ⟨u55, hJ⟩ := hJ
    obtain ⟨u56, hJ⟩ := hJ
    obtain ⟨u57, hJ⟩ := hJ
    obtain ⟨u58, hJ⟩ := hJ
    obtain ⟨u59, hJ⟩ := hJ
    obtain ⟨u60, hJ⟩ := hJ
    obtain ⟨u61, hJ⟩ := hJ
    obtain ⟨u62, hJ⟩ := hJ
    obtain ⟨u63, hJ⟩ := hJ
    obtain ⟨u64, hJ⟩ := hJ
    obtain ⟨u65, hJ⟩ := hJ
    obtain ⟨u66, hJ⟩ := hJ
    obtain ⟨u67, hJ⟩ := hJ
    obtain ⟨u68, hJ⟩ := hJ
    obtain ⟨u69, hJ⟩ := hJ
    obtain ⟨u70, hJ⟩ := hJ
    obtain ⟨u71, hJ⟩ := hJ
    obtain ⟨u72, hJ⟩ := hJ
    obtain ⟨u73, hJ⟩ := hJ
    obtain ⟨u74, hJ⟩ := hJ
    obtain ⟨u75, hJ⟩ := hJ
    obtain ⟨u76, hJ⟩ := hJ
    obtain ⟨u77, hJ⟩ := hJ
    obtain ⟨u78, hJ⟩ := hJ
    obtain ⟨u79, hJ⟩ := hJ
    obtain ⟨u80, hJ⟩ := hJ
    obtain ⟨u81, hJ⟩ := hJ
    obtain ⟨u82, hJ⟩ := hJ
    obtain ⟨u83, hJ⟩ := hJ
    obtain ⟨u84, hJ⟩ := hJ
    obtain ⟨u85, hJ⟩ := hJ
    obtain ⟨u86, hJ⟩ := hJ
    obtain ⟨u87, hJ⟩ := hJ
    obtain ⟨u88, hJ⟩ := hJ
    obtain ⟨u89, hJ⟩ := hJ
    obtain ⟨u90, hJ⟩ := hJ
    obtain ⟨u91, hJ⟩ := hJ
    obtain ⟨u92, hJ⟩ := hJ
    obtain ⟨u93, hJ⟩ := hJ
    obtain ⟨u94, hJ⟩ := hJ
    obtain ⟨u95, hJ⟩ := hJ
    obtain ⟨u96, hJ⟩ := hJ
    obtain ⟨u97, hJ⟩ := hJ
    obtain ⟨u98, hJ⟩ := hJ
    obtain ⟨u99, hJ⟩ := hJ
    obtain ⟨u100, hJ⟩ := hJ
    obtain ⟨u101, hJ⟩ := hJ
    obtain ⟨u102, hJ⟩ := hJ
    obtain ⟨u103, hJ⟩ := hJ
    obtain ⟨u104, hJ⟩ := hJ
    obtain ⟨u105, hJ⟩ := hJ
    obtain ⟨u106, hJ⟩ := hJ
    obtain ⟨u107, hJ⟩ := hJ
    obtain ⟨u108, hJ⟩ := hJ
    obtain ⟨u109, hJ⟩ := hJ
    obtain ⟨u110, hJ⟩ := hJ
    obtain ⟨u111, hJ⟩ := hJ
    obtain ⟨u112, hJ⟩ := hJ
    obtain ⟨u113, hJ⟩ := hJ
    obtain ⟨u114, hJ⟩ := hJ
    obtain ⟨u115, hJ⟩ := hJ
    obtain ⟨u116, hJ⟩ := hJ
    obtain ⟨u117, hJ⟩ := hJ
    obtain ⟨u118, hJ⟩ := hJ
    obtain ⟨u119, hJ⟩ := hJ
    obtain ⟨u120, hJ⟩ := hJ
    obtain ⟨u121, hJ⟩ := hJ
    obtain ⟨u122, hJ⟩ := hJ
    obtain ⟨u123, hJ⟩ := hJ
    obtain ⟨u124, hJ⟩ := hJ
    obtain ⟨u125, hJ⟩ := hJ
    obtain ⟨u126, hJ⟩ := hJ
    obtain ⟨u127, hJ⟩ := hJ
    obtain ⟨u128, hJ⟩ := hJ
    obtain ⟨u129, hJ⟩ := hJ
    obtain ⟨u130, hJ⟩ := hJ
    obtain ⟨rfl, hp0, hst, hll, hl3, hrd⟩ := hJ
    have HST := Lib.hid hst
    have HP0 : Hid (w'.cell? ⟨w.heap.size + 1 + 1, 0, none⟩ = some (.int .i64 p0)) := (one_at hst.2.2.2.1).1
    have HL3 := Lib.hid hl3
    have HBL := Lib.hid (blank_any s (w.heap.size + 1 + 1) w.heap.size p0 w' hp0 (by omega) hst.2.2.2.1 hst.2.1 (by omega))
    have HRJ := Lib.hid hrd
    unfold BlP at HBL
    rw [HM.out] at hp0
    clear hst hl3 hrd
    go_wp2_with fail
    refine HBL.out.mono ?_
    rintro e w2 ⟨p, rfl, hp1p, hps, hnb, hrd, hg2, ha2⟩
    have HST2 := Lib.hid (HST.out.at hg2 ha2)
    rw [HM.out] at hps
    have HNB := Lib.hid hnb
    have HRD : Hid (∀ n, rd (s.data.toList.drop p) L [] n 0 true p = R) := fun n => by rw [← hrd L [] n true]; exact HRJ.out n
    have HLL : Hid (L.length ≤ p) := Nat.le_trans hll hp1p
    obtain ⟨d1, d2, d3, d4, d5, d6⟩ := HST2.out.facts
    clear hg2 ha2 hnb hrd HBL
    by_cases hpm : p = m
    case' pos =>
      have n1 : ((p : Int) == (m : Int)) = true := beq_iff_eq.2 (by omega)
      have n2 : (p == m) = true := beq_iff_eq.2 hpm
      clear hpm
      go_upto_block 0 with fail
    case' neg =>
      have n1 : ((p : Int) == (m : Int)) = false := beq_eq_false_iff_ne.2 (by omega)
      have n2 : (p == m) = false := beq_eq_false_iff_ne.2 hpm
      clear hpm
      go_upto_block 0 with fail
    all_goals
      clear n1 n2 x1 x2 HRJ HST
      obtain ⟨p1, hp1⟩ : ∃ p1, p1 = p0 := ⟨_, rfl⟩
      rw [← hp1] at hp1p
      have H6 : Hid (p1 = p0) := hp1
      have HLP : Hid (L.length ≤ p1) := by unfold Hid; rw [hp1]; exact hll
      have HRL0 : Hid (RdL s R w m lv L p1 (m - p) (.slice none 0 0) w2) := ⟨p, C, 0, none, 0, [], rfl, rfl, hp1p, hps, Nat.zero_le _, rfl, HST2.out, World.ownsRow_nil _ _ _ _, HNB.out, HRD.out⟩
      clear hp1
      try clear hll
  all_goals
    clear d1 d2 d3 d4 d5 d6 HNB HRD HST2
    go_cut [6] (fun s6 wx => RdB s R w m lv L p1 s6 wx)
    case first =>
      go_wp2_with fail
      go_loopg [6] (m - p) (fun k s6 wr => RdL s R w m lv L p1 k s6 wr)
      case atStart => exact HRL0.out
      case round =>
      unfold RdL at hrel
      obtain ⟨pp, CC, q, ps, cs, xs, rfl, rfl, hpp1, hppm, hqp, hxs, hst, how, hnb, hrd⟩ := hrel
      have HST := Lib.hid hst
      have HOW := Lib.hid how
      have HNB := Lib.hid hnb
      have HRD := Lib.hid hrd
      have HXS := Lib.hid hxs
      obtain ⟨d1, d2, d3, d4, d5, d6⟩ := HST.out.facts
      clear hst how hnb hrd hxs
      obtain ⟨wo, rfl⟩ : ∃ wo, wo = wr := ⟨_, rfl⟩
      go_upto_block 2 with fail
      go_cut [10] (fun s10 wx => wx = wo ∧ ∃ y : Nat, s10 = .int .i64 y ∧ pp ≤ y ∧ y ≤ pp + 2 ∧ y ≤ m ∧ Hid (∀ i (h : i < s.size), pp ≤ i → i < y → isDg (s[i]'h) = true) ∧ Hid (y = pp + 2 ∨ y = m ∨ ∃ h : y < s.size, isDg (s[y]'h) = false))
      case first =>
        go_wp2_with fail
        go_loopw [10] (fun n wx => wx = wo ∧ ∃ y : Nat, n = .int .i64 y ∧ pp ≤ y ∧ y ≤ pp + 2 ∧ y ≤ m ∧ Hid (∀ i (h : i < s.size), pp ≤ i → i < y → isDg (s[i]'h) = true)) (fun n _ => m - (intOf n).toNat)
        case atStart => exact ⟨rfl, pp, rfl, Nat.le_refl _, by omega, hppm, fun i h h1 h2 => absurd h2 (by omega)⟩
        case round =>
        obtain ⟨rfl, y, rfl, hy1, hy2, hy3, HDG⟩ := hrel
        by_cases h1 : y < m
        · have hys : y < s.size := by rw [HM.out]; exact h1
          by_cases h2 : y < pp + 2
          · obtain ⟨z, hz⟩ : ∃ z, (s[y]'hys).toNat = z := ⟨_, rfl⟩
            have hz256 : z < 256 := by rw [← hz]; exact byte_lt _
            by_cases h3 : 48 ≤ z
            · by_cases h4 : z ≤ 57
              · have HDG2 : Hid (∀ i (h : i < s.size), pp ≤ i → i < y + 1 → isDg (s[i]'h) = true) := fun i h a b => by
                  rcases Nat.lt_or_eq_of_le (Nat.le_of_lt_succ b) with c | rfl
                  · exact HDG.out i h a c
                  · exact isDg_iff.2 (by rw [hz]; exact ⟨h3, h4⟩)
                go_wp2_with fail
                go_roundw
                case rel => exact ⟨by trivial, y + 1, by go_num, by omega, by omega, by omega, HDG2⟩
                case measure => simp [intOf]; omega
              · have HX : Hid (y = pp + 2 ∨ y = m ∨ ∃ h : y < s.size, isDg (s[y]'h) = false) := Or.inr (Or.inr ⟨hys, by rw [isDg_no, hz]; omega⟩)
                go_wp2_with fail
                go_meet
                exact ⟨rfl, y, rfl, hy1, hy2, hy3, HDG, HX⟩
            · have HX : Hid (y = pp + 2 ∨ y = m ∨ ∃ h : y < s.size, isDg (s[y]'h) = false) := Or.inr (Or.inr ⟨hys, by rw [isDg_no, hz]; omega⟩)
              go_wp2_with fail
              go_meet
              exact ⟨rfl, y, rfl, hy1, hy2, hy3, HDG, HX⟩
          · have HX : Hid (y = pp + 2 ∨ y = m ∨ ∃ h : y < s.size, isDg (s[y]'h) = false) := Or.inl (by omega)
            go_wp2_with fail
            go_meet
            exact ⟨rfl, y, rfl, hy1, hy2, hy3, HDG, HX⟩
        · have HX : Hid (y = pp + 2 ∨ y = m ∨ ∃ h : y < s.size, isDg (s[y]'h) = false) := Or.inr (Or.inl (by omega))
          go_wp2_with fail
          go_meet
          exact ⟨rfl, y, rfl, hy1, hy2, hy3, HDG, HX⟩
      case rest =>
      obtain ⟨rfl, y, rfl, hy1, hy2, hy3, HDG, HX⟩ := hcut
      obtain ⟨wo, rfl⟩ : ∃ wo, wo = wc := ⟨_, rfl⟩
      by_cases hyp : y = pp
      · obtain rfl : pp = y := hyp.symm
        have HRD0 := Lib.hid (HRD.out 0)
        by_cases hpm : pp = m
        · rw [drop_end s pp (by rw [HM.out, hpm]; exact Nat.le_refl _), rd_nil, finS_0, if_neg (by decide)] at HRD0
          rcases Nat.eq_zero_or_pos q with rfl | hqp'
          · have HBAD : Hid (R = .bad pp) := by unfold Hid; rw [← HRD0.out, if_pos (List.length_eq_zero_iff.1 HXS.out)]
            have hge : m ≤ pp := by omega
            clear hpm
            have hg := (HS.out.below HST.out.1 (Nat.le_refl _)).g 0 (by decide)
            simp only [gnum] at hg
            have HWR := Lib.hid (wrong_any (pp : Int) (a 0) wo)
            unfold WrP errE at HWR
            go_wp2_with fail
            refine HWR.out.mono ?_
            rintro e w9 ⟨nf, rfl, hb9, hf9⟩
            have HST9 := Lib.hid (HST.out.below hb9)
            have HER := Lib.hid (rd_bad (a := a) (k := 0) (.slice none 0 0) HST9.out hf9 (by decide))
            obtain ⟨b1, b2, b3, b4, b5, b6⟩ := HST9.out.facts
            have R0 := Lib.hid (one_set (v := .slice none 0 0) HST9.out.2.2.1)
            have HBF := Lib.hid (show Below w.heap.size w (w9.setCell ⟨w.heap.size + 1, 0, none⟩ (.slice none 0 0)) from HST9.out.1.setCell (Nat.le_succ _) _)
            clear hb9 hf9 hg HWR
            go_wp2_with fail
            try simp only [Exit.inBlock, Exit.then, Exit.jump]
            refine bodyPost_ret (v := .tuple #[.agg #[.slice none 0 0], .iface 118 (.pointer (some ⟨nf, 0, none⟩))]) (by simp [results, Tryz.results50, go_sem, R0.out]) rfl ?_
            exact ⟨none, 0, 0, _, rfl, HBF.out, by rw [HBAD.out]; exact HER.out, by rw [HBAD.out]; exact RowsO.nil _ _ _⟩
          · have HRS : Hid (R = .sets (L ++ [xs])) := by unfold Hid; rw [← HRD0.out, if_neg (fun e => by have := HXS.out; rw [e] at this; simp at this; omega)]
            have j1 : ((q : Int) == 0) = false := beq_eq_false_iff_ne.2 (by omega)
            have j2 : (q == 0) = false := beq_eq_false_iff_ne.2 (by omega)
            go_wp2_with fail
            go_meet
            exact ⟨pp, CC, q, ps, cs, xs, rfl, hpp1, hppm, hqp, HXS.out, HST.out, HOW.out, Or.inl ⟨hpm, HRS.out⟩⟩
        · have hlt : pp < s.size := by rw [HM.out]; omega
          have hltm : pp < m := by omega
          have HND : Hid (isDg (s[pp]'hlt) = false) := by
            rcases HX.out with h | h | ⟨_, h⟩
            · omega
            · exact absurd h hpm
            · exact h
          have HN32 := Lib.hid (HNB.out hlt)
          have HDR := Lib.hid (drop_byte s pp hlt)
          obtain ⟨z, hz⟩ : ∃ z, (s[pp]'hlt).toNat = z := ⟨_, rfl⟩
          have hz256 : z < 256 := by rw [← hz]; exact byte_lt _
          by_cases h59 : z = 59
          · have n59 : ((z : Int) != 59) = false := by rw [bne, beq_iff_eq.2 (show (z : Int) = 59 by omega)]; rfl
            have n58 : (z != 59) = false := by rw [h59]; rfl
            rw [HDR.out, rd_semi (by rw [hz]; exact h59), finS_0] at HRD0
            rcases Nat.eq_zero_or_pos q with rfl | hqp'
            · have HBAD : Hid (R = .bad pp) := by unfold Hid; rw [← HRD0.out, if_pos (List.length_eq_zero_iff.1 HXS.out)]
              clear hpm h59
              have hg := (HS.out.below HST.out.1 (Nat.le_refl _)).g 0 (by decide)
              simp only [gnum] at hg
              have HWR := Lib.hid (wrong_any (pp : Int) (a 0) wo)
              unfold WrP errE at HWR
              go_wp2_with fail
              refine HWR.out.mono ?_
              rintro e w9 ⟨nf, rfl, hb9, hf9⟩
              have HST9 := Lib.hid (HST.out.below hb9)
              have HER := Lib.hid (rd_bad (a := a) (k := 0) (.slice none 0 0) HST9.out hf9 (by decide))
              obtain ⟨b1, b2, b3, b4, b5, b6⟩ := HST9.out.facts
              have R0 := Lib.hid (one_set (v := .slice none 0 0) HST9.out.2.2.1)
              have HBF := Lib.hid (show Below w.heap.size w (w9.setCell ⟨w.heap.size + 1, 0, none⟩ (.slice none 0 0)) from HST9.out.1.setCell (Nat.le_succ _) _)
              clear hb9 hf9 hg HWR
              go_wp2_with fail
              try simp only [Exit.inBlock, Exit.then, Exit.jump]
              refine bodyPost_ret (v := .tuple #[.agg #[.slice none 0 0], .iface 118 (.pointer (some ⟨nf, 0, none⟩))]) (by simp [results, Tryz.results50, go_sem, R0.out]) rfl ?_
              exact ⟨none, 0, 0, _, rfl, HBF.out, by rw [HBAD.out]; exact HER.out, by rw [HBAD.out]; exact RowsO.nil _ _ _⟩
            · have hne : xs ≠ [] := fun e => by have := HXS.out; rw [e] at this; simp at this; omega
              have HRS : Hid (∀ n, rd (s.data.toList.drop (pp + 1)) (L ++ [xs]) [] n 0 true (pp + 1) = R) := fun n => by
                have h := HRD.out n
                rw [HDR.out, rd_semi (by rw [hz]; exact h59), finS_0, if_neg hne] at h
                exact h
              have j1 : ((q : Int) == 0) = false := beq_eq_false_iff_ne.2 (by omega)
              have j2 : (q == 0) = false := beq_eq_false_iff_ne.2 (by omega)
              clear hpm hne h59
              go_wp2_with fail
              go_meet
              exact ⟨pp, CC, q, ps, cs, xs, rfl, hpp1, hppm, hqp, HXS.out, HST.out, HOW.out, Or.inr ⟨hltm, HRS.out⟩⟩
          · have n59 : ((z : Int) != 59) = true := by rw [bne, beq_eq_false_iff_ne.2 (show (z : Int) ≠ 59 by omega)]; rfl
            have n58 : (z != 59) = true := by rw [bne, beq_eq_false_iff_ne.2 h59]; rfl
            have HBAD : Hid (R = .bad pp) := by
              unfold Hid
              rw [← HRD0.out, HDR.out, rd_other HND.out HN32.out (by rw [hz]; exact h59)]
            clear hpm h59
            rcases Nat.eq_zero_or_pos q with rfl | hqp'
            case' inl => skip
            case' inr =>
              have j1 : ((q : Int) == 0) = false := beq_eq_false_iff_ne.2 (by omega)
              have j2 : (q == 0) = false := beq_eq_false_iff_ne.2 (by omega)
            all_goals
              have hg := (HS.out.below HST.out.1 (Nat.le_refl _)).g 0 (by decide)
              simp only [gnum] at hg
              have HWR := Lib.hid (wrong_any (pp : Int) (a 0) wo)
              unfold WrP errE at HWR
              go_wp2_with fail
              refine HWR.out.mono ?_
              rintro e w9 ⟨nf, rfl, hb9, hf9⟩
              have HST9 := Lib.hid (HST.out.below hb9)
              have HER := Lib.hid (rd_bad (a := a) (k := 0) (.slice none 0 0) HST9.out hf9 (by decide))
              obtain ⟨b1, b2, b3, b4, b5, b6⟩ := HST9.out.facts
              have R0 := Lib.hid (one_set (v := .slice none 0 0) HST9.out.2.2.1)
              have HBF := Lib.hid (show Below w.heap.size w (w9.setCell ⟨w.heap.size + 1, 0, none⟩ (.slice none 0 0)) from HST9.out.1.setCell (Nat.le_succ _) _)
              clear hb9 hf9 hg HWR
              go_wp2_with fail
              try simp only [Exit.inBlock, Exit.then, Exit.jump]
              refine bodyPost_ret (v := .tuple #[.agg #[.slice none 0 0], .iface 118 (.pointer (some ⟨nf, 0, none⟩))]) (by simp [results, Tryz.results50, go_sem, R0.out]) rfl ?_
              exact ⟨none, 0, 0, _, rfl, HBF.out, by rw [HBAD.out]; exact HER.out, by rw [HBAD.out]; exact RowsO.nil _ _ _⟩
      · have hpy : pp < y := by omega
        have hys : y ≤ s.size := by rw [HM.out]; exact hy3
        obtain ⟨v, hv0, hv9, hva, hvr⟩ := rd_num s pp y hpy hy2 hys HDG.out L xs 0
        have HV : Hid (rd (s.data.toList.drop y) L xs v (y - pp) true y = R) := by unfold Hid; rw [← hvr]; exact HRD.out 0
        have HAT := Lib.hid (atoi_any (s.extract pp y) v wo (by rw [ByteArray.size_extract]; omega) hva)
        clear hvr hva
        unfold AtoP at HAT
        have hyp2 : (y == pp) = false := beq_eq_false_iff_ne.2 hyp
        have hyp3 : ((y : Int) == (pp : Int)) = false := beq_eq_false_iff_ne.2 (by omega)
        clear hyp
        go_wp2_with fail
        refine HAT.out.mono ?_
        rintro e w3 ⟨rfl, hb3⟩
        have HST3 := Lib.hid (HST.out.below hb3)
        have HOW3 : Hid (w3.ownsRow CC 3 1 (.slice ps q cs) q (intVs xs)) := owns_keep HOW.out fun k hk => hb3.block k (HOW.out.lt k hk).2
        have hCs : CC ≤ w3.heap.size := HST3.out.2.2.2.2.2.1
        clear hb3
        go_upto_region 20 with fail
        go_upto_region 21 with (at_builtin; refine wpList_append_lies _ rfl (.tmp 92) (.tmp 94) 26 rfl CC 3 i3 (.int .i64 0) 1 8 Tryz.underlying26 hi3 ky0 ky1 ky2 rfl (by decide) _ q (intVs xs) rfl (HOW3.out.alloc _) ⟨w3.heap.size, 0, none⟩ 1 1 [.int .i64 v] rfl rfl (World.news_of_block (cs := #[.int .i64 v]) (t := 3) (fr := (0, 0)) (heap_alloc_new w3 _)) (by simp [Value.oneCell']) (by decide) (by unfold maxLen; omega) (by omega) (by simp; omega) (w3.heap.size + 1) (by simp) ?_; intro g2 c2 w9 hown2 hgr2 hat2 hlt2; have HO2 := Lib.hid hown2; have HG2 := Lib.hid hgr2; clear hown2 hgr2 hat2 hlt2)
        have HSTA := Lib.hid (HST3.out.below (show Below w3.heap.size w3 (w3.alloc (.cells #[.int .i64 v] 3)) from (Below.refl _ _).alloc (Nat.le_refl _) _))
        have HCC := Lib.hid HST3.out.2.2.2.2.1
        have HST9 : Hid (RdSt s w CC w9 pp lv L) := HSTA.out.grow HG2.out (fun k hk => by have := (HOW3.out.lt k hk).1; have := HCC.out; omega) HCC.out (by have h1 := HG2.out.size; have h2 := HSTA.out.2.2.2.2.2.1; omega) (HSTA.out.2.2.2.2.2.2.more (HOW3.out.alloc _) HG2.out)
        have HO9 : Hid (w9.ownsRow CC 3 1 (.slice (some ⟨g2, 0, none⟩) (q + 1) c2) (q + 1) (intVs (xs ++ [v]))) := by unfold Hid; rw [intVs_snoc]; exact HO2.out
        have HX9 : Hid ((xs ++ [v]).length = q + 1) := by unfold Hid; rw [List.length_append, HXS.out]; rfl
        obtain ⟨e1, e2, e3, e4, e5, e6⟩ := HST9.out.facts
        clear d1 d2 d3 d4 d5 d6
        go_upto_region 22 with fail
        obtain ⟨w4, hw4⟩ : ∃ w4, w4 = w9.setCell ⟨w.heap.size + 1 + 1, 0, none⟩ (.int .i64 y) := ⟨_, rfl⟩
        have HST4 : Hid (RdSt s w CC w4 y lv L) := by unfold Hid; rw [hw4]; exact HST9.out.at (grown_cell _ _ _) (one_blk HST9.out.2.2.2.1)
        have HO4 : Hid (w4.ownsRow CC 3 1 (.slice (some ⟨g2, 0, none⟩) (q + 1) c2) (q + 1) (intVs (xs ++ [v]))) := by unfold Hid; rw [hw4]; exact own_grown HO9.out (grown_cell _ _ _) HCC.out
        rw [← hw4]
        clear hw4 e1 e2 e3 e4 e5 e6 hyp2 hyp3
        obtain ⟨d1, d2, d3, d4, d5, d6⟩ := HST4.out.facts
        obtain ⟨dn, hdn⟩ : ∃ dn, y - pp = dn + 1 := ⟨y - pp - 1, by omega⟩
        rw [hdn] at HV
        by_cases hym : y < m
        · have hlt : y < s.size := by rw [HM.out]; exact hym
          have HDR := Lib.hid (drop_byte s y hlt)
          obtain ⟨z, hz⟩ : ∃ z, (s[y]'hlt).toNat = z := ⟨_, rfl⟩
          have hz256 : z < 256 := by rw [← hz]; exact byte_lt _
          by_cases h32 : z = 32
          · have n32 : ((z : Int) != 32) = false := by rw [bne, beq_iff_eq.2 (show (z : Int) = 32 by omega)]; rfl
            have n33 : (z != 32) = false := by rw [h32]; rfl
            have HPU : Hid (s.data.toList.drop y = [] ∨ ∃ c t', s.data.toList.drop y = c :: t' ∧ isDg c = false) := Or.inr ⟨_, _, HDR.out, by rw [isDg_no, hz]; omega⟩
            clear h32
            have HRY : Hid (∀ n, rd (s.data.toList.drop y) L (xs ++ [v]) n 0 true y = R) := fun n => by rw [rd_n0 n v, ← rd_push HPU.out]; exact HV.out
            have HBL := Lib.hid (blank_any s (w.heap.size + 1 + 1) w.heap.size y w4 hys (by omega) HST4.out.2.2.2.1 HST4.out.2.1 (by omega))
            unfold BlP at HBL
            go_wp2_with fail
            refine HBL.out.mono ?_
            rintro e w5 ⟨p2, rfl, hp2, hp2s, hnb, hrd, hg5, ha5⟩
            rw [HM.out] at hp2s
            have HST5 := Lib.hid (HST4.out.at hg5 ha5)
            have HO5 := Lib.hid (own_grown HO4.out hg5 HCC.out)
            have HNB5 := Lib.hid hnb
            have HRD5 : Hid (∀ n, rd (s.data.toList.drop p2) L (xs ++ [v]) n 0 true p2 = R) := fun n => by rw [← hrd L (xs ++ [v]) n true]; exact HRY.out n
            clear hg5 ha5 hnb hrd HBL
            go_wp2_with fail
            go_roundg (m - p2)
            case measure => omega
            case rel => exact ⟨p2, CC, q + 1, _, _, xs ++ [v], rfl, rfl, by omega, hp2s, by omega, HX9.out, HST5.out, HO5.out, HNB5.out, HRD5.out⟩
          · have n32 : ((z : Int) != 32) = true := by rw [bne, beq_eq_false_iff_ne.2 (show (z : Int) ≠ 32 by omega)]; rfl
            have n33 : (z != 32) = true := by rw [bne, beq_eq_false_iff_ne.2 h32]; rfl
            by_cases h59 : z = 59
            · have n59 : ((z : Int) != 59) = false := by rw [bne, beq_iff_eq.2 (show (z : Int) = 59 by omega)]; rfl
              have n58 : (z != 59) = false := by rw [h59]; rfl
              have HPU : Hid (s.data.toList.drop y = [] ∨ ∃ c t', s.data.toList.drop y = c :: t' ∧ isDg c = false) := Or.inr ⟨_, _, HDR.out, by rw [isDg_no, hz]; omega⟩
              clear h32 h59
              have HRY : Hid (∀ n, rd (s.data.toList.drop y) L (xs ++ [v]) n 0 true y = R) := fun n => by rw [rd_n0 n v, ← rd_push HPU.out]; exact HV.out
              have HBL := Lib.hid (blank_any s (w.heap.size + 1 + 1) w.heap.size y w4 hys (by omega) HST4.out.2.2.2.1 HST4.out.2.1 (by omega))
              unfold BlP at HBL
              go_wp2_with fail
              refine HBL.out.mono ?_
              rintro e w5 ⟨p2, rfl, hp2, hp2s, hnb, hrd, hg5, ha5⟩
              rw [HM.out] at hp2s
              have HST5 := Lib.hid (HST4.out.at hg5 ha5)
              have HO5 := Lib.hid (own_grown HO4.out hg5 HCC.out)
              have HNB5 := Lib.hid hnb
              have HRD5 : Hid (∀ n, rd (s.data.toList.drop p2) L (xs ++ [v]) n 0 true p2 = R) := fun n => by rw [← hrd L (xs ++ [v]) n true]; exact HRY.out n
              clear hg5 ha5 hnb hrd HBL
              go_wp2_with fail
              go_roundg (m - p2)
              case measure => omega
              case rel => exact ⟨p2, CC, q + 1, _, _, xs ++ [v], rfl, rfl, by omega, hp2s, by omega, HX9.out, HST5.out, HO5.out, HNB5.out, HRD5.out⟩
            · have n59 : ((z : Int) != 59) = true := by rw [bne, beq_eq_false_iff_ne.2 (show (z : Int) ≠ 59 by omega)]; rfl
              have n58 : (z != 59) = true := by rw [bne, beq_eq_false_iff_ne.2 h59]; rfl
              have HBAD : Hid (R = .bad y) := by
                unfold Hid
                rw [← HV.out]
                cases hdg : isDg (s[y]'hlt) with
                | true =>
                  have h2 : dn + 1 = 2 := by
                    rcases HX.out with h | h | ⟨_, h⟩
                    · omega
                    · omega
                    · rw [h] at hdg; cases hdg
                  rw [HDR.out, h2, rd_dg2 hdg]
                | false => rw [rd_push (Or.inr ⟨_, _, HDR.out, hdg⟩), HDR.out, rd_other hdg (by rw [hz]; exact h32) (by rw [hz]; exact h59)]
              clear h32 h59
              have hg := (HS.out.below HST4.out.1 (Nat.le_refl _)).g 0 (by decide)
              simp only [gnum] at hg
              have HWR := Lib.hid (wrong_any (y : Int) (a 0) w4)
              unfold WrP errE at HWR
              go_wp2_with fail
              refine HWR.out.mono ?_
              rintro e w9 ⟨nf, rfl, hb9, hf9⟩
              have HST8 := Lib.hid (HST4.out.below hb9)
              have HER := Lib.hid (rd_bad (a := a) (k := 0) (.slice none 0 0) HST8.out hf9 (by decide))
              obtain ⟨b1, b2, b3, b4, b5, b6⟩ := HST8.out.facts
              have R0 := Lib.hid (one_set (v := .slice none 0 0) HST8.out.2.2.1)
              have HBF := Lib.hid (show Below w.heap.size w (w9.setCell ⟨w.heap.size + 1, 0, none⟩ (.slice none 0 0)) from HST8.out.1.setCell (Nat.le_succ _) _)
              clear hb9 hf9 hg HWR
              go_wp2_with fail
              try simp only [Exit.inBlock, Exit.then, Exit.jump]
              refine bodyPost_ret (v := .tuple #[.agg #[.slice none 0 0], .iface 118 (.pointer (some ⟨nf, 0, none⟩))]) (by simp [results, Tryz.results50, go_sem, R0.out]) rfl ?_
              exact ⟨none, 0, 0, _, rfl, HBF.out, by rw [HBAD.out]; exact HER.out, by rw [HBAD.out]; exact RowsO.nil _ _ _⟩
        · have hle : m ≤ y := by omega
          have HPU : Hid (s.data.toList.drop y = [] ∨ ∃ c t', s.data.toList.drop y = c :: t' ∧ isDg c = false) := Or.inl (drop_end s y (by rw [HM.out]; exact hle))
          clear hym
          have HRY : Hid (∀ n, rd (s.data.toList.drop y) L (xs ++ [v]) n 0 true y = R) := fun n => by rw [rd_n0 n v, ← rd_push HPU.out]; exact HV.out
          have HBL := Lib.hid (blank_any s (w.heap.size + 1 + 1) w.heap.size y w4 hys (by omega) HST4.out.2.2.2.1 HST4.out.2.1 (by omega))
          unfold BlP at HBL
          go_wp2_with fail
          refine HBL.out.mono ?_
          rintro e w5 ⟨p2, rfl, hp2, hp2s, hnb, hrd, hg5, ha5⟩
          rw [HM.out] at hp2s
          have HST5 := Lib.hid (HST4.out.at hg5 ha5)
          have HO5 := Lib.hid (own_grown HO4.out hg5 HCC.out)
          have HNB5 := Lib.hid hnb
          have HRD5 : Hid (∀ n, rd (s.data.toList.drop p2) L (xs ++ [v]) n 0 true p2 = R) := fun n => by rw [← hrd L (xs ++ [v]) n true]; exact HRY.out n
          clear hg5 ha5 hnb hrd HBL
          go_wp2_with fail
          go_roundg (m - p2)
          case measure => omega
          case rel => exact ⟨p2, CC, q + 1, _, _, xs ++ [v], rfl, rfl, by omega, hp2s, by omega, HX9.out, HST5.out, HO5.out, HNB5.out, HRD5.out⟩
    case rest =>
      unfold RdB at hcut
      obtain ⟨pp, CC, q, ps, cs, xs, rfl, hpp1, hppm, hqp, hxs, hst, how, hor⟩ := hcut
      obtain ⟨wo, rfl⟩ : ∃ wo, wo = wc := ⟨_, rfl⟩
      have HST := Lib.hid hst
      have HOW := Lib.hid how
      have HXS := Lib.hid hxs
      have HOR := Lib.hid hor
      obtain ⟨nl, hnl⟩ : ∃ nl, L.length = nl := ⟨_, rfl⟩
      have HNL := Lib.hid hnl
      obtain ⟨h0, g1, g2, g3⟩ := hst.2.2.2.2.2.2
      rw [hnl] at g1
      have H1 := Lib.hid g1
      have hnlp : nl ≤ p1 := by rw [← hnl]; exact HLP.out
      have hCC : w.heap.size + 1 + 1 + 1 ≤ CC := hst.2.2.2.2.1
      have hCs : CC ≤ wo.heap.size := hst.2.2.2.2.2.1
      clear hst how hor hxs g1 hnl
      go_upto_region 26 with (at_builtin; refine wpList_append_lies _ rfl (.tmp 121) (.tmp 123) 22 rfl (w.heap.size + 1 + 1 + 1) 26 i39 (.slice none 0 0) 1 24 Tryz.underlying22 hi39 hz0 hz1 hz2 rfl (by decide) _ nl h0 rfl (H1.out.alloc _) ⟨wo.heap.size, 0, none⟩ 1 1 [.slice ps q cs] rfl rfl (World.news_of_block (cs := #[.slice ps q cs]) (t := 26) (fr := (0, 0)) (heap_alloc_new wo _)) (by simp [Value.oneCell']) (by decide) (by unfold maxLen; omega) (by omega) (by simp; omega) (wo.heap.size + 1) (by simp) ?_; intro g4 c4 w4 hown4 hgr4 hat4 hlt4; have HO4 := Lib.hid hown4; have HG4 := Lib.hid hgr4; clear hown4 hgr4 hat4 hlt4)
      have HSTA := Lib.hid (HST.out.below (show Below wo.heap.size wo (wo.alloc (.cells #[.slice ps q cs] 26)) from (Below.refl _ _).alloc (Nat.le_refl _) _))
      have HRN4 := Lib.hid (RowsN.push (w := wo.alloc (.cells #[.slice ps q cs] 26)) (by rw [HNL.out]; exact H1.out.alloc _) g2 (fun i hi => ⟨(g3 i hi).1.alloc _, (g3 i hi).2⟩) ((Joins.ownsRow_le HOW.out (by omega)).alloc _) HXS.out.symm (by rw [HNL.out]; exact HO4.out) HG4.out)
      have hs4 : CC ≤ w4.heap.size := by have h1 := HG4.out.size; have h2 := HSTA.out.2.2.2.2.2.1; omega
      have HST4 : Hid (RdSt s w w4.heap.size w4 pp (.slice (some ⟨g4, 0, none⟩) (nl + 1) c4) (L ++ [xs])) := HSTA.out.grow HG4.out (fun k hk => (H1.out.lt k hk).1) (by omega) (Nat.le_refl _) HRN4.out
      have HL4 : Hid (∀ x ∈ L ++ [xs], x.length ≤ 30000) := by
        intro x hx
        rcases List.mem_append.1 hx with h | h
        · exact HL3.out x h
        · rw [List.mem_singleton] at h; rw [h, HXS.out]; omega
      have HLL4 : Hid ((L ++ [xs]).length = nl + 1) := by unfold Hid; rw [List.length_append, HNL.out]; rfl
      obtain ⟨d1, d2, d3, d4, d5, d6⟩ := HST4.out.facts
      rcases HOR.out with ⟨hpm, hR⟩ | ⟨hpm, hR⟩
      · have HRS := Lib.hid hR
        clear hR HOR
        have hge : m ≤ pp := by omega
        clear hpm
        have HMK := Lib.hid (make_any a B (L ++ [xs]) (.slice (some ⟨g4, 0, none⟩) (nl + 1) c4) w4 (HS.out.below HST4.out.1 (Nat.le_refl _)) (Nat.le_trans HBB.out HST4.out.1.size) (RowsO.lists (HRN4.out.rows B)) (by rw [HLL4.out]; omega) (fun l hl => Nat.le_trans (HL4.out l hl) (by decide)))
        unfold MakeC at HMK
        go_wp2_with fail
        refine HMK.out.mono ?_
        rintro e w5 ⟨hb5, ⟨h0, u5, rfl, hR5⟩ | ⟨h0, k, hk, hek, rfl⟩⟩
        rotate_left
        · have HST5 := Lib.hid (HST4.out.below hb5)
          have HRC : Hid (outC R = k + 1) := by unfold Hid; rw [HRS.out]; exact hek
          have HRP : Hid (outP R = 0) := by unfold Hid; rw [HRS.out]; exact if_neg h0
          have HRL : Hid (outL R = []) := by unfold Hid; rw [HRS.out]; exact if_neg h0
          unfold errE
          clear hb5 hek h0 HMK
          have HST6 := Lib.hid (HST5.out.below (show Below w5.heap.size w5 (w5.alloc (.cells #[.slice none 0 0] 34)) from (Below.refl _ _).alloc (Nat.le_refl _) _))
          obtain ⟨b1, b2, b3, b4, b5, b6⟩ := HST5.out.facts
          clear d1 d2 d3 d4 d5 d6
          go_wp2_with fail
          refine (wrong_any 0 (a k) _).mono ?_
          rintro e w9 ⟨nf, rfl, hb9, hf9⟩
          have HST9 := Lib.hid (HST6.out.below hb9)
          have HER := Lib.hid (rd_bad (a := a) (k := k) (.slice none 0 0) HST9.out hf9 hk)
          clear b1 b2 b3 b4 b5 b6
          obtain ⟨b1, b2, b3, b4, b5, b6⟩ := HST9.out.facts
          have R0 := Lib.hid (one_set (v := .slice none 0 0) HST9.out.2.2.1)
          have HBF := Lib.hid (show Below w.heap.size w (w9.setCell ⟨w.heap.size + 1, 0, none⟩ (.slice none 0 0)) from HST9.out.1.setCell (Nat.le_succ _) _)
          clear hb9 hf9
          go_wp2_with fail
          try simp only [Exit.inBlock, Exit.then, Exit.jump]
          refine bodyPost_ret (v := .tuple #[.agg #[.slice none 0 0], .iface 118 (.pointer (some ⟨nf, 0, none⟩))]) (by simp [results, Tryz.results50, go_sem, R0.out]) rfl ?_
          exact ⟨none, 0, 0, _, rfl, HBF.out, by rw [HRC.out, HRP.out]; exact HER.out, by rw [HRL.out]; exact RowsO.nil _ _ _⟩
        · have HST5 := Lib.hid (HST4.out.below hb5)
          have HRC : Hid (outC R = 0) := by unfold Hid; rw [HRS.out]; exact h0
          have HRP : Hid (outP R = -1) := by unfold Hid; rw [HRS.out]; exact if_pos h0
          have HRL : Hid (outL R = madeF (L ++ [xs])) := by unfold Hid; rw [HRS.out]; exact if_pos h0
          have hlt4 : w.heap.size + 1 < w4.heap.size := by omega
          have hli := ((hR5.grown (c := w.heap.size + 1) (grown_cell w5 (w.heap.size + 1) u5) hlt4 (Nat.le_trans HBB.out (Nat.le_succ _)) (fun x e => by rw [HST5.out.2.2.1] at e; cases e)).le HST4.out.1.size).below (C := (w5.setCell ⟨w.heap.size + 1, 0, none⟩ u5).heap.size) ((Below.refl _ _).alloc (Nat.le_refl _) (.cells #[u5] 34)) (Nat.le_refl _)
          obtain ⟨p6, c6, hu6, -⟩ := hR5.lists
          obtain ⟨s5, hs5⟩ : ∃ s5, (madeF (L ++ [xs])).length = s5 := ⟨_, rfl⟩
          rw [hs5] at hu6
          subst hu6
          have HLI6 := Lib.hid hli
          clear hb5 hR5 h0 HMK hs5 hli
          have hb6 : Below w.heap.size w (w5.setCell ⟨w.heap.size + 1, 0, none⟩ (.slice p6 s5 c6)) := HST5.out.1.setCell (Nat.le_succ _) _
          have HBF := Lib.hid (show Below w.heap.size w ((w5.setCell ⟨w.heap.size + 1, 0, none⟩ (.slice p6 s5 c6)).alloc (.cells #[.slice p6 s5 c6] 34)) from hb6.alloc hb6.size _)
          have R0 : Hid (((w5.setCell ⟨w.heap.size + 1, 0, none⟩ (.slice p6 s5 c6)).alloc (.cells #[.slice p6 s5 c6] 34)).cell? ⟨w.heap.size + 1, 0, none⟩ = some (.slice p6 s5 c6)) := by
            have h9 : Below (w5.setCell ⟨w.heap.size + 1, 0, none⟩ (.slice p6 s5 c6)).heap.size (w5.setCell ⟨w.heap.size + 1, 0, none⟩ (.slice p6 s5 c6)) ((w5.setCell ⟨w.heap.size + 1, 0, none⟩ (.slice p6 s5 c6)).alloc (.cells #[.slice p6 s5 c6] 34)) := (Below.refl _ _).alloc (Nat.le_refl _) _
            have h8 := one_blk (v := .slice p6 s5 c6) HST5.out.2.2.1
            exact (one_at ((h9.block _ (blk_ltT h8)).trans h8)).1
          obtain ⟨b1, b2, b3, b4, b5, b6⟩ := HST5.out.facts
          have b7 : w.heap.size + 1 < w5.heap.size := blk_ltT HST5.out.2.2.1
          clear d1 d2 d3 d4 d5 d6 hb6
          go_wp2_with fail
          simp only [Exit.inBlock, Exit.then, Exit.jump]
          refine bodyPost_ret (v := .tuple #[.agg #[.slice p6 s5 c6], .nilIface]) (by simp only [results, Tryz.results50, go_sem, R0.out]; try simp [R0.out, go_sem]) rfl ?_
          exact ⟨p6, s5, c6, _, rfl, HBF.out, by rw [HRC.out, HRP.out]; exact ErrAt.nil _ _, by rw [HRL.out]; exact HLI6.out⟩
      · have HRJ4 := Lib.hid hR
        clear hR HOR
        have HST5 : Hid (RdSt s w w4.heap.size (w4.setCell ⟨w.heap.size + 1 + 1, 0, none⟩ (.int .i64 ((pp : Int) + 1))) (pp + 1) (.slice (some ⟨g4, 0, none⟩) (nl + 1) c4) (L ++ [xs])) := HST4.out.at (grown_cell _ _ _) (one_blk HST4.out.2.2.2.1)
        have HC5 := Lib.hid (one_set (v := .int .i64 ((pp : Int) + 1)) HST4.out.2.2.2.1)
        go_wp2_with fail
        go_step3
        refine ⟨rfl, ?_⟩
        first
          | exact ⟨pp + 1, _, _, L ++ [xs], _, _, _, _, _, _, _, _, _, _, _, _, _, _, _, _, _, _, _, _, _, _, _, _, _, _, _, _, _, _, _, _, _, _, _, _, _, _, _, _, _, _, _, _, _, _, _, _, _, _, _, _, _, _, _, _, _, _, _, _, _, _, _, _, _, _, _, _, _, _, _, _, _, _, _, _, _, _, _, _, _, _, _, _, _, _, _, _, _, _, _, _, _, _, _, _, _, _, _, _, _, _, _, _, _, _, _, _, _, _, _, _, _, _, _, rfl, by rw [HM.out]; omega, HST5.out, by rw [HLL4.out]; omega, HL4.out, HRJ4.out⟩
          | exact ⟨⟨pp + 1, _, _, L ++ [xs], _, _, _, _, _, _, _, _, _, _, _, _, _, _, _, _, _, _, _, _, _, _, _, _, _, _, _, _, _, _, _, _, _, _, _, _, _, _, _, _, _, _, _, _, _, _, _, _, _, _, _, _, _, _, _, _, _, _, _, _, _, _, _, _, _, _, _, _, _, _, _, _, _, _, _, _, _, _, _, _, _, _, _, _, _, _, _, _, _, _, _, _, _, _, _, _, _, _, _, _, _, _, _, _, _, _, _, _, _, _, _, _, _, _, _, rfl, by rw [HM.out]; omega, HST5.out, by rw [HLL4.out]; omega, HL4.out, HRJ4.out⟩, by rw [HC5.out, HP0.out]; have := H6.out; simp only [Option.getD_some, intOf]; omega⟩

theorem faulted_any (a : Nat → Addr) (v : Value) (c n c' n' : Int) (w : World) (hS : Sents w a) (h : ErrAt a w v c n) :
    Calls Tryz.prog 52 #[v, .agg #[.int .i64 c', .int .i64 n']] w fun e w' => e = .returned (.bool (decide (c = c' ∧ (c = 0 ∨ n = n')))) ∧ Below w.heap.size w w' := by
  have hS1 : Sents (w.alloc (.cells #[.int .i64 c', .int .i64 n'] 75)) a := hS.below ((Below.refl _ _).alloc (Nat.le_refl _) _) (Nat.le_refl _)
  have h1 : ErrAt a (w.alloc (.cells #[.int .i64 c', .int .i64 n'] 75)) v c n := h.below ((Below.refl _ _).alloc (Nat.le_refl _) _) (Nat.le_refl _)
  have H : ∀ r : Bool, r = decide (c = c' ∧ (c = 0 ∨ n = n')) →
      Calls Tryz.prog 52 #[v, .agg #[.int .i64 c', .int .i64 n']] w fun e w' => e = .returned (.bool r) ∧ Below w.heap.size w w' := by
    intro r hr
    by_cases e1 : c = c'
    · subst e1
      by_cases e2 : c = 0
      · subst e2
        obtain rfl : r = true := by rw [hr]; simp
        clear hr
        go_enter Tryz.func52, Tryz.ntmps52
        go_wp2_with (go_at_call 60; refine (code_any a _ _ _ _ hS1 h1).mono ?_; rintro e w1 ⟨rfl, hb⟩; obtain ⟨hc, hf⟩ := (⟨hb.cell (p := ⟨w.heap.size, 0, none⟩) (by simp), hb.cell (p := ⟨w.heap.size, 1, none⟩) (by simp)⟩ : _ ∧ _))
        go_ret
        exact ⟨rfl, ((Below.refl _ _).alloc (Nat.le_refl _) _).trans (hb.mono (by simp))⟩
      · have b2 : (c == 0) = false := beq_eq_false_iff_ne.2 e2
        by_cases e3 : n = n'
        · subst e3
          obtain rfl : r = true := by rw [hr]; simp
          clear hr e2
          go_enter Tryz.func52, Tryz.ntmps52
          go_wp2_with (go_at_call 60; refine (code_any a _ _ _ _ hS1 h1).mono ?_; rintro e w1 ⟨rfl, hb⟩; obtain ⟨hc, hf⟩ := (⟨hb.cell (p := ⟨w.heap.size, 0, none⟩) (by simp), hb.cell (p := ⟨w.heap.size, 1, none⟩) (by simp)⟩ : _ ∧ _))
          go_ret
          exact ⟨rfl, ((Below.refl _ _).alloc (Nat.le_refl _) _).trans (hb.mono (by simp))⟩
        · have b3 : (n == n') = false := beq_eq_false_iff_ne.2 e3
          obtain rfl : r = false := by rw [hr]; simp [e2, e3]
          clear hr e2 e3
          go_enter Tryz.func52, Tryz.ntmps52
          go_wp2_with (go_at_call 60; refine (code_any a _ _ _ _ hS1 h1).mono ?_; rintro e w1 ⟨rfl, hb⟩; obtain ⟨hc, hf⟩ := (⟨hb.cell (p := ⟨w.heap.size, 0, none⟩) (by simp), hb.cell (p := ⟨w.heap.size, 1, none⟩) (by simp)⟩ : _ ∧ _))
          go_ret
          exact ⟨rfl, ((Below.refl _ _).alloc (Nat.le_refl _) _).trans (hb.mono (by simp))⟩
    · have b1 : (c == c') = false := beq_eq_false_iff_ne.2 e1
      obtain rfl : r = false := by rw [hr]; simp [e1]
      clear hr e1
      go_enter Tryz.func52, Tryz.ntmps52
      go_wp2_with (go_at_call 60; refine (code_any a _ _ _ _ hS1 h1).mono ?_; rintro e w1 ⟨rfl, hb⟩; obtain ⟨hc, hf⟩ := (⟨hb.cell (p := ⟨w.heap.size, 0, none⟩) (by simp), hb.cell (p := ⟨w.heap.size, 1, none⟩) (by simp)⟩ : _ ∧ _))
      go_ret
      exact ⟨rfl, ((Below.refl _ _).alloc (Nat.le_refl _) _).trans (hb.mono (by simp))⟩
  exact H _ rfl

theorem text_back {L : List (List Int)} (h : errX L = 0) : outC (rd (facT L) [] [] (-1) 0 false 0) = 0 ∧ outL (rd (facT L) [] [] (-1) 0 false 0) = L := by
  obtain ⟨h1, h2⟩ := errX_ok h
  by_cases hL : L = []
  · subst hL
    exact ⟨rfl, rfl⟩
  · rw [facT_rd (fun s hs => ((errC_ok h1).1 s hs).1) (fun s hs v hv => ((errC_ok h1).1 s hs).2.2 v hv) hL]
    refine ⟨h1, ?_⟩
    show (if errC L = 0 then madeF L else []) = L
    rw [if_pos h1]
    exact h2.symm
theorem outL_len (R : RdR) : (outL R).length ≤ 600 := by
  cases R with
  | bad i => exact Nat.zero_le _
  | nil => exact Nat.zero_le _
  | sets l =>
    unfold outL
    by_cases h : errC l = 0
    · simp only [if_pos h]; exact made_len h
    · simp only [if_neg h]; exact Nat.zero_le _
theorem outL_bd (R : RdR) : ∀ l ∈ outL R, l.length ≤ 7 := by
  cases R with
  | bad i => intro l hl; cases hl
  | nil => intro l hl; cases hl
  | sets m =>
    unfold outL
    by_cases h : errC m = 0
    · simp only [if_pos h]; exact made_bd h
    · simp only [if_neg h]; intro l hl; cases hl

set_option maxRecDepth 100000 in
set_option maxHeartbeats 16000000 in
theorem cellsTexts_no (a : Nat → Addr) (L : List (List Int)) (s : ByteArray) (v : Value) (w : World) (hS : Sents w a) (hv : ListsIn w.heap.size w v L) (hs : s.size ≤ maxLen) (hno : littleB L 150 = false ∨ 400 < s.size) :
    Calls Tryz.prog 9 #[v, .string s] w (True1 w) := by
  have HV := Lib.hid hv
  have HCI := Lib.hid (circle_any a w hS)
  obtain ⟨m, hm⟩ : ∃ m, s.size = m := ⟨_, rfl⟩
  rw [hm] at hs hno
  have HM := Lib.hid hm
  clear hS hv
  unfold True1
  unfold maxLen at hs
  obtain ⟨r, hr⟩ : ∃ r, littleB L 150 = r := ⟨_, rfl⟩
  have HR := Lib.hid hr
  rw [hr] at hno
  clear hr
  cases r with
  | false =>
    clear hno
    go_enter Tryz.func9, Tryz.ntmps9
    go_wp2_with fail
    refine HCI.out.mono ?_
    rintro e w1 ⟨rfl, hb1⟩
    have HB1 := Lib.hid hb1
    have HLI := Lib.hid (little_any L 150 v w1 (HV.out.later hb1 (Nat.le_refl _) (Nat.le_refl _)) (by decide))
    rw [HR.out] at HLI
    unfold Gives at HLI
    clear hb1
    go_wp2_with fail
    refine HLI.out.mono ?_
    rintro e w2 ⟨rfl, hb2⟩
    have HB2 := Lib.hid (HB1.out.trans (hb2.mono HB1.out.size))
    clear hb2
    go_wp2_with fail
    go_ret
    exact ⟨rfl, HB2.out⟩
  | true =>
    have h4 : 400 < m := hno.elim (fun h => by cases h) id
    have n1 : decide ((400 : Int) < (m : Int)) = true := decide_eq_true (by omega)
    have n2 : decide (400 < m) = true := decide_eq_true (by omega)
    clear hno h4
    go_enter Tryz.func9, Tryz.ntmps9
    go_wp2_with fail
    refine HCI.out.mono ?_
    rintro e w1 ⟨rfl, hb1⟩
    have HB1 := Lib.hid hb1
    have HLI := Lib.hid (little_any L 150 v w1 (HV.out.later hb1 (Nat.le_refl _) (Nat.le_refl _)) (by decide))
    rw [HR.out] at HLI
    unfold Gives at HLI
    clear hb1
    go_wp2_with fail
    refine HLI.out.mono ?_
    rintro e w2 ⟨rfl, hb2⟩
    have HB2 := Lib.hid (HB1.out.trans (hb2.mono HB1.out.size))
    clear hb2
    go_wp2_with fail
    go_ret
    exact ⟨rfl, HB2.out⟩

set_option maxRecDepth 100000 in
set_option maxHeartbeats 64000000 in
theorem cellsTexts_yes (a : Nat → Addr) (L : List (List Int)) (s : ByteArray) (v : Value) (w : World) (hS : Sents w a) (hv : ListsIn w.heap.size w v L) (hlit : littleB L 150 = true) (hs : s.size ≤ 400) :
    Calls Tryz.prog 9 #[v, .string s] w (True1 w) := by
  have HS := Lib.hid hS
  have HV := Lib.hid hv
  have HCI := Lib.hid (circle_any a w hS)
  have HR := Lib.hid hlit
  have HLK := Lib.hid (littleB_few hlit).2
  have HNK := Lib.hid (littleB_few hlit).1
  obtain ⟨m, hm⟩ : ∃ m, s.size = m := ⟨_, rfl⟩
  rw [hm] at hs
  have HM := Lib.hid hm
  have n1 : decide ((400 : Int) < (m : Int)) = false := decide_eq_false (by omega)
  have n2 : decide (400 < m) = false := decide_eq_false (by omega)
  obtain ⟨c, hc⟩ : ∃ c, errX L = c := ⟨_, rfl⟩
  have HC := Lib.hid hc
  obtain ⟨R, hR⟩ : ∃ R, rd s.data.toList [] [] (-1) 0 false 0 = R := ⟨_, rfl⟩
  have HRR := Lib.hid hR
  have hc4 : c ≤ 4 := by rw [← hc]; exact errX_le L
  obtain ⟨T, hT⟩ : ∃ T : ByteArray, T = ⟨(textF L).toArray⟩ := ⟨_, rfl⟩
  have HT := Lib.hid hT
  clear hS hv hlit hc hR hT
  unfold True1
  go_enter Tryz.func9, Tryz.ntmps9
  go_wp2_with fail
  refine HCI.out.mono ?_
  rintro e w1 ⟨rfl, hb1⟩
  have HB1 := Lib.hid hb1
  have HLI := Lib.hid (little_any L 150 v w1 (HV.out.later hb1 (Nat.le_refl _) (Nat.le_refl _)) (by decide))
  rw [HR.out] at HLI
  unfold Gives at HLI
  clear hb1
  go_wp2_with fail
  refine HLI.out.mono ?_
  rintro e w3 ⟨rfl, hb3⟩
  have HB3 := Lib.hid (HB1.out.trans (hb3.mono HB1.out.size))
  have HCE := Lib.hid (complexError_any L v w3 (HV.out.later HB3.out (Nat.le_refl _) (Nat.le_refl _)) HNK.out HLK.out)
  rw [HC.out] at HCE
  unfold Gives at HCE
  clear hb3
  go_wp2_with fail
  refine HCE.out.mono ?_
  rintro e w4 ⟨rfl, hb4⟩
  have HB4 := Lib.hid (HB3.out.trans (hb4.mono HB3.out.size))
  clear hb4 HCI HLI HCE
  have HCX := Lib.hid (cx_any w.heap.size L v w4 HB4.out.size (HV.out.below HB4.out (Nat.le_refl _)) HNK.out HLK.out)
  go_wp2_with fail
  refine HCX.out.mono ?_
  rintro e w5 ⟨u5, rfl, hb, hr⟩
  have HB5 := Lib.hid (HB4.out.trans (hb.mono HB4.out.size))
  have HA5 := Lib.hid hr.lists
  clear hr hb HCX
  have HTX := Lib.hid (text_any a w.heap.size L u5 w5 (HS.out.below HB5.out (Nat.le_refl _)) HB5.out.size HA5.out HNK.out HLK.out)
  unfold TextP at HTX
  rw [← HT.out, HC.out] at HTX
  go_wp2_with fail
  refine HTX.out.mono ?_
  rintro e w6 ⟨ev6, rfl, hb, he⟩
  have HB6 := Lib.hid (HB5.out.trans (hb.mono HB5.out.size))
  have HE6 := Lib.hid he
  clear hb he HTX
  by_cases hc0 : c = 0
  · obtain rfl : c = 0 := hc0
    obtain ⟨hC0, hLM⟩ := errX_ok HC.out
    obtain ⟨hok, h7, h600⟩ := errC_ok hC0
    have hLn : L.length ≤ 600 := by rw [hLM]; exact made_len hC0
    have HTF : Hid (T = ⟨(facT L).toArray⟩) := by unfold Hid; rw [HT.out, textF_ok HC.out]
    have hTs : T.size ≤ 20000 := by
      rw [HTF.out, bytes_size]
      exact Nat.le_trans (facT_len L) (by have := flat_bdT h7; omega)
    have HFX := Lib.hid (facetText_any w.heap.size L v w6 (HV.out.below HB6.out (Nat.le_refl _)) hLn h7 (fun l hl x hx => (hok l hl).2.2 x hx))
    rw [← HTF.out] at HFX
    unfold Gives at HFX
    have q3 : (((0 : Nat) : Int) == 0) = true := rfl
    go_wp2_with fail
    refine HFX.out.mono ?_
    rintro e w7 ⟨rfl, hb⟩
    have HB7 := Lib.hid (HB6.out.trans (hb.mono HB6.out.size))
    have HCY := Lib.hid (coded_yes a ev6 0 (-1) 0 w7 (HS.out.below HB7.out (Nat.le_refl _)) (HE6.out.below hb (Nat.le_refl _)) ⟨rfl, rfl⟩)
    clear hb HFX
    go_wp2_with fail
    refine HCY.out.mono ?_
    rintro e w8 ⟨rfl, hb⟩
    have HB8 := Lib.hid (HB7.out.trans (hb.mono HB7.out.size))
    have HRA := Lib.hid (read_any a w.heap.size s w8 (HS.out.below HB8.out (Nat.le_refl _)) HB8.out.size (by rw [HM.out]; omega))
    rw [HRR.out] at HRA
    unfold RdQ at HRA
    clear hb HCY
    go_wp2_with fail
    refine HRA.out.mono ?_
    rintro e w9 ⟨p9, n9, c9, ev9, rfl, hb, he, hl⟩
    have HB9 := Lib.hid (HB8.out.trans (hb.mono HB8.out.size))
    have HE9 := Lib.hid he
    have HL9 := Lib.hid hl.lists
    clear hb he hl HRA
    obtain ⟨bx, hbx⟩ : ∃ bx, w9.heap.size = bx := ⟨_, rfl⟩
    obtain ⟨w11, hwk⟩ : ∃ wk, wk = w9.alloc (.cells #[.slice p9 n9 c9] 34) := ⟨_, rfl⟩
    have hbk : Below w9.heap.size w9 w11 := by rw [hwk]; exact lit_below _ _
    have HK11 : Hid (w11.heap[bx]? = some (.cells #[.slice p9 n9 c9] 34 (0, 0))) := by unfold Hid; rw [hwk, ← hbx]; exact heap_alloc_new w9 _
    have HB11 := Lib.hid (HB9.out.trans (hbk.mono HB9.out.size))
    have HL11 := Lib.hid (HL9.out.below hbk (Nat.le_refl _))
    have HE11 := Lib.hid (HE9.out.below hbk (Nat.le_refl _))
    have HBX : Hid (w.heap.size ≤ bx) := by unfold Hid; rw [← hbx]; exact HB9.out.size
    have HWB := Lib.hid hwk
    have HBXE := Lib.hid hbx
    clear hbk hwk hbx
    have HRC := Lib.hid (readComplex_any w.heap.size s w11 HB11.out.size (by rw [HM.out]; omega))
    rw [HRR.out] at HRC
    unfold RdP at HRC
    go_wp2_with fail
    rw [← HWB.out]
    refine HRC.out.mono ?_
    rintro e w12 ⟨v12, x12, y12, rfl, hx, hy, hb, hl⟩
    subst hx hy
    have HB12 := Lib.hid (HB11.out.trans (hb.mono HB11.out.size))
    have HK12 := Lib.hid ((hb.block _ (blk_ltT HK11.out)).trans HK11.out)
    have HL12 := Lib.hid (HL11.out.below hb (Nat.le_refl _))
    have HE12 := Lib.hid (HE11.out.below hb (Nat.le_refl _))
    have HD12 := Lib.hid hl
    clear hb hl HRC
    rw [HBXE.out]
    obtain ⟨bf, hbf⟩ : ∃ bf, w12.heap.size = bf := ⟨_, rfl⟩
    obtain ⟨xo, hxo⟩ : ∃ xo : Int, xo = (outC R : Int) := ⟨_, rfl⟩
    obtain ⟨yo, hyo⟩ : ∃ yo, yo = outP R := ⟨_, rfl⟩
    rw [← hxo, ← hyo]
    rw [← hxo, ← hyo] at HE12
    obtain ⟨w13, hwk⟩ : ∃ wk, wk = w12.alloc (.cells #[.int .i64 xo, .int .i64 yo] 75) := ⟨_, rfl⟩
    have hbk : Below w12.heap.size w12 w13 := by rw [hwk]; exact lit_below _ _
    have HF13 : Hid (w13.heap[bf]? = some (.cells #[.int .i64 xo, .int .i64 yo] 75 (0, 0))) := by unfold Hid; rw [hwk, ← hbf]; exact heap_alloc_new w12 _
    have HB13 := Lib.hid (HB12.out.trans (hbk.mono HB12.out.size))
    have HK13 := Lib.hid ((hbk.block _ (blk_ltT HK12.out)).trans HK12.out)
    have HL13 := Lib.hid (HL12.out.below hbk (Nat.le_refl _))
    have HE13 := Lib.hid (HE12.out.below hbk (Nat.le_refl _))
    have HD13 := Lib.hid (HD12.out.below hbk (Nat.le_refl _))
    have HXO := Lib.hid hxo
    have HWB2 := Lib.hid hwk
    have HBFE := Lib.hid hbf
    have d1 : (w12.alloc (.cells #[.int .i64 xo, .int .i64 yo] 75)).cell? ⟨bx, 0, none⟩ = some (.slice p9 n9 c9) := by rw [← hwk]; exact (one_at HK13.out).1
    have d2 := (one_at HK12.out).1
    have d3 : bx < w12.heap.size := blk_ltT HK12.out
    clear hbk hwk hbf hxo hyo
    have HSL := Lib.hid (sameLists_any true w.heap.size w.heap.size (outL R) (outL R) (.slice p9 n9 c9) v12 w13 (decide_eq_true rfl).symm HL13.out HD13.out (Nat.le_trans (outL_len R) (by decide)) (Nat.le_trans (outL_len R) (by decide)) (fun l hl => Nat.le_trans (outL_bd R l hl) (by decide)) (fun l hl => Nat.le_trans (outL_bd R l hl) (by decide)))
    unfold Drew at HSL
    go_wp2_with fail
    rw [← HWB2.out]
    refine HSL.out.mono ?_
    rintro e w14 ⟨rfl, n, hn⟩
    have hb : Below w13.heap.size w13 w14 := by rw [hn]; exact Below.drewN _ n
    have HB14 := Lib.hid (HB13.out.trans (hb.mono HB13.out.size))
    have HK14 := Lib.hid ((hb.block _ (blk_ltT HK13.out)).trans HK13.out)
    have HF14 := Lib.hid ((hb.block _ (blk_ltT HF13.out)).trans HF13.out)
    have HE14 := Lib.hid (HE13.out.below hb (Nat.le_refl _))
    clear hb hn HSL d1 d2 d3
    have k1 : w14.cell? ⟨bf, 0, none⟩ = some (.int .i64 xo) := by have h := HF14.out; simp [World.cell?, h]
    have k2 : w14.cell? ⟨bf, 1, none⟩ = some (.int .i64 yo) := by have h := HF14.out; simp [World.cell?, h]
    have HFA := Lib.hid (faulted_any a ev9 xo yo xo yo w14 (HS.out.below HB14.out (Nat.le_refl _)) HE14.out)
    rw [decide_eq_true (⟨rfl, Or.inr rfl⟩ : xo = xo ∧ (xo = 0 ∨ yo = yo))] at HFA
    rw [HBFE.out]
    go_wp2_with fail
    refine HFA.out.mono ?_
    rintro e w15 ⟨rfl, hb⟩
    have HB15 := Lib.hid (HB14.out.trans (hb.mono HB14.out.size))
    have HK15 := Lib.hid ((hb.block _ (blk_ltT HK14.out)).trans HK14.out)
    clear hb HFA k1 k2
    have HRT := Lib.hid (read_any a w.heap.size T w15 (HS.out.below HB15.out (Nat.le_refl _)) HB15.out.size hTs)
    obtain ⟨R2, hR2⟩ : ∃ R2, rd T.data.toList [] [] (-1) 0 false 0 = R2 := ⟨_, rfl⟩
    have hbk2 : outC R2 = 0 ∧ outL R2 = L := by rw [← hR2, HTF.out]; exact text_back HC.out
    rw [hR2] at HRT
    have HR2C := Lib.hid hbk2.1
    have HR2L := Lib.hid hbk2.2
    unfold RdQ at HRT
    have g0 : decide ((0 : Int) < 0) = false := decide_eq_false (by decide)
    clear hR2 hbk2 hLM hok h7 h600 hC0 hLn
    go_wp2_with fail
    refine HRT.out.mono ?_
    rintro e w16 ⟨p16, n16, c16, ev16, rfl, hb, he, hl⟩
    obtain rfl : ev16 = .nilIface := by
      rcases he with ⟨h, -⟩ | ⟨k, -, -, h, -⟩ | ⟨k, pb, po, -, -, h, -⟩
      · exact h
      · rw [HR2C.out] at h; omega
      · rw [HR2C.out] at h; omega
    rw [HR2L.out] at hl
    have HB16 := Lib.hid (HB15.out.trans (hb.mono HB15.out.size))
    have HK16 := Lib.hid ((hb.block _ (blk_ltT HK15.out)).trans HK15.out)
    obtain ⟨w17, hw17⟩ : ∃ w17, w17 = w16.setCell ⟨bx, 0, none⟩ (.slice p16 n16 c16) := ⟨_, rfl⟩
    have HL17 : Hid (ListsIn w.heap.size w17 (.slice p16 n16 c16) L) := by
      unfold Hid
      rw [hw17]
      exact (hl.grown (c := bx) (grown_cell w16 bx (.slice p16 n16 c16)) (blk_ltT HK15.out) HBX.out (fun x e => by rw [HK16.out] at e; cases e)).lists
    have HB17 : Hid (Below w.heap.size w w17) := by unfold Hid; rw [hw17]; exact HB16.out.setCell HBX.out _
    have HV17 := Lib.hid (HV.out.below HB17.out (Nat.le_refl _))
    have HSL2 := Lib.hid (sameLists_any true w.heap.size w.heap.size L L (.slice p16 n16 c16) v w17 (decide_eq_true rfl).symm HL17.out HV17.out HNK.out HNK.out HLK.out HLK.out)
    unfold Drew at HSL2
    obtain ⟨d1, f1⟩ := one_at HK16.out
    have HW17 := Lib.hid hw17
    have k1 : w17.cell? ⟨bx, 0, none⟩ = some (.slice p16 n16 c16) := by rw [hw17]; exact one_set HK16.out
    rw [hw17] at k1
    clear hb he hl HRT hw17
    go_wp2_with fail
    rw [← HW17.out]
    refine HSL2.out.mono ?_
    rintro e w18 ⟨rfl, n, hn⟩
    have HB18 : Hid (Below w.heap.size w w18) := by unfold Hid; rw [hn]; exact HB17.out.trans ((Below.drewN _ n).mono HB17.out.size)
    clear hn HSL2 d1 f1 k1
    go_wp2_with fail
    go_ret
    exact ⟨rfl, HB18.out⟩
  · have q3 : ((c : Int) == 0) = false := beq_eq_false_iff_ne.2 (by omega)
    have HTE : Hid (T = ⟨#[]⟩) := by unfold Hid; rw [HT.out, textF_bad (fun h => hc0 (HC.out.symm.trans h))]
    rw [HTE.out]
    have HCY := Lib.hid (coded_yes a ev6 (c : Int) (-1) (c : Int) w6 (HS.out.below HB6.out (Nat.le_refl _)) HE6.out ⟨rfl, rfl⟩)
    go_wp2_with fail
    refine HCY.out.mono ?_
    rintro e w8 ⟨rfl, hb⟩
    have HB8 := Lib.hid (HB6.out.trans (hb.mono HB6.out.size))
    have HRA := Lib.hid (read_any a w.heap.size s w8 (HS.out.below HB8.out (Nat.le_refl _)) HB8.out.size (by rw [HM.out]; omega))
    rw [HRR.out] at HRA
    unfold RdQ at HRA
    clear hb HCY
    go_wp2_with fail
    refine HRA.out.mono ?_
    rintro e w9 ⟨p9, n9, c9, ev9, rfl, hb, he, hl⟩
    have HB9 := Lib.hid (HB8.out.trans (hb.mono HB8.out.size))
    have HE9 := Lib.hid he
    have HL9 := Lib.hid hl.lists
    clear hb he hl HRA
    obtain ⟨bx, hbx⟩ : ∃ bx, w9.heap.size = bx := ⟨_, rfl⟩
    obtain ⟨w11, hwk⟩ : ∃ wk, wk = w9.alloc (.cells #[.slice p9 n9 c9] 34) := ⟨_, rfl⟩
    have hbk : Below w9.heap.size w9 w11 := by rw [hwk]; exact lit_below _ _
    have HK11 : Hid (w11.heap[bx]? = some (.cells #[.slice p9 n9 c9] 34 (0, 0))) := by unfold Hid; rw [hwk, ← hbx]; exact heap_alloc_new w9 _
    have HB11 := Lib.hid (HB9.out.trans (hbk.mono HB9.out.size))
    have HL11 := Lib.hid (HL9.out.below hbk (Nat.le_refl _))
    have HE11 := Lib.hid (HE9.out.below hbk (Nat.le_refl _))
    have HBX : Hid (w.heap.size ≤ bx) := by unfold Hid; rw [← hbx]; exact HB9.out.size
    have HWB := Lib.hid hwk
    have HBXE := Lib.hid hbx
    clear hbk hwk hbx
    have HRC := Lib.hid (readComplex_any w.heap.size s w11 HB11.out.size (by rw [HM.out]; omega))
    rw [HRR.out] at HRC
    unfold RdP at HRC
    go_wp2_with fail
    rw [← HWB.out]
    refine HRC.out.mono ?_
    rintro e w12 ⟨v12, x12, y12, rfl, hx, hy, hb, hl⟩
    subst hx hy
    have HB12 := Lib.hid (HB11.out.trans (hb.mono HB11.out.size))
    have HK12 := Lib.hid ((hb.block _ (blk_ltT HK11.out)).trans HK11.out)
    have HL12 := Lib.hid (HL11.out.below hb (Nat.le_refl _))
    have HE12 := Lib.hid (HE11.out.below hb (Nat.le_refl _))
    have HD12 := Lib.hid hl
    clear hb hl HRC
    rw [HBXE.out]
    obtain ⟨bf, hbf⟩ : ∃ bf, w12.heap.size = bf := ⟨_, rfl⟩
    obtain ⟨xo, hxo⟩ : ∃ xo : Int, xo = (outC R : Int) := ⟨_, rfl⟩
    obtain ⟨yo, hyo⟩ : ∃ yo, yo = outP R := ⟨_, rfl⟩
    rw [← hxo, ← hyo]
    rw [← hxo, ← hyo] at HE12
    obtain ⟨w13, hwk⟩ : ∃ wk, wk = w12.alloc (.cells #[.int .i64 xo, .int .i64 yo] 75) := ⟨_, rfl⟩
    have hbk : Below w12.heap.size w12 w13 := by rw [hwk]; exact lit_below _ _
    have HF13 : Hid (w13.heap[bf]? = some (.cells #[.int .i64 xo, .int .i64 yo] 75 (0, 0))) := by unfold Hid; rw [hwk, ← hbf]; exact heap_alloc_new w12 _
    have HB13 := Lib.hid (HB12.out.trans (hbk.mono HB12.out.size))
    have HK13 := Lib.hid ((hbk.block _ (blk_ltT HK12.out)).trans HK12.out)
    have HL13 := Lib.hid (HL12.out.below hbk (Nat.le_refl _))
    have HE13 := Lib.hid (HE12.out.below hbk (Nat.le_refl _))
    have HD13 := Lib.hid (HD12.out.below hbk (Nat.le_refl _))
    have HXO := Lib.hid hxo
    have HWB2 := Lib.hid hwk
    have HBFE := Lib.hid hbf
    have d1 : (w12.alloc (.cells #[.int .i64 xo, .int .i64 yo] 75)).cell? ⟨bx, 0, none⟩ = some (.slice p9 n9 c9) := by rw [← hwk]; exact (one_at HK13.out).1
    have d2 := (one_at HK12.out).1
    have d3 : bx < w12.heap.size := blk_ltT HK12.out
    clear hbk hwk hbf hxo hyo
    have HSL := Lib.hid (sameLists_any true w.heap.size w.heap.size (outL R) (outL R) (.slice p9 n9 c9) v12 w13 (decide_eq_true rfl).symm HL13.out HD13.out (Nat.le_trans (outL_len R) (by decide)) (Nat.le_trans (outL_len R) (by decide)) (fun l hl => Nat.le_trans (outL_bd R l hl) (by decide)) (fun l hl => Nat.le_trans (outL_bd R l hl) (by decide)))
    unfold Drew at HSL
    go_wp2_with fail
    rw [← HWB2.out]
    refine HSL.out.mono ?_
    rintro e w14 ⟨rfl, n, hn⟩
    have hb : Below w13.heap.size w13 w14 := by rw [hn]; exact Below.drewN _ n
    have HB14 := Lib.hid (HB13.out.trans (hb.mono HB13.out.size))
    have HK14 := Lib.hid ((hb.block _ (blk_ltT HK13.out)).trans HK13.out)
    have HF14 := Lib.hid ((hb.block _ (blk_ltT HF13.out)).trans HF13.out)
    have HE14 := Lib.hid (HE13.out.below hb (Nat.le_refl _))
    clear hb hn HSL d1 d2 d3
    have k1 : w14.cell? ⟨bf, 0, none⟩ = some (.int .i64 xo) := by have h := HF14.out; simp [World.cell?, h]
    have k2 : w14.cell? ⟨bf, 1, none⟩ = some (.int .i64 yo) := by have h := HF14.out; simp [World.cell?, h]
    have HFA := Lib.hid (faulted_any a ev9 xo yo xo yo w14 (HS.out.below HB14.out (Nat.le_refl _)) HE14.out)
    rw [decide_eq_true (⟨rfl, Or.inr rfl⟩ : xo = xo ∧ (xo = 0 ∨ yo = yo))] at HFA
    rw [HBFE.out]
    go_wp2_with fail
    refine HFA.out.mono ?_
    rintro e w15 ⟨rfl, hb⟩
    have HB15 := Lib.hid (HB14.out.trans (hb.mono HB14.out.size))
    have HK15 := Lib.hid ((hb.block _ (blk_ltT HK14.out)).trans HK14.out)
    clear hb HFA k1 k2
    have g0 : decide ((0 : Int) < (c : Int)) = true := decide_eq_true (by omega)
    have g1 : decide (0 < c) = true := decide_eq_true (by omega)
    go_wp2_with fail
    go_ret
    exact ⟨rfl, HB15.out⟩

theorem cellsTexts_any (a : Nat → Addr) (L : List (List Int)) (s : ByteArray) (v : Value) (w : World) (hS : Sents w a) (hv : ListsIn w.heap.size w v L) (hs : s.size ≤ maxLen) :
    Calls Tryz.prog 9 #[v, .string s] w (True1 w) := by
  by_cases h : littleB L 150 = true
  · by_cases h2 : s.size ≤ 400
    · exact cellsTexts_yes a L s v w hS hv h h2
    · exact cellsTexts_no a L s v w hS hv hs (Or.inr (by omega))
  · exact cellsTexts_no a L s v w hS hv hs (Or.inl (by simpa using h))
end Go.Proofs.YtipblphfjejpbaaGreatDoor
