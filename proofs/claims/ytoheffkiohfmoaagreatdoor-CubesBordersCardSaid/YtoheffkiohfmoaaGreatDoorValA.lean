/-
  A row of an image that has dots and full squares alone: strings.Trim and strings.ContainsFunc at it; Valid's closure.
-/
import Derived.Test.YtoheffkiohfmoaaGreatDoorStr
import Derived.Test.YtoheffkiohfmoaaGreatDoorShelf
import Derived.Shelf.Strings.SlTrimAscii
set_option linter.unusedSimpArgs false
set_option linter.unusedVariables false
namespace Go.Proofs.YtoheffkiohfmoaaGreatDoor
open Go Go.RowKit Go.Maps FL

theorem dw_nil (p : UInt8 → Bool) (l : List UInt8) : l.dropWhile p = [] ↔ ∀ x ∈ l, p x = true := by
  induction l with
  | nil => simp
  | cons a l ih =>
    by_cases h : p a = true
    · rw [List.dropWhile_cons_of_pos h, ih]; simp [h]
    · rw [List.dropWhile_cons_of_neg h]
      simp [h]
theorem dw_head {p : UInt8 → Bool} {l : List UInt8} {x : UInt8} {r : List UInt8} (h : l.dropWhile p = x :: r) : p x = false := by
  induction l with
  | nil => simp at h
  | cons a l ih =>
    by_cases ha : p a = true
    · rw [List.dropWhile_cons_of_pos ha] at h; exact ih h
    · rw [List.dropWhile_cons_of_neg ha] at h
      cases h; simpa using ha
theorem trim_dots (l : List UInt8) : Lib.trimS l [35, 46] = [] ↔ ∀ b ∈ l, dotB b = true := by
  have hp : ∀ b : UInt8, ([35, 46] : List UInt8).contains b = dotB b := fun b => by
    unfold dotB
    rw [Bool.eq_iff_iff]
    simp [List.contains_cons]
  unfold Lib.trimS Lib.trimLeftS Lib.trimRightS
  rw [dw_nil]
  constructor
  · intro h
    have h1 : l.reverse.dropWhile (([35, 46] : List UInt8).contains ·) = [] := by
      cases e : l.reverse.dropWhile (([35, 46] : List UInt8).contains ·) with
      | nil => rfl
      | cons x r =>
        have h2 := dw_head e
        rw [e] at h
        have h3 := h x (by simp)
        rw [h2] at h3; cases h3
    rw [dw_nil] at h1
    intro b hb
    rw [← hp]; exact h1 b (by simpa using hb)
  · intro h
    have h1 : l.reverse.dropWhile (([35, 46] : List UInt8).contains ·) = [] := by
      rw [dw_nil]; intro x hx; rw [hp]; exact h x (by simpa using hx)
    rw [h1]; simp
def pDot : Nat → Bool := fun r => !(r == 35) && !(r == 46)
theorem idx_dots (s : ByteArray) (h : ∀ b ∈ s.data.toList, dotB b = true) : ∀ f pos, Lib.idxFuncFrom pDot true s f pos = -1
  | 0, _ => rfl
  | f + 1, pos => by
    unfold Lib.idxFuncFrom
    by_cases hp : pos < s.size
    · rw [if_pos hp]
      have hb : s.get! pos = s.data.toList[pos]'hp := by
        have hsz : pos < s.data.size := hp
        have e1 : s.get! pos = s.data[pos]! := rfl
        rw [e1, getElem!_pos s.data pos hsz]
        rfl
      have hd := h _ (List.getElem_mem (l := s.data.toList) hp)
      rw [← hb] at hd
      have hv : (s.get! pos).toNat = 35 ∨ (s.get! pos).toNat = 46 := by
        unfold dotB at hd
        simp at hd
        rcases hd with e | e <;> rw [e] <;> simp
      have he : Utf8.decode s pos = ((s.get! pos).toNat, 1) := by
        unfold Utf8.decode
        simp only [Nat.add_zero]
        rw [if_pos (by omega)]
      rw [he, if_neg]
      · exact idx_dots s h f _
      · unfold pDot
        rcases hv with e | e <;> rw [e] <;> simp
    · rw [if_neg hp]
theorem trim_any (s : ByteArray) (w : World) (hs : s.size ≤ 9223372036854775807) :
    Calls Tryz.prog 90 #[.string s, .string ⟨#[35, 46]⟩] w fun e w' => e = .returned (.string ⟨(Lib.trimS s.data.toList [35, 46]).toArray⟩) ∧ Below w.heap.size w w' :=
  Any.strings_Trim_laid Tryz.lays160 (by kernel_rfl) s ⟨#[35, 46]⟩ w (by omega) (by decide) (ascii_of_all (by decide))
theorem dot_any (W : World) (x : Nat) : FnGives Tryz.prog 92 #[] #[encR x] (.bool (pDot x)) W := by
  show Calls Tryz.prog 92 #[.int .i32 (x : Int)] W _
  obtain ⟨r, hr⟩ : ∃ r, pDot x = r := ⟨_, rfl⟩
  have HR := Lib.hid hr
  rw [hr]
  unfold pDot at hr
  by_cases h1 : x = 35
  · have n1 : ((x : Int) == 35) = true := beq_iff_eq.2 (by omega)
    have n2 : (x == 35) = true := beq_iff_eq.2 h1
    have n3 : ((x : Int) != 35) = false := by simp [h1]
    obtain rfl : r = false := by rw [← hr, n2]; rfl
    clear h1 hr
    go_enter Tryz.func92, Tryz.ntmps92
    go_wp2_with fail
    go_ret
    exact ⟨rfl, 0, rfl⟩
  · have n1 : ((x : Int) == 35) = false := beq_eq_false_iff_ne.2 (by omega)
    have n3 : ((x : Int) != 35) = true := by rw [bne, n1]; rfl
    have n4 : ¬ ((x : Int) = 35) := by omega
    have n2 : (x == 35) = false := beq_eq_false_iff_ne.2 h1
    by_cases h3 : x = 46
    · have m1 : ((x : Int) == 46) = true := beq_iff_eq.2 (by omega)
      have m3 : ((x : Int) != 46) = false := by rw [bne, m1]; rfl
      have m2 : (x == 46) = true := beq_iff_eq.2 h3
      obtain rfl : r = false := by rw [← hr, n2, m2]; rfl
      clear h1 h3 hr
      go_enter Tryz.func92, Tryz.ntmps92
      go_wp2_with fail
      go_ret
      exact ⟨rfl, 0, rfl⟩
    · have m1 : ((x : Int) == 46) = false := beq_eq_false_iff_ne.2 (by omega)
      have m3 : ((x : Int) != 46) = true := by rw [bne, m1]; rfl
      have m4 : ¬ ((x : Int) = 46) := by omega
      have m2 : (x == 46) = false := beq_eq_false_iff_ne.2 h3
      obtain rfl : r = true := by rw [← hr, n2, m2]; rfl
      clear h1 h3 hr
      go_enter Tryz.func92, Tryz.ntmps92
      go_wp2_with fail
      go_ret
      exact ⟨rfl, 0, rfl⟩
theorem contains_dots (s : ByteArray) (w : World) (h : ∀ b ∈ s.data.toList, dotB b = true) :
    Calls Tryz.prog 91 #[.string s, .func (.func 92) #[] #[]] w fun e w' => e = .returned (.bool false) ∧ Below w.heap.size w w' := by
  refine (Tryz.strings_ContainsFunc 92 #[] (enters_of Tryz.func92 (by kernel_rfl) rfl) pDot s w (fun W x _ => dot_any W x)).mono ?_
  rintro e w' ⟨rfl, hb⟩
  refine ⟨?_, hb⟩
  have : Lib.idxFunc pDot true s = -1 := idx_dots s h _ _
  rw [this]; rfl
end Go.Proofs.YtoheffkiohfmoaaGreatDoor
