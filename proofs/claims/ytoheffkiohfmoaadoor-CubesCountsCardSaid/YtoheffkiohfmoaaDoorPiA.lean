/-
  The document's marks, plain: ahead of a square, while its piece is marked, behind it; what is counted.
-/
import Derived.Test.YtoheffkiohfmoaaDoorSpd
set_option linter.unusedSimpArgs false
set_option linter.unusedVariables false
namespace Go.Proofs.YtoheffkiohfmoaaDoor
open Go Go.RowKit Go.Maps FL

/-- ahead of the square with number k: nx pieces are marked -/
structure MarkK (ms : List ByteArray) (cor full : Bool) (k nx : Nat) (T : List (List Int)) : Prop where
  wd : WideT (wideI ms) ms.length T
  pos : ∀ q : Sq, q.1 < wideI ms → q.2 < ms.length → (0 < mrk T q ↔ Marked cor (CnI ms full) (wideI ms) k q)
  le : ∀ q, mrk T q ≤ (nx : Int)
  few : nx ≤ k
/-- while the piece of p is marked (by nx): G -/
structure AgS (ms : List ByteArray) (cor full : Bool) (p : Sq) (nx : Nat) (T : List (List Int)) (G : List Sq) : Prop where
  wd : WideT (wideI ms) ms.length T
  pos : ∀ q : Sq, q.1 < wideI ms → q.2 < ms.length → (0 < mrk T q ↔ Marked cor (CnI ms full) (wideI ms) (p.2 * wideI ms + p.1) q ∨ q ∈ G)
  eqn : ∀ q, mrk T q = (nx : Int) ↔ q ∈ G
  le : ∀ q, mrk T q ≤ (nx : Int)
  nod : G.Nodup
  con : ∀ q ∈ G, Conn cor (CnI ms full) p q
  st : p ∈ G
def ClosedQ (ms : List ByteArray) (cor full : Bool) (T : List (List Int)) (q : Sq) : Prop := ∀ r, Adj cor q r → CnI ms full r → 0 < mrk T r
theorem AgS.start {ms : List ByteArray} {cor full : Bool} {p : Sq} {nx : Nat} {T : List (List Int)} (h : MarkK ms cor full (p.2 * wideI ms + p.1) nx T) (hp : CnI ms full p) : AgS ms cor full p (nx + 1) (putT T p ((nx + 1 : Nat) : Int)) [p] := by
  have hm := mrk_put h.wd hp.1 hp.2.1 ((nx + 1 : Nat) : Int)
  refine ⟨putT_wide h.wd p _, fun q h1 h2 => ?_, fun q => ?_, fun q => ?_, by simp, fun q hq => ?_, by simp⟩
  · rw [hm]
    by_cases e : q = p
    · subst e; simp
    · rw [if_neg e, h.pos q h1 h2]; simp [e]
  · rw [hm]
    by_cases e : q = p
    · subst e; simp
    · rw [if_neg e]
      have := h.le q
      simp [e]; omega
  · rw [hm]
    split
    · exact Int.le_refl _
    · have := h.le q; omega
  · simp at hq; subst hq; exact .refl hp
theorem AgS.step {ms : List ByteArray} {cor full : Bool} {p c : Sq} {nx : Nat} {T T' : List (List Int)} {G A : List Sq} {W0 w : World} {vt : Value} {hs : List Value} {dy dx : Int} (h : AgS ms cor full p nx T G) (hnx : 0 < nx) (hc : c ∈ G) (hs : SpdS ms cor full c nx W0 vt hs T dy dx A T' w) :
    AgS ms cor full p nx T' (G ++ A) ∧ ∀ r, 0 < mrk T r → 0 < mrk T' r := by
  have hdis : ∀ q ∈ A, q ∉ G := fun q hq hg => (hs.new q hq).2.1 (by rw [(h.eqn q).2 hg]; omega)
  refine ⟨⟨hs.wd, fun q h1 h2 => ?_, fun q => ?_, fun q => ?_, ?_, fun q hq => ?_, by simp [h.st]⟩, fun r hr => ?_⟩
  · rw [hs.mks]
    by_cases e : q ∈ A
    · rw [if_pos e]; simp [e, hnx]
    · rw [if_neg e, h.pos q h1 h2]; simp [e]
  · rw [hs.mks]
    by_cases e : q ∈ A
    · rw [if_pos e]; simp [e]
    · rw [if_neg e, h.eqn q]; simp [e]
  · rw [hs.mks]
    split
    · exact Int.le_refl _
    · exact h.le q
  · rw [List.nodup_append]
    exact ⟨h.nod, hs.nod, fun a ha b hb e => hdis b hb (e ▸ ha)⟩
  · rcases List.mem_append.1 hq with h1 | h1
    · exact h.con q h1
    · have := hs.new q h1
      exact (h.con c hc).step this.2.2 this.1
  · rw [hs.mks]
    split
    · omega
    · exact hr
theorem AgS.box {ms : List ByteArray} {cor full : Bool} {p : Sq} {nx : Nat} {T : List (List Int)} {G : List Sq} (h : AgS ms cor full p nx T G) : G.length ≤ ms.length * wideI ms :=
  box_len h.nod fun q hq => ⟨(h.con q hq).right.1, (h.con q hq).right.2.1⟩
theorem AgS.all {ms : List ByteArray} {cor full : Bool} {p : Sq} {nx : Nat} {T : List (List Int)} {G : List Sq} (h : AgS ms cor full p nx T G) (hcl : ∀ q ∈ G, ClosedQ ms cor full T q) (hf : ¬ Marked cor (CnI ms full) (wideI ms) (p.2 * wideI ms + p.1) p) (q : Sq) : q ∈ G ↔ Conn cor (CnI ms full) p q := by
  refine ⟨h.con q, fun hc => ?_⟩
  induction hc with
  | refl _ => exact h.st
  | step h1 ha hcr ih =>
    rename_i x r
    have h2 := hcl _ ih r ha hcr
    rcases (h.pos r hcr.1 hcr.2.1).1 h2 with h3 | h3
    · exact absurd (h3.conn ((h1.step ha hcr).symm)) hf
    · exact h3
theorem AgS.done {ms : List ByteArray} {cor full : Bool} {p : Sq} {nx : Nat} {T : List (List Int)} {G : List Sq} (h : AgS ms cor full p nx T G) (hcl : ∀ q ∈ G, ClosedQ ms cor full T q) (hf : ¬ Marked cor (CnI ms full) (wideI ms) (p.2 * wideI ms + p.1) p) (hp : p.1 < wideI ms) (hfew : nx ≤ p.2 * wideI ms + p.1 + 1) : MarkK ms cor full (p.2 * wideI ms + p.1 + 1) nx T :=
  ⟨h.wd, fun q h1 h2 => by rw [h.pos q h1 h2, marked_step (fun p h => h.1) hp, h.all hcl hf], h.le, hfew⟩
theorem MarkK.same {ms : List ByteArray} {cor full : Bool} {x y nx : Nat} {T : List (List Int)} (h : MarkK ms cor full (y * wideI ms + x) nx T) (hx : x < wideI ms) (hy : y < ms.length) (hn : ¬ CnI ms full (x, y) ∨ 0 < mrk T (x, y)) : MarkK ms cor full (y * wideI ms + (x + 1)) nx T :=
  ⟨h.wd, fun q h1 h2 => by
    rw [h.pos q h1 h2]
    exact (marked_same (p := (x, y)) (fun p h => h.1) hx (hn.imp id fun hm => (h.pos (x, y) hx hy).1 hm) q).symm, h.le, by have := h.few; omega⟩
/-- a square that is passed over is none of those that are counted -/
theorem tell_no {ms : List ByteArray} {cor full inner : Bool} {x y nx : Nat} {T : List (List Int)} (h : MarkK ms cor full (y * wideI ms + x) nx T) (hx : x < wideI ms) (hy : y < ms.length) (hn : ¬ CnI ms full (x, y) ∨ 0 < mrk T (x, y)) : ¬ TellI ms cor full inner (x, y) := by
  rintro ⟨h1, -⟩
  rcases hn with h2 | h2
  · exact h2 h1.1
  · exact (first_iff.1 h1).2 ((h.pos (x, y) hx hy).1 h2)
theorem tell_iff {ms : List ByteArray} {cor full inner : Bool} {p : Sq} {rim : Bool} (hp : CnI ms full p) (hf : ¬ Marked cor (CnI ms full) (wideI ms) (p.2 * wideI ms + p.1) p) (hr : rim = true ↔ ∃ q, Conn cor (CnI ms full) p q ∧ RimI ms q) : TellI ms cor full inner p ↔ (!rim || !inner) = true := by
  unfold TellI
  rw [first_iff]
  constructor
  · rintro ⟨-, h⟩
    cases inner with
    | false => simp
    | true =>
      cases rim with
      | false => simp
      | true =>
        obtain ⟨q, h1, h2⟩ := hr.1 rfl
        exact absurd h2 (h rfl q h1)
  · intro h
    refine ⟨⟨hp, hf⟩, fun hi q hc hq => ?_⟩
    subst hi
    have : rim = true := hr.2 ⟨q, hc, hq⟩
    rw [this] at h; cases h
/-- one pass over all squares: up to number j -/
structure PassS (ms : List ByteArray) (cor full : Bool) (p : Sq) (nx g0 j : Nat) (W0 : World) (vt : Value) (hs : List Value) (ag : Bool) (w : World) (T : List (List Int)) (G : List Sq) : Prop where
  fr : Below W0.heap.size W0 w
  row : HasH W0.heap.size w vt T hs
  ags : AgS ms cor full p nx T G
  no : ag = false → ∀ q ∈ G, q.2 * wideI ms + q.1 < j → ClosedQ ms cor full T q
  yes : ag = true → g0 < G.length
  ge : g0 ≤ G.length
theorem PassS.skip {ms : List ByteArray} {cor full : Bool} {p : Sq} {nx g0 u v : Nat} {W0 w : World} {vt : Value} {hs : List Value} {ag : Bool} {T : List (List Int)} {G : List Sq} (h : PassS ms cor full p nx g0 (v * wideI ms + u) W0 vt hs ag w T G) (hu : u < wideI ms) (hn : mrk T (u, v) ≠ (nx : Int)) : PassS ms cor full p nx g0 (v * wideI ms + (u + 1)) W0 vt hs ag w T G :=
  ⟨h.fr, h.row, h.ags, fun e q hq hl => h.no e q hq (by
    rcases Nat.lt_or_ge (q.2 * wideI ms + q.1) (v * wideI ms + u) with h1 | h1
    · exact h1
    · have := place_inj (p := q) (q := (u, v)) (h.ags.con q hq).right.1 hu (by show q.2 * wideI ms + q.1 = v * wideI ms + u; omega)
      rw [this] at hq
      exact absurd ((h.ags.eqn _).2 hq) hn), h.yes, h.ge⟩
theorem PassS.hit {ms : List ByteArray} {cor full : Bool} {p : Sq} {nx g0 u v : Nat} {W0 w w' : World} {vt : Value} {hs : List Value} {ag : Bool} {T T' : List (List Int)} {G A : List Sq} (h : PassS ms cor full p nx g0 (v * wideI ms + u) W0 vt hs ag w T G) (hu : u < wideI ms) (hnx : 0 < nx) (hm : mrk T (u, v) = (nx : Int))
    (hsp : SpdS ms cor full (u, v) nx W0 vt hs T 2 (-1) A T' w') : PassS ms cor full p nx g0 (v * wideI ms + (u + 1)) W0 vt hs (ag || !A.isEmpty) w' T' (G ++ A) := by
  have hc : (u, v) ∈ G := (h.ags.eqn _).1 hm
  obtain ⟨h1, h2⟩ := h.ags.step hnx hc hsp
  refine ⟨hsp.fr, hsp.row, h1, fun e q hq hl => ?_, fun e => ?_, by rw [List.length_append]; have := h.ge; omega⟩
  · have e2 : ag = false ∧ A.isEmpty = true := by simpa using e
    have e3 : A = [] := by simpa using e2.2
    subst e3
    rw [List.append_nil] at hq
    rcases Nat.lt_or_ge (q.2 * wideI ms + q.1) (v * wideI ms + u) with h3 | h3
    · exact fun r ha hcr => h2 r (h.no e2.1 q hq h3 r ha hcr)
    · have := place_inj (p := q) (q := (u, v)) (h.ags.con q hq).right.1 hu (by show q.2 * wideI ms + q.1 = v * wideI ms + u; omega)
      rw [this]
      exact fun r ha hcr => hsp.near.all r ha hcr
  · rw [List.length_append]
    cases ag with
    | true => have := h.yes rfl; omega
    | false =>
      have e2 : A ≠ [] := by simpa using e
      have := List.length_pos_iff.2 e2
      have := h.ge
      omega
end Go.Proofs.YtoheffkiohfmoaaDoor
