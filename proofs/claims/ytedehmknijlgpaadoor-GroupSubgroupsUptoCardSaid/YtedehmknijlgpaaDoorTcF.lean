/-
  TODD and COXETER: all rows; when all are done without overflow, relators hold everywhere and letters lead back.
-/
import Derived.Test.YtedehmknijlgpaaDoorTcE
set_option linter.unusedVariables false
namespace Go.Proofs.YtedehmknijlgpaaDoor.TC

def tracesM (W a : Nat) (ws : List (List Nat)) (m : St) : St := ws.foldl (fun m w => traceM W m a w) m
def nextsM (W a : Nat) (ks : List Nat) (m : St) : St := ks.foldl (fun m k => (nextM W m a k).1) m
/-- a row is done: relators, then letters -/
def rowM (W : Nat) (rels : List (List Nat)) (k : Nat) (m : St) : St := nextsM W k (List.range W) (tracesM W k rels m)
def stepM (W : Nat) (rels : List (List Nat)) (k : Nat) (m : St) : St := if rep m.S k = k then rowM W rels k m else m
def mainM (W : Nat) (rels : List (List Nat)) : Nat → Nat → St → St
  | 0, _, m => m
  | f + 1, k, m => if k < m.R.length ∧ m.full = false then mainM W rels f (k + 1) (stepM W rels k m) else m
def startM (W : Nat) : St := ⟨[List.replicate W (-1)], [0], false⟩
def cosetsM (W : Nat) (rels words : List (List Nat)) : St := mainM W rels 5001 0 (tracesM W 0 words (startM W))

theorem startM_ok (W : Nat) : MOk W (startM W) := by
  have e : ∀ x k, ent (startM W).R x k = -1 := fun x k => by
    have := ent_app ([] : Rows) W x k
    rw [List.nil_append] at this
    exact this.trans (ent_out (Nat.zero_le _))
  have hrep : ∀ x, (startM W).S.getD x x ≤ x := fun x => by
    show ([0] : List Nat).getD x x ≤ x
    cases x with
    | zero => exact Nat.le_refl _
    | succ x => simp
  refine ⟨⟨hrep, fun x k u hu => ?_, fun y k v hv => ?_⟩, ⟨fun x hx => ?_, fun x k => ?_⟩, rfl, by show 0 < 1; decide, by show 1 ≤ 5000; decide, fun e => by cases e⟩
  · rw [e] at hu; omega
  · rw [e] at hv; omega
  · have hx1 : x < 1 := hx
    obtain rfl : x = 0 := by omega
    show (([List.replicate W (-1)] : Rows).getD 0 []).length = W
    simp
  · rw [e]; show -1 ≤ (-1 : Int) ∧ (-1 : Int) < ((1 : Nat) : Int); decide

/-- a word leads back to its row -/
def Loop (m : St) (a : Nat) (w : List Nat) : Prop := Path m.R m.S (rep m.S a) w (rep m.S a)
theorem Loop.later {W : Nat} {m m' : St} (hm : MOk W m) (h : LaterM m m') {a : Nat} {w : List Nat} (hl : Loop m a w) : Loop m' a w := by
  have := Path.later hm.good.wf h hl
  unfold Loop
  rwa [h.same _ _ (rep_rep hm.good.wf a)] at this
def Leads (m : St) (a k : Nat) : Prop := ∃ u : Nat, ent m.R (rep m.S a) k = (u : Int)
theorem Leads.later {W : Nat} {m m' : St} (hm : MOk W m) (h : LaterM m m') {a k : Nat} (hl : Leads m a k) : Leads m' a k := by
  obtain ⟨u, hu⟩ := hl
  obtain ⟨u', g1, -⟩ := h.edge _ _ _ hu
  rw [h.same _ _ (rep_rep hm.good.wf a)] at g1
  exact ⟨u', g1⟩

theorem traces_ok {W : Nat} (hW2 : W % 2 = 0) {a : Nat} : ∀ (ws : List (List Nat)) {m : St}, MOk W m → a < m.R.length → (∀ w ∈ ws, ∀ k ∈ w, k < W) →
    Step W m (tracesM W a ws m) ∧ ((tracesM W a ws m).full = false → ∀ w ∈ ws, Loop (tracesM W a ws m) a w)
  | [], m, h, _, _ => ⟨Step.refl h, fun _ w hw => by cases hw⟩
  | w :: ws, m, h, ha, hw => by
    obtain ⟨g1, g2⟩ := trace_ok hW2 h ha (hw w List.mem_cons_self)
    obtain ⟨i1, i2⟩ := traces_ok hW2 ws g1.ok (Nat.lt_of_lt_of_le ha g1.grow) (fun v hv => hw v (List.mem_cons_of_mem _ hv))
    refine ⟨g1.trans i1, fun e v hv => ?_⟩
    rcases List.mem_cons.1 hv with rfl | hv
    · have hf : (traceM W m a v).full = false := by
        cases e2 : (traceM W m a v).full with
        | false => rfl
        | true =>
          have : (tracesM W a (v :: ws) m).full = true := i1.full e2
          rw [this] at e; cases e
      exact Loop.later g1.ok i1.later (g2 hf)
    · exact i2 e v hv
theorem nexts_ok {W : Nat} (hW2 : W % 2 = 0) {a : Nat} : ∀ (ks : List Nat) {m : St}, MOk W m → a < m.R.length → (∀ k ∈ ks, k < W) →
    Step W m (nextsM W a ks m) ∧ ((nextsM W a ks m).full = false → ∀ k ∈ ks, Leads (nextsM W a ks m) a k)
  | [], m, h, _, _ => ⟨Step.refl h, fun _ w hw => by cases hw⟩
  | k :: ks, m, h, ha, hk => by
    obtain ⟨g1, g2⟩ := next_ok hW2 h ha (hk k List.mem_cons_self)
    obtain ⟨i1, i2⟩ := nexts_ok hW2 ks g1.ok (Nat.lt_of_lt_of_le ha g1.grow) (fun v hv => hk v (List.mem_cons_of_mem _ hv))
    refine ⟨g1.trans i1, fun e v hv => ?_⟩
    rcases List.mem_cons.1 hv with rfl | hv
    · have hf : (nextM W m a v).1.full = false := by
        cases e2 : (nextM W m a v).1.full with
        | false => rfl
        | true =>
          have : (nextsM W a (v :: ks) m).full = true := i1.full e2
          rw [this] at e; cases e
      obtain ⟨-, -, u, hu, -⟩ := g2 hf
      exact Leads.later g1.ok i1.later ⟨u, hu⟩
    · exact i2 e v hv
theorem row_ok {W : Nat} (hW2 : W % 2 = 0) {rels : List (List Nat)} (hr : ∀ w ∈ rels, ∀ k ∈ w, k < W) {m : St} (h : MOk W m) {k : Nat} (hk : k < m.R.length) :
    Step W m (rowM W rels k m) ∧ ((rowM W rels k m).full = false → (∀ w ∈ rels, Loop (rowM W rels k m) k w) ∧ ∀ x, x < W → Leads (rowM W rels k m) k x) := by
  obtain ⟨g1, g2⟩ := traces_ok hW2 rels h hk hr
  obtain ⟨i1, i2⟩ := nexts_ok hW2 (List.range W) g1.ok (Nat.lt_of_lt_of_le hk g1.grow) (fun x hx => List.mem_range.1 hx)
  refine ⟨g1.trans i1, fun e => ⟨fun w hw => ?_, fun x hx => i2 e x (List.mem_range.2 hx)⟩⟩
  have hf : (tracesM W k rels m).full = false := by
    cases e2 : (tracesM W k rels m).full with
    | false => rfl
    | true =>
      have : (rowM W rels k m).full = true := i1.full e2
      rw [this] at e; cases e
  exact Loop.later g1.ok i1.later (g2 hf w hw)
/-- rows ahead of k are done -/
structure Done (W : Nat) (rels words : List (List Nat)) (k : Nat) (m : St) : Prop where
  ok : MOk W m
  word : m.full = false → ∀ w ∈ words, Loop m 0 w
  rel : m.full = false → ∀ j, j < k → (∀ w ∈ rels, Loop m j w) ∧ ∀ x, x < W → Leads m j x
theorem Done.step {W : Nat} (hW2 : W % 2 = 0) {rels words : List (List Nat)} (hr : ∀ w ∈ rels, ∀ k ∈ w, k < W) {k : Nat} {m : St} (h : Done W rels words k m) (hk : k < m.R.length) (hf : m.full = false) :
    Done W rels words (k + 1) (stepM W rels k m) ∧ Step W m (stepM W rels k m) := by
  unfold stepM
  by_cases e : rep m.S k = k
  · rw [if_pos e]
    obtain ⟨g1, g2⟩ := row_ok hW2 hr h.ok hk
    refine ⟨⟨g1.ok, fun _ w hw => Loop.later h.ok g1.later (h.word hf w hw), fun e2 j hj => ?_⟩, g1⟩
    rcases Nat.lt_succ_iff_lt_or_eq.1 hj with hlt | rfl
    · obtain ⟨i1, i2⟩ := h.rel hf j hlt
      exact ⟨fun w hw => Loop.later h.ok g1.later (i1 w hw), fun x hx => Leads.later h.ok g1.later (i2 x hx)⟩
    · exact g2 e2
  · rw [if_neg e]
    refine ⟨⟨h.ok, h.word, fun e2 j hj => ?_⟩, Step.refl h.ok⟩
    rcases Nat.lt_succ_iff_lt_or_eq.1 hj with hlt | rfl
    · exact h.rel e2 j hlt
    · have hl : rep m.S j < j := Nat.lt_of_le_of_ne (rep_le h.ok.good.wf j) e
      obtain ⟨i1, i2⟩ := h.rel e2 (rep m.S j) hl
      unfold Loop Leads at *
      rw [rep_rep h.ok.good.wf] at i1 i2
      exact ⟨i1, i2⟩
theorem main_ok {W : Nat} (hW2 : W % 2 = 0) {rels words : List (List Nat)} (hr : ∀ w ∈ rels, ∀ k ∈ w, k < W) : ∀ (f k : Nat) {m : St}, Done W rels words k m → 5001 ≤ f + k → k ≤ 5000 →
    ∃ k', Done W rels words k' (mainM W rels f k m) ∧ ((mainM W rels f k m).full = false → (mainM W rels f k m).R.length ≤ k')
  | 0, k, m, h, hf, hk => absurd hf (by omega)
  | f + 1, k, m, h, hf, hk => by
    unfold mainM
    by_cases e : k < m.R.length ∧ m.full = false
    · rw [if_pos e]
      obtain ⟨g1, g2⟩ := h.step hW2 hr e.1 e.2
      have := h.ok.most
      rcases Nat.lt_or_ge (k + 1) 5001 with hlt | hge
      · exact main_ok hW2 hr f (k + 1) g1 (by omega) (by omega)
      · omega
    · rw [if_neg e]
      refine ⟨k, h, fun e2 => ?_⟩
      rcases Nat.lt_or_ge k m.R.length with hlt | hge
      · exact absurd ⟨hlt, e2⟩ e
      · exact hge
theorem cosetsM_ok {W : Nat} (hW2 : W % 2 = 0) {rels words : List (List Nat)} (hr : ∀ w ∈ rels, ∀ k ∈ w, k < W) (hw : ∀ w ∈ words, ∀ k ∈ w, k < W) :
    MOk W (cosetsM W rels words) ∧ ((cosetsM W rels words).full = false → (∀ w ∈ words, Loop (cosetsM W rels words) 0 w) ∧ ∀ j, j < (cosetsM W rels words).R.length → (∀ w ∈ rels, Loop (cosetsM W rels words) j w) ∧ ∀ x, x < W → Leads (cosetsM W rels words) j x) := by
  obtain ⟨g1, g2⟩ := traces_ok hW2 words (startM_ok W) (startM_ok W).pos hw
  have hD : Done W rels words 0 (tracesM W 0 words (startM W)) := ⟨g1.ok, g2, fun _ j hj => absurd hj (by omega)⟩
  obtain ⟨k', h1, h2⟩ := main_ok hW2 hr 5001 0 hD (by omega) (by omega)
  exact ⟨h1.ok, fun e => ⟨h1.word e, fun j hj => h1.rel e j (Nat.lt_of_lt_of_le hj (h2 e))⟩⟩
end Go.Proofs.YtedehmknijlgpaaDoor.TC
