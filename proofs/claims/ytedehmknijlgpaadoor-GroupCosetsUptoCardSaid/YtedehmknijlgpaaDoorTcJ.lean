/-
  TODD and COXETER: the document's closure, a cell at a time, plain: what it keeps, what grows less.
-/
import Derived.Test.YtedehmknijlgpaaDoorTcI
set_option linter.unusedVariables false
namespace Go.Proofs.YtedehmknijlgpaaDoor.TC

/-- how many places are empty -/
def negN (W : Nat) (D : Rows) : Nat := ((List.range (D.length * W)).filter fun t => decide (ent D (t / W) (t % W) < 0)).length
def mu (W : Nat) (D : Rows) (L : List Nat) : Nat := negN W D + liveN L
theorem negN_set {W : Nat} {D : Rows} (h : Wide W D) {x k u : Nat} (hx : x < D.length) (hk : k < W) (hn : ent D x k < 0) : negN W D = negN W (setE D x k (u : Int)) + 1 := by
  have hW : 0 < W := by omega
  have hd : (x * W + k) / W = x := by rw [Nat.mul_comm, Nat.mul_add_div hW, Nat.div_eq_of_lt hk]; rfl
  have hmo : (x * W + k) % W = k := by rw [Nat.mul_comm, Nat.mul_add_mod, Nat.mod_eq_of_lt hk]
  unfold negN
  rw [setE_len]
  refine filter_drop (b := x * W + k) (fun t => ?_) (decide_eq_true (by rw [hd, hmo]; exact hn)) List.nodup_range (List.mem_range.2 ?_)
  · rw [setE_ent h hx hk]
    by_cases e : t = x * W + k
    · subst e
      rw [hd, hmo, if_pos ⟨rfl, rfl⟩, show decide ((u : Int) < 0) = false from decide_eq_false (by omega)]; simp
    · have hne : ¬ (t / W = x ∧ t % W = k) := fun ⟨e1, e2⟩ => e (by
        have h3 := Nat.div_add_mod t W
        rw [e1, e2, Nat.mul_comm] at h3
        exact h3.symm)
      rw [if_neg hne, show decide (t ≠ x * W + k) = true from decide_eq_true e]; simp
  · have h1 : (x + 1) * W ≤ D.length * W := Nat.mul_le_mul_right W hx
    rw [Nat.add_mul] at h1
    omega
theorem liveN_merge {W : Nat} {D0 : Rows} {S : List Nat} {a b : Nat} {D : Rows} {L : List Nat} (h : DInv W D0 S a b D L) {p q : Nat} (hp : p < D.length) (hq : q < D.length) (hne : lb L p ≠ lb L q) : liveN L = liveN (mergeL L (lb L p) (lb L q)) + 1 := by
  have hl : L.length = D.length := h.lenL.trans h.lenD.symm
  have hlp := h.lt hp
  have hlq := h.lt hq
  have hat := mergeL_at (L := L) (x := lb L p) (y := lb L q) (by rw [hl]; exact hlp) (by rw [hl]; exact hlq)
  have hmx : lb L (max (lb L p) (lb L q)) = max (lb L p) (lb L q) := by
    rcases Nat.le_total (lb L p) (lb L q) with h1 | h1
    · rw [Nat.max_eq_right h1]; exact h.idem q
    · rw [Nat.max_eq_left h1]; exact h.idem p
  have hmn : lb L (min (lb L p) (lb L q)) = min (lb L p) (lb L q) := by
    rcases Nat.le_total (lb L p) (lb L q) with h1 | h1
    · rw [Nat.min_eq_left h1]; exact h.idem p
    · rw [Nat.min_eq_right h1]; exact h.idem q
  unfold liveN
  rw [mergeL_len]
  refine filter_drop (b := max (lb L p) (lb L q)) (fun t => ?_) (decide_eq_true hmx) List.nodup_range (List.mem_range.2 (by omega))
  show decide (lb (mergeL L (lb L p) (lb L q)) t = t) = (decide (lb L t = t) && decide (t ≠ max (lb L p) (lb L q)))
  rw [hat]
  by_cases e : lb L t = max (lb L p) (lb L q)
  · rw [if_pos e]
    have e1 : ¬ min (lb L p) (lb L q) = t := fun e2 => by
      rw [← e2, hmn] at e; omega
    rw [show decide (min (lb L p) (lb L q) = t) = false from decide_eq_false e1]
    by_cases e3 : lb L t = t
    · rw [show decide (t ≠ max (lb L p) (lb L q)) = false from decide_eq_false (fun hh => hh (by rw [← e3]; exact e))]; simp
    · rw [show decide (lb L t = t) = false from decide_eq_false e3]; simp
  · rw [if_neg e]
    by_cases e3 : lb L t = t
    · rw [show decide (t ≠ max (lb L p) (lb L q)) = true from decide_eq_true (fun hh => e (by rw [e3]; exact hh))]; simp
    · rw [show decide (lb L t = t) = false from decide_eq_false e3]; simp
theorem Sim.shut {W : Nat} {m : St} {D : Rows} {L : List Nat} (h : Sim W m D L) (hm : MOk W m) (x k : Nat) : Shut D L x k := fun u hu => by
  obtain ⟨u1, g1, g2⟩ := h.bwd _ _ _ hu
  obtain ⟨u2, g3, g4⟩ := h.fwd _ _ _ (rep_rep hm.good.wf x) g1
  exact ⟨u2, by rw [h.lab]; exact g3, by rw [h.lab, h.lab]; exact g4.trans g2⟩
/-- same is said at once -/
theorem sim_now {W : Nat} (hW2 : W % 2 = 0) {m : St} {D : Rows} {L : List Nat} (hs : Sim W m D L) (hm : MOk W m) {a y : Nat} (ha : a < m.R.length) (hy : y < m.R.length) (e : lb L a = lb L y) : Sim W (joinS W m a y) D L :=
  sim_join hW2 hs hm ha hy (dinv_start hs hm a y) e (hs.shut hm)
/-- .. or is made so -/
theorem dinv_first {W : Nat} {m : St} {D : Rows} {L : List Nat} (hs : Sim W m D L) (hm : MOk W m) {a y : Nat} (ha : a < m.R.length) (hy : y < m.R.length) : DInv W D m.S a y D (mergeL L (lb L a) (lb L y)) ∧ lb (mergeL L (lb L a) (lb L y)) a = lb (mergeL L (lb L a) (lb L y)) y := by
  have h := (dinv_start hs hm a y).merge (p := a) (q := y) (by rw [hs.lenD]; exact ha) (by rw [hs.lenD]; exact hy) .pair
  exact ⟨h.1, h.2.1⟩

section
variable {W : Nat} {m : St} {D0 : Rows} {L0 : List Nat} (hs : Sim W m D0 L0) (hm : MOk W m) {a b : Nat} {D : Rows} {L : List Nat} (h : DInv W D0 m.S a b D L) {kk i x t : Nat} (hc : Con D0 m.S a b kk i) (hkk : kk < D.length) (hx : x < W) (ht : ent D i x = (t : Int))
theorem cell_one (h : DInv W D0 m.S a b D L) (hc : Con D0 m.S a b kk i) (hkk : kk < D.length) (hx : x < W) (ht : ent D i x = (t : Int)) (hn : ent D kk x < 0) :
    DInv W D0 m.S a b (setE D kk x (t : Int)) L ∧ mu W D L = mu W (setE D kk x (t : Int)) L + 1 ∧ ent (setE D kk x (t : Int)) kk x = (t : Int) ∧ ent (setE D kk x (t : Int)) i x = (t : Int) := by
  have htl := (h.wide.inn ht).2.2
  obtain ⟨y, v, g1, g2, g3⟩ := h.j2 _ _ _ ht
  have he := setE_ent h.wide hkk hx (t : Int)
  refine ⟨h.set hkk hx htl hn ⟨y, v, hc.trans g1, g2, g3⟩, ?_, by rw [he, if_pos ⟨rfl, rfl⟩], ?_⟩
  · have := negN_set h.wide hkk hx hn (u := t)
    unfold mu; omega
  · rw [he]; split
    · rfl
    · exact ht
theorem cell_merge (h : DInv W D0 m.S a b D L) {p q : Nat} (hp : p < D.length) (hq : q < D.length) (hcc : Con D0 m.S a b p q) (hne : lb L p ≠ lb L q) :
    DInv W D0 m.S a b D (mergeL L (lb L p) (lb L q)) ∧ mu W D L = mu W D (mergeL L (lb L p) (lb L q)) + 1 ∧ ∀ c d, lb L c = lb L d → lb (mergeL L (lb L p) (lb L q)) c = lb (mergeL L (lb L p) (lb L q)) d := by
  obtain ⟨h1, h2, h3⟩ := h.merge hp hq hcc
  refine ⟨h1, ?_, h3⟩
  have := liveN_merge h hp hq hne
  unfold mu; omega
include hs hm in
theorem cell_back (h : DInv W D0 m.S a b D L) (hc : Con D0 m.S a b kk i) (hkk : kk < D.length) (hW2 : W % 2 = 0) (hx : x < W) (ht : ent D i x = (t : Int)) (hn : ent D (lb L t) (opp x) < 0) :
    DInv W D0 m.S a b (setE D (lb L t) (opp x) (kk : Int)) L ∧ mu W D L = mu W (setE D (lb L t) (opp x) (kk : Int)) L + 1 := by
  have htl := (h.wide.inn ht).2.2
  have hlt := h.lt htl
  have hok := opp_lt hW2 hx
  obtain ⟨y, v, g1, g2, g3⟩ := h.backs hs hm ht
  refine ⟨h.set hlt hok hkk hn ⟨y, v, (h.j1 _ _ (h.idem t)).trans g1, hc.trans g2, g3⟩, ?_⟩
  have := negN_set h.wide hlt hok hn (u := kk)
  unfold mu; omega
include hs hm in
theorem cell_back2 (h : DInv W D0 m.S a b D L) (ht : ent D i x = (t : Int)) {z : Nat} (hz : ent D (lb L t) (opp x) = (z : Int)) : Con D0 m.S a b z i := by
  obtain ⟨y, v, g1, g2, g3⟩ := h.backs hs hm ht
  obtain ⟨y2, v2, k1, k2, k3⟩ := h.j2 _ _ _ hz
  exact k2.trans ((Con.step (((k1.symm.trans (h.j1 _ _ (h.idem t))).trans g1)) k3 g3).trans g2.symm)
end
/-- at a cell: all ahead of it need nothing; kk is i's label -/
def Ahead (D : Rows) (L : List Nat) (kk i x : Nat) : Prop := kk = lb L i ∧ (∀ x', x' < i → ∀ k, Shut D L x' k) ∧ ∀ k, k < x → Shut D L i k
end Go.Proofs.YtedehmknijlgpaaDoor.TC
