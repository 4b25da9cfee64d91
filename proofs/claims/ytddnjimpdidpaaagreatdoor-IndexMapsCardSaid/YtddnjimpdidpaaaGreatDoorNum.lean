/-
  All faces, by dimension; the document's Numbered by a contract.
-/
import Derived.Test.YtddnjimpdidpaaaGreatDoorParA
import Derived.Test.YtddnjimpdidpaaaGreatDoorFacB
import Derived.Test.YtddnjimpdidpaaaGreatDoorApp
import Derived.Test.YtddnjimpdidpaaaGreatDoorJnC
set_option linter.unusedSimpArgs false
set_option linter.unusedVariables false
namespace Go.Proofs.YtddnjimpdidpaaaGreatDoor
open Go Go.RowKit Go.Maps

/-- all faces, by dimension -/
def faceN (A : List (List Int)) : List (List Int) := (tableF A).flatten
theorem faceN_len {L : List (List Int)} : (faceN (allF L)).length ≤ (allF L).length := by
  have key : ∀ (A : List (List Int)) (n : Nat), (((List.range n).map (rowF A)).flatten).length ≤ (A.filter fun f => decide (f.length ≤ n)).length := by
    intro A n
    induction n with
    | zero => simp
    | succ n ih =>
      rw [List.range_succ, List.map_append, List.flatten_append, List.length_append]
      have h2 : ([n].map (rowF A)).flatten.length = (rowF A n).length := by simp
      rw [h2]
      have h3 : ∀ (A : List (List Int)), (A.filter fun f => decide (f.length ≤ n)).length + (rowF A n).length ≤ (A.filter fun f => decide (f.length ≤ n + 1)).length := by
        intro A
        induction A with
        | nil => exact Nat.le_refl _
        | cons f A ihA =>
          unfold rowF at *
          simp only [List.filter_cons]
          by_cases c1 : f.length ≤ n
          · have e1 : decide (f.length ≤ n) = true := decide_eq_true c1
            have e2 : decide (f.length = n + 1) = false := decide_eq_false (by omega)
            have e3 : decide (f.length ≤ n + 1) = true := decide_eq_true (by omega)
            rw [e1, e2, e3, if_pos rfl, if_neg (by decide), if_pos rfl, List.length_cons, List.length_cons]
            omega
          · by_cases c2 : f.length = n + 1
            · have e1 : decide (f.length ≤ n) = false := decide_eq_false c1
              have e2 : decide (f.length = n + 1) = true := decide_eq_true c2
              have e3 : decide (f.length ≤ n + 1) = true := decide_eq_true (by omega)
              rw [e1, e2, e3, if_neg (by decide), if_pos rfl, if_pos rfl, List.length_cons, List.length_cons]
              omega
            · have e1 : decide (f.length ≤ n) = false := decide_eq_false c1
              have e2 : decide (f.length = n + 1) = false := decide_eq_false c2
              have e3 : decide (f.length ≤ n + 1) = false := decide_eq_false (by omega)
              rw [e1, e2, e3, if_neg (by decide), if_neg (by decide), if_neg (by decide)]
              exact ihA
      exact Nat.le_trans (Nat.add_le_add_right ih _) (h3 A)
  unfold faceN tableF
  exact Nat.le_trans (key _ _) (List.length_filter_le _ _)
theorem mem_faceN {L : List (List Int)} {f : List Int} : f ∈ faceN (allF L) ↔ f ∈ allF L := mem_flat allF_ne
theorem faceN_small {L : List (List Int)} (h : errX L = 0) : (faceN (allF L)).length ≤ 600 ∧ (∀ f ∈ faceN (allF L), f.length ≤ 7) ∧ (∀ f ∈ faceN (allF L), f ≠ []) ∧ (∀ f ∈ faceN (allF L), ∀ x ∈ f, x ∈ vertA L) ∧ (tableF (allF L)).length ≤ 7 := by
  have hc := (errX_ok h).1
  refine ⟨Nat.le_trans faceN_len (errC_ok hc).2.2, fun f hf => allF_bd hc f (mem_faceN.1 hf), fun f hf => allF_ne f (mem_faceN.1 hf), fun f hf x hx => ?_, by rw [tableF_len]; exact topN_7 hc⟩
  rw [← vert_same h, mem_vertR]
  exact closed_under f (mem_faceN.1 hf) [x] (List.singleton_sublist.2 hx) (by simp)
set_option maxRecDepth 100000 in
set_option maxHeartbeats 8000000 in
theorem numbered_any (B : Nat) (A : List (List Int)) (v : Value) (w : World) (hB : B ≤ w.heap.size) (hv : ListsIn B w v A) (hn : A.length ≤ 100000) (hl : ∀ l ∈ A, l.length ≤ 100000) (hf : (faceN A).length ≤ 100000) :
    Calls Tryz.prog 60 #[v] w (ListPost B (faceN A) w) := by
  obtain ⟨i39, hi39, hz0, hz1, hz2⟩ := info_parts Tryz.info23
  have HV := Lib.hid hv
  have HBB := Lib.hid hB
  have HL := Lib.hid hl
  obtain ⟨T, hT⟩ : ∃ T, tableF A = T := ⟨_, rfl⟩
  have hTA : T.length = topN A := by rw [← hT, tableF_len]
  obtain ⟨n, hLn⟩ : ∃ n, topN A = n := ⟨_, rfl⟩
  have hn1 : n ≤ 100000 := by
    rw [← hLn]
    rcases topN_mem A with h | ⟨f, hf, e⟩
    · omega
    · rw [← e]; exact hl f hf
  rw [hLn] at hTA
  have HTA := Lib.hid hTA
  have HAT : Hid (∀ d, d < n → T.getD d [] = dimF A (d : Int)) := fun d hd => by rw [dimF_nat, ← hT]; exact tableF_at (by rw [hLn]; exact hd)
  have hfe : faceN A = T.flatten := by rw [← hT]; rfl
  rw [hfe] at hf
  rw [hfe]
  have HTO := Lib.hid (fun wr (hr : Below w.heap.size w wr) => topOf_any B A v wr (HV.out.below hr (Nat.le_refl _)) hn hl)
  have HOD := Lib.hid (fun wr (hr : Below w.heap.size w wr) (d : Nat) => ofDim_any B A (d : Int) v wr (Nat.le_trans hB hr.size) (HV.out.below hr (Nat.le_refl _)) hn hl)
  unfold Same at HTO
  rw [hLn] at HTO
  clear hv hB hl hT hTA hLn hfe
  unfold ListPost
  go_enter Tryz.func60, Tryz.ntmps60
  go_wp2_with fail
  go_loopw [3, 4] (fun s i wr => ∃ j : Nat, j ≤ n ∧ i = .int .i64 (j : Int) ∧ Below w.heap.size w wr ∧ RowsO w.heap.size B wr s (T.take j).flatten) (fun _ i _ => n - (intOf i).toNat)
  case atStart => exact ⟨0, Nat.zero_le _, rfl, Below.refl _ _, RowsO.nil _ _ _⟩
  case round =>
    obtain ⟨j, hj, rfl, hb, hR⟩ := hrel
    have HB := Lib.hid hb
    have hsr := hb.size
    have HT1 := Lib.hid (HTO.out wr hb)
    by_cases hjn : j < n
    · have q1 : decide ((j : Int) ≤ (n : Int) - 1) = true := decide_eq_true (by omega)
      have hjL : j < T.length := by rw [HTA.out]; exact hjn
      have hsc := flat_succ hjL
      have HST := Lib.hid (flat_step hjL)
      have hfd := HAT.out j hjn
      have HOD1 := HOD.out wr hb j
      rw [← hfd] at HOD1
      unfold ListPost at HOD1
      have HD1 := Lib.hid HOD1
      obtain ⟨nj, hnj⟩ : ∃ nj, (T.getD j []).length = nj := ⟨_, rfl⟩
      rw [hnj] at hsc
      have HNJ := Lib.hid hnj
      have HR := Lib.hid hR
      clear hb hR HOD1 hfd hnj
      go_wp2_with fail
      refine HT1.out.mono ?_
      rintro e wx ⟨rfl, rfl⟩
      go_wp2_with fail
      refine HD1.out.mono ?_
      rintro e w5 ⟨v5, rfl, hb5, hR5⟩
      obtain ⟨pj, cj, hue, -⟩ := id hR5.lists
      rw [HNJ.out] at hue
      subst hue
      have HB5 := Lib.hid (HB.out.trans (hb5.mono hsr))
      have hs5 := HB5.out.size
      obtain ⟨news, d1, d2, d3, d4, d5, -⟩ := hR5.lists.heads
      obtain ⟨hs', h1, h2, h3⟩ := HR.out.below hb5 (Nat.le_refl _)
      obtain ⟨q, hq⟩ : ∃ q, (T.take j).flatten.length = q := ⟨_, rfl⟩
      have hqs : q + nj ≤ 100000 := by rw [← hq]; omega
      rw [hq] at h1
      have HQ := Lib.hid hq
      have H1 := Lib.hid h1
      have H2 := Lib.hid h2
      have H3 := Lib.hid h3
      have D1 := Lib.hid d1
      have D2 := Lib.hid d2
      have D3 := Lib.hid d3
      have D4 := Lib.hid d4
      have D5 := Lib.hid d5
      clear hb5 hR5 h1 h2 h3 d1 d2 d3 d4 d5 hq hsc
      go_wp2_with (at_builtin; refine wpList_app_any w5 rfl (.tmp 11) (.tmp 14) 22 rfl w.heap.size 23 i39 (.slice none 0 0) 24 Tryz.underlying22 hi39 hz0 hz1 hz2 rfl _ q hs' rfl H1.out pj nj cj news rfl D1.out D2.out D3.out D5.out (by unfold maxLen; omega) (by omega) hs5 _ rfl ?_; intro p2 c2 w2 ho2 hg2 hat2; have HO2 := Lib.hid ho2; have HG2 := Lib.hid hg2; have HB2 := Lib.hid (HB5.out.grown hg2 hs5 (fun k e => (H1.out.lt k e).1)); clear ho2 hg2 hat2)
      go_roundw
      case rel =>
        refine ⟨j + 1, by omega, by go_num, HB2.out, ?_⟩
        rw [HST.out]
        exact rowsO_app HBB.out (by rw [HQ.out]; exact H1.out) H2.out H3.out (by rw [D1.out, HNJ.out]) D4.out (by rw [HQ.out, HNJ.out]; exact HO2.out) HG2.out
      case measure => simp [intOf]; omega
    · obtain rfl : j = n := by omega
      have q1 : decide ((j : Int) ≤ (j : Int) - 1) = false := decide_eq_false (by omega)
      have HF : Hid ((T.take j) = T) := by unfold Hid; rw [← HTA.out, List.take_length]
      rw [HF.out] at hR
      have HR := Lib.hid hR
      clear hb hR
      go_wp2_with fail
      refine HT1.out.mono ?_
      rintro e wx ⟨rfl, rfl⟩
      go_wp2_with fail
      go_ret
      exact ⟨_, rfl, HB.out, HR.out⟩
end Go.Proofs.YtddnjimpdidpaaaGreatDoor
