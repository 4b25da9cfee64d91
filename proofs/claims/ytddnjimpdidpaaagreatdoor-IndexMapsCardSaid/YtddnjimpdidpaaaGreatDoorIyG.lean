/-
  index.Check by a contract: the first fault of a map of complexes.
  slices.DeleteFunc over faces with Fixed's closure, by a contract.
  index.sign by a contract: the sign of the number of pairs in the wrong order.
  index.Fixed and index.Lefschetz by contracts.
-/
import Derived.Test.YtddnjimpdidpaaaGreatDoorIyD
import Derived.Test.YtddnjimpdidpaaaGreatDoorIxD
import Derived.Test.YtddnjimpdidpaaaGreatDoorHasC
import Derived.Test.YtddnjimpdidpaaaGreatDoorNum
import Derived.Test.YtddnjimpdidpaaaGreatDoorErrsD
import Derived.Deep.RegionHeld3
import Derived.Test.YtddnjimpdidpaaaGreatDoorSlEq
import Derived.Lib.SliceRun
import Derived.Test.YtddnjimpdidpaaaGreatDoorIyA
import Derived.Test.YtddnjimpdidpaaaGreatDoorIxA
set_option linter.unusedSimpArgs false
set_option linter.unusedVariables false
namespace Go.Proofs.YtddnjimpdidpaaaGreatDoor
open Go Go.RowKit Go.Maps

noncomputable def chkE (L M : List (List Int)) (f : List Int) : Nat × Int :=
  if errX L ≠ 0 then (errX L, -1) else if errX M ≠ 0 then (errX M, -1) else mapE (vertA L) (vertA M) f (faceN (allF L)) (allF M)
theorem chkE_L {L M : List (List Int)} {f : List Int} {k : Nat} (h : errX L = k + 1) : chkE L M f = (k + 1, -1) := by unfold chkE; rw [if_pos (by omega), h]
theorem chkE_M {L M : List (List Int)} {f : List Int} {k : Nat} (h0 : errX L = 0) (h : errX M = k + 1) : chkE L M f = (k + 1, -1) := by unfold chkE; rw [if_neg (by omega), if_pos (by omega), h]
theorem chkE_0 {L M : List (List Int)} {f : List Int} (h0 : errX L = 0) (h : errX M = 0) : chkE L M f = mapE (vertA L) (vertA M) f (faceN (allF L)) (allF M) := by unfold chkE; rw [if_neg (by omega), if_neg (by omega)]
def CheckP (a : Nat → Addr) (r : Nat × Int) (w : World) (e : Ending) (w' : World) : Prop := ∃ x, e = .returned x ∧ Below w.heap.size w w' ∧ ErrAt a w' x (r.1 : Int) r.2
theorem fault_at {a : Nat → Addr} {k : Nat} (hk : k < 8) {at_ : Int} {n : Nat} {w : World} (h : w.heap[n]? = some (.cells #[.int .i64 at_, errE (a k)] 106 (0, 0))) : ErrAt a w (.iface 104 (.pointer (some ⟨n, 0, none⟩))) ((k + 1 : Nat) : Int) at_ := by
  refine Or.inr (Or.inr ⟨k, n, 0, hk, rfl, by omega, ?_, ?_⟩)
  · simp [World.cell?, h]
  · simp [World.cell?, h]; rfl
theorem sent_at {a : Nat → Addr} {k : Nat} (hk : k < 8) (w : World) : ErrAt a w (errE (a k)) ((k + 1 : Nat) : Int) (-1) := by
  have h := ErrAt.sent a w k hk
  rw [show ((k + 1 : Nat) : Int) = (k : Int) + 1 from by omega]
  exact h
set_option maxRecDepth 100000 in
set_option maxHeartbeats 64000000 in
theorem mcheck_any (a : Nat → Addr) (B : Nat) (L M : List (List Int)) (f : List Int) (u v vf : Value) (w : World) (hS : Sents w a) (hB : B ≤ w.heap.size) (hu : ListsIn B w u L) (hv : ListsIn B w v M)
    (hn : L.length ≤ 100000) (hl : ∀ l ∈ L, l.length ≤ 100000) (hm : M.length ≤ 100000) (hk : ∀ l ∈ M, l.length ≤ 100000) (hf : IntsIn B w vf f) (hfl : f.length ≤ 100000) :
    Calls Tryz.prog 27 #[.agg #[u], .agg #[v], vf] w (CheckP a (chkE L M f) w) := by
  obtain ⟨pL, cL, hue, -⟩ := id hu
  obtain ⟨pM, cM, hve, -⟩ := id hv
  obtain ⟨pf, cf, hfe, -⟩ := id hf
  obtain ⟨nL, hnL⟩ : ∃ n, L.length = n := ⟨_, rfl⟩
  obtain ⟨nM, hnM⟩ : ∃ n, M.length = n := ⟨_, rfl⟩
  obtain ⟨nf, hnf⟩ : ∃ n, f.length = n := ⟨_, rfl⟩
  rw [hnL] at hue
  rw [hnM] at hve
  rw [hnf] at hfe hfl
  subst hue
  subst hve
  subst hfe
  have hVL := fun wx (hx : Below w.heap.size w wx) => valid_e a B L (.slice pL nL cL) wx (hS.below hx (Nat.le_refl _)) (Nat.le_trans hB hx.size) (hu.below hx (Nat.le_refl _)) hn hl
  have hVM := fun wx (hx : Below w.heap.size w wx) => valid_e a B M (.slice pM nM cM) wx (hS.below hx (Nat.le_refl _)) (Nat.le_trans hB hx.size) (hv.below hx (Nat.le_refl _)) hm hk
  have HVL := Lib.hid hVL
  have HVM := Lib.hid hVM
  have HS := Lib.hid (fun wx (hx : Below w.heap.size w wx) => hS.below hx (Nat.le_refl _))
  have HU := Lib.hid (fun wx (hx : Below w.heap.size w wx) => hu.below hx (Nat.le_refl _))
  have HV := Lib.hid (fun wx (hx : Below w.heap.size w wx) => hv.below hx (Nat.le_refl _))
  have HF := Lib.hid (fun wx (hx : Below w.heap.size w wx) => hf.below hx (Nat.le_refl _))
  have HBB := Lib.hid hB
  have HLL := Lib.hid (And.intro hn hl)
  have HMM := Lib.hid (And.intro hm hk)
  have HNF := Lib.hid hnf
  have HFL := Lib.hid hfl
  unfold Gives at HVL HVM
  obtain ⟨w0, hw0⟩ : ∃ w0, (w.alloc (.cells #[.slice pL nL cL] 34)).alloc (.cells #[.slice pM nM cM] 34) = w0 := ⟨_, rfl⟩
  have hb0 : Below w.heap.size w w0 := by rw [← hw0]; exact (lit_below' w _).alloc (by simp) _
  have HB0 := Lib.hid hb0
  have hbx : w0.heap[w.heap.size]? = some (.cells #[.slice pL nL cL] 34 (0, 0)) ∧ w0.heap[w.heap.size + 1]? = some (.cells #[.slice pM nM cM] 34 (0, 0)) := by
    rw [← hw0]
    refine ⟨?_, ?_⟩
    · rw [((Below.refl (w.alloc (.cells #[.slice pL nL cL] 34)).heap.size _).alloc (Nat.le_refl _) _).block _ (by simp)]
      exact heap_alloc_new _ _
    · have h := heap_alloc_new (w.alloc (.cells #[.slice pL nL cL] 34)) (.cells #[.slice pM nM cM] 34)
      simpa using h
  have HCX : Hid (∀ wx, Below w0.heap.size w0 wx → wx.cell? ⟨w.heap.size, 0, none⟩ = some (.slice pL nL cL) ∧ wx.cell? ⟨w.heap.size + 1, 0, none⟩ = some (.slice pM nM cM)) := fun wx hx =>
    ⟨(one_at ((hx.block _ (Array.getElem?_eq_some_iff.1 hbx.1).1).trans hbx.1)).1, (one_at ((hx.block _ (Array.getElem?_eq_some_iff.1 hbx.2).1).trans hbx.2)).1⟩
  have HT : Hid (∀ wx, Below w0.heap.size w0 wx → Below w.heap.size w wx) := fun wx hx => hb0.trans (hx.mono hb0.size)
  have HW0 := Lib.hid hw0
  have HEL := Lib.hid (fun k (h : errX L = k + 1) => chkE_L (M := M) (f := f) h)
  have HEM := Lib.hid (fun k (h0 : errX L = 0) (h : errX M = k + 1) => chkE_M (f := f) h0 h)
  have HE0 := Lib.hid (fun (h0 : errX L = 0) (h : errX M = 0) => chkE_0 (f := f) h0 h)
  have HL8 : Hid (errX L ≤ 8 ∧ errX M ≤ 8) := ⟨by have := errX_cases L; omega, by have := errX_cases M; omega⟩
  obtain ⟨r, hr⟩ : ∃ r, chkE L M f = r := ⟨_, rfl⟩
  rw [hr] at HEL HEM HE0 ⊢
  clear hS hB hu hv hn hl hm hk hf hfl hVL hVM hb0 hbx hw0 hnL hnM hnf hr
  unfold CheckP
  obtain ⟨kL, hkL⟩ : ∃ k, errX L = k := ⟨_, rfl⟩
  rw [hkL] at HVL
  have HKL := Lib.hid hkL
  obtain ⟨kM, hkM⟩ : ∃ k, errX M = k := ⟨_, rfl⟩
  rw [hkM] at HVM
  have HKM := Lib.hid hkM
  clear hkL hkM
  go_enter Tryz.func27, Tryz.ntmps27
  go_wp2_with fail
  rw [HW0.out]
  refine (HVL.out _ HB0.out).mono ?_
  rintro e w1 ⟨rfl, hb1⟩
  have HZ1 := Lib.hid hb1
  clear hb1
  cases kL with
  | succ k =>
    obtain rfl := HEL.out k HKL.out
    have hk8 : k < 8 := by have := HL8.out.1; have := HKL.out; omega
    have HEA := Lib.hid (sent_at (a := a) hk8 w1)
    rw [errV_succ]
    unfold errE
    unfold errE at HEA
    clear hk8 HEL HEM HE0 HVL HVM
    go_wp2_with fail
    go_ret
    exact ⟨_, rfl, HT.out _ HZ1.out, HEA.out⟩
  | zero =>
    rw [errV_0]
    obtain ⟨c1, c2⟩ := HCX.out _ HZ1.out
    have HV1 := Lib.hid (HVM.out _ (HT.out _ HZ1.out))
    clear HVL HVM HEL
    go_wp2_with fail
    refine HV1.out.mono ?_
    rintro e w2 ⟨rfl, hb2⟩
    have HZ2 := Lib.hid (HZ1.out.trans (hb2.mono HZ1.out.size))
    clear hb2 HV1 c1 c2
    cases kM with
    | succ k =>
      obtain rfl := HEM.out k HKL.out HKM.out
      have hk8 : k < 8 := by have := HL8.out.2; have := HKM.out; omega
      have HEA := Lib.hid (sent_at (a := a) hk8 w2)
      rw [errV_succ]
      unfold errE
      unfold errE at HEA
      clear hk8 HEM HE0
      go_wp2_with fail
      go_ret
      exact ⟨_, rfl, HT.out _ HZ2.out, HEA.out⟩
    | zero =>
      rw [errV_0]
      have hR := HE0.out HKL.out HKM.out
      obtain ⟨c1, c2⟩ := HCX.out _ HZ2.out
      obtain ⟨hflL, hvlL⟩ := right_small HKL.out
      obtain ⟨hflM, hvlM⟩ := right_small HKM.out
      have HVE := Lib.hid (vertices_any B L (.slice pL nL cL) w2 (HU.out _ (HT.out _ HZ2.out)) HLL.out.1 hflL)
      have HVE2 := Lib.hid (fun wx hx => vertices_any B M (.slice pM nM cM) wx (HV.out wx hx) HMM.out.1 hflM)
      unfold NumsP at HVE HVE2
      obtain ⟨V, hV⟩ : ∃ V, vertA L = V := ⟨_, rfl⟩
      obtain ⟨VB, hVB⟩ : ∃ V, vertA M = V := ⟨_, rfl⟩
      obtain ⟨nV, hnV⟩ : ∃ n, V.length = n := ⟨_, rfl⟩
      obtain ⟨nB, hnB⟩ : ∃ n, VB.length = n := ⟨_, rfl⟩
      rw [hV] at HVE hvlL hR
      rw [hVB] at HVE2 hvlM hR
      rw [hnV] at HVE hvlL
      rw [hnB] at HVE2 hvlM
      have HVV := Lib.hid hV
      have HVB := Lib.hid hVB
      have HNV := Lib.hid hnV
      have HNB := Lib.hid hnB
      have HBV := Lib.hid (And.intro hvlL hvlM)
      have HR := Lib.hid hR
      clear hR HEM HE0 hflL hflM hvlL hvlM hV hVB hnV hnB
      go_wp2_with fail
      refine HVE.out.mono ?_
      rintro e w3 ⟨pV, cV, rfl, hb3, hi3⟩
      have HZ3 := Lib.hid (HZ2.out.trans (hb3.mono HZ2.out.size))
      have HI3 := Lib.hid hi3
      clear hb3 hi3 HVE c1 c2
      by_cases hlen : nV = nf
      rotate_left
      · have q1 : ((nf : Int) != (nV : Int)) = true := by rw [bne_iff_ne]; omega
        have hg := (HS.out _ (HT.out _ HZ3.out)).g 2 (by decide)
        simp only [gnum] at hg
        have hE := mapE_len (V := V) (VB := VB) (f := f) (F := faceN (allF L)) (G := allF M) (by rw [HNV.out, HNF.out]; exact hlen)
        obtain rfl := HR.out.trans hE
        have HEA := Lib.hid (sent_at (a := a) (k := 2) (by decide) w3)
        unfold errE at HEA
        clear hlen hE
        go_wp2_with fail
        go_ret
        exact ⟨_, rfl, HT.out _ HZ3.out, HEA.out⟩
      · have q1 : ((nf : Int) != (nV : Int)) = false := by rw [bne_eq_false_iff_eq]; omega
        have HLE := Lib.hid hlen
        obtain ⟨c1, c2⟩ := HCX.out _ HZ3.out
        have HV2 := Lib.hid (HVE2.out _ (HT.out _ HZ3.out))
        clear hlen HVE2
        go_wp2_with fail
        refine HV2.out.mono ?_
        rintro e w4 ⟨pB, cB, rfl, hb4, hi4⟩
        have HZ34 := Lib.hid hb4
        have HZ4 := Lib.hid (HZ3.out.trans (hb4.mono HZ3.out.size))
        have HI4 := Lib.hid hi4
        clear hb4 hi4 HV2 c1 c2 q1
        go_wp2_with fail
        go_loopw [41] (fun i wr => ∃ j : Nat, j ≤ nf ∧ i = .int .i64 (j : Int) ∧ w4 = wr ∧ ∀ t, t < j → f.getD t 0 ∈ VB) (fun i _ => nf - (intOf i).toNat)
        case atStart => exact ⟨0, Nat.zero_le _, rfl, rfl, fun t ht => absurd ht (Nat.not_lt_zero t)⟩
        case round =>
          obtain ⟨j, hj, rfl, rfl, hin⟩ := hrel
          have HIN := Lib.hid hin
          by_cases hjn : j < nf
          · obtain ⟨b1, o1, c1', e1, e2⟩ := ints_cell (HF.out _ (HT.out _ HZ4.out)) j (by rw [HNF.out]; exact hjn)
            rw [HNF.out] at e1
            obtain ⟨rfl, rfl⟩ : pf = some ⟨b1, o1, none⟩ ∧ cf = c1' := by cases e1; exact ⟨rfl, rfl⟩
            obtain ⟨x, hx⟩ : ∃ x, f.getD j 0 = x := ⟨_, rfl⟩
            rw [hx] at e2
            have HX := Lib.hid hx
            have HCO := Lib.hid (slContains_any VB (.slice pB nB cB) x w4 HI4.out.at (by rw [HNB.out]; have := HBV.out.2; omega))
            unfold Same at HCO
            by_cases hmem : x ∈ VB
            · rw [decide_eq_true hmem] at HCO
              have HME := Lib.hid hmem
              have hnf1 := HFL.out
              clear e1 hin hx hmem
              go_wp2_with fail
              refine HCO.out.mono ?_
              rintro e wq ⟨rfl, hq⟩
              rw [hq]
              clear hq wq
              go_wp2_with fail
              go_roundw
              case rel =>
                refine ⟨j + 1, hjn, by go_num, ?_, ?_⟩
                · first | rfl | trivial
                · intro t ht
                  rcases (show t < j ∨ t = j by omega) with h | rfl
                  · exact HIN.out t h
                  · rw [HX.out]; exact HME.out
              case measure => simp [intOf]; omega
            · rw [decide_eq_false hmem] at HCO
              have hE := mapE_face (V := V) (VB := VB) (f := f) (F := faceN (allF L)) (G := allF M) (i := j) (by rw [HNV.out, HNF.out]; exact HLE.out) (by rw [HNF.out]; exact hjn) HIN.out (by rw [HX.out]; exact hmem)
              obtain rfl := HR.out.trans hE
              have hg := (HS.out _ (HT.out _ HZ4.out)).g 3 (by decide)
              simp only [gnum] at hg
              clear e1 hin hx hmem hE
              go_wp2_with fail
              refine HCO.out.mono ?_
              rintro e wq ⟨rfl, hq⟩
              rw [hq]
              clear hq wq
              go_wp2_with fail
              go_ret
              have hz := (HT.out _ HZ4.out).size
              exact ⟨_, rfl, (HT.out _ HZ4.out).alloc hz _, fault_at (k := 3) (by decide) (heap_alloc_new _ _)⟩
          · obtain rfl : nf = j := by omega
            have hall : ∀ x ∈ f, x ∈ VB := fun x hx => by
              obtain ⟨t, ht, rfl⟩ := List.getElem_of_mem hx
              rw [← getD_elem ht]
              exact HIN.out t (by rw [← HNF.out]; exact ht)
            have HALL := Lib.hid hall
            obtain ⟨c1, c2⟩ := HCX.out _ HZ4.out
            have HTB := Lib.hid (table_ok a B L (.slice pL nL cL) w4 (HS.out _ (HT.out _ HZ4.out)) (Nat.le_trans HBB.out (HT.out _ HZ4.out).size) (HU.out _ (HT.out _ HZ4.out)) HLL.out.1 HLL.out.2 HKL.out)
            unfold TabPost at HTB
            clear hall hin
            go_wp2_with fail
            refine HTB.out.mono ?_
            rintro e w5 ⟨hb5, ⟨h0, vt, rfl, hT⟩ | ⟨k, hk, hek, rfl⟩⟩
            rotate_left
            · have := HKL.out; omega
            have HZ45 := Lib.hid hb5
            have HZ5 := Lib.hid (HZ4.out.trans (hb5.mono HZ4.out.size))
            have HT5 := Lib.hid hT.tab
            obtain ⟨hF1, hF2, hF3, hF4, hF5⟩ := faceN_small HKL.out
            obtain ⟨pt, ct, hte, -⟩ := hT.tab
            obtain ⟨nt, hnt⟩ : ∃ nt, (tableF (allF L)).length = nt := ⟨_, rfl⟩
            rw [hnt] at hte hF5
            subst hte
            have HCA := Lib.hid (catR_any B (tableF (allF L)) (.slice pt nt ct) w5 (Nat.le_trans HBB.out (HT.out _ HZ5.out).size) HT5.out (by rw [hnt]; omega) (by show (faceN (allF L)).length ≤ _; omega))
            have hfl : (tableF (allF L)).flatten = faceN (allF L) := rfl
            rw [hfl] at HCA
            unfold ListPost at HCA
            obtain ⟨F, hFF⟩ : ∃ F, faceN (allF L) = F := ⟨_, rfl⟩
            rw [hFF] at HCA hF1 hF2 hF3 hF4
            have hR2 := HR.out
            rw [hFF] at hR2
            rw [HVV.out] at hF4
            have HR2 := Lib.hid hR2
            have HF2 := Lib.hid hF2
            have HF3 := Lib.hid hF3
            have HF4 := Lib.hid hF4
            obtain ⟨nF, hnF⟩ : ∃ n, F.length = n := ⟨_, rfl⟩
            rw [hnF] at hF1
            have HNFF := Lib.hid hnF
            clear hb5 hT h0 hnt hF2 hF3 hF4 hfl hFF hR2 hnF HTB c1 c2
            go_wp2_with fail
            refine HCA.out.mono ?_
            rintro e w6 ⟨v6, rfl, hb6, hR6⟩
            have HZ6 := Lib.hid (HZ5.out.trans (hb6.mono HZ5.out.size))
            have HL6 := Lib.hid (hR6.lists (B := B))
            obtain ⟨p6, c6, hve, -⟩ := id hR6.lists
            rw [HNFF.out] at hve
            subst hve
            have hI3 : IntsIn B w6 (.slice pV nV cV) V := HI3.out.below (HZ34.out.trans (HZ45.out.trans (hb6.mono HZ45.out.size) |>.mono HZ34.out.size)) (Nat.le_refl _)
            have HI6 := Lib.hid hI3
            have HF6 := Lib.hid (HF.out _ (HT.out _ HZ6.out))
            clear hb6 hR6 hI3 HCA
            have HIM := Lib.hid (fun wx (hx : Below w6.heap.size w6 wx) (x : List Int) px nx cx (hxx : IntsIn B wx (.slice px nx cx) x) (h1 : ∀ y ∈ x, y ∈ V) (h2 : x.length ≤ 1000) => image_any B V f x (.slice pV nV cV) (.slice pf nf cf) (.slice px nx cx) wx (HI6.out.below hx (Nat.le_refl _)).at (HF6.out.below hx (Nat.le_refl _)).at hxx.at (by rw [← HVV.out]; exact rise_setL _) (by rw [HNF.out, HNV.out]; exact HLE.out.symm) h1 (by rw [HNV.out]; exact HBV.out.1) h2)
            have HST := Lib.hid (fun wx (x : List Int) v (hxx : IntsIn B wx v x) (h1 : 0 < x.length) (h2 : x.length ≤ 100000) => set_any B x v wx hxx.at h1 h2)
            have HHA := Lib.hid (fun wx (hx : Below w6.heap.size w6 wx) (x : List Int) v (hxx : IntsIn B wx v x) (h2 : x.length ≤ 100000) => Has_any a B M x (.slice pM nM cM) v wx ((HS.out _ (HT.out _ HZ6.out)).below hx (Nat.le_refl _)) (Nat.le_trans HBB.out (Nat.le_trans (HT.out _ HZ6.out).size hx.size)) ((HV.out _ (HT.out _ HZ6.out)).below hx (Nat.le_refl _)) hxx.at HMM.out.1 HMM.out.2 h2)
            have HC6 : Hid (∀ wx, Below w6.heap.size w6 wx → wx.cell? ⟨w.heap.size + 1, 0, none⟩ = some (.slice pM nM cM)) := fun wx hx => (HCX.out wx (HZ6.out.trans (hx.mono HZ6.out.size))).2
            unfold NumsP at HIM HST
            unfold FacPost at HHA
            have hnF1 := Lib.hid hF1
            go_wp2_with fail
            go_loopw [64] (fun i wr => ∃ j : Nat, j ≤ nF ∧ i = .int .i64 (j : Int) ∧ Below w6.heap.size w6 wr ∧ ∀ t, t < j → setL (imgF V f (F.getD t [])) ∈ allF M) (fun i _ => nF - (intOf i).toNat)
            case atStart => exact ⟨0, Nat.zero_le _, rfl, Below.refl _ _, fun t ht => absurd ht (Nat.not_lt_zero t)⟩
            case round =>
              obtain ⟨j, hj, rfl, hb, hin⟩ := hrel
              have HIN := Lib.hid hin
              have HZR := Lib.hid hb
              by_cases hjn : j < nF
              · have hjl : j < F.length := by rw [HNFF.out]; exact hjn
                obtain ⟨bF, oF, cF', hve⟩ := (HL6.out.below hb (Nat.le_refl _)).form (by omega)
                rw [HNFF.out] at hve
                obtain ⟨rfl, rfl⟩ : p6 = some ⟨bF, oF, none⟩ ∧ c6 = cF' := by cases hve; exact ⟨rfl, rfl⟩
                obtain ⟨px, cx, hcx, hix⟩ := cells_at (HL6.out.below hb (Nat.le_refl _)) j hjl
                have hxm := getL_mem hjl
                have h7 := HF2.out _ hxm
                have hne := HF3.out _ hxm
                have hVx := HF4.out _ hxm
                obtain ⟨x, hx⟩ : ∃ x, F.getD j [] = x := ⟨_, rfl⟩
                rw [hx] at hcx hix h7 hne hVx
                obtain ⟨nx, hnx⟩ : ∃ n, x.length = n := ⟨_, rfl⟩
                rw [hnx] at hcx hix h7
                have hp : 0 < x.length := List.length_pos_iff.2 hne
                have hil : (imgF V f x).length = nx := by rw [imgF_len]; exact hnx
                have hsl := setL_len (imgF V f x)
                rw [hil] at hsl
                have hbd : Below w6.heap.size w6 wr.drew := hb.drew
                have hIM := HIM.out wr.drew hbd x px nx cx (hix.below (Below.refl wr.heap.size wr).drew (Nat.le_refl _)) hVx (by omega)
                rw [hil] at hIM
                have hSTf := fun wx v hv => HST.out wx (imgF V f x) v hv (by rw [hil]; omega) (by rw [hil]; omega)
                have hHAf := fun wx hb v hv => HHA.out wx hb (setL (imgF V f x)) v hv (by omega)
                obtain ⟨r, hr⟩ : ∃ r, hasB M (setL (imgF V f x)) = r := ⟨_, rfl⟩
                rw [hr] at hHAf
                have HRR : Hid (r = true ↔ setL (imgF V f x) ∈ allF M) := by unfold Hid; rw [← hr]; exact hasB_iff HKM.out _
                have hHG : ∀ wx (hb : Below w6.heap.size w6 wx) v (hv : IntsIn B wx v (setL (imgF V f x))), Calls Tryz.prog 64 #[.agg #[.slice pM nM cM], v] wx fun e w' => e = .returned (.tuple #[.bool r, .nilIface]) ∧ Below wx.heap.size wx w' := fun wx hb v hv => (hHAf wx hb v hv).mono fun e w' ⟨hb', h⟩ => by
                  rcases h with ⟨-, v', rfl, rfl⟩ | ⟨k, hk, hek, -⟩
                  · exact ⟨rfl, hb'⟩
                  · have := HKM.out; omega
                obtain ⟨s, hs⟩ : ∃ s, setL (imgF V f x) = s := ⟨_, rfl⟩
                obtain ⟨im, him⟩ : ∃ im, imgF V f x = im := ⟨_, rfl⟩
                rw [him] at hIM hSTf hs
                rw [him, hs] at HRR
                rw [hs] at hSTf
                rw [him, hs] at hHG
                obtain ⟨ns, hns⟩ : ∃ n, s.length = n := ⟨_, rfl⟩
                rw [hns] at hSTf
                have HIM1 := Lib.hid hIM
                have HST1 := Lib.hid hSTf
                have HHA1 := Lib.hid hHG
                have HXX := Lib.hid hx
                have HSS : Hid (setL (imgF V f x) = s) := by unfold Hid; rw [him]; exact hs
                have hs0 := HC6.out _ hbd
                have HSZ := Lib.hid hbd
                clear hve hix hxm h7 hne hVx hx hnx hp hil hsl hIM hSTf hHAf hHG hr hs him hns hin hb hbd
                go_wp2_with fail
                go_region_held3 (fun wx => wx.cell? ⟨w.heap.size + 1, 0, none⟩ = some (.slice pM nM cM)) (first | assumption)
                  (first
                    | (go_at_call 66; refine HIM1.out.mono ?_; rintro e wa ⟨pa, ca, rfl, hba, hia⟩; have hzA := HSZ.out.trans (hba.mono HSZ.out.size); have hsA := HC6.out _ hzA)
                    | (go_at_call 65; refine (HST1.out _ _ hia).mono ?_; rintro e wb ⟨pb, cb, rfl, hbb, hib⟩; have hzB := hzA.trans (hbb.mono hzA.size); have hsB := HC6.out _ hzB)
                    | (go_at_call 64; refine (HHA1.out _ hzB _ hib).mono ?_; rintro e wc ⟨rfl, hbc⟩; have hzC := hzB.trans (hbc.mono hzB.size); have hsC := HC6.out _ hzC))
                have HZC := Lib.hid hzC
                clear hsA hsB hsC hia hib hba hbb hbc hzA hzB hzC
                cases r with
                | true =>
                  have hme := HRR.out.1 rfl
                  have HME := Lib.hid hme
                  have hnf1 := hnF1.out
                  clear hme
                  go_wp2_with fail
                  go_roundw
                  case rel =>
                    refine ⟨j + 1, hjn, by go_num, HZC.out, ?_⟩
                    intro t ht
                    rcases (show t < j ∨ t = j by omega) with h | rfl
                    · exact HIN.out t h
                    · rw [HXX.out, HSS.out]; exact HME.out
                  case measure => simp [intOf]; omega
                | false =>
                  have hE := mapE_ord (V := V) (VB := VB) (f := f) (F := F) (G := allF M) (i := j) (by rw [HNV.out, HNF.out]; exact HLE.out) HALL.out (by rw [HNFF.out]; exact hjn) HIN.out (by rw [HXX.out, HSS.out]; intro h; have := HRR.out.2 h; cases this)
                  obtain rfl := HR2.out.trans hE
                  have hbz := HT.out _ (HZ6.out.trans (HZC.out.mono HZ6.out.size))
                  have HBZ := Lib.hid hbz
                  have hg := (HS.out _ hbz).g 6 (by decide)
                  simp only [gnum] at hg
                  clear hE hbz
                  go_wp2_with fail
                  go_ret
                  exact ⟨_, rfl, HBZ.out.alloc HBZ.out.size _, fault_at (k := 6) (by decide) (heap_alloc_new _ _)⟩
              · obtain rfl : nF = j := by omega
                have hE := mapE_ok (V := V) (VB := VB) (f := f) (F := F) (G := allF M) (by rw [HNV.out, HNF.out]; exact HLE.out) HALL.out (fun x hx => by
                  obtain ⟨t, ht, rfl⟩ := List.getElem_of_mem hx
                  have h := HIN.out t (by rw [← HNFF.out]; exact ht)
                  rwa [List.getD_eq_getElem?_getD, List.getElem?_eq_getElem ht] at h)
                obtain rfl := HR2.out.trans hE
                have HBZ := Lib.hid (HT.out _ (HZ6.out.trans (hb.mono HZ6.out.size)))
                clear hE hin hb
                go_wp2_with fail
                go_ret
                exact ⟨_, rfl, HBZ.out, ErrAt.nil a _⟩

set_option maxRecDepth 100000 in
set_option maxHeartbeats 8000000 in
theorem fixed1_any (B b1 b2 : Nat) (V f x : List Int) (va vf u : Value) (w : World) (hc1 : w.cell? ⟨b1, 0, none⟩ = some va) (hc2 : w.cell? ⟨b2, 0, none⟩ = some vf) (hV : IntsAt w va V) (hf : IntsAt w vf f) (hu : IntsIn B w u x)
    (hr : Rise V) (hlen : f.length = V.length) (hin : ∀ y ∈ x, y ∈ V) (hVn : V.length ≤ 100000) (hp : 0 < x.length) (hxn : x.length ≤ 1000) :
    Calls Tryz.prog 69 #[u, .pointer (some ⟨b1, 0, none⟩), .pointer (some ⟨b2, 0, none⟩)] w (fun e w' => e = .returned (.bool (!decide (setL (imgF V f x) = x))) ∧ Below w.heap.size w w') := by
  have hil : (imgF V f x).length = x.length := imgF_len V f x
  have hsl := setL_len (imgF V f x)
  have HIM := Lib.hid (image_any B V f x va vf u w hV hf hu.at hr hlen hin hVn hxn)
  have HST := Lib.hid (fun wx v (hv : IntsIn B wx v (imgF V f x)) => set_any B (imgF V f x) v wx hv.at (by omega) (by omega))
  have HEQ := Lib.hid (fun wx v (hx : Below w.heap.size w wx) (hv : IntsIn B wx v (setL (imgF V f x))) => slEqual_any v u (setL (imgF V f x)) x wx hv.at (hu.below hx (Nat.le_refl _)).at (by omega) (by omega))
  unfold NumsP at HIM HST
  obtain ⟨r, hr⟩ : ∃ r, decide (setL (imgF V f x) = x) = r := ⟨_, rfl⟩
  rw [hr] at HEQ ⊢
  obtain ⟨pv, cv, rfl⟩ := hV.in.len
  obtain ⟨pf, cf, rfl⟩ := hf.in.len
  obtain ⟨pu, cu, rfl⟩ := hu.len
  generalize V.length = nV at hc1 HIM
  generalize f.length = nf at hc2 HIM
  generalize x.length = nx at HIM HEQ
  generalize imgF V f x = im at HIM HST HEQ
  generalize setL im = s at HST HEQ
  clear hV hf hu hlen hin hVn hp hxn hil hsl hr
  go_enter Tryz.func69, Tryz.ntmps69
  go_wp2_with fail
  refine HIM.out.mono ?_
  rintro e w1 ⟨p1, c1, rfl, hb1, hi1⟩
  have HB1 := Lib.hid hb1
  have HS1 := Lib.hid (HST.out w1 _ hi1)
  clear hb1 hi1
  go_wp2_with fail
  refine HS1.out.mono ?_
  rintro e w2 ⟨p2, c2, rfl, hb2, hi2⟩
  have HB2 := Lib.hid (HB1.out.trans (hb2.mono HB1.out.size))
  have HE2 := Lib.hid (HEQ.out w2 _ HB2.out hi2)
  clear hb2 hi2
  go_wp2_with fail
  refine HE2.out.mono ?_
  rintro e w3 ⟨rfl, nd, rfl⟩
  go_wp2_with fail
  go_ret
  exact ⟨rfl, HB2.out.trans ((Below.drewN w2 nd).mono HB2.out.size)⟩

/-- the first one that the closure wants -/
def FirstL (p : List Int → Bool) (L : List (List Int)) (w : World) (e : Ending) (w' : World) : Prop :=
  Below w.heap.size w w' ∧ ((e = .returned (.int .i64 (-1)) ∧ ∀ k, k < L.length → p (L.getD k []) = false) ∨ ∃ r : Nat, r < L.length ∧ e = .returned (.int .i64 r) ∧ p (L.getD r []) = true ∧ ∀ k, k < r → p (L.getD k []) = false)
def FnX (B : Nat) (w0 : World) (c1 c2 : Value) (p : List Int → Bool) (L : List (List Int)) : Prop := ∀ w, Below w0.heap.size w0 w → ∀ u xs, IntsIn B w u xs → xs ∈ L → Calls Tryz.prog 69 #[u, c1, c2] w (fun e w' => e = .returned (.bool (p xs)) ∧ Below w.heap.size w w')

set_option maxRecDepth 100000 in
set_option maxHeartbeats 8000000 in
theorem firstL_any (B : Nat) (w0 : World) (c1 c2 : Value) (p : List Int → Bool) (L : List (List Int)) (v : Value) (w : World) (hw : Below w0.heap.size w0 w) (hf : FnX B w0 c1 c2 p L) (hv : ListsIn B w v L) (hn : L.length ≤ 1000000) :
    Calls Tryz.prog 103 #[v, .func (.func 69) #[] #[c1, c2]] w (FirstL p L w) := by
  obtain ⟨pv, cv, hve, -⟩ := id hv
  obtain ⟨n, hLn⟩ : ∃ n, L.length = n := ⟨_, rfl⟩
  unfold FirstL
  rw [hLn] at hve hn ⊢
  subst hve
  have HLN := Lib.hid hLn
  have HV := Lib.hid hv
  have HF := Lib.hid hf
  have HW := Lib.hid hw
  unfold FnX at HF
  clear hLn hv hf hw
  go_enter Tryz.func103, Tryz.ntmps103
  go_wp2_with fail
  go_loopw [5, 8] (fun _ i wr => ∃ j : Nat, j ≤ n ∧ i = .int .i64 j ∧ Below w.heap.size w wr ∧ ∀ k, k < j → p (L.getD k []) = false) (fun _ i _ => n - (intOf i).toNat)
  case atStart => exact ⟨0, Nat.zero_le _, rfl, Below.refl _ _, fun k h => absurd h (by omega)⟩
  case round =>
    obtain ⟨j, hj, rfl, hb, hno⟩ := hrel
    have HB := Lib.hid hb
    have HNO := Lib.hid hno
    have hIA := HV.out.below hb (Nat.le_refl _)
    clear hb hno
    by_cases hjn : j < n
    · have hjL : j < L.length := by rw [HLN.out]; exact hjn
      obtain ⟨b, off, c', hve⟩ := hIA.form (by omega)
      rw [HLN.out] at hve
      obtain ⟨rfl, rfl⟩ : pv = some ⟨b, off, none⟩ ∧ cv = c' := by cases hve; exact ⟨rfl, rfl⟩
      obtain ⟨px, cx, hcx, hix⟩ := cells_at hIA j hjL
      have HC := Lib.hid (HF.out wr (HW.out.trans (HB.out.mono HW.out.size)) _ (L.getD j []) hix (getL_mem hjL))
      obtain ⟨x, hxx⟩ : ∃ x, L.getD j [] = x := ⟨_, rfl⟩
      rw [hxx] at hcx HC
      obtain ⟨r, hr⟩ : ∃ r, p x = r := ⟨_, rfl⟩
      rw [hr] at HC
      generalize x.length = nx at hcx HC
      have HX := Lib.hid hxx
      have HR := Lib.hid hr
      clear hix hxx hr hIA hjL hve
      cases r with
      | true =>
        go_wp2_with fail
        refine HC.out.mono ?_
        rintro e w1 ⟨rfl, hb1⟩
        have HB1 := Lib.hid (HB.out.trans (hb1.mono HB.out.size))
        clear hb1
        go_wp2_with fail
        go_ret
        exact ⟨HB1.out, Or.inr ⟨j, hjn, rfl, by rw [HX.out]; exact HR.out, HNO.out⟩⟩
      | false =>
        go_wp2_with fail
        refine HC.out.mono ?_
        rintro e w1 ⟨rfl, hb1⟩
        have HB1 := Lib.hid (HB.out.trans (hb1.mono HB.out.size))
        clear hb1
        go_wp2_with fail
        go_roundw
        case rel =>
          refine ⟨j + 1, by omega, by go_num, HB1.out, fun k hk => ?_⟩
          rcases (show k < j ∨ k = j by omega) with h | rfl
          · exact HNO.out k h
          · rw [HX.out]; exact HR.out
        case measure => simp [intOf]; omega
    · obtain rfl : n = j := by omega
      go_wp2_with fail
      go_ret
      exact ⟨HB.out, Or.inl ⟨rfl, HNO.out⟩⟩

theorem blk_at3 {w : World} {b : Nat} {cs : Array Value} {t : TypeId} (h : w.heap[b]? = some (.cells cs t (0, 0))) (k : Nat) : w.cell? ⟨b, k, none⟩ = cs[k]? ∧ w.frozen? ⟨b, k, none⟩ = false :=
  ⟨cell_of_row w b k cs t (0, 0) h, frozen_of_row w b k cs t h⟩
/-- the row of faces while it is thinned out -/
def DelR (B : Nat) (w0 wr : World) (g n cap : Nat) (p : List Int → Bool) (x : List (List Int)) (i j : Nat) : Prop :=
  Below w0.heap.size w0 wr ∧ ∃ Ls : List (List Int), Ls.length = n ∧ RowsO w0.heap.size B wr (.slice (some ⟨g, 0, none⟩) n cap) Ls ∧ Ls.take i = (x.take j).filter (fun z => !p z) ∧ Ls.drop j = x.drop j ∧ i ≤ j ∧ j ≤ n
theorem dropL_at {l m : List (List Int)} {j : Nat} (h : l.drop j = m.drop j) : l.getD j [] = m.getD j [] := by
  have := congrArg (fun z : List (List Int) => z.getD 0 []) h
  simpa [List.getD_eq_getElem?_getD] using this
theorem dropL_succ {l m : List (List Int)} {j : Nat} (h : l.drop j = m.drop j) : l.drop (j + 1) = m.drop (j + 1) := by
  have := congrArg (fun z : List (List Int) => z.drop 1) h
  simpa [List.drop_drop, Nat.add_comm] using this
theorem takeL_set_snoc {ys : List (List Int)} {i : Nat} {z : List Int} (h : i < ys.length) : (ys.set i z).take (i + 1) = ys.take i ++ [z] := by
  rw [take_snoc_getD [] _ i (by simpa using h), getD_set_same h]
  congr 1
  rw [List.take_set_of_le (Nat.le_refl _)]
theorem dropL_set_lt {ys : List (List Int)} {i j : Nat} {z : List Int} (h : i < j) : (ys.set i z).drop j = ys.drop j := by rw [List.drop_set_of_lt h]
theorem setC_blk {g : Nat} {t : TypeId} : ∀ (vs : List Value) (o : Nat) (w : World) (cs : Array Value), w.heap[g]? = some (.cells cs t (0, 0)) → ∃ cs', (w.setCells g o vs).heap[g]? = some (.cells cs' t (0, 0))
  | [], _, _, cs, h => ⟨cs, h⟩
  | v :: vs, o, w, cs, h => setC_blk vs (o + 1) (w.setCell ⟨g, o, none⟩ v) _ (set_block h)
theorem setC_below {B g : Nat} (hg : B ≤ g) : ∀ (vs : List Value) (o : Nat) (w0 w : World), Below B w0 w → Below B w0 (w.setCells g o vs)
  | [], _, _, _, h => h
  | v :: vs, o, w0, w, h => setC_below hg vs (o + 1) w0 _ (h.setCell hg v)
theorem setC_grown {g : Nat} : ∀ (vs : List Value) (o : Nat) (w0 w : World), w0.grownBy w (some g) → w0.grownBy (w.setCells g o vs) (some g)
  | [], _, _, _, h => h
  | v :: vs, o, w0, w, h => setC_grown vs (o + 1) w0 _ ⟨h.os, h.tape, h.output, by simp [World.setCell]; exact h.size, fun k hk hr => (Below.heap_setCell _ _ _ _ (fun e => hr (by simp [e]))).trans (h.block k hk hr)⟩
theorem grown_refl (w : World) (g : Nat) : w.grownBy w (some g) := ⟨rfl, rfl, rfl, Nat.le_refl _, fun _ _ _ => rfl⟩
theorem filt_stepL {p : List Int → Bool} {x : List (List Int)} {j : Nat} (h : j < x.length) : (x.take (j + 1)).filter (fun z => !p z) = (x.take j).filter (fun z => !p z) ++ (if p (x.getD j []) = true then [] else [x.getD j []]) := by
  rw [take_snoc_getD [] x j h, List.filter_append, List.filter_cons, List.filter_nil]
  cases p (x.getD j []) <;> simp
/-- a header is stored in a row of headers -/
theorem rowsO_store {O B g n cap : Nat} {w : World} {L : List (List Int)} {y : Value} {z : List Int} {i : Nat} (hB : B ≤ O) (h : RowsO O B w (.slice (some ⟨g, 0, none⟩) n cap) L) (hy : IntsIn B w y z) (hi : i < L.length) (hn : L.length = n) :
    RowsO O B (w.setCell ⟨g, i, none⟩ y) (.slice (some ⟨g, 0, none⟩) n cap) (L.set i z) := by
  subst hn
  obtain ⟨hs, h1, h2, h3⟩ := h
  have hst := h1.stored i y
  have hr := row_other h1 hB
  refine ⟨hs.set i y, by rw [List.length_set]; exact hst.1, by rw [List.length_set, List.length_set]; exact h2, fun k hk => ?_⟩
  rw [List.length_set] at hk
  by_cases hik : i = k
  · subst hik
    rw [getD_set_same (by omega), getD_set_same hi]
    exact hy.grown hst.2 hr
  · rw [getD_set_other hik, getD_set_other hik]
    exact (h3 k hk).grown hst.2 hr

set_option maxRecDepth 100000 in
set_option maxHeartbeats 16000000 in
theorem delR_any (B : Nat) (w0 w : World) (c1 c2 : Value) (p : List Int → Bool) (x : List (List Int)) (v : Value) (hB : B ≤ w0.heap.size) (hb : Below w0.heap.size w0 w) (hf : FnX B w0 c1 c2 p x) (ho : RowsO w0.heap.size B w v x) (hx : x.length ≤ 1000) :
    Calls Tryz.prog 68 #[v, .func (.func 69) #[] #[c1, c2]] w (fun e w' => Below w0.heap.size w0 w' ∧ ∃ v', e = .returned v' ∧ ListsIn B w' v' (x.filter fun z => !p z)) := by
  have HFI := Lib.hid (firstL_any B w0 c1 c2 p x v w hb hf ho.lists (by omega))
  unfold FirstL at HFI
  obtain ⟨pv, cv, hve, -⟩ := id ho.lists
  obtain ⟨n, hxn⟩ : ∃ n, x.length = n := ⟨_, rfl⟩
  rw [hxn] at hve HFI hx
  subst hve
  have HB := Lib.hid hb
  have HO := Lib.hid ho
  have HXN := Lib.hid hxn
  have HBB := Lib.hid hB
  have HF := Lib.hid hf
  unfold FnX at HF
  clear hb hf ho hxn hB
  go_enter Tryz.func68, Tryz.ntmps68
  go_wp2_with fail
  refine HFI.out.mono ?_
  rintro e w1 ⟨hb1, ⟨rfl, hno⟩ | ⟨r, hr, rfl, hpr, hno⟩⟩
  · have HM : Hid (x.filter (fun z => !p z) = x) := List.filter_eq_self.2 fun z hz => by
      obtain ⟨k, hk, rfl⟩ := List.getElem_of_mem hz
      have := hno k (by rw [← HXN.out]; exact hk)
      rw [List.getD_eq_getElem?_getD, List.getElem?_eq_getElem hk] at this
      simpa using this
    have HL1 := Lib.hid (HO.out.lists.below hb1 (Nat.le_refl _))
    have HB1 := Lib.hid (HB.out.trans (hb1.mono HB.out.size))
    clear hno hb1
    go_wp2_with fail
    go_ret
    exact ⟨HB1.out, _, rfl, by rw [HM.out]; exact HL1.out⟩
  · have hstart : (x.take (r + 1)).filter (fun z => !p z) = x.take r := by
      rw [filt_stepL (by rw [HXN.out]; exact hr), if_pos hpr, List.append_nil]
      refine List.filter_eq_self.2 fun z hz => ?_
      obtain ⟨k, hk, rfl⟩ := List.getElem_of_mem hz
      rw [List.length_take] at hk
      have := hno k (by omega)
      rw [List.getD_eq_getElem?_getD, List.getElem?_eq_getElem (by omega)] at this
      simpa using this
    have hO1 := HO.out.below hb1 (Nat.le_refl _)
    obtain ⟨g, rfl⟩ : ∃ g, pv = some ⟨g, 0, none⟩ := by
      obtain ⟨hs, h1, -⟩ := hO1
      obtain ⟨g, cap, e⟩ := Joins.ownsRow_form h1 (by rw [HXN.out]; omega)
      cases e
      exact ⟨g, rfl⟩
    have hgO : w0.heap.size ≤ g := by
      obtain ⟨hs, h1, -⟩ := hO1
      exact (h1.lt g rfl).1
    have HST : Hid (DelR B w0 w1 g n cv p x r (r + 1)) := ⟨HB.out.trans (hb1.mono HB.out.size), x, HXN.out, hO1, hstart.symm, rfl, by omega, by omega⟩
    clear hno hstart hpr hO1 hb1
    have hq1 : ((r : Int) == -1) = false := beq_eq_false_iff_ne.2 (by omega)
    go_wp2_with fail
    go_loopw [5, 6, 7] (fun i j _ wr => ∃ (i' j' : Nat), i' < j' ∧ i = .int .i64 i' ∧ j = .int .i64 j' ∧ DelR B w0 wr g n cv p x i' j') (fun _ j _ _ => n - (intOf j).toNat)
    case atStart => exact ⟨r, r + 1, by omega, rfl, by go_num, HST.out⟩
    case round =>
      obtain ⟨i', j', hij, rfl, rfl, hb, ys, hyl, hyo, hyt, hyd, -, hjn⟩ := hrel
      have HBW := Lib.hid hb
      have HYO := Lib.hid hyo
      have HYL := Lib.hid hyl
      have HYT := Lib.hid hyt
      have HYD := Lib.hid hyd
      by_cases hjn2 : j' < n
      · have hjx : j' < x.length := by rw [HXN.out]; exact hjn2
        obtain ⟨pz, cz, hcz, hiz⟩ := cells_at hyo.lists j' (by rw [hyl]; exact hjn2)
        rw [dropL_at hyd, Nat.zero_add] at hcz
        rw [dropL_at hyd] at hiz
        obtain ⟨py, cy, hcy, -⟩ := cells_at hyo.lists i' (by rw [hyl]; omega)
        rw [Nat.zero_add] at hcy
        have HTK := Lib.hid (filt_stepL (p := p) hjx)
        have HC := Lib.hid (HF.out wr hb _ (x.getD j' []) hiz (getL_mem hjx))
        obtain ⟨z, hz⟩ : ∃ z, x.getD j' [] = z := ⟨_, rfl⟩
        rw [hz] at hcz hiz HTK HC
        obtain ⟨nz, hnz⟩ : ∃ n, z.length = n := ⟨_, rfl⟩
        rw [hnz] at hcz hiz HC
        generalize (ys.getD i' []).length = ny at hcy
        obtain ⟨rb, hrb⟩ : ∃ rb, p z = rb := ⟨_, rfl⟩
        rw [hrb] at HC HTK
        have HIZ := Lib.hid hiz
        have HKZ := Lib.hid (fun W (hW : Below wr.heap.size wr W) => (hW.cell (p := ⟨g, j', none⟩) (lt_of_cell hcz)).trans hcz)
        have hblk : ∃ cur, wr.heap[g]? = some (.cells cur 23 (0, 0)) := by
          obtain ⟨hs, h1, -⟩ := hyo
          rcases h1.2 with ⟨e, _⟩ | ⟨g', cap', cur, e, _, hh, _⟩
          · cases e
          · cases e; exact ⟨cur, hh⟩
        have HBLK := Lib.hid hblk
        have HKY := Lib.hid (fun W (hW : Below wr.heap.size wr W) => (hW.cell (p := ⟨g, i', none⟩) (lt_of_cell hcy)).trans hcy)
        clear hblk hiz hz hnz hrb hb hyo hyl hyt hyd hjx hcy
        cases rb with
        | true =>
          go_wp2_with fail
          refine HC.out.mono ?_
          rintro e w5 ⟨rfl, hb5⟩
          have HB5 := Lib.hid (HBW.out.trans (hb5.mono HBW.out.size))
          have HY5 := Lib.hid (HYO.out.below hb5 (Nat.le_refl _))
          clear hb5
          go_wp2_with fail
          go_roundw
          case rel =>
            refine ⟨i', j' + 1, by omega, rfl, by go_num, HB5.out, ys, HYL.out, HY5.out, ?_, dropL_succ HYD.out, by omega, by omega⟩
            rw [HTK.out, if_pos (by trivial), List.append_nil]
            exact HYT.out
          case measure => simp [intOf]; omega
        | false =>
          go_wp2_with fail
          refine HC.out.mono ?_
          rintro e w5 ⟨rfl, hb5⟩
          have hy5 := HKY.out w5 hb5
          obtain ⟨cur, hcur⟩ := HBLK.out
          have hcur5 := (hb5.block g (Array.getElem?_eq_some_iff.1 hcur).1).trans hcur
          have hfz := (blk_at3 hcur5 i').2
          have HB5 := Lib.hid (HBW.out.trans (hb5.mono HBW.out.size))
          have HS5 := Lib.hid (rowsO_store HBB.out (HYO.out.below hb5 (Nat.le_refl _)) (HIZ.out.below hb5 (Nat.le_refl _)) (i := i') (by rw [HYL.out]; omega) HYL.out)
          have HS2 := Lib.hid (HB5.out.setCell (p := ⟨g, i', none⟩) hgO (.slice pz nz cz))
          clear hb5 hcur hcur5
          go_wp2_with fail
          go_roundw
          case rel =>
            refine ⟨i' + 1, j' + 1, by omega, by go_num, by go_num, HS2.out, ys.set i' z, by rw [List.length_set]; exact HYL.out, HS5.out, ?_, ?_, by omega, by omega⟩
            · rw [HTK.out, if_neg (by decide), takeL_set_snoc (by rw [HYL.out]; omega), HYT.out]
            · rw [dropL_set_lt (by omega)]; exact dropL_succ HYD.out
          case measure => simp [intOf]; omega
      · obtain rfl : n = j' := by omega
        have hblk : ∃ cur, wr.heap[g]? = some (.cells cur 23 (0, 0)) ∧ cur.size = cv := by
          obtain ⟨hs, h1, -⟩ := hyo
          rcases h1.2 with ⟨e, _⟩ | ⟨g', cap', cur, e, _, hh, _, _, hcs, _⟩
          · cases e
          · cases e; exact ⟨cur, hh, by omega⟩
        obtain ⟨cur, hcur, hcs⟩ := hblk
        have hnc : n ≤ cv := by
          obtain ⟨p', c', hv', hle, -⟩ := id hyo.lists
          cases hv'
          omega
        have hrf := run_from_lists g 0 n cv i' (by omega) wr
        rw [fromA_lt (by omega), Nat.zero_add] at hrf
        have hcl := Lib.run_clear_slice (P := Tryz.prog) wr 22 23 0 (.slice none 0 0) Tryz.underlying22 (fun w => zero_ints w) rfl rfl g i' (n - i') (cv - i') (by omega) (fun j hj => by rw [(blk_at3 hcur (i' + j)).1]; simp [hcs]; omega) (fun j hj => (blk_at3 hcur (i' + j)).2)
        obtain ⟨wf, hwf⟩ : ∃ wf, wf = wr.setCells g i' (List.replicate (n - i') (.slice none 0 0)) := ⟨_, rfl⟩
        have HBF : Hid (Below w0.heap.size w0 wf) := by unfold Hid; rw [hwf]; exact setC_below hgO _ _ _ _ hb
        have hxf : x.take n = x := List.take_of_length_le (by rw [HXN.out]; exact Nat.le_refl _)
        have hml : (x.filter fun z => !p z).length = i' := by rw [← hxf, ← hyt, List.length_take, hyl]; omega
        have HIF : Hid (ListsIn B wf (.slice (some ⟨g, 0, none⟩) i' cv) (x.filter fun z => !p z)) := by
          obtain ⟨cs', hcs'⟩ := setC_blk (List.replicate (n - i') (Value.slice none 0 0)) i' wr cur hcur
          rw [← hwf] at hcs'
          have hgr : wr.grownBy wf (some g) := by rw [hwf]; exact setC_grown _ _ _ _ (grown_refl wr g)
          have hBg : B ≤ g := Nat.le_trans HBB.out hgO
          refine ⟨_, cv, by rw [hml], by rw [hml]; omega, (fun e => by cases e), fun k hk => ?_⟩
          rw [hml] at hk
          obtain ⟨pk, ck, hck, hik⟩ := cells_at hyo.lists k (by rw [hyl]; omega)
          have hgl : (x.filter fun z => !p z).getD k [] = ys.getD k [] := by
            rw [← hxf, ← hyt, List.getD_eq_getElem?_getD, List.getD_eq_getElem?_getD, List.getElem?_take_of_lt hk]
          refine ⟨g, 0, .slice pk (ys.getD k []).length ck, rfl, ?_, ?_⟩
          · have h1 : wf.cell? ⟨g, 0 + k, none⟩ = wr.cell? ⟨g, 0 + k, none⟩ := by
              rw [hwf]
              exact World.cell?_setCells_out g _ i' wr ⟨g, 0 + k, none⟩ (fun _ _ => Or.inl (by show 0 + k < i'; omega))
            rw [h1]
            exact hck
          · rw [hgl]
            exact hik.grown hgr (fun k' e => by cases e; exact ⟨hBg, fun c e2 => by rw [hcur] at e2; cases e2⟩)
        have HWF := Lib.hid hwf
        clear hwf hb hyo hyl hyt hyd hcur hcs hxf hml
        go_wp2_with fail
        rw [← HWF.out]
        go_ret
        exact ⟨HBF.out, _, rfl, HIF.out⟩

/-- the sign after i whole rounds and j steps of the next -/
def sgP (l : List Int) (i j : Nat) : Int := sgN (invN (l.take i)) * sgN (((l.take j).filter fun b => decide (l.getD i 0 < b)).length)
theorem sgP_0 (l : List Int) (i : Nat) : sgP l i 0 = sgN (invN (l.take i)) := by unfold sgP; simp [sgN]
theorem sgP_all {l : List Int} {i : Nat} (h : i < l.length) : sgP l i i = sgN (invN (l.take (i + 1))) := by
  unfold sgP
  rw [take_snoc_getD 0 l i h, sgN_snoc]
theorem sgP_step {l : List Int} {i j : Nat} (h : j < l.length) : sgP l i (j + 1) = if l.getD i 0 < l.getD j 0 then - sgP l i j else sgP l i j := by
  unfold sgP
  rw [take_snoc_getD 0 l j h, filt_snoc]
  by_cases hc : l.getD i 0 < l.getD j 0
  · rw [if_pos hc, if_pos hc, sgN_succ, Int.mul_neg]
  · rw [if_neg hc, if_neg hc, Nat.add_zero]
theorem sgP_bd (l : List Int) (i j : Nat) : -1 ≤ sgP l i j ∧ sgP l i j ≤ 1 := by
  unfold sgP
  rcases sgN_bd (invN (l.take i)) with h | h <;> rcases sgN_bd (((l.take j).filter fun b => decide (l.getD i 0 < b)).length) with h2 | h2 <;> rw [h, h2] <;> decide
theorem run_upto_ints (b off m cap k : Nat) (hk : k ≤ m) (hc : m ≤ cap) (w : World) :
    (Instr.slice 23 (.slice (some ⟨b, off, none⟩) m cap) none (some (.int .i64 (k : Int))) none).run Tryz.prog w = .ok (.slice (some ⟨b, off, none⟩) k cap) w := by
  have h1 : (0 : Int) ≤ (k : Int) ∧ (k : Int) ≤ (cap : Int) := by omega
  have h2 : ¬ cap < k := by omega
  have h3 : (0 : Int) ≤ (cap : Int) := by omega
  by_cases hcz : cap = 0
  · simp [Instr.slice, Instr.sliceBounds, Instr.sliceBound, asIntOf, run_underlying Tryz.underlying23, h1, h2, h3, hcz]
    omega
  · simp [Instr.slice, Instr.sliceBounds, Instr.sliceBound, asIntOf, run_underlying Tryz.underlying23, h1, h2, h3, hcz, add_off, show k ≤ cap by omega]
set_option maxRecDepth 100000 in
set_option maxHeartbeats 8000000 in
theorem sign_any (l : List Int) (u : Value) (w : World) (hu : IntsAt w u l) (hn : l.length ≤ 1000) :
    Calls Tryz.prog 67 #[u] w (fun e w' => e = .returned (.int .i64 (sgN (invN l))) ∧ w' = w) := by
  obtain ⟨p, c, hue, hc, -, hx⟩ := id hu
  obtain ⟨n, hln⟩ : ∃ n, l.length = n := ⟨_, rfl⟩
  rw [hln] at hue hn hc hx
  subst hue
  have HN := Lib.hid hln
  have HC := Lib.hid hc
  have HX := Lib.hid hx
  clear hu hc hx hln
  go_enter Tryz.func67, Tryz.ntmps67
  go_wp2_with fail
  go_loopw [3, 10] (fun s i wr => ∃ j : Nat, j ≤ n ∧ i = .int .i64 j ∧ s = .int .i64 (sgN (invN (l.take j))) ∧ wr = w) (fun _ i _ => n - (intOf i).toNat)
  case atStart => exact ⟨0, Nat.zero_le _, rfl, rfl, rfl⟩
  case round =>
    obtain ⟨j, hj, rfl, rfl, rfl⟩ := hrel
    by_cases hjn : j < n
    · obtain ⟨b, off, e1, e2⟩ := HX.out j hjn
      subst e1
      have hcells : ∀ t, t < n → wr.cell? ⟨b, off + t, none⟩ = some (.int .i64 (l.getD t 0)) := fun t ht => by
        obtain ⟨b2, o2, e3, e4⟩ := HX.out t ht
        cases e3
        exact e4
      obtain ⟨x, hx⟩ : ∃ x, l.getD j 0 = x := ⟨_, rfl⟩
      rw [hx] at e2
      have HXX := Lib.hid hx
      have HCE := Lib.hid hcells
      have hsl := run_upto_ints b off n c j hj HC.out
      rw [← sgP_0 l j]
      clear hx hcells
      go_wp2_with fail
      go_loopw [3, 19] (fun s i wr2 => ∃ k : Nat, k ≤ j ∧ i = .int .i64 k ∧ s = .int .i64 (sgP l j k) ∧ wr2 = wr) (fun _ i _ => j - (intOf i).toNat)
      case atStart => exact ⟨0, Nat.zero_le _, rfl, rfl, rfl⟩
      case round =>
        obtain ⟨k, hk, rfl, rfl, rfl⟩ := hrel
        by_cases hkj : k < j
        · have hkn : k < n := by omega
          have hck := HCE.out k hkn
          have hst := sgP_step (l := l) (i := j) (j := k) (by rw [HN.out]; exact hkn)
          have hsb := sgP_bd l j k
          obtain ⟨y, hy⟩ : ∃ y, l.getD k 0 = y := ⟨_, rfl⟩
          obtain ⟨s, hs⟩ : ∃ s, sgP l j k = s := ⟨_, rfl⟩
          rw [hy] at hck hst
          rw [hs] at hst hsb ⊢
          rw [HXX.out] at hst
          by_cases hyx : x < y
          · rw [if_pos hyx] at hst
            have q1 : decide (y > x) = true := decide_eq_true hyx
            have q2 : decide (x < y) = true := decide_eq_true hyx
            have m1 : IntKind.i64.wrap (-s) = -s := IntWalk.i64_in _ (by omega)
            have HST := Lib.hid hst
            clear hst hsb hy hs hyx
            go_wp2_with fail
            go_roundw
            case rel => refine ⟨k + 1, hkj, by go_num, by rw [HST.out], ?_⟩; first | rfl | trivial
            case measure => simp [intOf]; omega
          · rw [if_neg hyx] at hst
            have q1 : decide (y > x) = false := decide_eq_false (by omega)
            have q2 : decide (x < y) = false := decide_eq_false hyx
            have HST := Lib.hid hst
            clear hst hsb hy hs hyx
            go_wp2_with fail
            go_roundw
            case rel => refine ⟨k + 1, hkj, by go_num, by rw [HST.out], ?_⟩; first | rfl | trivial
            case measure => simp [intOf]; omega
        · obtain rfl : k = j := by omega
          rw [sgP_all (by rw [HN.out]; exact hjn)]
          go_wp2_with fail
          go_roundw
          case rel => refine ⟨k + 1, hjn, by go_num, ?_, ?_⟩ <;> first | rfl | trivial
          case measure => simp [intOf]; omega
    · obtain rfl : j = n := by omega
      have hT : l.take j = l := by rw [← HN.out, List.take_length]
      rw [hT]
      go_wp2_with fail
      go_ret
      exact ⟨rfl, rfl⟩

def FixP (a : Nat → Addr) (B : Nat) (L : List (List Int)) (f : List Int) (w : World) (e : Ending) (w' : World) : Prop :=
  Below w.heap.size w w' ∧ (((chkE L L f).1 = 0 ∧ ∃ v, e = .returned (.tuple #[v, .nilIface]) ∧ ListsIn B w' v (fixF (vertA L) f (faceN (allF L)))) ∨
    ((chkE L L f).1 ≠ 0 ∧ ∃ x, e = .returned (.tuple #[.slice none 0 0, x]) ∧ ErrAt a w' x ((chkE L L f).1 : Int) (chkE L L f).2))
theorem chkE_ok {L M : List (List Int)} {f : List Int} (h : (chkE L M f).1 = 0) : errX L = 0 ∧ errX M = 0 ∧ (vertA L).length = f.length ∧ (∀ x ∈ f, x ∈ vertA M) ∧ (∀ x ∈ faceN (allF L), setL (imgF (vertA L) f x) ∈ allF M) ∧ (chkE L M f).2 = -1 := by
  by_cases h1 : errX L = 0
  rotate_left
  · rw [chkE_L (k := errX L - 1) (by omega)] at h; cases h
  by_cases h2 : errX M = 0
  rotate_left
  · rw [chkE_M (k := errX M - 1) h1 (by omega)] at h; cases h
  rw [chkE_0 h1 h2] at h ⊢
  obtain ⟨a, b, c, d⟩ := mapE_0 h
  exact ⟨h1, h2, a, b, c, d⟩
theorem chkE_le (L M : List (List Int)) (f : List Int) : (chkE L M f).1 ≤ 8 := by
  have h1 := errX_cases L
  have h2 := errX_cases M
  unfold chkE
  split
  · show errX L ≤ 8; omega
  · split
    · show errX M ≤ 8; omega
    · have := mapE_le (vertA L) (vertA M) f (faceN (allF L)) (allF M); omega

set_option maxRecDepth 100000 in
set_option maxHeartbeats 64000000 in
theorem fixed_any (a : Nat → Addr) (B : Nat) (L : List (List Int)) (f : List Int) (u vf : Value) (w : World) (hS : Sents w a) (hB : B ≤ w.heap.size) (hu : ListsIn B w u L)
    (hn : L.length ≤ 100000) (hl : ∀ l ∈ L, l.length ≤ 100000) (hf : IntsIn B w vf f) (hfl : f.length ≤ 100000) :
    Calls Tryz.prog 29 #[.agg #[u], vf] w (FixP a B L f w) := by
  obtain ⟨pL, cL, hue, -⟩ := id hu
  obtain ⟨pf, cf, hfe, -⟩ := id hf
  obtain ⟨nL, hnL⟩ : ∃ n, L.length = n := ⟨_, rfl⟩
  obtain ⟨nf, hnf⟩ : ∃ n, f.length = n := ⟨_, rfl⟩
  rw [hnL] at hue
  rw [hnf] at hfe
  subst hue
  subst hfe
  have HCK := Lib.hid (fun wx (hx : Below w.heap.size w wx) => mcheck_any a B L L f (.slice pL nL cL) (.slice pL nL cL) (.slice pf nf cf) wx (hS.below hx (Nat.le_refl _)) (Nat.le_trans hB hx.size) (hu.below hx (Nat.le_refl _)) (hu.below hx (Nat.le_refl _)) hn hl hn hl (hf.below hx (Nat.le_refl _)) hfl)
  have HS := Lib.hid (fun wx (hx : Below w.heap.size w wx) => hS.below hx (Nat.le_refl _))
  have HU := Lib.hid (fun wx (hx : Below w.heap.size w wx) => hu.below hx (Nat.le_refl _))
  have HF := Lib.hid (fun wx (hx : Below w.heap.size w wx) => hf.below hx (Nat.le_refl _))
  have HBB := Lib.hid hB
  have HLL := Lib.hid (And.intro hn hl)
  have HNF := Lib.hid hnf
  have HFL := Lib.hid hfl
  obtain ⟨w0, hw0⟩ : ∃ w0, (w.alloc (.cells #[.slice pL nL cL] 34)).alloc (.cells #[.slice pf nf cf] 23) = w0 := ⟨_, rfl⟩
  have hb0 : Below w.heap.size w w0 := by rw [← hw0]; exact (lit_below' w _).alloc (by simp) _
  have HB0 := Lib.hid hb0
  have hbx : w0.heap[w.heap.size]? = some (.cells #[.slice pL nL cL] 34 (0, 0)) ∧ w0.heap[w.heap.size + 1]? = some (.cells #[.slice pf nf cf] 23 (0, 0)) := by
    rw [← hw0]
    refine ⟨?_, ?_⟩
    · rw [((Below.refl (w.alloc (.cells #[.slice pL nL cL] 34)).heap.size _).alloc (Nat.le_refl _) _).block _ (by simp)]
      exact heap_alloc_new _ _
    · have h := heap_alloc_new (w.alloc (.cells #[.slice pL nL cL] 34)) (.cells #[.slice pf nf cf] 23)
      simpa using h
  have HCX : Hid (∀ wx, Below w0.heap.size w0 wx → wx.cell? ⟨w.heap.size, 0, none⟩ = some (.slice pL nL cL) ∧ wx.cell? ⟨w.heap.size + 1, 0, none⟩ = some (.slice pf nf cf)) := fun wx hx =>
    ⟨(one_at ((hx.block _ (Array.getElem?_eq_some_iff.1 hbx.1).1).trans hbx.1)).1, (one_at ((hx.block _ (Array.getElem?_eq_some_iff.1 hbx.2).1).trans hbx.2)).1⟩
  have HT : Hid (∀ wx, Below w0.heap.size w0 wx → Below w.heap.size w wx) := fun wx hx => hb0.trans (hx.mono hb0.size)
  have HW0 := Lib.hid hw0
  have HC0 := Lib.hid (HCX.out w0 (Below.refl _ _))
  unfold FixP
  obtain ⟨r, hr⟩ : ∃ r, chkE L L f = r := ⟨_, rfl⟩
  have HROK : Hid (r.1 = 0 → errX L = 0 ∧ (vertA L).length = f.length) := fun h => by
    rw [← hr] at h
    exact ⟨(chkE_ok h).1, (chkE_ok h).2.2.1⟩
  rw [hr] at HCK ⊢
  unfold CheckP at HCK
  clear hS hB hu hn hl hf hfl hb0 hbx hw0 hnL hnf hr
  go_enter Tryz.func29, Tryz.ntmps29
  go_upto_region 1 with fail
  rw [HW0.out]
  obtain ⟨c1, c2⟩ := HC0.out
  have HCK0 := Lib.hid (HCK.out w0 HB0.out)
  go_wp2_with fail
  refine HCK0.out.mono ?_
  rintro e w1 ⟨x1, rfl, hb1, hE1⟩
  have HZ1 := Lib.hid hb1
  clear hb1 HCK0 HCK c1 c2
  by_cases h0 : r.1 = 0
  rotate_left
  · obtain ⟨t, p, rfl⟩ := hE1.some_iface (by omega)
    have HE1 := Lib.hid hE1
    have HR0 := Lib.hid h0
    clear hE1 h0
    go_wp2_with fail
    go_ret2
    exact ⟨HT.out _ HZ1.out, Or.inr ⟨HR0.out, _, rfl, HE1.out⟩⟩
  · obtain rfl := hE1.zero (by rw [h0]; rfl)
    obtain ⟨hX0, hlen⟩ := HROK.out h0
    have HR0 := Lib.hid h0
    have HKL := Lib.hid hX0
    obtain ⟨hflL, hvlL⟩ := right_small hX0
    obtain ⟨c1, c2⟩ := HCX.out _ HZ1.out
    have HVE := Lib.hid (vertices_any B L (.slice pL nL cL) w1 (HU.out _ (HT.out _ HZ1.out)) HLL.out.1 hflL)
    unfold NumsP at HVE
    obtain ⟨V, hV⟩ : ∃ V, vertA L = V := ⟨_, rfl⟩
    obtain ⟨nV, hnV⟩ : ∃ n, V.length = n := ⟨_, rfl⟩
    rw [hV] at HVE hvlL hlen
    rw [hnV] at HVE hvlL hlen
    have HVV := Lib.hid hV
    have HNV := Lib.hid hnV
    have HBV := Lib.hid hvlL
    have HLE := Lib.hid hlen
    clear hE1 h0 hX0 hflL hvlL hV hnV hlen
    go_wp2_with fail
    refine HVE.out.mono ?_
    rintro e w2 ⟨pV, cV, rfl, hb2, hi2⟩
    have HZ2 := Lib.hid (HZ1.out.trans (hb2.mono HZ1.out.size))
    have hb3 : Below w2.heap.size w2 (w2.alloc (.cells #[.slice pV nV cV] 23)) := (Below.refl _ _).alloc (Nat.le_refl _) _
    have hk3 := heap_alloc_new w2 (.cells #[.slice pV nV cV] 23)
    obtain ⟨w3, hw3⟩ : ∃ w3, w2.alloc (.cells #[.slice pV nV cV] 23) = w3 := ⟨_, rfl⟩
    rw [hw3] at hb3 hk3
    have HW3 := Lib.hid hw3
    have HZ3 := Lib.hid (HZ2.out.trans (hb3.mono HZ2.out.size))
    have HI3 := Lib.hid (hi2.below hb3 (Nat.le_refl _))
    have HK3 := Lib.hid hk3
    obtain ⟨d1, d2⟩ := HCX.out _ HZ3.out
    have HTB := Lib.hid (table_ok a B L (.slice pL nL cL) w3 (HS.out _ (HT.out _ HZ3.out)) (Nat.le_trans HBB.out (HT.out _ HZ3.out).size) (HU.out _ (HT.out _ HZ3.out)) HLL.out.1 HLL.out.2 HKL.out)
    unfold TabPost at HTB
    clear hb2 hi2 hb3 hk3 hw3 HVE c1 c2
    go_upto_region 5 with fail
    rw [HW3.out]
    go_wp2_with fail
    refine HTB.out.mono ?_
    rintro e w4 ⟨hb4, ⟨h0, vt, rfl, hT⟩ | ⟨k, hk, hek, rfl⟩⟩
    rotate_left
    · have := HKL.out; omega
    have HZ34 := Lib.hid hb4
    have HZ4 := Lib.hid (HZ3.out.trans (hb4.mono HZ3.out.size))
    have HT4 := Lib.hid hT.tab
    obtain ⟨hF1, hF2, hF3, hF4, hF5⟩ := faceN_small HKL.out
    obtain ⟨pt, ct, hte, -⟩ := hT.tab
    obtain ⟨nt, hnt⟩ : ∃ nt, (tableF (allF L)).length = nt := ⟨_, rfl⟩
    rw [hnt] at hte hF5
    subst hte
    have HCA := Lib.hid (catR_any B (tableF (allF L)) (.slice pt nt ct) w4 (Nat.le_trans HBB.out (HT.out _ HZ4.out).size) HT4.out (by rw [hnt]; omega) (by show (faceN (allF L)).length ≤ _; omega))
    have hfl : (tableF (allF L)).flatten = faceN (allF L) := rfl
    rw [hfl] at HCA
    unfold ListPost at HCA
    obtain ⟨F, hFF⟩ : ∃ F, faceN (allF L) = F := ⟨_, rfl⟩
    rw [hFF] at HCA hF1 hF2 hF3 hF4
    rw [HVV.out] at hF4
    have HFF := Lib.hid hFF
    have HF1 := Lib.hid hF1
    have HF2 := Lib.hid hF2
    have HF3 := Lib.hid hF3
    have HF4 := Lib.hid hF4
    clear hb4 hT h0 hnt hF1 hF2 hF3 hF4 hfl hFF HTB d1 d2
    go_wp2_with fail
    refine HCA.out.mono ?_
    rintro e w5 ⟨v5, rfl, hb5, hR5⟩
    have hfn : FnX B w4 (.pointer (some ⟨w2.heap.size, 0, none⟩)) (.pointer (some ⟨w.heap.size + 1, 0, none⟩)) (fun x => !decide (setL (imgF V f x) = x)) F := fun W hW uu xs hxs hm => by
      have h04 : Below w0.heap.size w0 W := HZ4.out.trans (hW.mono HZ4.out.size)
      have h34 : Below w3.heap.size w3 W := HZ34.out.trans (hW.mono HZ34.out.size)
      exact fixed1_any B w2.heap.size (w.heap.size + 1) V f xs (.slice pV nV cV) (.slice pf nf cf) uu W (one_at ((h34.block _ (Array.getElem?_eq_some_iff.1 HK3.out).1).trans HK3.out)).1 (HCX.out _ h04).2 (HI3.out.below h34 (Nat.le_refl _)).at (HF.out _ (HT.out _ h04)).at hxs (by rw [← HVV.out]; exact rise_setL _) (by rw [HNV.out]; exact HLE.out.symm) (HF4.out xs hm) (by rw [HNV.out]; exact HBV.out) (List.length_pos_iff.2 (HF3.out xs hm)) (by have := HF2.out xs hm; omega)
    have HDL := Lib.hid (delR_any B w4 w5 (.pointer (some ⟨w2.heap.size, 0, none⟩)) (.pointer (some ⟨w.heap.size + 1, 0, none⟩)) (fun x => !decide (setL (imgF V f x) = x)) F v5 (Nat.le_trans HBB.out (HT.out _ HZ4.out).size) hb5 hfn hR5 (by have := HF1.out; omega))
    clear hfn hb5 hR5 HCA
    go_wp2_with fail
    refine HDL.out.mono ?_
    rintro e w6 ⟨hb6, v6, rfl, hl6⟩
    have HB6 := Lib.hid (HT.out _ (HZ4.out.trans (hb6.mono HZ4.out.size)))
    have HL6 := Lib.hid hl6
    clear hb6 hl6 HDL
    go_wp2_with fail
    go_ret2
    refine ⟨HB6.out, Or.inl ⟨HR0.out, _, rfl, ?_⟩⟩
    rw [HVV.out, HFF.out]
    have h := HL6.out
    unfold fixF
    simpa using h

theorem par_wgt (n : Nat) (hp : 0 < n) : 1 - 2 * Int.tmod ((n : Int) - 1) 2 = if n % 2 = 0 then -1 else 1 := by
  rw [Int.tmod_eq_emod_of_nonneg (by omega)]
  by_cases h : n % 2 = 0
  · rw [if_pos h]; omega
  · rw [if_neg h]; omega
theorem lefT_mul (V f x : List Int) : sgN (invN (imgF V f x)) * (if x.length % 2 = 0 then -1 else 1) = lefT V f x := by
  unfold lefT
  split
  · omega
  · omega
def LefP (a : Nat → Addr) (L : List (List Int)) (f : List Int) (w : World) (e : Ending) (w' : World) : Prop :=
  Below w.heap.size w w' ∧ (((chkE L L f).1 = 0 ∧ e = .returned (.tuple #[.int .i64 (lefF (vertA L) f (faceN (allF L))), .nilIface])) ∨
    ((chkE L L f).1 ≠ 0 ∧ ∃ x, e = .returned (.tuple #[.int .i64 0, x]) ∧ ErrAt a w' x ((chkE L L f).1 : Int) (chkE L L f).2))

set_option maxRecDepth 100000 in
set_option maxHeartbeats 64000000 in
theorem lefschetz_any (a : Nat → Addr) (B : Nat) (L : List (List Int)) (f : List Int) (u vf : Value) (w : World) (hS : Sents w a) (hB : B ≤ w.heap.size) (hu : ListsIn B w u L)
    (hn : L.length ≤ 100000) (hl : ∀ l ∈ L, l.length ≤ 100000) (hf : IntsIn B w vf f) (hfl : f.length ≤ 100000) :
    Calls Tryz.prog 28 #[.agg #[u], vf] w (LefP a L f w) := by
  obtain ⟨pL, cL, hue, -⟩ := id hu
  obtain ⟨pf, cf, hfe, -⟩ := id hf
  obtain ⟨nL, hnL⟩ : ∃ n, L.length = n := ⟨_, rfl⟩
  obtain ⟨nf, hnf⟩ : ∃ n, f.length = n := ⟨_, rfl⟩
  rw [hnL] at hue
  rw [hnf] at hfe
  subst hue
  subst hfe
  have hb0 : Below w.heap.size w (w.alloc (.cells #[.slice pL nL cL] 34)) := lit_below' w _
  have hbx := heap_alloc_new w (.cells #[.slice pL nL cL] 34)
  obtain ⟨w0, hw0⟩ : ∃ w0, w.alloc (.cells #[.slice pL nL cL] 34) = w0 := ⟨_, rfl⟩
  rw [hw0] at hb0 hbx
  have HFX := Lib.hid (fixed_any a B L f (.slice pL nL cL) (.slice pf nf cf) w0 (hS.below hb0 (Nat.le_refl _)) (Nat.le_trans hB hb0.size) (hu.below hb0 (Nat.le_refl _)) hn hl (hf.below hb0 (Nat.le_refl _)) hfl)
  have HU := Lib.hid (fun wx (hx : Below w.heap.size w wx) => hu.below hx (Nat.le_refl _))
  have HF := Lib.hid (fun wx (hx : Below w.heap.size w wx) => hf.below hx (Nat.le_refl _))
  have HLL := Lib.hid (And.intro hn hl)
  have HNF := Lib.hid hnf
  have HCX : Hid (∀ wx, Below w0.heap.size w0 wx → wx.cell? ⟨w.heap.size, 0, none⟩ = some (.slice pL nL cL)) := fun wx hx =>
    (one_at ((hx.block _ (Array.getElem?_eq_some_iff.1 hbx).1).trans hbx)).1
  have HT : Hid (∀ wx, Below w0.heap.size w0 wx → Below w.heap.size w wx) := fun wx hx => hb0.trans (hx.mono hb0.size)
  have HW0 := Lib.hid hw0
  have HROK := Lib.hid (fun (h : (chkE L L f).1 = 0) => chkE_ok h)
  have c0 := HCX.out w0 (Below.refl _ _)
  unfold LefP
  unfold FixP at HFX
  clear hS hB hu hn hl hf hfl hb0 hbx hw0 hnL hnf
  go_enter Tryz.func28, Tryz.ntmps28
  go_upto_region 1 with fail
  rw [HW0.out]
  go_wp2_with fail
  refine HFX.out.mono ?_
  rintro e w1 ⟨hb1, ⟨h0, v1, rfl, hl1⟩ | ⟨h0, x1, rfl, hE1⟩⟩
  rotate_left
  · have HB1 := Lib.hid (HT.out _ hb1)
    have HE1 := Lib.hid hE1
    have HR0 := Lib.hid h0
    clear hb1 hE1 h0 HFX c0
    go_wp2_with fail
    refine wp_loop_rounds 1 ?_
    rw [rounds_succ]
    go_wp2_with fail
    go_ret2
    exact ⟨HB1.out, Or.inr ⟨HR0.out, _, rfl, HE1.out⟩⟩
  · have HR0 := Lib.hid h0
    obtain ⟨hX0, -, hlen, -⟩ := HROK.out h0
    obtain ⟨hflL, hvlL⟩ := right_small hX0
    obtain ⟨hF1, hF2, hF3, hF4, -⟩ := faceN_small hX0
    have HVE := Lib.hid (fun wx hx => vertices_any B L (.slice pL nL cL) wx (HU.out wx hx) HLL.out.1 hflL)
    unfold NumsP at HVE
    have hmf : ∀ x ∈ fixF (vertA L) f (faceN (allF L)), x ∈ faceN (allF L) := fun x hx => (List.mem_filter.1 hx).1
    have hG1 : (fixF (vertA L) f (faceN (allF L))).length ≤ 600 := Nat.le_trans (List.length_filter_le _ _) hF1
    have HG2 := Lib.hid (fun x hx => hF2 x (hmf x hx))
    have HG3 := Lib.hid (fun x hx => hF3 x (hmf x hx))
    have HG4 := Lib.hid (fun x hx => hF4 x (hmf x hx))
    have hlf : lefF (vertA L) f (faceN (allF L)) = ((fixF (vertA L) f (faceN (allF L))).map (lefT (vertA L) f)).sum := rfl
    obtain ⟨V, hV⟩ : ∃ V, vertA L = V := ⟨_, rfl⟩
    obtain ⟨nV, hnV⟩ : ∃ n, V.length = n := ⟨_, rfl⟩
    have hri : Rise V := by rw [← hV]; exact rise_setL _
    have HRI := Lib.hid hri
    rw [hV] at HVE hvlL hlen HG2 HG3 HG4 hlf hG1 hl1
    rw [hnV] at HVE hvlL hlen
    obtain ⟨G, hG⟩ : ∃ G, fixF V f (faceN (allF L)) = G := ⟨_, rfl⟩
    rw [hG] at HG2 HG3 HG4 hlf hG1 hl1
    obtain ⟨m, hm⟩ : ∃ m, G.length = m := ⟨_, rfl⟩
    rw [hm] at hG1
    have HVV := Lib.hid hV
    have HNV := Lib.hid hnV
    have HBV := Lib.hid hvlL
    have HLE := Lib.hid hlen
    have HM := Lib.hid hm
    have HL1 := Lib.hid hl1
    have HLF := Lib.hid hlf
    obtain ⟨p1, c1, hve, -⟩ := id hl1
    rw [hm] at hve
    subst hve
    have HZ1 := Lib.hid hb1
    clear h0 hX0 hflL hvlL hlen hF1 hF2 hF3 hF4 hmf hlf hV hnV hri hG hm hl1 hb1 HFX c0
    go_wp2_with fail
    go_loopw [8, 19] (fun s i wr => ∃ j : Nat, j ≤ m ∧ i = .int .i64 j ∧ s = .int .i64 (preF V f G j) ∧ Below w1.heap.size w1 wr) (fun _ i _ => m - (intOf i).toNat)
    case atStart => exact ⟨0, Nat.zero_le _, rfl, rfl, Below.refl _ _⟩
    case round =>
      obtain ⟨j, hj, rfl, rfl, hb⟩ := hrel
      have HB := Lib.hid hb
      by_cases hjn : j < m
      · have hjG : j < G.length := by rw [HM.out]; exact hjn
        obtain ⟨bG, oG, c', hve⟩ := (HL1.out.below hb (Nat.le_refl _)).form (by omega)
        rw [HM.out] at hve
        obtain ⟨rfl, rfl⟩ : p1 = some ⟨bG, oG, none⟩ ∧ c1 = c' := by cases hve; exact ⟨rfl, rfl⟩
        obtain ⟨px, cx, hcx, hix⟩ := cells_at (HL1.out.below hb (Nat.le_refl _)) j hjG
        have hmem := getL_mem hjG
        have h7 := HG2.out _ hmem
        have hne := HG3.out _ hmem
        have hin := HG4.out _ hmem
        have hps := preF_succ (V := V) (f := f) hjG
        have hpb := preF_bd (V := V) (f := f) (l := G) j (by omega)
        have hlb := lefT_bd V f (G.getD j [])
        obtain ⟨x, hx⟩ : ∃ x, G.getD j [] = x := ⟨_, rfl⟩
        rw [hx] at hcx hix h7 hne hin hps hlb
        have hp : 0 < x.length := List.length_pos_iff.2 hne
        have hlm := lefT_mul V f x
        have hil : (imgF V f x).length = x.length := imgF_len V f x
        have hz1 : Below w0.heap.size w0 wr := HZ1.out.trans (hb.mono HZ1.out.size)
        have c2 := HCX.out wr hz1
        have HV1 := Lib.hid (HVE.out wr (HT.out wr hz1))
        have HIM := Lib.hid (fun wx (hw : Below wr.heap.size wr wx) va (hV : IntsIn B wx va V) => image_any B V f x va (.slice pf nf cf) (.slice px x.length cx) wx hV.at (HF.out wx (HT.out wx (hz1.trans (hw.mono hz1.size)))).at (hix.below hw (Nat.le_refl _)).at HRI.out (by rw [HNV.out]; exact HLE.out.symm) hin (by rw [HNV.out]; exact HBV.out) (by omega))
        have HSG := Lib.hid (fun wx v (hv : IntsIn B wx v (imgF V f x)) => sign_any (imgF V f x) v wx hv.at (by omega))
        unfold NumsP at HIM
        rw [hil] at HIM
        obtain ⟨sg, hsg⟩ : ∃ s, sgN (invN (imgF V f x)) = s := ⟨_, rfl⟩
        have hsb := sgN_bd (invN (imgF V f x))
        rw [hsg] at HSG hlm hsb
        obtain ⟨nx, hnx⟩ : ∃ n, x.length = n := ⟨_, rfl⟩
        rw [hnx] at hcx HIM h7 hp hlm
        have hpw := par_wgt nx hp
        obtain ⟨t, ht⟩ : ∃ t, Int.tmod ((nx : Int) - 1) 2 = t := ⟨_, rfl⟩
        rw [ht] at hpw
        obtain ⟨q, hq⟩ : ∃ q, preF V f G j = q := ⟨_, rfl⟩
        rw [hq] at hps hpb ⊢
        have ht2 : t = 0 ∨ t = 1 := by
          rw [← ht, Int.tmod_eq_emod_of_nonneg (by omega)]; omega
        obtain ⟨lt, hlt⟩ : ∃ y, lefT V f x = y := ⟨_, rfl⟩
        rw [hlt] at hps hlm hlb
        rw [← hpw] at hlm
        have m1 : IntKind.i64.wrap ((nx : Int) - 1) = (nx : Int) - 1 := IntWalk.i64_in _ (by omega)
        have m2 : IntKind.i64.wrap (2 * t) = 2 * t := IntWalk.i64_in _ (by omega)
        have m3 : IntKind.i64.wrap (1 - 2 * t) = 1 - 2 * t := IntWalk.i64_in _ (by omega)
        have m4 : IntKind.i64.wrap (sg * (1 - 2 * t)) = lt := by rw [hlm]; exact IntWalk.i64_in _ (by omega)
        have m5 : IntKind.i64.wrap (q + lt) = q + lt := IntWalk.i64_in _ (by omega)
        have HPS := Lib.hid hps
        have HTM := Lib.hid ht
        clear hve hix hmem h7 hne hin hps hpb hlb hx hlm hil hz1 hsg hsb hnx hpw hq ht2 hlt hb hp ht
        go_wp2_with fail
        refine HV1.out.mono ?_
        rintro e w2 ⟨pV, cV, rfl, hb2, hi2⟩
        have HI2 := Lib.hid (HIM.out w2 hb2 _ hi2)
        have HB2 := Lib.hid (HB.out.trans (hb2.mono HB.out.size))
        clear hb2 hi2 HV1 HIM
        go_wp2_with fail
        refine HI2.out.mono ?_
        rintro e w3 ⟨p3, c3, rfl, hb3, hi3⟩
        have HS3 := Lib.hid (HSG.out w3 _ hi3)
        have HB3 := Lib.hid (HB2.out.trans (hb3.mono HB2.out.size))
        clear hb3 hi3 HI2 HSG
        go_wp2_with fail
        refine HS3.out.mono ?_
        rintro e w4 ⟨rfl, rfl⟩
        have ht := HTM.out
        go_wp2_with fail
        go_roundw
        case rel => exact ⟨j + 1, hjn, by go_num, by rw [HPS.out], HB3.out⟩
        case measure => simp [intOf]; omega
      · obtain rfl : m = j := by omega
        have hfull : preF V f G m = (G.map (lefT V f)).sum := by rw [← HM.out]; exact preF_all V f G
        rw [hfull]
        have HBF := Lib.hid (HT.out _ (HZ1.out.trans (hb.mono HZ1.out.size)))
        clear hfull hb
        go_wp2_with fail
        go_ret2
        refine ⟨HBF.out, Or.inl ⟨HR0.out, ?_⟩⟩
        rw [HVV.out, HLF.out]
        first | done | rfl
end Go.Proofs.YtddnjimpdidpaaaGreatDoor
