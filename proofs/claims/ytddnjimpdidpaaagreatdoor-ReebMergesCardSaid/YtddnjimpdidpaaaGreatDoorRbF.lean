/-
  The document's reach by a contract: the piece of a vertex up to a height.
-/
import Derived.Test.YtddnjimpdidpaaaGreatDoorRbE
import Derived.Test.YtddnjimpdidpaaaGreatDoorParB
import Derived.Test.YtddnjimpdidpaaaGreatDoorIxE
import Derived.StillTailTactics
set_option linter.unusedSimpArgs false
set_option linter.unusedVariables false
namespace Go.Proofs.YtddnjimpdidpaaaGreatDoor
open Go Go.RowKit Go.Maps

/-- a list of one number -/
def OneP (y : Int) (w : World) (e : Ending) (w' : World) : Prop := ∃ b off c, e = .returned (.slice (some ⟨b, off, none⟩) 1 c) ∧ Below w.heap.size w w' ∧ w'.cell? ⟨b, off, none⟩ = some (.int .i64 y)
theorem minus_one (f g : List Int) (y : Int) (u v : Value) (w : World) (hu : IntsAt w u f) (hv : IntsAt w v g) (hf : f.length ≤ 1000) (hg : g.length ≤ 1000) (he : minF f g = [y]) :
    Calls Tryz.prog 44 #[u, v] w (OneP y w) := by
  refine (minus_any 0 f g u v w hu hv hf hg).mono fun e w' h => ?_
  rw [he] at h
  obtain ⟨p, c, e1, hb, hi⟩ := h
  obtain ⟨b, off, c', e2, e3⟩ := ints_cell hi 0 (by simp)
  cases e2
  exact ⟨b, off, c, e1, hb, e3⟩
/-- the piece, as a list of vertices -/
def ReachP (V : List Int) (n : Nat) (h : Nat → Int) (Ad : Nat → Nat → Prop) (m : Int) (i : Nat) (w : World) (e : Ending) (w' : World) : Prop :=
  ∃ (N : List Nat) (k : Nat) (p : Option Addr) (c : Nat), Hid (N.length = k) ∧ e = .returned (.slice p k c) ∧ Below w.heap.size w w' ∧ IntsIn w.heap.size w' (.slice p k c) (verN V N) ∧ PieceN n h Ad m i N

set_option maxRecDepth 100000 in
set_option maxHeartbeats 16000000 in
theorem reach_any (B : Nat) (A : List (List Int)) (h : List Int) (i : Nat) (m : Int) (va vh : Value) (w : World) (hB : B ≤ w.heap.size) (hva : ListsIn B w va A) (hn : A.length ≤ 1000) (hl : ∀ l ∈ A, l.length ≤ 500) (hvh : IntsIn B w vh h)
    (hlen : h.length = (vertR A).length) (hE : EdgO (vertR A) (dimF A 1)) (hi : i < (vertR A).length) (hm : h.getD i 0 ≤ m) :
    Calls Tryz.prog 43 #[va, vh, .int .i64 ((vertR A).getD i 0), .int .i64 m] w (ReachP (vertR A) (vertR A).length (fun i => h.getD i 0) (AdE (edgN (vertR A) (dimF A 1))) m i w) := by
  obtain ⟨i3, hi3, hy0, hy1, hy2⟩ := info_parts Tryz.info3
  have hVn := Nat.le_trans (vertR_len A) hn
  have hEn : (dimF A 1).length ≤ 1000 := Nat.le_trans (List.length_filter_le _ _) hn
  have HOD := Lib.hid (ofDim_any B A 1 va w hB hva (by omega) (fun l h => by have := hl l h; omega))
  unfold ListPost at HOD
  have HHI := Lib.hid (fun wx (hx : Below w.heap.size w wx) x => highOf_any B A h x va vh wx (hva.below hx (Nat.le_refl _)) (by omega) (fun l h => by have := hl l h; omega) (hvh.below hx (Nat.le_refl _)) hlen)
  obtain ⟨V, hV⟩ : ∃ V, vertR A = V := ⟨_, rfl⟩
  rw [hV] at HHI hlen hE hi hVn ⊢
  obtain ⟨E, hEe⟩ : ∃ E, dimF A 1 = E := ⟨_, rfl⟩
  rw [hEe] at HOD hE hEn ⊢
  obtain ⟨n, hnn⟩ : ∃ n, V.length = n := ⟨_, rfl⟩
  obtain ⟨ne, hne⟩ : ∃ n, E.length = n := ⟨_, rfl⟩
  have HHV : Hid (∀ y, y < n → hiF V h (V.getD y 0) = h.getD y 0) := fun y hy => by unfold hiF; rw [idx_getD hE.1 (by omega)]
  have HNN := Lib.hid hnn
  have HNE := Lib.hid hne
  have HE := Lib.hid hE
  rw [hnn] at hlen hi hVn ⊢
  rw [hne] at hEn
  obtain ⟨Ep, hEp⟩ : ∃ Ep, edgN V E = Ep := ⟨_, rfl⟩
  have HEP := Lib.hid hEp
  have HEL : Hid (Ep.length = ne) := by unfold Hid; rw [← hEp, edgN_len, hne]
  rw [hEp]
  obtain ⟨vi, hvi⟩ : ∃ z, V.getD i 0 = z := ⟨_, rfl⟩
  rw [hvi]
  have HVI := Lib.hid hvi
  have HI := Lib.hid hi
  have HM := Lib.hid hm
  have HR0 := Lib.hid (rea_init (h := fun i => h.getD i 0) (Ep := Ep) hi hm)
  have HL := Lib.hid hlen
  have HVN := Lib.hid hVn
  clear hB hva hn hl hvh hlen hE hi hm hV hEe hnn hne hEp hvi hVn
  go_enter Tryz.func43, Tryz.ntmps43
  go_wp2_with fail
  refine HOD.out.mono ?_
  rintro e w1 ⟨ve, rfl, hb1, hr1⟩
  obtain ⟨pe, ce, hve, -⟩ := hr1.lists
  rw [HNE.out] at hve
  subst hve
  have HB1 := Lib.hid hb1
  have HEV := Lib.hid hr1.lists
  have hs1 : w.heap.size ≤ w1.heap.size := hb1.size
  clear hb1 hr1 HOD
  go_wp2_with (at_builtin; refine wpList_append_lies _ rfl (.tmp 18) (.tmp 20) 23 rfl w1.heap.size 3 i3 (.int .i64 0) 1 8 Tryz.underlying23 hi3 hy0 hy1 hy2 rfl (by decide) (.slice none 0 0) 0 [] rfl (World.ownsRow_nil _ _ _ _) ⟨w1.heap.size, 0, none⟩ 1 1 [.int .i64 vi] rfl rfl (World.news_of_block (cs := #[.int .i64 vi]) (t := 3) (fr := (0, 0)) (heap_alloc_new w1 _)) (by simp [Value.oneCell']) (by decide) (by unfold maxLen; omega) (by omega) (by simp) (w1.heap.size + 1) (by simp) ?_; intro g2 c2 w9 hown2 hgr2 hat2 hlt2; have HO9 := Lib.hid hown2; have HG9 := Lib.hid hgr2; clear hown2 hgr2 hat2 hlt2)
  have HO0 : Hid (w9.ownsRow w1.heap.size 3 1 (.slice (some ⟨g2, 0, none⟩) 1 c2) [i].length (intVs (verN V [i]))) := by
    have h0 := HO9.out
    unfold Hid verN intVs
    rw [List.map_singleton, List.map_singleton, HVI.out]
    exact h0
  have HB9 : Hid (Below w1.heap.size w1 w9) := ((Below.refl _ _).alloc (Nat.le_refl _) _).grown HG9.out (by simp) (fun i hi => by cases hi)
  clear HO9 HG9
  go_loopw [10, 11] (fun o nn wr => ∃ (N : List Nat) (p : Nat), p ≤ N.length ∧ nn = .int .i64 (p : Int) ∧ Rea n (fun i => h.getD i 0) Ep m i N p 0 ∧ Below w1.heap.size w1 wr ∧ wr.ownsRow w1.heap.size 3 1 o N.length (intVs (verN V N))) (fun _ nn _ => n - (intOf nn).toNat)
  case atStart => exact ⟨[i], 0, by simp, rfl, HR0.out, HB9.out, HO0.out⟩
  case round =>
    obtain ⟨N, p, hp, rfl, hR, hb, hO⟩ := hrel
    obtain ⟨wo, rfl⟩ : ∃ wo : World, wo = wr := ⟨_, rfl⟩
    have hNl := rea_len hR
    have hVn := HVN.out
    obtain ⟨k, hk⟩ : ∃ k, N.length = k := ⟨_, rfl⟩
    rw [hk] at hO hNl hp
    obtain ⟨po, co, rfl⟩ : ∃ p c, u10 = .slice p k c := by
      rcases Joins.ownsRow_forms hO with ⟨e, h0⟩ | ⟨g, cap, e⟩
      · exact ⟨none, 0, by rw [e, h0]⟩
      · exact ⟨_, cap, e⟩
    have HK := Lib.hid hk
    have HR := Lib.hid hR
    have HB := Lib.hid hb
    have HO := Lib.hid hO
    clear hR hb hO hk
    by_cases hpk : p < k
    · go_wp2_with fail
      go_loopw [10, 12] (fun o qq wr => ∃ (N : List Nat) (q : Nat), q ≤ ne ∧ qq = .int .i64 (q : Int) ∧ p < N.length ∧ Rea n (fun i => h.getD i 0) Ep m i N p q ∧ Below w1.heap.size w1 wr ∧ wr.ownsRow w1.heap.size 3 1 o N.length (intVs (verN V N))) (fun _ qq _ => ne - (intOf qq).toNat)
      case atStart => exact ⟨N, 0, Nat.zero_le _, rfl, by rw [HK.out]; exact hpk, HR.out, HB.out, by rw [HK.out]; exact HO.out⟩
      case round =>
        obtain ⟨N2, q, hq, rfl, hpN, hR2, hb2, hO2⟩ := hrel
        obtain ⟨wm, rfl⟩ : ∃ wm : World, wm = wr := ⟨_, rfl⟩
        have HR2 := Lib.hid hR2
        have HB2 := Lib.hid hb2
        have HPN := Lib.hid hpN
        have hNl2 := rea_len hR2
        obtain ⟨k2, hk2⟩ : ∃ k, N2.length = k := ⟨_, rfl⟩
        rw [hk2] at hO2 hNl2 hpN
        have HK2 := Lib.hid hk2
        have HO2 := Lib.hid hO2
        obtain ⟨go, co2, rfl⟩ := Joins.ownsRow_form hO2 (by omega)
        by_cases hqn : q < ne
        · obtain ⟨a, b, ha, hbb, hab, e1, e2⟩ := edg_at HE.out (q := q) (by rw [HNE.out]; exact hqn)
          rw [HNN.out] at ha hbb
          rw [HEP.out] at e2
          obtain ⟨be, oe, cc, hve⟩ := HEV.out.form (by rw [HNE.out]; omega)
          rw [HNE.out] at hve
          obtain ⟨rfl, rfl⟩ : pe = some ⟨be, oe, none⟩ ∧ ce = cc := by cases hve; exact ⟨rfl, rfl⟩
          obtain ⟨pj, cj, hcj, hij⟩ := cells_at (HEV.out.below hb2 (Nat.le_refl _)) q (by rw [HNE.out]; exact hqn)
          rw [e1] at hcj hij
          obtain ⟨x, hx⟩ : ∃ x, N2.getD p 0 = x := ⟨_, rfl⟩
          have hxq : N2[p]? = some x := by rw [← hx, List.getD_eq_getElem?_getD, List.getElem?_eq_getElem HPN.out]; rfl
          have hxo := hR2.ok x (List.mem_of_getElem? hxq)
          have hiO := ints_owned (B := w1.heap.size) hO2 (by rw [verN_len, hk2])
          have hvx := verN_get (V := V) HPN.out
          rw [hx] at hvx
          obtain ⟨go', oo', co', ee, hcx⟩ := ints_cell hiO p (by rw [verN_len]; exact HPN.out)
          obtain ⟨rfl, rfl⟩ : go = go' ∧ 0 = oo' := by cases ee; exact ⟨rfl, rfl⟩
          rw [hvx, Nat.zero_add] at hcx
          have hcon := has_two HE.out.1 (a := a) (b := b) (x := x) (by rw [HNN.out]; exact ha) (by rw [HNN.out]; exact hbb) (by rw [HNN.out]; exact hxo.1)
          have HCT := Lib.hid (fun d : Nat => contains_any [V.getD a 0, V.getD b 0] (.slice pj 2 cj) (V.getD x 0) (wm.drewN d) (drew_at hij.at d) (by simp))
          rw [hcon] at HCT
          unfold Same at HCT
          have hsl : [V.getD a 0, V.getD b 0].length = 2 := rfl
          rw [hsl] at hcj
          have HIJ := Lib.hid hij
          have hws : w1.heap.size ≤ wm.heap.size := hb2.size
          by_cases hin : x = a ∨ x = b
          rotate_left
          · have hsk := rea_skip hR2 (by rw [HEL.out]; exact hqn) hxq fun y hy _ => by
              rcases hy with hy | hy
              · rw [e2] at hy; cases hy; exact absurd (Or.inl rfl) hin
              · rw [e2] at hy; cases hy; exact absurd (Or.inr rfl) hin
            have HSK := Lib.hid hsk
            rw [decide_eq_false hin] at HCT
            obtain ⟨zx, hzx⟩ : ∃ z, V.getD x 0 = z := ⟨_, rfl⟩
            rw [hzx] at HCT hcx
            clear hR2 hb2 hO2 ha hbb hab e1 e2 hve hij hx hxq hxo hiO hvx ee hcon hsl hin hsk hzx hk2 hp
            go_wp2_with fail
            go_quiet ((go_at_call 45; with_reducible exact Calls.quiet_of_same (HCT.out _)))
            go_wp2_with fail
            go_roundw
            case rel => exact ⟨N2, q + 1, hqn, by go_num, HPN.out, HSK.out, HB2.out.trans ((Below.drewN wm _).mono HB2.out.size), by rw [HK2.out]; exact HO2.out⟩
            case measure => simp [intOf]; omega
          · obtain ⟨y, hyn, hEy, hmin, huni⟩ : ∃ y, y < n ∧ (Ep.getD q (0, 0) = (x, y) ∨ Ep.getD q (0, 0) = (y, x)) ∧ minF [V.getD a 0, V.getD b 0] [V.getD x 0] = [V.getD y 0] ∧ ∀ z, (Ep.getD q (0, 0) = (x, z) ∨ Ep.getD q (0, 0) = (z, x)) → z = y := by
              have ha' : a < V.length := by rw [HNN.out]; exact ha
              have hb' : b < V.length := by rw [HNN.out]; exact hbb
              rcases hin with e | e
              · subst e
                refine ⟨b, hbb, Or.inl e2, minus_l HE.out.1 ha' hb' hab, fun z hz => ?_⟩
                rw [e2] at hz
                rcases hz with hz | hz
                · cases hz; rfl
                · cases hz; exact absurd rfl hab
              · subst e
                refine ⟨a, ha, Or.inr e2, minus_r HE.out.1 ha' hb' hab, fun z hz => ?_⟩
                rw [e2] at hz
                rcases hz with hz | hz
                · cases hz; exact absurd rfl hab
                · cases hz; rfl
            have hmE : Ep.getD q (0, 0) ∈ Ep := by
              have hq' : q < Ep.length := by rw [HEL.out]; exact hqn
              rw [List.getD_eq_getElem?_getD, List.getElem?_eq_getElem hq']
              exact List.getElem_mem hq'
            have hA : AdE Ep x y := by
              rcases hEy with e | e
              · rw [e] at hmE; exact Or.inl hmE
              · rw [e] at hmE; exact Or.inr hmE
            have hhad := has_ver HE.out.1 (N := N2) (fun z hz => by rw [HNN.out]; exact (hR2.ok z hz).1) (y := y) (by rw [HNN.out]; exact hyn)
            have hvy := HHV.out y hyn
            have hcap : k2 ≤ co2 := by
              obtain ⟨p', c', e, hc, -⟩ := hiO
              rw [verN_len, hk2] at e hc
              cases e; exact hc
            have hpart := hiO.part p 1 (co2 - p) (by rw [verN_len]; have := HPN.out; omega) (by omega)
            rw [Nat.zero_add, show ((verN V N2).drop p).take 1 = [V.getD x 0] by rw [List.drop_eq_getElem_cons (by rw [verN_len]; exact HPN.out), ← hvx, getD_elem (by rw [verN_len]; exact HPN.out)]; rfl] at hpart
            have HMI := Lib.hid (fun wx (hx : Below wm.heap.size wm wx) => minus_one [V.getD a 0, V.getD b 0] [V.getD x 0] (V.getD y 0) (.slice pj 2 cj) (.slice (some ⟨go, p, none⟩) 1 (co2 - p)) wx (hij.below hx (Nat.le_refl _)).at (hpart.below hx (Nat.le_refl _)).at (by simp) (by simp) hmin)
            unfold OneP at HMI
            have HIO := Lib.hid hiO
            have HCV := Lib.hid (fun wx (hx : Below wm.heap.size wm wx) => contains_any (verN V N2) (.slice (some ⟨go, 0, none⟩) k2 co2) (V.getD y 0) wx ((hiO.below hx (Nat.le_refl _)).at) (by rw [verN_len, hk2]; omega))
            rw [hhad] at HCV
            unfold Same at HCV
            have HUN := Lib.hid huni
            have HYN := Lib.hid hyn
            have HAD := Lib.hid hA
            have HXQ := Lib.hid hxq
            have HSN : Hid (intVs (verN V (N2 ++ [y])) = intVs (verN V N2) ++ [.int .i64 (V.getD y 0)]) := by unfold Hid; rw [verN_snoc, intVs_snoc]
            rw [decide_eq_true hin] at HCT
            obtain ⟨zx, hzx⟩ : ∃ z, V.getD x 0 = z := ⟨_, rfl⟩
            obtain ⟨zy, hzy⟩ : ∃ z, V.getD y 0 = z := ⟨_, rfl⟩
            rw [hzx] at HCT hcx
            rw [hzy] at HCV HMI HSN hvy
            have HVY := Lib.hid hvy
            have m1 : IntKind.i64.wrap ((p : Int) + 1) = (p : Int) + 1 := IntWalk.i64_in _ (by omega)
            have m2 : (0 : Int) ≤ (p : Int) + 1 := by omega
            have m3 : ((p : Int) + 1).toNat = p + 1 := by omega
            have m4 : (p : Int) + 1 ≤ (co2 : Int) := by omega
            have m5 : ¬ co2 = p := by omega
            have HCJ := Lib.hid hcj
            clear hcap
            clear hR2 hb2 hO2 ha hbb hab e1 e2 hve hij hx hxo hiO hvx ee hcon hsl hin hzx hzy hvy hk2 hp hpart hhad hmin hmE hA hEy huni hxq hyn
            go_wp2_with fail
            go_quiet ((go_at_call 45; with_reducible exact Calls.quiet_of_same (HCT.out _)))
            have hbq := Below.drewN wm nq
            obtain ⟨wq, hwq⟩ : ∃ x, wm.drewN nq = x := ⟨_, rfl⟩
            rw [hwq] at hbq ⊢
            have HBQ := Lib.hid hbq
            have hs0 : wq.drew.cell? ⟨be, oe + q, none⟩ = some (.slice pj 2 cj) := ((hbq.drew).cell (p := ⟨be, oe + q, none⟩) (mem_lt HCJ.out)).trans HCJ.out
            have HMQ := Lib.hid (HMI.out wq.drew hbq.drew)
            clear hwq hbq hcj hcx HCT HMI
            go_wp2_with fail
            go_still_tail 9, (by kernel_rfl)
            change wpList _ _ _ _ _ wq.drew
            go_wp2_with fail
            refine HMQ.out.mono ?_
            rintro e wa ⟨ba, oa, ca, rfl, hba, hca⟩
            have hzA := (HBQ.out.drew).trans (hba.mono (HBQ.out.drew).size)
            clear hba hs0
            have HOA := Lib.hid (owns_keep HO2.out fun t ht => hzA.block t (HO2.out.lt t ht).2)
            have HBA := Lib.hid (HB2.out.trans (hzA.mono HB2.out.size))
            have HCVA := Lib.hid (HCV.out wa hzA)
            clear hzA
            by_cases hyN : y ∈ N2
            · rw [decide_eq_true hyN] at HCVA
              have hsk := rea_skip HR2.out (by rw [HEL.out]; exact hqn) HXQ.out fun z hz _ => by rw [HUN.out z hz]; exact hyN
              have HSK := Lib.hid hsk
              clear hsk hyN
              go_wp2_with fail
              refine HCVA.out.mono ?_
              rintro e wx ⟨rfl, hwx⟩
              subst hwx
              go_wp2_with fail
              go_roundw
              case rel => exact ⟨N2, q + 1, hqn, by go_num, HPN.out, HSK.out, HBA.out, by rw [HK2.out]; exact HOA.out⟩
              case measure => simp [intOf]; omega
            · rw [decide_eq_false hyN] at HCVA
              have HHX := HHI.out wa (HB1.out.trans (HBA.out.mono HB1.out.size)) zy
              rw [HVY.out] at HHX
              obtain ⟨yy, hyy⟩ : ∃ r, h.getD y 0 = r := ⟨_, rfl⟩
              rw [hyy] at HHX
              have HHX1 := Lib.hid HHX
              have HYY := Lib.hid hyy
              have HNY := Lib.hid hyN
              clear HHX hyy hyN
              go_wp2_with fail
              refine HCVA.out.mono ?_
              rintro e wx ⟨rfl, hwx⟩
              subst hwx
              go_wp2_with fail
              refine HHX1.out.mono ?_
              rintro e wb ⟨rfl, hbb⟩
              have HOB := Lib.hid (owns_keep HOA.out fun t ht => hbb.block t (HOA.out.lt t ht).2)
              have HBB := Lib.hid (HBA.out.trans (hbb.mono HBA.out.size))
              have hwb : w1.heap.size ≤ wb.heap.size := HBB.out.size
              clear hbb
              by_cases hle : yy ≤ m
              · have hsk := rea_skip (rea_add HR2.out HPN.out HXQ.out HNY.out HYN.out (by rw [← HYY.out] at hle; exact hle) HAD.out) (by rw [HEL.out]; exact hqn) (get_app HXQ.out) fun z hz _ => by rw [HUN.out z hz]; simp
                have HSK := Lib.hid hsk
                clear hsk
                go_wp2_with (at_builtin; refine wpList_append_lies _ rfl (.tmp 70) (.tmp 72) 23 rfl w1.heap.size 3 i3 (.int .i64 0) 1 8 Tryz.underlying23 hi3 hy0 hy1 hy2 rfl (by decide) _ k2 (intVs (verN V N2)) rfl (HOB.out.alloc _) ⟨wb.heap.size, 0, none⟩ 1 1 [.int .i64 zy] rfl rfl (World.news_of_block (cs := #[.int .i64 zy]) (t := 3) (fr := (0, 0)) (heap_alloc_new wb _)) (by simp [Value.oneCell']) (by decide) (by unfold maxLen; omega) (by omega) (by simp; omega) (wb.heap.size + 1) (by simp) ?_; intro g2 c2 w9 hown2 hgr2 hat2 hlt2; have HO9 := Lib.hid hown2; have HG9 := Lib.hid hgr2; clear hown2 hgr2 hat2 hlt2)
                go_roundw
                case rel =>
                  refine ⟨N2 ++ [y], q + 1, hqn, by go_num, by rw [List.length_append]; exact Nat.lt_of_lt_of_le HPN.out (Nat.le_add_right _ _), HSK.out, (HBB.out.alloc hwb _).grown HG9.out (by simp; omega) (fun t ht => (HOB.out.lt t ht).1), ?_⟩
                  rw [List.length_append, HK2.out, HSN.out]
                  exact HO9.out
                case measure => simp [intOf]; omega
              · have hsk := rea_skip HR2.out (by rw [HEL.out]; exact hqn) HXQ.out fun z hz hzm => by
                  rw [HUN.out z hz] at hzm
                  exact absurd (by rw [← HYY.out]; exact hzm) hle
                have HSK := Lib.hid hsk
                clear hsk
                go_wp2_with fail
                go_roundw
                case rel => exact ⟨N2, q + 1, hqn, by go_num, HPN.out, HSK.out, HBB.out, by rw [HK2.out]; exact HOB.out⟩
                case measure => simp [intOf]; omega
        · obtain rfl : ne = q := by omega
          have hnx := rea_next (by rw [HEL.out]; exact hR2)
          have HNX := Lib.hid hnx
          clear hnx hR2 hb2 hO2 hk2
          go_wp2_with fail
          go_roundw
          case rel => exact ⟨N2, p + 1, HPN.out, by go_num, HNX.out, HB2.out, by rw [HK2.out]; exact HO2.out⟩
          case measure => simp [intOf]; omega
    · obtain rfl : k = p := by omega
      have hpc := rea_piece HR.out (Nat.le_of_eq HK.out)
      have HPC := Lib.hid hpc
      clear hpc
      go_wp2_with fail
      go_ret
      unfold ReachP
      exact ⟨N, k, po, co, HK.out, rfl, HB1.out.trans (HB.out.mono HB1.out.size), ints_owned (Joins.ownsRow_le HO.out hs1) (by rw [verN_len]; exact HK.out.symm), HPC.out⟩
end Go.Proofs.YtddnjimpdidpaaaGreatDoor
