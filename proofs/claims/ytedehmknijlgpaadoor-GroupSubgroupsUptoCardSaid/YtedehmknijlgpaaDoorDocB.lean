/-
  The document's column, Leads, Holds, Standard by contracts.
-/
import Derived.Test.YtedehmknijlgpaaDoorDocA
import Derived.Test.YtedehmknijlgpaaDoorTolA
set_option linter.unusedSimpArgs false
set_option linter.unusedVariables false
namespace Go.Proofs.YtedehmknijlgpaaDoor
open Go Go.RowKit Go.Maps

theorem columnR_any (x : Int) (w : World) (h0 : x ≠ 0) (hx : -1000000 ≤ x ∧ x ≤ 1000000) : Calls Tryd.prog 32 #[.int .i64 x] w (GivesK (.int .i64 ((colN x : Nat) : Int)) w) := by
  unfold GivesK colN
  by_cases hp : 0 < x
  · have e1 : (((if 0 < x then (2 * (x - 1)).toNat else (2 * (-x - 1) + 1).toNat : Nat)) : Int) = 2 * x - 2 := by rw [if_pos hp]; omega
    rw [e1]
    obtain ⟨h1, h2⟩ := hx
    clear e1
    go_enter Tryd.func32, Tryd.ntmps32
    go_wp2_with fail
    go_ret
    exact ⟨rfl, rfl⟩
  · have e1 : (((if 0 < x then (2 * (x - 1)).toNat else (2 * (-x - 1) + 1).toNat : Nat)) : Int) = -2 * x - 1 := by rw [if_neg hp]; omega
    rw [e1]
    obtain ⟨h1, h2⟩ := hx
    have hp2 : x < 0 := by omega
    clear e1
    go_enter Tryd.func32, Tryd.ntmps32
    go_wp2_with fail
    go_ret
    exact ⟨rfl, rfl⟩

/-- a table of rows of W entries that are its own rows' numbers -/
def TabOk (W : Nat) (T : List (List Int)) : Prop := ∀ i, i < T.length → (T.getD i []).length = W ∧ ∀ k, k < W → ∃ u : Nat, (T.getD i []).getD k (-1) = (u : Int) ∧ u < T.length
theorem leadT_lt {W : Nat} {T : List (List Int)} (h : TabOk W T) : ∀ (w : List Nat) {r : Nat}, r < T.length → (∀ k ∈ w, k < W) → TC.leadT T r w < T.length
  | [], r, hr, _ => hr
  | k :: w, r, hr, hw => by
    obtain ⟨u, h1, h2⟩ := (h r hr).2 k (hw k List.mem_cons_self)
    rw [TC.leadT, h1, Int.toNat_natCast]
    exact leadT_lt h w h2 (fun x hx => hw x (List.mem_cons_of_mem _ hx))
set_option maxRecDepth 100000 in
set_option maxHeartbeats 8000000 in
theorem leads_any (B W r : Nat) (T : List (List Int)) (xs : List Int) (vt v : Value) (w : World) (hT : ListsIn B w vt T) (hok : TabOk W T) (hr : r < T.length) (hx : ∀ x ∈ xs, x ≠ 0 ∧ -1000000 ≤ x ∧ x ≤ 1000000 ∧ colN x < W) (hv : IntsAt w v xs) (hl : xs.length ≤ 1000000) (htl : T.length ≤ 1000000) :
    Calls Tryd.prog 15 #[vt, .int .i64 (r : Int), v] w (Drew (.int .i64 ((TC.leadT T r (xs.map colN) : Nat) : Int)) w) := by
  obtain ⟨pt, ct, hte, -⟩ := id hT
  obtain ⟨m, hm⟩ : ∃ m, T.length = m := ⟨_, rfl⟩
  rw [hm] at hte htl
  subst hte
  obtain ⟨pv, cv, hve, -⟩ := id hv
  obtain ⟨n, hn⟩ : ∃ n, xs.length = n := ⟨_, rfl⟩
  rw [hn] at hve hl
  subst hve
  obtain ⟨cs, hcs⟩ : ∃ cs, xs.map colN = cs := ⟨_, rfl⟩
  have hcl : cs.length = n := by rw [← hcs, List.length_map, hn]
  have HCS := Lib.hid hcs
  have HCL := Lib.hid hcl
  rw [hcs]
  have HM := Lib.hid hm
  have HN := Lib.hid hn
  have HT := Lib.hid hT
  have HOK := Lib.hid hok
  have HX := Lib.hid hx
  have HV := Lib.hid hv
  have HR := Lib.hid hr
  unfold Drew
  clear hm hn hT hok hx hv hr hcs hcl
  go_enter Tryd.func15, Tryd.ntmps15
  go_wp2_with fail
  go_loopw [1, 7] (fun s i wr => ∃ j q z : Nat, j ≤ n ∧ i = .int .i64 (j : Int) ∧ s = .int .i64 (q : Int) ∧ wr = w.drewN z ∧ Hid (q < T.length ∧ TC.leadT T q (cs.drop j) = TC.leadT T r cs)) (fun _ i _ => n - (intOf i).toNat)
  case atStart => exact ⟨0, r, 0, Nat.zero_le _, rfl, rfl, rfl, HR.out, rfl⟩
  case round =>
    obtain ⟨j, q, z, hj, rfl, rfl, hz, HQ⟩ := hrel
    have HZ := Lib.hid hz
    by_cases hjn : j < n
    · have hjx : j < xs.length := by rw [HN.out]; exact hjn
      have hvr : IntsAt wr (.slice pv n cv) xs := by rw [hz]; exact HV.out
      have htr : ListsIn B wr (.slice pt m ct) T := by rw [hz]; exact HT.out.drewN z
      obtain ⟨b, off, e1, e2⟩ : ∃ b off, pv = some ⟨b, off, none⟩ ∧ wr.cell? ⟨b, off + j, none⟩ = some (.int .i64 (xs.getD j 0)) := by
        obtain ⟨p', c', he, -, -, hc⟩ := hvr
        obtain ⟨b, off, e1, e2⟩ := hc j hjx
        cases he
        exact ⟨b, off, e1, e2⟩
      subst e1
      obtain ⟨hx0, hx1, hx2, hx3⟩ := HX.out _ (show xs.getD j 0 ∈ xs by rw [List.getD_eq_getElem?_getD, List.getElem?_eq_getElem hjx]; exact List.getElem_mem _)
      have hdr : cs.drop j = colN (xs.getD j 0) :: cs.drop (j + 1) := by
        rw [List.drop_eq_getElem_cons (by rw [HCL.out]; exact hjn)]
        congr 1
        simp only [← HCS.out, List.getElem_map]
        congr 1
        simp [List.getD_eq_getElem?_getD, hjx]
      obtain ⟨hq, hld⟩ := HQ.out
      rw [hdr] at hld
      obtain ⟨x, hxx⟩ : ∃ x, xs.getD j 0 = x := ⟨_, rfl⟩
      rw [hxx] at e2 hx0 hx1 hx2 hx3 hld
      have HCO := Lib.hid (fun d => columnR_any x (wr.drewN d) hx0 ⟨hx1, hx2⟩)
      unfold GivesK at HCO
      obtain ⟨k, hk⟩ : ∃ k, colN x = k := ⟨_, rfl⟩
      rw [hk] at HCO hx3 hld
      obtain ⟨hlen, hent⟩ := HOK.out q hq
      obtain ⟨u, hu, hum⟩ := hent k hx3
      rw [TC.leadT, hu, Int.toNat_natCast] at hld
      obtain ⟨bt, ot, ct', hvt⟩ := htr.form (by omega)
      rw [HM.out] at hvt
      obtain ⟨rfl, rfl⟩ : pt = some ⟨bt, ot, none⟩ ∧ ct = ct' := by cases hvt; exact ⟨rfl, rfl⟩
      obtain ⟨pq, cq, hcq, hiq⟩ := cells_at htr q hq
      rw [hlen] at hcq hiq
      have e5 : (T.getD q []).getD k 0 = (u : Int) := by
        have hkl : k < (T.getD q []).length := by rw [hlen]; exact hx3
        rw [← hu, List.getD_eq_getElem?_getD (l := T.getD q []), List.getD_eq_getElem?_getD (l := T.getD q []), List.getElem?_eq_getElem hkl]; rfl
      obtain ⟨b2, o2, e3, e4⟩ : ∃ b off, pq = some ⟨b, off, none⟩ ∧ wr.cell? ⟨b, off + k, none⟩ = some (.int .i64 (u : Int)) := by
        obtain ⟨p', c', he, -, -, hc⟩ := hiq.at
        obtain ⟨b, off, e1, e2⟩ := hc k (by rw [hlen]; exact hx3)
        cases he
        rw [e5] at e2
        exact ⟨b, off, e1, e2⟩
      subst e3
      have hqm : q < m := by rw [← HM.out]; exact hq
      have HLD := Lib.hid hld
      have HUM := Lib.hid hum
      clear hvr htr hdr hq hld hxx hk hlen hent hu hum hvt hiq hjx hz HQ e5
      go_wp2_with fail
      go_quiet ((go_at_call 32; with_reducible exact Calls.quiet_of_same (HCO.out _)))
      go_wp2_with fail
      go_roundw
      case rel => exact ⟨j + 1, u, z + nq, hjn, by go_num, rfl, by rw [HZ.out, World.drewN_drewN], HUM.out, HLD.out⟩
      case measure => simp [intOf]; omega
    · obtain rfl : n = j := by omega
      have hdr : cs.drop n = [] := by rw [← HCL.out]; exact List.drop_length
      have HF : Hid (TC.leadT T r cs = q) := by unfold Hid; rw [← HQ.out.2, hdr]; rfl
      clear hz hdr HQ
      go_wp2_with fail
      go_ret
      rw [HF.out]
      exact ⟨rfl, z, HZ.out⟩
end Go.Proofs.YtedehmknijlgpaaDoor
