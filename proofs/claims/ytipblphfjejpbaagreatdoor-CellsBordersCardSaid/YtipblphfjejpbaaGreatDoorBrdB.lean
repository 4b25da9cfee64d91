/-
  The document's SignOf, Border, SameMatrix, ProductOf by contracts.
-/
import Derived.Test.YtipblphfjejpbaaGreatDoorBrdA
import Derived.Test.YtipblphfjejpbaaGreatDoorCelY
set_option linter.unusedSimpArgs false
set_option linter.unusedVariables false
namespace Go.Proofs.YtipblphfjejpbaaGreatDoor
open Go Go.RowKit Go.Maps

theorem signFrom_at {f g : List Int} {k : Nat} : ∀ (j : Nat), (∀ i, i < j → f.getD i 0 ∈ g) → j ≤ f.length → signFrom g f k = signFrom g (f.drop j) (k + j)
  | 0, _, _ => rfl
  | j + 1, h, hl => by
    rw [signFrom_at j (fun i hi => h i (by omega)) (by omega), dropD 0 f j (by omega)]
    show (if f.getD j 0 ∈ g then signFrom g (f.drop (j + 1)) (k + j + 1) else sg (k + j)) = _
    rw [if_pos (h j (by omega))]; rfl

set_option maxRecDepth 100000 in
set_option maxHeartbeats 8000000 in
theorem signOf_any (f g : List Int) (u v : Value) (w : World) (hu : IntsAt w u f) (hv : IntsAt w v g) (hf : f.length ≤ 1000000) (hg : g.length ≤ 1000000) :
    Calls Tryz.prog 65 #[u, v] w (Same (.int .i64 (signF f g)) w) := by
  obtain ⟨pu, cu, hue, -⟩ := id hu
  obtain ⟨n, hLn⟩ : ∃ n, f.length = n := ⟨_, rfl⟩
  rw [hLn] at hue hf
  subst hue
  have HLN := Lib.hid hLn
  have HU := Lib.hid hu
  have HCN := Lib.hid (fun x => contains_any g v x w hv hg)
  unfold Same at HCN
  clear hLn hu hv hg
  go_enter Tryz.func65, Tryz.ntmps65
  go_wp2_with fail
  go_loop [5] (fun i => ∃ j : Nat, j ≤ n ∧ i = .int .i64 j ∧ ∀ k, k < j → f.getD k 0 ∈ g) (fun i => n - (intOf i).toNat)
  case atStart => exact ⟨0, Nat.zero_le _, rfl, fun k h => absurd h (by omega)⟩
  case round =>
    obtain ⟨j, hj, rfl, hin⟩ := hrel
    have HIN := Lib.hid hin
    clear hin
    by_cases hjn : j < n
    · obtain ⟨p', c', hv', -, -, hx⟩ := id HU.out
      obtain ⟨b, off, e1, e2⟩ := hx j (by rw [HLN.out]; exact hjn)
      cases hv'
      subst e1
      obtain ⟨x, hxx⟩ : ∃ x, f.getD j 0 = x := ⟨_, rfl⟩
      rw [hxx] at e2
      have HX := Lib.hid hxx
      have HC := Lib.hid (HCN.out x)
      obtain ⟨r, hr⟩ : ∃ r, g.contains x = r := ⟨_, rfl⟩
      rw [hr] at HC
      have HR := Lib.hid hr
      clear hx hxx hr
      cases r with
      | true =>
        go_wp2_with fail
        refine HC.out.mono ?_
        rintro e w1 ⟨rfl, rfl⟩
        go_wp2_with fail
        go_round
        case rel =>
          refine ⟨j + 1, by omega, by go_num, fun k hk => ?_⟩
          rcases (show k < j ∨ k = j by omega) with h | rfl
          · exact HIN.out k h
          · rw [HX.out]; simpa using HR.out
        case measure => simp [intOf]; omega
      | false =>
        have HSG : Hid (signF f g = sg j) := by
          unfold Hid signF
          rw [signFrom_erase (by rw [HLN.out]; exact hjn) HIN.out (by rw [HX.out]; intro h; have := HR.out; simp [h] at this), Nat.zero_add]
        by_cases hj2 : j % 2 = 0
        · have HS1 : Hid (signF f g = 1) := by unfold Hid; rw [HSG.out]; exact if_pos hj2
          have q1 : ((j : Int) % 2 == 0) = true := beq_iff_eq.2 (by omega)
          have q2 : (j % 2 == 0) = true := beq_iff_eq.2 hj2
          clear hj2
          go_wp2_with fail
          refine HC.out.mono ?_
          rintro e w1 ⟨rfl, rfl⟩
          go_wp2_with fail
          go_ret
          exact ⟨ret_i HS1.out.symm, rfl⟩
        · have HS1 : Hid (signF f g = -1) := by unfold Hid; rw [HSG.out]; exact if_neg hj2
          have q1 : ((j : Int) % 2 == 0) = false := beq_eq_false_iff_ne.2 (by omega)
          have q2 : (j % 2 == 0) = false := beq_eq_false_iff_ne.2 hj2
          clear hj2
          go_wp2_with fail
          refine HC.out.mono ?_
          rintro e w1 ⟨rfl, rfl⟩
          go_wp2_with fail
          go_ret
          exact ⟨ret_i HS1.out.symm, rfl⟩
    · obtain rfl : j = n := by omega
      have HS1 : Hid (signF f g = 0) := by
        unfold Hid signF
        rw [signFrom_at j HIN.out (by rw [HLN.out]; exact Nat.le_refl _), ← HLN.out, List.drop_length]; rfl
      go_wp2_with fail
      go_ret
      exact ⟨ret_i HS1.out.symm, rfl⟩

/-- the matrix of a boundary, row by row -/
def brdL (rows cols : List (List Int)) : List Int := rows.flatMap fun g => cols.map fun f => entryF g f
theorem brdL_snoc (rows cols : List (List Int)) (g : List Int) : brdL (rows ++ [g]) cols = brdL rows cols ++ cols.map (entryF g) := by unfold brdL; simp
theorem brdL_len : ∀ (rows cols : List (List Int)), (brdL rows cols).length = rows.length * cols.length
  | [], cols => by simp [brdL]
  | g :: rows, cols => by
    have : brdL (g :: rows) cols = cols.map (entryF g) ++ brdL rows cols := by simp [brdL]
    rw [this, List.length_append, brdL_len rows cols, List.length_map, List.length_cons, Nat.succ_mul]
    omega
theorem brdL_at : ∀ {rows cols : List (List Int)} {i k : Nat}, i < rows.length → k < cols.length → (brdL rows cols).getD (i * cols.length + k) 0 = entryF (rows.getD i []) (cols.getD k [])
  | [], _, _, _, h, _ => absurd h (by simp)
  | g :: rows, cols, 0, k, _, hk => by
    have : brdL (g :: rows) cols = cols.map (entryF g) ++ brdL rows cols := by simp [brdL]
    rw [this, Nat.zero_mul, Nat.zero_add, List.getD_eq_getElem?_getD, List.getElem?_append_left (by simpa using hk), List.getElem?_map, List.getElem?_eq_getElem hk]
    simp [List.getD_eq_getElem?_getD, List.getElem?_eq_getElem hk]
  | g :: rows, cols, i + 1, k, hi, hk => by
    have : brdL (g :: rows) cols = cols.map (entryF g) ++ brdL rows cols := by simp [brdL]
    have e : (i + 1) * cols.length + k = cols.length + (i * cols.length + k) := by rw [Nat.succ_mul]; omega
    rw [this, e, List.getD_eq_getElem?_getD, List.getElem?_append_right (by simp), List.length_map, Nat.add_sub_cancel_left, ← List.getD_eq_getElem?_getD, brdL_at (by simpa using hi) hk]
    simp
theorem entry_bd (g f : List Int) : entryF g f = 0 ∨ entryF g f = 1 ∨ entryF g f = -1 := by
  unfold entryF
  split
  · have h : ∀ (l : List Int) (k : Nat), signFrom g l k = 0 ∨ signFrom g l k = 1 ∨ signFrom g l k = -1 := fun l => by
      induction l with
      | nil => intro k; exact Or.inl rfl
      | cons x r ih =>
        intro k
        unfold signFrom
        split
        · exact ih _
        · exact (sg_bd k).elim (fun h => Or.inr (Or.inl h)) (fun h => Or.inr (Or.inr h))
    exact h f 0
  · exact Or.inl rfl

/-- cells of a block that is known whole -/
theorem blk_at {w : World} {b : Nat} {cs : Array Value} {t : TypeId} (h : w.heap[b]? = some (.cells cs t (0, 0))) (k : Nat) : w.cell? ⟨b, k, none⟩ = cs[k]? ∧ w.frozen? ⟨b, k, none⟩ = false :=
  ⟨cell_of_row w b k cs t (0, 0) h, frozen_of_row w b k cs t h⟩

def MatPost (B R C : Nat) (l : List Int) (w : World) (e : Ending) (w' : World) : Prop := ∃ p c, e = .returned (.agg #[.int .i64 R, .int .i64 C, .slice p l.length c]) ∧ Below w.heap.size w w' ∧ IntsIn B w' (.slice p l.length c) l

/-- a matrix that grows: the result's block, the matrix's, its numbers -/
def BordSt (w wr : World) (n m : Nat) (x : Value) (l : List Int) : Prop :=
  Below w.heap.size w wr ∧ wr.heap[w.heap.size]? = some (.cells #[.int .i64 0, .int .i64 0, .slice none 0 0] 41 (0, 0)) ∧ wr.heap[w.heap.size + 1]? = some (.cells #[.int .i64 n, .int .i64 m, x] 41 (0, 0)) ∧
    wr.ownsRow (w.heap.size + 2) 3 1 x l.length (intVs l)
theorem BordSt.start (w : World) (n m : Nat) : BordSt w ((w.alloc (.cells #[.int .i64 0, .int .i64 0, .slice none 0 0] 41)).alloc (.cells #[.int .i64 n, .int .i64 m, .slice none 0 0] 41)) n m (.slice none 0 0) [] := by
  refine ⟨((Below.refl _ _).alloc (Nat.le_refl _) _).alloc (by simp) _, ?_, ?_, World.ownsRow_nil _ _ _ _⟩
  · exact ((lit_below _ _).block _ (by simp)).trans (heap_alloc_new w _)
  · have h := heap_alloc_new (w.alloc (.cells #[.int .i64 0, .int .i64 0, .slice none 0 0] 41)) (.cells #[.int .i64 n, .int .i64 m, .slice none 0 0] 41)
    rw [lit_size] at h
    exact h
theorem BordSt.below {w wr w' : World} {n m : Nat} {x : Value} {l : List Int} (h : BordSt w wr n m x l) (hb : Below wr.heap.size wr w') : BordSt w w' n m x l :=
  ⟨h.1.trans (hb.mono h.1.size), (hb.block _ (Array.getElem?_eq_some_iff.1 h.2.1).1).trans h.2.1, (hb.block _ (Array.getElem?_eq_some_iff.1 h.2.2.1).1).trans h.2.2.1, owns_keep h.2.2.2 fun k hk => hb.block k (h.2.2.2.lt k hk).2⟩
theorem BordSt.slice {w wr : World} {n m : Nat} {x : Value} {l : List Int} (h : BordSt w wr n m x l) : ∃ p c, x = .slice p l.length c := (ints_owned (B := 0) h.2.2.2 rfl).len
theorem BordSt.push {w wr w9 : World} {n m : Nat} {x v' : Value} {l : List Int} {e : Int} (h : BordSt w wr n m x l) (h' : w9.ownsRow (w.heap.size + 2) 3 1 v' (l.length + 1) (intVs l ++ [.int .i64 e])) (hg : (wr.alloc (.cells #[.int .i64 e] 3)).grownBy w9 x.ownBlock) :
    w9.heap[w.heap.size + 1]? = some (.cells #[.int .i64 n, .int .i64 m, x] 41 (0, 0)) ∧ BordSt w (w9.setCell ⟨w.heap.size + 1, 2, none⟩ v') n m v' (l ++ [e]) := by
  have hb : Below wr.heap.size wr (wr.alloc (.cells #[.int .i64 e] 3)) := (Below.refl _ _).alloc (Nat.le_refl _) _
  have h1 := h.below hb
  have hlt := h1.2.2.2.lt
  have hk1 : w9.heap[w.heap.size]? = some (.cells #[.int .i64 0, .int .i64 0, .slice none 0 0] 41 (0, 0)) := (hg.block _ (Array.getElem?_eq_some_iff.1 h1.2.1).1 (fun e => by have := (hlt _ e.symm).1; omega)).trans h1.2.1
  have hk2 : w9.heap[w.heap.size + 1]? = some (.cells #[.int .i64 n, .int .i64 m, x] 41 (0, 0)) := (hg.block _ (Array.getElem?_eq_some_iff.1 h1.2.2.1).1 (fun e => by have := (hlt _ e.symm).1; omega)).trans h1.2.2.1
  refine ⟨hk2, ((h1.1.grown hg h1.1.size (fun k e => by have := (hlt k e).1; omega)).setCell (Nat.le_succ _) _), ?_, ?_, ?_⟩
  · rw [(grown_at w9 (w.heap.size + 1) 2 v').block _ (Array.getElem?_eq_some_iff.1 hk1).1 (fun e => by have := Option.some.inj e; omega)]
    exact hk1
  · exact set_block hk2
  · have hne : ∀ k, v'.ownBlock = some k → some k ≠ some (w.heap.size + 1) := fun k hk e => by
      have h5 := (h'.lt k hk).1
      have h6 := Option.some.inj e
      omega
    have h7 : (w9.setCell ⟨w.heap.size + 1, 2, none⟩ v').ownsRow (w.heap.size + 2) 3 1 v' (l.length + 1) (intVs l ++ [.int .i64 e]) := owns_keep h' fun k hk => (grown_at w9 (w.heap.size + 1) 2 v').block k (h'.lt k hk).2 (hne k hk)
    rw [List.length_append, intVs_snoc]
    exact h7

set_option maxRecDepth 100000 in
set_option maxHeartbeats 16000000 in
theorem border_any (B : Nat) (rows cols : List (List Int)) (u v : Value) (w : World) (hB : B ≤ w.heap.size) (hu : ListsIn B w u rows) (hv : ListsIn B w v cols) (hn : rows.length ≤ 600) (hm : cols.length ≤ 600) (hl : ∀ l ∈ rows, l.length ≤ 1000) (hl2 : ∀ l ∈ cols, l.length ≤ 1000) :
    Calls Tryz.prog 20 #[u, v] w (MatPost B rows.length cols.length (brdL rows cols) w) := by
  obtain ⟨i3, hi3, hy0, hy1, hy2⟩ := info_parts Tryz.info3
  obtain ⟨pu, cu, hue, -⟩ := id hu
  obtain ⟨n, hLn⟩ : ∃ n, rows.length = n := ⟨_, rfl⟩
  rw [hLn] at hue hn
  subst hue
  obtain ⟨pv, cv, hve, -⟩ := id hv
  obtain ⟨m, hLm⟩ : ∃ m, cols.length = m := ⟨_, rfl⟩
  rw [hLm] at hve hm
  subst hve
  have HN := Lib.hid hLn
  have HM := Lib.hid hLm
  have HU := Lib.hid hu
  have HV := Lib.hid hv
  have HL := Lib.hid hl
  have HL2 := Lib.hid hl2
  have HB := Lib.hid hB
  have HST0 := Lib.hid (BordSt.start w n m)
  unfold MatPost
  rw [hLn, hLm]
  clear hLn hLm hu hv hl hl2 hB
  go_enter Tryz.func20, Tryz.ntmps20
  go_wp2_with fail
  go_loopw [6, 7, 8, 9] (fun i _ _ _ wr => ∃ (j : Nat) (x : Value), j ≤ n ∧ i = .int .i64 j ∧ BordSt w wr n m x (brdL (rows.take j) cols)) (fun i _ _ _ _ => n - (intOf i).toNat)
  case atStart => exact ⟨0, _, Nat.zero_le _, rfl, HST0.out⟩
  case round =>
    obtain ⟨j, x, hj, rfl, hst⟩ := hrel
    obtain ⟨wo, rfl⟩ : ∃ wo : World, wo = wr := ⟨_, rfl⟩
    have HST := Lib.hid hst
    clear hst
    by_cases hjn : j < n
    · go_wp2_with fail
      go_loopw [7, 8, 9] (fun k _ _ wr => ∃ (q : Nat) (x : Value), q ≤ m ∧ k = .int .i64 q ∧ BordSt w wr n m x (brdL (rows.take j) cols ++ (cols.take q).map (entryF (rows.getD j [])))) (fun k _ _ _ => m - (intOf k).toNat)
      case atStart => exact ⟨0, x, Nat.zero_le _, rfl, by simpa using HST.out⟩
      case round =>
        obtain ⟨q, x, hq, rfl, hst⟩ := hrel
        have HSQ := Lib.hid hst
        by_cases hqm : q < m
        · have hjR : j < rows.length := by rw [HN.out]; exact hjn
          have hqC : q < cols.length := by rw [HM.out]; exact hqm
          obtain ⟨b, off, c, hve⟩ := HU.out.form (by omega)
          rw [HN.out] at hve
          obtain ⟨rfl, rfl⟩ : pu = some ⟨b, off, none⟩ ∧ cu = c := by cases hve; exact ⟨rfl, rfl⟩
          obtain ⟨b2, off2, c2, hve2⟩ := HV.out.form (by omega)
          rw [HM.out] at hve2
          obtain ⟨rfl, rfl⟩ : pv = some ⟨b2, off2, none⟩ ∧ cv = c2 := by cases hve2; exact ⟨rfl, rfl⟩
          obtain ⟨pj, cj, hcj, hij⟩ := cells_at (HU.out.below hst.1 (Nat.le_refl _)) j hjR
          obtain ⟨pq, cq, hcq, hiq⟩ := cells_at (HV.out.below hst.1 (Nat.le_refl _)) q hqC
          have hlj := HL.out _ (getL_mem hjR)
          have hlq := HL2.out _ (getL_mem hqC)
          have HTK := Lib.hid (take_snoc_getD [] cols q hqC)
          have hlen : (brdL (rows.take j) cols ++ (cols.take q).map (entryF (rows.getD j []))).length ≤ 400000 := by
            rw [List.length_append, brdL_len, List.length_map, List.length_take, List.length_take, HM.out]
            have h1 : min j rows.length * m ≤ 600 * 600 := Nat.mul_le_mul (by omega) hm
            omega
          obtain ⟨g, hg⟩ : ∃ g, rows.getD j [] = g := ⟨_, rfl⟩
          obtain ⟨f, hf⟩ : ∃ f, cols.getD q [] = f := ⟨_, rfl⟩
          rw [hg] at hcj hij hlj hlen
          rw [hf] at hcq hiq hlq HTK
          have HG := Lib.hid hg
          have HF := Lib.hid hf
          have HPA := Lib.hid (fun d : Nat => partOf_any g f _ _ (wr.drewN d) (show IntsAt (wr.drewN d) _ g from hij.at) (show IntsAt (wr.drewN d) _ f from hiq.at) (by omega) (by omega))
          unfold Same at HPA
          have HIJ := Lib.hid hij
          have HIQ := Lib.hid hiq
          obtain ⟨nj, hnj⟩ : ∃ nj, g.length = nj := ⟨_, rfl⟩
          obtain ⟨mq, hmq⟩ : ∃ mq, f.length = mq := ⟨_, rfl⟩
          rw [hnj] at hcj hlj HPA HIJ
          rw [hmq] at hcq hlq HPA HIQ
          have HNJ := Lib.hid hnj
          have HMQ := Lib.hid hmq
          obtain ⟨px, cx, hxe⟩ := hst.slice
          obtain ⟨s, hs⟩ : ∃ s, (brdL (rows.take j) cols ++ (cols.take q).map (entryF g)).length = s := ⟨_, rfl⟩
          rw [hg] at hxe HSQ
          rw [hs] at hxe hlen
          subst hxe
          have HS := Lib.hid hs
          clear hve hve2 hij hiq hjR hqC hg hf hnj hmq hst hs
          by_cases hd : nj + 1 = mq
          ·
            have q1 : ((nj : Int) + 1 == (mq : Int)) = true := beq_iff_eq.2 (by omega)
            obtain ⟨r, hr⟩ : ∃ r, partB g f = r := ⟨_, rfl⟩
            rw [hr] at HPA
            cases r with
            | false =>
              have HE : Hid (entryF g f = 0) := by unfold Hid entryF; exact if_neg (fun h => by rw [hr] at h; exact absurd h.2 (by decide))
              clear hd hr
              go_wp2_with fail
              go_quiet ((go_at_call 64; exact Calls.quiet_of_same (HPA.out _)))
              obtain ⟨w1, hw1⟩ : ∃ w1, w1 = wr.drewN nq := ⟨_, rfl⟩
              rw [← hw1]
              have hb1 : Below wr.heap.size wr w1 := by rw [hw1]; exact Below.drewN wr nq
              have HS1 := Lib.hid (HSQ.out.below hb1)
              have hcm : w1.cell? ⟨w.heap.size + 1, 2, none⟩ = some (.slice px s cx) := (blk_at HS1.out.2.2.1 2).1
              have hs1 : w.heap.size + 2 ≤ w1.heap.size := (Array.getElem?_eq_some_iff.1 HS1.out.2.2.1).1
              have HO := Lib.hid HS1.out.2.2.2
              rw [HS.out] at HO
              clear hw1 hb1
              go_wp2_with (at_builtin; refine wpList_append_lies _ rfl (.tmp 61) (.tmp 63) 26 rfl (w.heap.size + 2) 3 i3 (.int .i64 0) 1 8 Tryz.underlying26 hi3 hy0 hy1 hy2 rfl (by decide) (.slice px s cx) s _ rfl (HO.out.alloc _) ⟨w1.heap.size, 0, none⟩ 1 1 [.int .i64 0] rfl rfl (World.news_of_block (cs := #[.int .i64 0]) (t := 3) (fr := (0, 0)) (heap_alloc_new w1 _)) (by simp [Value.oneCell']) (by decide) (by unfold maxLen; omega) (by omega) (by simp; omega) (w1.heap.size + 1) (by simp) ?_; intro g2 c2 w9 hown2 hgr2 hat2 hlt2; have hpu := BordSt.push (e := 0) HS1.out (by rw [HS.out]; exact hown2) hgr2; have hcell9 : w9.cell? ⟨w.heap.size + 1, 2, none⟩ = some (.slice px s cx) := (blk_at hpu.1 2).1; have hfrz9 := (blk_at hpu.1 2).2; have HPU := Lib.hid hpu.2; clear hown2 hgr2 hat2 hlt2 hpu)
              go_roundw
              case rel =>
                refine ⟨q + 1, .slice (some ⟨g2, 0, none⟩) (s + 1) c2, by omega, by go_num, ?_⟩
                rw [HTK.out, List.map_append, ← List.append_assoc, List.map_cons, List.map_nil, HG.out, HE.out]
                exact HPU.out
              case measure => simp [intOf]; omega
            | true =>
              have HE : Hid (entryF g f = signF f g) := by unfold Hid entryF; rw [HNJ.out, HMQ.out]; exact if_pos ⟨hd, hr⟩
              obtain ⟨sn, hsn⟩ : ∃ sn, signF f g = sn := ⟨_, rfl⟩
              rw [hsn] at HE
              have HSN := Lib.hid hsn
              clear hd hr hsn
              go_wp2_with fail
              go_quiet ((go_at_call 64; exact Calls.quiet_of_same (HPA.out _)))
              obtain ⟨w0, hw0⟩ : ∃ w0, w0 = wr.drewN nq := ⟨_, rfl⟩
              rw [← hw0]
              have hb0 : Below wr.heap.size wr w0 := by rw [hw0]; exact Below.drewN wr nq
              have hcj0 := (hb0.cell (p := ⟨b, off + j, none⟩) (mem_lt hcj)).trans hcj
              have hcq0 := (hb0.cell (p := ⟨b2, off2 + q, none⟩) (mem_lt hcq)).trans hcq
              have HSG := Lib.hid (fun d : Nat => signOf_any f g _ _ (w0.drewN d) (show IntsAt (w0.drewN d) _ f from (HIQ.out.below hb0 (Nat.le_refl _)).at) (show IntsAt (w0.drewN d) _ g from (HIJ.out.below hb0 (Nat.le_refl _)).at) (by rw [HMQ.out]; omega) (by rw [HNJ.out]; omega))
              unfold Same at HSG
              rw [HSN.out] at HSG
              have HB0 := Lib.hid hb0
              clear hw0 hb0 hcj hcq
              go_wp2_with fail
              go_quiet ((go_at_call 65; exact Calls.quiet_of_same (HSG.out _)))
              obtain ⟨w1, hw1⟩ : ∃ w1, w1 = w0.drewN nq := ⟨_, rfl⟩
              rw [← hw1]
              have hb1 : Below wr.heap.size wr w1 := by rw [hw1]; exact HB0.out.trans ((Below.drewN w0 nq).mono HB0.out.size)
              have HS1 := Lib.hid (HSQ.out.below hb1)
              have hcm : w1.cell? ⟨w.heap.size + 1, 2, none⟩ = some (.slice px s cx) := (blk_at HS1.out.2.2.1 2).1
              have hs1 : w.heap.size + 2 ≤ w1.heap.size := (Array.getElem?_eq_some_iff.1 HS1.out.2.2.1).1
              have HO := Lib.hid HS1.out.2.2.2
              rw [HS.out] at HO
              clear hw1 hb1
              go_wp2_with (at_builtin; refine wpList_append_lies _ rfl (.tmp 61) (.tmp 63) 26 rfl (w.heap.size + 2) 3 i3 (.int .i64 0) 1 8 Tryz.underlying26 hi3 hy0 hy1 hy2 rfl (by decide) (.slice px s cx) s _ rfl (HO.out.alloc _) ⟨w1.heap.size, 0, none⟩ 1 1 [.int .i64 sn] rfl rfl (World.news_of_block (cs := #[.int .i64 sn]) (t := 3) (fr := (0, 0)) (heap_alloc_new w1 _)) (by simp [Value.oneCell']) (by decide) (by unfold maxLen; omega) (by omega) (by simp; omega) (w1.heap.size + 1) (by simp) ?_; intro g2 c2 w9 hown2 hgr2 hat2 hlt2; have hpu := BordSt.push (e := sn) HS1.out (by rw [HS.out]; exact hown2) hgr2; have hcell9 : w9.cell? ⟨w.heap.size + 1, 2, none⟩ = some (.slice px s cx) := (blk_at hpu.1 2).1; have hfrz9 := (blk_at hpu.1 2).2; have HPU := Lib.hid hpu.2; clear hown2 hgr2 hat2 hlt2 hpu)
              go_roundw
              case rel =>
                refine ⟨q + 1, .slice (some ⟨g2, 0, none⟩) (s + 1) c2, by omega, by go_num, ?_⟩
                rw [HTK.out, List.map_append, ← List.append_assoc, List.map_cons, List.map_nil, HG.out, HE.out]
                exact HPU.out
              case measure => simp [intOf]; omega
          · have q1 : ((nj : Int) + 1 == (mq : Int)) = false := beq_eq_false_iff_ne.2 (by omega)
            have HE : Hid (entryF g f = 0) := by unfold Hid entryF; rw [HNJ.out, HMQ.out]; exact if_neg (fun h => hd h.1)
            clear hd
            go_wp2_with fail
            go_quiet (fail)
            obtain ⟨w1, hw1⟩ : ∃ w1, w1 = wr.drewN nq := ⟨_, rfl⟩
            rw [← hw1]
            have hb1 : Below wr.heap.size wr w1 := by rw [hw1]; exact Below.drewN wr nq
            have HS1 := Lib.hid (HSQ.out.below hb1)
            have hcm : w1.cell? ⟨w.heap.size + 1, 2, none⟩ = some (.slice px s cx) := (blk_at HS1.out.2.2.1 2).1
            have hs1 : w.heap.size + 2 ≤ w1.heap.size := (Array.getElem?_eq_some_iff.1 HS1.out.2.2.1).1
            have HO := Lib.hid HS1.out.2.2.2
            rw [HS.out] at HO
            clear hw1 hb1
            go_wp2_with (at_builtin; refine wpList_append_lies _ rfl (.tmp 61) (.tmp 63) 26 rfl (w.heap.size + 2) 3 i3 (.int .i64 0) 1 8 Tryz.underlying26 hi3 hy0 hy1 hy2 rfl (by decide) (.slice px s cx) s _ rfl (HO.out.alloc _) ⟨w1.heap.size, 0, none⟩ 1 1 [.int .i64 0] rfl rfl (World.news_of_block (cs := #[.int .i64 0]) (t := 3) (fr := (0, 0)) (heap_alloc_new w1 _)) (by simp [Value.oneCell']) (by decide) (by unfold maxLen; omega) (by omega) (by simp; omega) (w1.heap.size + 1) (by simp) ?_; intro g2 c2 w9 hown2 hgr2 hat2 hlt2; have hpu := BordSt.push (e := 0) HS1.out (by rw [HS.out]; exact hown2) hgr2; have hcell9 : w9.cell? ⟨w.heap.size + 1, 2, none⟩ = some (.slice px s cx) := (blk_at hpu.1 2).1; have hfrz9 := (blk_at hpu.1 2).2; have HPU := Lib.hid hpu.2; clear hown2 hgr2 hat2 hlt2 hpu)
            go_roundw
            case rel =>
              refine ⟨q + 1, .slice (some ⟨g2, 0, none⟩) (s + 1) c2, by omega, by go_num, ?_⟩
              rw [HTK.out, List.map_append, ← List.append_assoc, List.map_cons, List.map_nil, HG.out, HE.out]
              exact HPU.out
            case measure => simp [intOf]; omega
        · obtain rfl : q = m := by omega
          have HFULL : Hid (brdL (rows.take j) cols ++ (cols.take q).map (entryF (rows.getD j [])) = brdL (rows.take (j + 1)) cols) := by
            unfold Hid
            have hc : cols.take q = cols := List.take_of_length_le (by rw [HM.out]; exact Nat.le_refl _)
            rw [take_snoc_getD [] rows j (by rw [HN.out]; exact hjn), brdL_snoc, hc]
          rw [HFULL.out] at HSQ
          clear hst
          go_wp2_with fail
          go_roundw
          case rel => exact ⟨j + 1, x, by omega, by go_num, HSQ.out⟩
          case measure => simp [intOf]; omega
    · obtain rfl : j = n := by omega
      have hst := HST.out
      rw [List.take_of_length_le (by rw [HN.out]; exact Nat.le_refl _)] at hst
      obtain ⟨px, cx, hxe⟩ := hst.slice
      have hrow := ints_owned (B := B) hst.2.2.2 rfl
      rw [hxe] at hrow
      obtain ⟨s, hs⟩ : ∃ s, (brdL rows cols).length = s := ⟨_, rfl⟩
      rw [hs] at hxe hrow
      subst hxe
      have hk0 := hst.2.1
      have hk1 := hst.2.2.1
      obtain ⟨wf, hwf⟩ : ∃ wf, wf = ((wo.setCell ⟨w.heap.size, 0, none⟩ (.int .i64 j)).setCell ⟨w.heap.size, 1, none⟩ (.int .i64 m)).setCell ⟨w.heap.size, 2, none⟩ (.slice px s cx) := ⟨_, rfl⟩
      have hgf : wo.grownBy wf (some w.heap.size) := by rw [hwf]; exact ((grown_at wo w.heap.size 0 _).trans (grown_at _ w.heap.size 1 _)).trans (grown_at _ w.heap.size 2 _)
      have hkf : wf.heap[w.heap.size]? = some (.cells #[.int .i64 j, .int .i64 m, .slice px s cx] 41 (0, 0)) := by rw [hwf]; exact set_block (set_block (set_block hk0))
      have HFIN := Lib.hid (hrow.grown hgf (fun k e => by
        obtain rfl := Option.some.inj e
        exact ⟨HB.out, fun c e => by rw [hk0] at e; cases e⟩))
      have HBF := Lib.hid (hst.1.grown hgf hst.1.size (fun k e => by have := Option.some.inj e; omega))
      have HKF := Lib.hid hkf
      have HWF := Lib.hid hwf
      have c0 : wo.cell? ⟨w.heap.size + 1, 0, none⟩ = some (.int .i64 j) := (blk_at hk1 0).1
      have c1 : wo.cell? ⟨w.heap.size + 1, 1, none⟩ = some (.int .i64 m) := (blk_at hk1 1).1
      have c2 : wo.cell? ⟨w.heap.size + 1, 2, none⟩ = some (.slice px s cx) := (blk_at hk1 2).1
      have d0 : wo.cell? ⟨w.heap.size, 0, none⟩ = some (.int .i64 0) := (blk_at hk0 0).1
      have d1 : wo.cell? ⟨w.heap.size, 1, none⟩ = some (.int .i64 0) := (blk_at hk0 1).1
      have d2 : wo.cell? ⟨w.heap.size, 2, none⟩ = some (.slice none 0 0) := (blk_at hk0 2).1
      have f0 := (blk_at hk0 0).2
      have f1 := (blk_at hk0 1).2
      have f2 := (blk_at hk0 2).2
      have HS := Lib.hid hs
      clear hwf hgf hkf hrow hst hk0 hk1 hs
      go_wp2_with fail
      rw [← HWF.out]
      have r0 : wf.cell? ⟨w.heap.size, 0, none⟩ = some (.int .i64 j) := (blk_at HKF.out 0).1
      have r1 : wf.cell? ⟨w.heap.size, 1, none⟩ = some (.int .i64 m) := (blk_at HKF.out 1).1
      have r2 : wf.cell? ⟨w.heap.size, 2, none⟩ = some (.slice px s cx) := (blk_at HKF.out 2).1
      refine bodyPost_ret (v := .agg #[.int .i64 j, .int .i64 m, .slice px s cx]) (by simp [results, Tryz.results20, go_sem, r0, r1, r2]) rfl ?_
      rw [HS.out]
      exact ⟨px, cx, rfl, HBF.out, HFIN.out⟩

end Go.Proofs.YtipblphfjejpbaaGreatDoor
