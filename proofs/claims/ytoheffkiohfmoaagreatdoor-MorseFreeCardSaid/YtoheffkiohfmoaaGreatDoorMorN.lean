/-
  Rows of pairs of ints: their cells; an owned one reads as its pairs; samePairs by a contract.
  append of pairs; the law's pairs and samePairs by contracts.
  The law's closed fact: an edge's free pairs.
-/
import Derived.Test.YtoheffkiohfmoaaGreatDoorPairO
import Derived.Test.YtoheffkiohfmoaaGreatDoorPairR
import Derived.Deep.AppendLies
import Derived.Laws.AppendOwnNone
import Derived.ChangeKeysEq
import Derived.Test.YtoheffkiohfmoaaGreatDoorMorL
import Derived.Test.YtoheffkiohfmoaaGreatDoorCelQ
set_option linter.unusedSimpArgs false
set_option linter.unusedVariables false
namespace Go.Proofs.YtoheffkiohfmoaaGreatDoor
open Go Go.RowKit Go.Maps

def cells2 (l : List (Int × Int)) : List Value := l.flatMap fun p => [.int .i64 p.1, .int .i64 p.2]
theorem cells2_append (l r : List (Int × Int)) : cells2 (l ++ r) = cells2 l ++ cells2 r := List.flatMap_append
theorem cells2_length (l : List (Int × Int)) : (cells2 l).length = l.length * 2 := by
  induction l with
  | nil => rfl
  | cons x r ih => simp only [cells2, List.flatMap_cons, List.length_append, List.length_cons, List.length_nil] at *; omega
theorem cells2_at : ∀ {l : List (Int × Int)} {i : Nat}, i < l.length → (cells2 l)[i * 2]? = some (.int .i64 (l.getD i (0, 0)).1) ∧ (cells2 l)[i * 2 + 1]? = some (.int .i64 (l.getD i (0, 0)).2)
  | x :: r, 0, _ => ⟨rfl, rfl⟩
  | x :: r, i + 1, h => by
    have ih := cells2_at (l := r) (i := i) (by simpa using h)
    have e : cells2 (x :: r) = .int .i64 x.1 :: .int .i64 x.2 :: cells2 r := rfl
    rw [e, show (i + 1) * 2 = i * 2 + 1 + 1 by omega, show i * 2 + 1 + 1 + 1 = (i * 2 + 1) + 1 + 1 by omega]
    simpa using ih
theorem cells2_one (l : List (Int × Int)) : ∀ u ∈ cells2 l, u.oneCell' = true := fun u hu => by
  unfold cells2 at hu
  obtain ⟨p, -, h⟩ := List.mem_flatMap.1 hu
  simp at h
  rcases h with rfl | rfl <;> rfl
/-- an owned row of pairs -/
def PairR (O : Nat) (w : World) (v : Value) (l : List (Int × Int)) : Prop := w.ownsRow O 78 2 v l.length (cells2 l)
theorem PairR.nil (O : Nat) (w : World) : PairR O w (.slice none 0 0) [] := World.ownsRow_nil _ _ _ _
theorem PairR.below {O C : Nat} {w w' : World} {v : Value} {l : List (Int × Int)} (h : PairR O w v l) (hb : Below C w w') (hC : w.heap.size ≤ C) : PairR O w' v l :=
  owns_keep h fun k hk => hb.block k (Nat.lt_of_lt_of_le (h.lt k hk).2 hC)
theorem PairR.pairs {O : Nat} {w : World} {v : Value} {l : List (Int × Int)} (h : PairR O w v l) : PairsAt w v l := by
  rcases Joins.ownsRow_forms h with ⟨rfl, h0⟩ | ⟨g, cap, rfl⟩
  · rw [List.length_eq_zero_iff.1 h0]; exact PairsAt.nil w
  · have hc : l.length ≤ cap := by
      rcases h.2 with ⟨e, _⟩ | ⟨g', cap', cur, e, _, _, hle, _⟩
      · cases e
      · cases e; exact hle
    refine ⟨_, cap, rfl, hc, (fun e => by cases e), fun i hi => ⟨g, 0, rfl, ?_, ?_⟩⟩
    · have h1 := h.cells (g := g) rfl (i * 2) _ (cells2_at hi).1
      rw [add_zero] at h1
      rw [Nat.zero_add]
      exact h1
    · have h1 := h.cells (g := g) rfl (i * 2 + 1) _ (cells2_at hi).2
      rw [add_zero] at h1
      rw [Nat.zero_add]
      exact h1

theorem run_app2 {P : Program} (w : World) (base : Nat) (t ty e : TypeId) (i : TypeInfo) (z : Value) (bytes : Nat) (ht : P.underlying t = some (.slice e)) (hi : P.info? e = some i) (hz : i.zero = some z)
    (hsize : i.size = 2) (hby : i.bytes = bytes) (hzs : z.cells.size = 2)
    (v : Value) (n : Nat) (xs : List Value) (hown : w.ownsRow base e 2 v n xs) (p : Option Addr) (m c : Nat) (news : List Value) (hl : news.length = m * 2) (hp : p = none → c = 0 ∧ m = 0)
    (hnews : ∀ ad, p = some ad → ∀ j u, news[j]? = some u → w.cell? (ad.add j) = some u) (h1 : ∀ u ∈ news, u.oneCell' = true)
    (h63 : n + m ≤ maxLen) (hbytes : (n + m) * bytes ≤ 140737488355328) (hbase : base ≤ w.heap.size) :
    ∃ v' w', (Builtin.append_ #[t, t] ty #[v, .slice p m c]).run P w = .ok v' w' ∧ w'.ownsRow base e 2 v' (n + m) (xs ++ news) ∧ w.grownBy w' v.ownBlock := by
  cases p with
  | none =>
    obtain ⟨rfl, rfl⟩ := hp rfl
    obtain rfl : news = [] := List.length_eq_zero_iff.1 (by omega)
    have hr := run_append_owned_none (P := P) (w := w) base t ty e i 2 ht hi v n xs hown
    rw [List.append_nil, Nat.add_zero]
    exact ⟨v, w, hr, hown, ⟨rfl, rfl, rfl, Nat.le_refl _, fun _ _ _ => rfl⟩⟩
  | some ad =>
    obtain ⟨v', w', hr, h2, h3, h4, h5⟩ := run_append_own_at (P := P) w base t ty e i z 2 bytes ht hi hz hsize hby hzs (by decide) v n xs hown ad m c news (by omega) (hnews ad rfl) h1 h63 hbytes hbase
    exact ⟨v', w', hr, h2, h3⟩
theorem wpList_app2 {P : Program} (w : World) {ops : Array Oper} {rest : List Oper} {o : Oper} {a : Act} {Q : Exit → Act → World → Prop} (hgd : o.guard = none) (s x : Operand) (t : TypeId)
    (ho : o.op = .call { callee := .builtin .append, args := #[s, x], argTypes := #[t, t] })
    (base : Nat) (e : TypeId) (i : TypeInfo) (z : Value) (bytes : Nat) (ht : P.underlying t = some (.slice e)) (hi : P.info? e = some i) (hz : i.zero = some z)
    (hsize : i.size = 2) (hby : i.bytes = bytes) (hzs : z.cells.size = 2)
    (v : Value) (n : Nat) (xs : List Value) (hs : a.eval s = v) (hown : w.ownsRow base e 2 v n xs)
    (p : Option Addr) (m c : Nat) (news : List Value) (hx : a.eval x = .slice p m c) (hl : news.length = m * 2) (hp : p = none → c = 0 ∧ m = 0)
    (hnews : ∀ ad, p = some ad → ∀ j u, news[j]? = some u → w.cell? (ad.add j) = some u) (h1 : ∀ u ∈ news, u.oneCell' = true)
    (h63 : n + m ≤ maxLen) (hbytes : (n + m) * bytes ≤ 140737488355328) (hbase : base ≤ w.heap.size)
    (h : ∀ v' w', w'.ownsRow base e 2 v' (n + m) (xs ++ news) → w.grownBy w' v.ownBlock → wpList P ops Q rest (a.put o.dst v') w') : wpList P ops Q (o :: rest) a w := by
  refine wpList_plain hgd fun K hK => ?_
  obtain ⟨v', w', hr, h2, h3⟩ := run_app2 (P := P) w base t o.type e i z bytes ht hi hz hsize hby hzs v n xs hown p m c news hl hp hnews h1 h63 hbytes hbase
  unfold Oper.wp execOp
  simp only [ho, resolve, invoke, builtin, Sem.run_bind, Sem.run_pure, Result.andThen_ok, List.map_toArray, List.map_cons, List.map_nil, hs, hx, hr]
  exact hK _ _ (h v' w' h2 h3)
/-- the cells of a slice of pairs -/
theorem PairsAt.news {w : World} {p : Option Addr} {n c : Nat} {g : List (Int × Int)} (h : PairsAt w (.slice p n c) g) :
    g.length = n ∧ (p = none → c = 0 ∧ n = 0) ∧ ∀ ad, p = some ad → ∀ j u, (cells2 g)[j]? = some u → w.cell? (ad.add j) = some u := by
  obtain ⟨p', c', hv, hc, hn, hx⟩ := h
  cases hv
  refine ⟨rfl, fun e => ⟨hn e, ?_⟩, ?_⟩
  · have := hn e; omega
  · rintro ad rfl j u hu
    have hj : j < g.length * 2 := by rw [← cells2_length]; exact (List.getElem?_eq_some_iff.1 hu).1
    obtain ⟨b, off, e1, e2, e3⟩ := hx (j / 2) (by omega)
    cases e1
    obtain ⟨f1, f2⟩ := cells2_at (l := g) (i := j / 2) (by omega)
    rw [add_off]
    rcases Nat.mod_two_eq_zero_or_one j with hm | hm
    · have ej : j / 2 * 2 = j := by omega
      rw [ej] at e2 f1
      rw [f1] at hu
      rw [e2]; exact hu
    · have ej : j / 2 * 2 + 1 = j := by omega
      rw [Nat.add_assoc, ej] at e3
      rw [ej] at f2
      rw [f2] at hu
      rw [e3]; exact hu
set_option maxRecDepth 100000 in
set_option maxHeartbeats 4000000 in
theorem pairs_any (g : List (Int × Int)) (v : Value) (w : World) (hg : PairsAt w v g) (hn : g.length ≤ 1000) :
    Calls Tryz.prog 12 #[v] w (fun e w' => ∃ u, e = .returned u ∧ Below w.heap.size w w' ∧ PairsAt w' u g) := by
  obtain ⟨i2, hi2, hx0, hx1, hx2⟩ := info_parts infoPair
  obtain ⟨p, c, hve, -⟩ := id hg
  obtain ⟨n, hnn⟩ : ∃ n, g.length = n := ⟨_, rfl⟩
  rw [hnn] at hve hn
  subst hve
  obtain ⟨-, h1, h2⟩ := hg.news
  have HN := Lib.hid hnn
  have H1 := Lib.hid h1
  have H2 := Lib.hid h2
  have HL : Hid ((cells2 g).length = n * 2) := by unfold Hid; rw [cells2_length, hnn]
  clear hg hnn h1 h2
  go_enter Tryz.func12, Tryz.ntmps12
  go_wp2_with (at_builtin; refine wpList_app2 w rfl (.tmp 4) (.tmp 5) 23 rfl w.heap.size 78 i2 (.agg #[.int .i64 0, .int .i64 0]) 16 underPairs hi2 hx0 hx1 hx2 rfl _ 0 [] rfl (World.ownsRow_nil _ _ _ _) p n c (cells2 g) rfl HL.out H1.out H2.out (cells2_one g) (by unfold maxLen; omega) (by omega) (Nat.le_refl _) ?_; intro v9 w9 ho9 hg9; have HO9 := Lib.hid ho9; have HG9 := Lib.hid hg9; clear ho9 hg9)
  go_ret
  have ho := HO9.out
  rw [List.nil_append, Nat.zero_add] at ho
  refine ⟨_, rfl, (Below.refl _ _).grown HG9.out (Nat.le_refl _) (fun k e => by cases e), ?_⟩
  have hr : PairR w.heap.size w9 v9 g := by unfold PairR; rw [HN.out]; exact ho
  exact hr.pairs
theorem part_int (xs : Array Value) (k : Nat) (x : Int) (h : xs[k]? = some (.int .i64 x)) (w : World) : Sem.run Tryz.prog (part 3 xs k) w = .ok (.int .i64 x) w := by
  obtain ⟨i3, hi3, hy0, hy1, hy2⟩ := info_parts Tryz.info3
  simp [go_sem, part, hi3, hy0, hy1, hy2, h]
theorem eq_pair (x y x' y' : Int) (w : World) : Sem.run Tryz.prog (Op.equalIn 10000 78 (.agg #[.int .i64 x, .int .i64 y]) (.agg #[.int .i64 x', .int .i64 y'])) w = .ok (x == x' && y == y') w := by
  obtain ⟨i3, hi3, hy0, hy1, hy2⟩ := info_parts Tryz.info3
  rw [run_equalIn_array w 9999 _ _ Tryz.underlying78 hi3]
  have hc : Tryz.prog.cellsOf 3 = 1 := by kernel_rfl
  have hr : List.range 2 = [0, 1] := rfl
  rw [hc, hr]
  simp only [Op.eqItems, Sem.run_bind]
  rw [part_int _ _ x rfl]
  simp only [Result.andThen_ok]
  rw [part_int _ _ x' rfl]
  simp only [Result.andThen_ok]
  rw [run_equalIn_int w 9998 _ _ _ _ _ Tryz.underlying3]
  simp only [Result.andThen_ok]
  cases hx : (x == x')
  · simp
  · simp only [Bool.not_true, Bool.false_eq_true, if_false, Sem.run_bind, Bool.true_and]
    rw [part_int _ _ y rfl]
    simp only [Result.andThen_ok]
    rw [part_int _ _ y' rfl]
    simp only [Result.andThen_ok]
    rw [run_equalIn_int w 9998 _ _ _ _ _ Tryz.underlying3]
    cases hy : (y == y') <;> simp
theorem pairs_ext {g h : List (Int × Int)} (hl : g.length = h.length) (he : ∀ i, i < g.length → g.getD i (0, 0) = h.getD i (0, 0)) : g = h := by
  apply List.ext_getElem hl
  intro i h1 h2
  have := he i h1
  rw [List.getD_eq_getElem?_getD, List.getD_eq_getElem?_getD, List.getElem?_eq_getElem h1, List.getElem?_eq_getElem h2] at this
  exact this
set_option maxRecDepth 100000 in
set_option maxHeartbeats 8000000 in
theorem samePairs_any (g h : List (Int × Int)) (u v : Value) (w : World) (hu : PairsAt w u g) (hv : PairsAt w v h) (hn : g.length ≤ 100000) (hm : h.length ≤ 100000) :
    Calls Tryz.prog 16 #[u, v] w (fun e w' => ∃ r, e = .returned (.bool r) ∧ (r = true ↔ g = h) ∧ Below w.heap.size w w') := by
  obtain ⟨p, c, hue, -⟩ := id hu
  obtain ⟨q, d, hve, -⟩ := id hv
  obtain ⟨n, hnn⟩ : ∃ n, g.length = n := ⟨_, rfl⟩
  obtain ⟨m, hmm⟩ : ∃ m, h.length = m := ⟨_, rfl⟩
  rw [hnn] at hue hn
  rw [hmm] at hve hm
  subst hue hve
  have HN := Lib.hid hnn
  have HM := Lib.hid hmm
  have HU := Lib.hid hu
  have HV := Lib.hid hv
  clear hu hv hnn hmm
  by_cases hmn : n = m
  · subst hmn
    have q1 : ((n : Int) != (n : Int)) = false := by simp
    go_enter Tryz.func16, Tryz.ntmps16
    go_wp2_with fail
    go_loopw [5] (fun i wr => ∃ k : Nat, k ≤ n ∧ i = .int .i64 (k : Int) ∧ Below w.heap.size w wr ∧ ∀ j, j < k → g.getD j (0, 0) = h.getD j (0, 0)) (fun i _ => n - (intOf i).toNat)
    case atStart => exact ⟨0, Nat.zero_le _, rfl, Below.refl _ _, fun j hj => absurd hj (Nat.not_lt_zero _)⟩
    case round =>
      obtain ⟨k, hkn, rfl, hb, hek⟩ := hrel
      have HB := Lib.hid hb
      have HE := Lib.hid hek
      clear hek
      by_cases hkl : k < n
      · obtain ⟨⟨x, y⟩, hxy⟩ : ∃ p, g.getD k (0, 0) = p := ⟨_, rfl⟩
        obtain ⟨⟨x', y'⟩, hxy'⟩ : ∃ p, h.getD k (0, 0) = p := ⟨_, rfl⟩
        obtain ⟨bg, og, hpe, hp1, hp2⟩ := (HU.out.below hb (Nat.le_refl _)).at (i := k) (by rw [HN.out]; exact hkl)
        subst hpe
        obtain ⟨bh, oh, hpe, hp3, hp4⟩ := (HV.out.below hb (Nat.le_refl _)).at (i := k) (by rw [HM.out]; exact hkl)
        subst hpe
        rw [hxy] at hp1 hp2
        rw [hxy'] at hp3 hp4
        dsimp only at hp1 hp2 hp3 hp4
        have HXY := Lib.hid hxy
        have HXY' := Lib.hid hxy'
        clear hxy hxy' hb
        by_cases he : x = x' ∧ y = y'
        · obtain ⟨rfl, rfl⟩ := he
          have q5 : ∀ w, Sem.run Tryz.prog (Op.equalIn 10000 78 (.agg #[.int .i64 x, .int .i64 y]) (.agg #[.int .i64 x, .int .i64 y])) w = .ok true w := fun w => by rw [eq_pair]; simp
          go_upto_region 6 with fail
          go_region
          all_goals
            go_wp2_with fail
            go_roundw
            case rel =>
              refine ⟨k + 1, hkl, by go_num, by first | exact HB.out | exact HB.out.drew, fun j hj => ?_⟩
              by_cases hjk : j < k
              · exact HE.out j hjk
              · obtain rfl : j = k := by omega
                rw [HXY.out, HXY'.out]
            case measure => simp [intOf]; omega
        · have q5 : ∀ w, Sem.run Tryz.prog (Op.equalIn 10000 78 (.agg #[.int .i64 x, .int .i64 y]) (.agg #[.int .i64 x', .int .i64 y'])) w = .ok false w := fun w => by
            rw [eq_pair, show (x == x' && y == y') = false by
              rw [Bool.and_eq_false_iff]
              by_cases h1 : x = x'
              · exact Or.inr (beq_eq_false_iff_ne.2 fun h2 => he ⟨h1, h2⟩)
              · exact Or.inl (beq_eq_false_iff_ne.2 h1)]
          have HNE : Hid (g ≠ h) := fun e => he (by
            have h1 : (x, y) = (x', y') := by rw [← HXY.out, ← HXY'.out, e]
            exact ⟨congrArg Prod.fst h1, congrArg Prod.snd h1⟩)
          clear he
          go_upto_region 6 with fail
          go_region
          all_goals
            go_wp2_with fail
            go_ret
            exact ⟨false, rfl, ⟨fun e => (by cases e), fun e => absurd e HNE.out⟩, by first | exact HB.out | exact HB.out.drew⟩
      · obtain rfl : k = n := by omega
        clear hb
        go_wp2_with fail
        go_ret
        exact ⟨true, rfl, ⟨fun _ => pairs_ext (by rw [HN.out, HM.out]) (fun i hi => HE.out i (by rw [← HN.out]; exact hi)), fun _ => rfl⟩, HB.out⟩
  · have q1 : ((n : Int) != (m : Int)) = true := bne_iff_ne.2 (by omega)
    have q2 : (n != m) = true := bne_iff_ne.2 hmn
    have HNE : Hid (g ≠ h) := fun e => hmn (by rw [← HN.out, ← HM.out, e])
    clear hmn
    go_enter Tryz.func16, Tryz.ntmps16
    go_wp2_with fail
    go_ret
    exact ⟨false, rfl, ⟨fun e => (by cases e), fun e => absurd e HNE.out⟩, Below.refl _ _⟩

theorem one_in (w : World) (x1 : List Int) : ListsIn 0 ((w.alloc (.cells (intVs x1).toArray 3)).alloc (.cells #[.slice (some ⟨w.heap.size, 0, none⟩) x1.length x1.length] 51)) (.slice (some ⟨w.heap.size + 1, 0, none⟩) 1 1) [x1] := by
  have h1 := ints_lit 0 w x1
  have h := lists_lit 0 _ [x1] [.slice (some ⟨w.heap.size, 0, none⟩) x1.length x1.length] rfl (fun i hi => by
    match i, hi with
    | 0, _ => exact h1
    | n + 1, hi => exact absurd hi (by simp))
  have hs : (w.alloc (.cells (intVs x1).toArray 3)).heap.size = w.heap.size + 1 := by simp
  rw [hs] at h
  exact h
theorem pairs_lit (w : World) : PairsAt (w.alloc (.cells #[.int .i64 0, .int .i64 2, .int .i64 1, .int .i64 2] 78)) (.slice (some ⟨w.heap.size, 0, none⟩) 2 2) [(0, 2), (1, 2)] := by
  have h := heap_alloc_new w (.cells #[.int .i64 0, .int .i64 2, .int .i64 1, .int .i64 2] 78)
  refine ⟨_, _, rfl, Nat.le_refl _, (fun e => by cases e), fun i hi => ⟨w.heap.size, 0, rfl, ?_, ?_⟩⟩
  · match i, hi with
    | 0, _ => simp only [World.cell?, h]; rfl
    | 1, _ => simp only [World.cell?, h]; rfl
    | n + 2, hi => exact absurd hi (by simp)
  · match i, hi with
    | 0, _ => simp only [World.cell?, h]; rfl
    | 1, _ => simp only [World.cell?, h]; rfl
    | n + 2, hi => exact absurd hi (by simp)
set_option maxRecDepth 100000 in
set_option maxHeartbeats 4000000 in
theorem arrow_any (a : Nat → Addr) (w : World) (hS : Sents w a) :
    Calls Tryz.prog 6 #[] w (Gives (.bool true) w) := by
  have hb0 : Below w.heap.size w _ := ((Below.refl w.heap.size w).alloc (Nat.le_refl _) (.cells (intVs [0, 1]).toArray 3)).alloc (by simp) (.cells #[.slice (some ⟨w.heap.size, 0, none⟩) 2 2] 51)
  have HB0 := Lib.hid hb0
  have HFR := Lib.hid (mfree_any a 0 edgeL _ _ (hS.below hb0 (Nat.le_refl _)) (Nat.zero_le _) (one_in w [0, 1]) (by decide) (by decide))
  unfold FreeU at HFR
  clear hS hb0
  unfold Gives
  go_enter Tryz.func6, Tryz.ntmps6
  go_wp2_with fail
  refine HFR.out.mono ?_
  rintro e w1 ⟨hb1, ⟨-, v1, rfl, hQ⟩ | ⟨k, -, h1, -⟩⟩
  rotate_left
  · exact absurd (edge_X.symm.trans h1) (by omega)
  have hq := hQ
  unfold allT at hq
  rw [edge_free] at hq
  have HB1 := Lib.hid (HB0.out.trans (hb1.mono HB0.out.size))
  have hbW := lit_below w1 (.cells #[.int .i64 0, .int .i64 2, .int .i64 1, .int .i64 2] 78)
  have HSP := Lib.hid (samePairs_any (pairI [(0, 2), (1, 2)]) [(0, 2), (1, 2)] v1 _ _ (hq.reads.below hbW (Nat.le_refl _)) (pairs_lit w1) (by decide) (by decide))
  have HBW := Lib.hid hbW
  clear hb1 hQ hq hbW
  go_wp2_with fail
  refine HSP.out.mono ?_
  rintro e w2 ⟨r, rfl, hr, hb2⟩
  obtain rfl : r = true := hr.2 rfl
  have HB2 := Lib.hid (HB1.out.trans ((HBW.out.trans (hb2.mono HBW.out.size)).mono HB1.out.size))
  clear hb2 hr
  go_wp2_with fail
  go_ret
  exact ⟨rfl, HB2.out⟩
end Go.Proofs.YtoheffkiohfmoaaGreatDoor
