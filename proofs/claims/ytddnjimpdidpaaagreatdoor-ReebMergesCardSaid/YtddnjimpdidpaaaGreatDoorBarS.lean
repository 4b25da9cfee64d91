/-
  The world behind a sort of elements of k cells, in an owned row's words. Plain: no program in sight.
  slices.SortFunc over bars, laid at the library's own text; by a contract: the same bars, rising by birth.
-/
import Derived.Test.YtddnjimpdidpaaaGreatDoorMem
import Derived.Shelf.SlSortCmp.NoneTotal
import Derived.Test.YtddnjimpdidpaaaGreatDoorShelf
import Derived.Test.YtddnjimpdidpaaaGreatDoorApp
import Derived.IntWalk
set_option linter.unusedSimpArgs false
set_option linter.unusedVariables false
namespace Go.Proofs.YtddnjimpdidpaaaGreatDoor
open Go Go.RowKit Go.Sort Go.Lib

theorem flat_length {α : Type} {enc : α → List Value} {k : Nat} (hk : ∀ x, (enc x).length = k) : ∀ l : List α, (l.flatMap enc).length = l.length * k
  | [] => by simp
  | x :: r => by
    rw [List.flatMap_cons, List.length_append, hk, flat_length hk r, List.length_cons, Nat.add_mul]; omega

theorem flat_get {α : Type} [Inhabited α] {enc : α → List Value} {k : Nat} (hk : ∀ x, (enc x).length = k) (hk0 : 0 < k) : ∀ (l : List α) (t : Nat), t < l.length * k → (l.flatMap enc)[t]? = (enc (l.toArray[t / k]!))[t % k]?
  | [], t, h => by simp at h
  | x :: r, t, h => by
    rw [List.flatMap_cons]
    by_cases ht : t < k
    · rw [List.getElem?_append_left (by rw [hk]; exact ht), Nat.div_eq_of_lt ht, Nat.mod_eq_of_lt ht]
      simp
    · have h1 : t - k < r.length * k := by rw [List.length_cons, Nat.add_mul] at h; omega
      rw [List.getElem?_append_right (by rw [hk]; omega), hk, flat_get hk hk0 r (t - k) h1]
      have e1 : t / k = (t - k) / k + 1 := by
        have : t = (t - k) + k := by omega
        rw [this, Nat.add_div_right _ hk0]; simp
      have e2 : t % k = (t - k) % k := by
        have : t = (t - k) + k := by omega
        rw [this, Nat.add_mod_right]; simp
      rw [e1, e2]
      simp

theorem flatK_toList {α : Type} [Inhabited α] {enc : α → List Value} {k : Nat} (hk : ∀ x, (enc x).length = k) (hk0 : 0 < k) (l : List α) : (flatK enc k l.toArray).toList = l.flatMap enc := by
  apply List.ext_getElem?
  intro t
  by_cases ht : t < l.length * k
  · have hs : t < (flatK enc k l.toArray).size := by rw [size_flatK]; simpa using ht
    have hg := get_flatK enc k l.toArray t (by simpa using ht)
    rw [flat_get hk hk0 l t ht]
    have hm : t % k < (enc l.toArray[t / k]!).length := by rw [hk]; exact Nat.mod_lt _ hk0
    rw [Array.getElem!_eq_getD, Array.getD_eq_getD_getElem?, Array.getElem?_eq_getElem hs, List.getElem!_eq_getElem?_getD, List.getElem?_eq_getElem hm] at hg
    rw [Array.getElem?_toList, Array.getElem?_eq_getElem hs, List.getElem?_eq_getElem hm]
    exact congrArg some hg
  · rw [List.getElem?_eq_none (by rw [Array.length_toList, size_flatK]; simpa using ht), List.getElem?_eq_none (by rw [flat_length hk]; omega)]

theorem holdsK_of_owns {α : Type} [Inhabited α] {enc : α → List Value} {k : Nat} (hk : ∀ x, (enc x).length = k) (hk0 : 0 < k) {w : World} {base : Nat} {e : TypeId} {g n cap : Nat} {l : List α}
    (hl : l.length = n) (h : w.ownsRow base e k (.slice (some ⟨g, 0, none⟩) n cap) n (l.flatMap enc)) : HoldsK enc k w g 0 l.toArray := by
  intro j hj
  rw [size_flatK] at hj
  have hj' : j < n * k := by rw [← hl]; simpa using hj
  refine ⟨?_, h.frozenAt _⟩
  rw [Nat.zero_add, h.cellAt j hj', flat_get hk hk0 l j (by rw [hl]; exact hj'), get_flatK enc k l.toArray j hj]
  have hm : j % k < (enc l.toArray[j / k]!).length := by rw [hk]; exact Nat.mod_lt _ hk0
  rw [List.getElem!_eq_getElem?_getD, List.getElem?_eq_getElem hm]; rfl

theorem sortK_heap {α : Type} [Inhabited α] {enc : α → List Value} {k : Nat} {w : World} {g m : Nat} {os : Array Obj} {cur : Array Value} {e : TypeId} {fr : Nat × Nat} (d : Array α) (hb : w.heap[g]? = some (.cells cur e fr)) :
    (sortWorldK enc k w g 0 m d os).heap[g]? = some (.cells (putCells id 0 (flatK enc k d) cur) e fr) := by
  have hg : g < w.heap.size := (Array.getElem?_eq_some_iff.1 hb).1
  unfold sortWorldK putRowK putRow mapBlock
  rw [heap_grow_old _ _ (by simpa [Sort.ahead] using hg)]
  simp [Sort.ahead, Array.getElem?_modify, hb, onCells]

theorem sortK_grown {α : Type} [Inhabited α] {enc : α → List Value} {k : Nat} {w : World} {g m : Nat} {os : Array Obj} (d : Array α) : w.grownBy (sortWorldK enc k w g 0 m d os) (some g) := by
  refine ⟨rfl, rfl, rfl, ?_, fun j hj hne => ?_⟩
  · simp [sortWorldK, putRowK, size_grow]
  · unfold sortWorldK putRowK putRow mapBlock
    rw [heap_grow_old _ _ (by simpa [Sort.ahead] using hj)]
    have : g ≠ j := fun e => hne (by rw [e])
    simp [Sort.ahead, Array.getElem?_modify, this]

theorem take_put (cur F : Array Value) (h : F.size ≤ cur.size) : (putCells id 0 F cur).toList.take F.size = F.toList := by
  apply List.ext_getElem?
  intro t
  rw [List.getElem?_take]
  by_cases ht : t < F.size
  · rw [if_pos ht, Array.getElem?_toList, Array.getElem?_toList]
    unfold putCells
    rw [Array.getElem?_mapIdx, Array.getElem?_eq_getElem (show t < cur.size by omega), Array.getElem?_eq_getElem ht]
    simp [ht]
  · rw [if_neg ht, List.getElem?_eq_none (by rw [Array.length_toList]; omega)]

theorem sortK_owns {α : Type} [Inhabited α] {enc : α → List Value} {k : Nat} (hk : ∀ x, (enc x).length = k) (hk0 : 0 < k) {w : World} {base : Nat} {e : TypeId} {g n cap m : Nat} {os : Array Obj} {xs : List Value} {l : List α}
    (hl : l.length = n) (h : w.ownsRow base e k (.slice (some ⟨g, 0, none⟩) n cap) n xs) : (sortWorldK enc k w g 0 m l.toArray os).ownsRow base e k (.slice (some ⟨g, 0, none⟩) n cap) n (l.flatMap enc) := by
  obtain ⟨h1, h2⟩ := h
  rcases h2 with ⟨hv, _⟩ | ⟨g', cap', cur, hv, hbase, hb, hn, hcap, hcs, hx⟩
  · cases hv
  · cases hv
    have hF : (flatK enc k l.toArray).size = n * k := by rw [size_flatK]; simp [hl]
    have hle : n * k ≤ cap * k := Nat.mul_le_mul_right k hn
    refine ⟨by rw [flat_length hk, hl], Or.inr ⟨g, cap, _, rfl, hbase, sortK_heap _ hb, hn, hcap, by simp [putCells, hcs], ?_⟩⟩
    rw [← flatK_toList hk hk0, ← hF]
    exact take_put cur _ (by rw [hF, hcs]; exact hle)

def barLays_ren : Go.Shelf.Ren := ⟨fun | 6 => 72 | 15 => 84 | 14 => 104 | 28 => 124 | 29 => 125 | 20 => 139 | 21 => 140 | 22 => 141 | 23 => 142 | 24 => 143 | 25 => 144 | 26 => 145 | 27 => 146 | 46 => 172 | 47 => 158 | 48 => 159 | 49 => 173 | 50 => 174 | 57 => 183 | n => n, fun | 22 => 37 | 24 => 48 | 25 => 117 | 3 => 3 | 39 => 130 | 0 => 0 | 53 => 176 | 55 => 178 | 4 => 4 | 46 => 170 | 45 => 169 | 50 => 97 | 5 => 5 | 9 => 9 | 66 => 213 | 70 => 217 | 76 => 229 | 77 => 77 | n => n, fun | n => n⟩
theorem barLays : Go.Proofs.SlLaysF0.n6 Tryz.prog barLays_ren := {
  mixed := by kernel_rfl
  f6 := ⟨Tryz.f72.name, by decide, Tryz.func72.trans (congrArg some (by kernel_rfl))⟩
  f14 := ⟨Tryz.f104.name, by decide, Tryz.func104.trans (congrArg some (by kernel_rfl))⟩
  f15 := Tryz.func84.trans (congrArg some (by kernel_rfl))
  f20 := ⟨Tryz.f139.name, by decide, Tryz.func139.trans (congrArg some (by kernel_rfl))⟩
  f21 := ⟨Tryz.f140.name, by decide, Tryz.func140.trans (congrArg some (by kernel_rfl))⟩
  f22 := ⟨Tryz.f141.name, by decide, Tryz.func141.trans (congrArg some (by kernel_rfl))⟩
  f23 := ⟨Tryz.f142.name, by decide, Tryz.func142.trans (congrArg some (by kernel_rfl))⟩
  f24 := ⟨Tryz.f143.name, by decide, Tryz.func143.trans (congrArg some (by kernel_rfl))⟩
  f25 := ⟨Tryz.f144.name, by decide, Tryz.func144.trans (congrArg some (by kernel_rfl))⟩
  f26 := ⟨Tryz.f145.name, by decide, Tryz.func145.trans (congrArg some (by kernel_rfl))⟩
  f27 := ⟨Tryz.f146.name, by decide, Tryz.func146.trans (congrArg some (by kernel_rfl))⟩
  f28 := Tryz.func124.trans (congrArg some (by kernel_rfl))
  f29 := Tryz.func125.trans (congrArg some (by kernel_rfl))
  f46 := ⟨Tryz.f172.name, by decide, Tryz.func172.trans (congrArg some (by kernel_rfl))⟩
  f47 := Tryz.func158.trans (congrArg some (by kernel_rfl))
  f48 := Tryz.func159.trans (congrArg some (by kernel_rfl))
  f49 := ⟨Tryz.f173.name, by decide, Tryz.func173.trans (congrArg some (by kernel_rfl))⟩
  f50 := ⟨Tryz.f174.name, by decide, Tryz.func174.trans (congrArg some (by kernel_rfl))⟩
  f57 := ⟨Tryz.f183.name, by decide, Tryz.func183.trans (congrArg some (by kernel_rfl))⟩
  t0 := Tryz.underlying0
  a0 := Tryz.isAgg0
  z0 := Tryz.sizeOf0
  v0 := Tryz.zeroValue0
  t3 := Tryz.underlying3
  a3 := Tryz.isAgg3
  z3 := Tryz.sizeOf3
  v3 := Tryz.zeroValue3
  t4 := Tryz.underlying4
  a4 := Tryz.isAgg4
  z4 := Tryz.sizeOf4
  v4 := Tryz.zeroValue4
  t5 := Tryz.underlying5
  a5 := Tryz.isAgg5
  z5 := Tryz.sizeOf5
  v5 := Tryz.zeroValue5
  t9 := Tryz.underlying9
  a9 := Tryz.isAgg9
  z9 := Tryz.sizeOf9
  v9 := Tryz.zeroValue9
  t22 := Tryz.underlying37
  a22 := Tryz.isAgg37
  z22 := Tryz.sizeOf37
  v22 := Tryz.zeroValue37
  t25 := Tryz.underlying117
  a25 := Tryz.isAgg117
  z25 := Tryz.sizeOf117
  v25 := Tryz.zeroValue117
  t39 := Tryz.underlying130
  a39 := Tryz.isAgg130
  z39 := Tryz.sizeOf130
  v39 := Tryz.zeroValue130
  t45 := Tryz.underlying169
  a45 := Tryz.isAgg169
  z45 := Tryz.sizeOf169
  v45 := Tryz.zeroValue169
  t46 := Tryz.underlying170
  a46 := Tryz.isAgg170
  z46 := Tryz.sizeOf170
  v46 := Tryz.zeroValue170
  t50 := Tryz.underlying97
  a50 := Tryz.isAgg97
  z50 := Tryz.sizeOf97
  v50 := Tryz.zeroValue97
  t53 := Tryz.underlying176
  a53 := Tryz.isAgg176
  z53 := Tryz.sizeOf176
  v53 := Tryz.zeroValue176
  t55 := Tryz.underlying178
  a55 := Tryz.isAgg178
  z55 := Tryz.sizeOf178
  v55 := Tryz.zeroValue178
  t66 := Tryz.underlying213
  a66 := Tryz.isAgg213
  z66 := Tryz.sizeOf213
  v66 := Tryz.zeroValue213
  t70 := Tryz.underlying217
  a70 := Tryz.isAgg217
  z70 := Tryz.sizeOf217
  v70 := Tryz.zeroValue217
  t76 := Tryz.underlying229
  a76 := Tryz.isAgg229
  z76 := Tryz.sizeOf229
  v76 := Tryz.zeroValue229
  t77 := Tryz.underlying77
  a77 := Tryz.isAgg77
  z77 := Tryz.sizeOf77
  v77 := Tryz.zeroValue77 }

def barV (p : Int × Int) : List Value := [.int .i64 0, .int .i64 p.1, .int .i64 p.2]
theorem barV_len (p : Int × Int) : (barV p).length = 3 := rfl
def barVs (B : List (Int × Int)) : List Value := B.flatMap barV
theorem bar_closure (p q : Int × Int) (hp : -1048577 ≤ p.1 ∧ p.1 ≤ 1048577) (hq : -1048577 ≤ q.1 ∧ q.1 ≤ 1048577) (W : World) : Calls Tryz.prog 73 #[.agg #[.int .i64 0, .int .i64 p.1, .int .i64 p.2], .agg #[.int .i64 0, .int .i64 q.1, .int .i64 q.2]] W fun e w' => e = .returned (.int .i64 (p.1 - q.1)) ∧ ∃ m os', w' = grow (W.drewN m) os' := by
  have m1 : IntKind.i64.wrap (p.1 - q.1) = p.1 - q.1 := IntWalk.i64_in _ (by omega)
  obtain ⟨p1, p2⟩ := p
  obtain ⟨q1, q2⟩ := q
  simp only at m1 ⊢
  clear hp hq
  go_enter Tryz.func73, Tryz.ntmps73
  go_wp2_with fail
  go_ret
  exact ⟨rfl, 0, _, by rw [alloc_eq_grow, alloc_eq_grow, grow_grow]; rfl⟩
theorem ofFn_map {α : Type} {d : α} {n : Nat} (B : List α) (h : B.length = n) : (List.ofFn (fun i : Fin n => i)).map (fun i => B.getD i.val d) = B := by
  refine List.ext_getElem (by simp [h]) fun i h1 h2 => ?_
  simp [List.getD_eq_getElem?_getD, List.getElem?_eq_getElem h2]
def SortBP (O : Nat) (g cap : Nat) (B : List (Int × Int)) (w : World) (e : Ending) (w' : World) : Prop :=
  e = .returned (.tuple #[]) ∧ w.grownBy w' (some g) ∧ ∃ B' : List (Int × Int), B'.Perm B ∧ B'.Pairwise (fun p q => p.1 < q.1) ∧ w'.ownsRow O 48 3 (.slice (some ⟨g, 0, none⟩) B.length cap) B.length (barVs B')
theorem sortB_any (O g cap : Nat) (B : List (Int × Int)) (w : World) (hp : 0 < B.length) (hn : B.length ≤ 100000) (hb : ∀ p ∈ B, -1048577 ≤ p.1 ∧ p.1 ≤ 1048577) (hd : B.Pairwise (fun p q => p.1 ≠ q.1))
    (hown : w.ownsRow O 48 3 (.slice (some ⟨g, 0, none⟩) B.length cap) B.length (barVs B)) :
    Calls Tryz.prog 72 #[.slice (some ⟨g, 0, none⟩) B.length cap, .func (.func 73) #[] #[]] w (SortBP O g cap B w) := by
  obtain ⟨k, hk⟩ : ∃ k, B.length = k + 1 := ⟨B.length - 1, by omega⟩
  obtain ⟨f, hf⟩ : ∃ f : Fin (k + 1) → Int × Int, f = fun i => B.getD i.val (0, 0) := ⟨_, rfl⟩
  obtain ⟨L, hL⟩ : ∃ L : List (Fin (k + 1)), L = List.ofFn (fun i : Fin (k + 1) => i) := ⟨_, rfl⟩
  have hmap : L.map f = B := by rw [hL, hf]; exact ofFn_map B hk
  have hLl : L.length = B.length := by rw [← hmap, List.length_map]
  have hfb : ∀ i, -1048577 ≤ (f i).1 ∧ (f i).1 ≤ 1048577 := fun i => hb _ (by
    rw [hf]
    show B.getD i.val (0, 0) ∈ B
    rw [List.getD_eq_getElem?_getD, List.getElem?_eq_getElem (show i.val < B.length by omega)]
    exact List.getElem_mem _)
  have hfi : ∀ i j, (f i).1 = (f j).1 → i = j := fun i j e => by
    have hi : i.val < B.length := by omega
    have hj : j.val < B.length := by omega
    have ei : f i = B[i.val] := by rw [hf]; simp [List.getD_eq_getElem?_getD, List.getElem?_eq_getElem hi]
    have ej : f j = B[j.val] := by rw [hf]; simp [List.getD_eq_getElem?_getD, List.getElem?_eq_getElem hj]
    rw [ei, ej] at e
    rcases Nat.lt_trichotomy i.val j.val with h | h | h
    · exact absurd e (List.pairwise_iff_getElem.1 hd _ _ hi hj h)
    · exact Fin.ext h
    · exact absurd e.symm (List.pairwise_iff_getElem.1 hd _ _ hj hi h)
  have hfl : ∀ M : List (Fin (k + 1)), M.flatMap (fun i => barV (f i)) = barVs (M.map f) := fun M => by unfold barVs; rw [List.flatMap_map]
  have henc : ∀ i : Fin (k + 1), (barV (f i)).length = 3 := fun i => rfl
  have hlt : ∀ x y, Go.Proofs.ltOf (fun i j => (f i).1 - (f j).1) x y = decide ((f x).1 < (f y).1) := fun x y => by
    unfold Go.Proofs.ltOf
    exact decide_eq_decide.2 (by show (f x).1 - (f y).1 < 0 ↔ _; omega)
  have hO : SWO (Go.Proofs.ltOf (fun i j => (f i).1 - (f j).1)) :=
    { irrefl := fun x => by rw [hlt]; simp
      trans := fun x y z h1 h2 => by rw [hlt] at *; simp at *; omega
      ntrans := fun x y z h1 h2 => by rw [hlt] at *; simp at *; omega }
  have hT : ∀ x y, Go.Proofs.ltOf (fun i j => (f i).1 - (f j).1) x y = false → Go.Proofs.ltOf (fun i j => (f i).1 - (f j).1) y x = false → x = y := fun x y h1 h2 => by
    rw [hlt] at h1 h2
    simp at h1 h2
    exact hfi x y (by omega)
  have eg : ∀ args w, (callFunc 73 args).run Tryz.prog w = .ok (.enter 73 args) w := enters_of Tryz.func73 (by kernel_rfl) rfl
  have hg := (hown.lt g rfl).2
  have hown2 := hown
  rw [← hmap, ← hfl, hmap] at hown2
  have hH := holdsK_of_owns (enc := fun i => barV (f i)) henc (by decide) hLl hown2
  have hcmp : Go.Proofs.CmpLays Tryz.prog 73 #[] (fun i => barV (f i)) 3 (fun i j => (f i).1 - (f j).1) g 0 L.toArray.size w := fun m os dk _ x y =>
    bar_closure (f x) (f y) (hfb x) (hfb y) _
  have hsz : L.toArray.size = B.length := by simp [hLl]
  have h := Go.Proofs.AnyQ.slices_SortFunc_total barLays 3 Tryz.isAgg48 Tryz.sizeOf48 (fun i => barV (f i)) henc (fun x v hv => by simp [barV] at hv; rcases hv with rfl | rfl | rfl <;> rfl) (fun i j => (f i).1 - (f j).1) hO 73 #[] g 0 cap L.toArray w eg hcmp hH hg (by rw [hsz]; omega) hT
  change Calls Tryz.prog 72 _ _ _ at h
  rw [hsz] at h
  refine h.mono fun e w' ⟨he, n, os, hw⟩ => ?_
  have hperm := List.mergeSort_perm L.toArray.toList (fun x y => !(Go.Proofs.ltOf (fun i j => (f i).1 - (f j).1)) y x)
  have hpw := List.pairwise_mergeSort (le := fun x y : Fin (k + 1) => !(Go.Proofs.ltOf (fun i j => (f i).1 - (f j).1)) y x) (fun x y z h1 h2 => by
    simp only [Bool.not_eq_true'] at *
    exact hO.ntrans z y x h2 h1) (fun x y => by
    cases h1 : Go.Proofs.ltOf (fun i j => (f i).1 - (f j).1) y x with
    | false => rfl
    | true =>
      cases h2 : Go.Proofs.ltOf (fun i j => (f i).1 - (f j).1) x y with
      | false => rfl
      | true => have := hO.trans _ _ _ h1 h2; rw [hO.irrefl] at this; cases this) L.toArray.toList
  generalize L.toArray.toList.mergeSort (fun x y => !(Go.Proofs.ltOf (fun i j => (f i).1 - (f j).1)) y x) = ml at hw hperm hpw
  have hml : ml.length = B.length := by rw [hperm.length_eq]; simp [hLl]
  have hmnd : ml.Nodup := hperm.nodup_iff.2 (by
    show L.Nodup
    rw [hL]
    exact List.nodup_iff_pairwise_ne.2 (List.pairwise_iff_getElem.2 fun i j hi hj hij e => by
      simp only [List.getElem_ofFn, Fin.mk.injEq] at e
      omega))
  refine ⟨he, by rw [hw]; exact sortK_grown _, ml.map f, ?_, ?_, ?_⟩
  · have := hperm.map f
    rwa [show L.toArray.toList.map f = B from hmap] at this
  · rw [List.pairwise_map]
    refine (hpw.and hmnd).imp fun {x y} hxy => ?_
    have h1 := hxy.1
    simp only [Bool.not_eq_true'] at h1
    rw [hlt] at h1
    simp at h1
    have : (f x).1 ≠ (f y).1 := fun e => hxy.2 (hfi x y e)
    omega
  · rw [hw, ← hfl]
    exact sortK_owns henc (by decide) hml hown2
end Go.Proofs.YtddnjimpdidpaaaGreatDoor
