/- The target's types: the texts Bh to Bp, joined. -/
import Derived.Shelf.Sort.Plain
import Derived.Shelf.Slices.In.SortNone
import Derived.Shelf.Slices.CompactI
import Derived.Sort.OwnSortedInts
import Derived.Test.YtohmeplcjgmedaaDoorCa
import Derived.Test.YtohmeplcjgmedaaDoorVpc
set_option linter.unusedVariables false
set_option linter.unusedSimpArgs false
/- The shelf's slices.Sort and slices.Compact at ints, laid at this seat's program: printed by a program of mine out of Lean's print of the kit's laying command. -/
namespace Go.Proofs.YtohmeplcjgmedaaDoor
open Go.Proofs Go.Shelf Go.RowKit Go.Lib Go.Sort
def sortI_ren : Ren :=
  { f := fun x => match x with | 189 => 22 | 125 => 39 | 257 => 38 | 128 => 63 | 129 => 64 | 294 => 54 | 295 => 55 | 296 => 56 | 297 => 57 | 298 => 58 | 299 => 59 | 216 => 60 | 300 => 61 | 301 => 62 | 328 => 71 | 329 => 72 | 330 => 73 | 331 => 74 | 332 => 75 | 215 => 76 | 343 => 81 | n => n,
    t := fun x => match x with | 28 => 29 | 3 => 3 | 46 => 68 | 0 => 0 | 51 => 97 | 53 => 99 | 4 => 4 | 183 => 89 | 182 => 88 | 131 => 94 | 5 => 5 | 9 => 9 | 218 => 102 | 222 => 106 | 228 => 114 | 229 => 115 | n => n,
    g := fun n => n }
theorem sortI : Lays.n189 Tryd.prog sortI_ren :=
  { mixed := rfl,
    f125 := Tryd.func39.trans (congrArg some rfl),
    f128 := Tryd.func63.trans (congrArg some rfl),
    f129 := Tryd.func64.trans (congrArg some rfl),
    f189 := Tryd.func22.trans (congrArg some rfl),
    f215 := Tryd.func76.trans (congrArg some rfl),
    f216 := Tryd.func60.trans (congrArg some rfl),
    f257 := Tryd.func38.trans (congrArg some rfl),
    f294 := Tryd.func54.trans (congrArg some rfl),
    f295 := Tryd.func55.trans (congrArg some rfl),
    f296 := Tryd.func56.trans (congrArg some rfl),
    f297 := Tryd.func57.trans (congrArg some rfl),
    f298 := Tryd.func58.trans (congrArg some rfl),
    f299 := Tryd.func59.trans (congrArg some rfl),
    f300 := Tryd.func61.trans (congrArg some rfl),
    f301 := Tryd.func62.trans (congrArg some rfl),
    f328 := Tryd.func71.trans (congrArg some rfl),
    f329 := Tryd.func72.trans (congrArg some rfl),
    f330 := Tryd.func73.trans (congrArg some rfl),
    f331 := Tryd.func74.trans (congrArg some rfl),
    f332 := Tryd.func75.trans (congrArg some rfl),
    f343 := Tryd.func81.trans (congrArg some rfl),
    t0 := Tryd.underlying0,
    a0 := Tryd.isAgg0,
    z0 := Tryd.sizeOf0,
    v0 := Tryd.zeroValue0,
    t3 := Tryd.underlying3,
    a3 := Tryd.isAgg3,
    z3 := Tryd.sizeOf3,
    v3 := Tryd.zeroValue3,
    t4 := Tryd.underlying4,
    a4 := Tryd.isAgg4,
    z4 := Tryd.sizeOf4,
    v4 := Tryd.zeroValue4,
    t5 := Tryd.underlying5,
    a5 := Tryd.isAgg5,
    z5 := Tryd.sizeOf5,
    v5 := Tryd.zeroValue5,
    t9 := Tryd.underlying9,
    a9 := Tryd.isAgg9,
    z9 := Tryd.sizeOf9,
    v9 := Tryd.zeroValue9,
    t28 := Tryd.underlying29,
    a28 := Tryd.isAgg29,
    z28 := Tryd.sizeOf29,
    v28 := Tryd.zeroValue29,
    t46 := Tryd.underlying68,
    a46 := Tryd.isAgg68,
    z46 := Tryd.sizeOf68,
    v46 := Tryd.zeroValue68,
    t51 := Tryd.underlying97,
    a51 := Tryd.isAgg97,
    z51 := Tryd.sizeOf97,
    v51 := Tryd.zeroValue97,
    t53 := Tryd.underlying99,
    a53 := Tryd.isAgg99,
    z53 := Tryd.sizeOf99,
    v53 := Tryd.zeroValue99,
    t131 := Tryd.underlying94,
    a131 := Tryd.isAgg94,
    z131 := Tryd.sizeOf94,
    v131 := Tryd.zeroValue94,
    t182 := Tryd.underlying88,
    a182 := Tryd.isAgg88,
    z182 := Tryd.sizeOf88,
    v182 := Tryd.zeroValue88,
    t183 := Tryd.underlying89,
    a183 := Tryd.isAgg89,
    z183 := Tryd.sizeOf89,
    v183 := Tryd.zeroValue89,
    t218 := Tryd.underlying102,
    a218 := Tryd.isAgg102,
    z218 := Tryd.sizeOf102,
    v218 := Tryd.zeroValue102,
    t222 := Tryd.underlying106,
    a222 := Tryd.isAgg106,
    z222 := Tryd.sizeOf106,
    v222 := Tryd.zeroValue106,
    t228 := Tryd.underlying114,
    a228 := Tryd.isAgg114,
    z228 := Tryd.sizeOf114,
    v228 := Tryd.zeroValue114,
    t229 := Tryd.underlying115,
    a229 := Tryd.isAgg115,
    z229 := Tryd.sizeOf115,
    v229 := Tryd.zeroValue115 }
def compI_ren : Ren :=
  { f := fun x => match x with | 20 => 23 | n => n,
    t := fun x => match x with | 22 => 29 | 3 => 3 | 4 => 4 | 0 => 0 | n => n,
    g := fun n => n }
theorem compI : Lays2.n20 Tryd.prog compI_ren :=
  { mixed := rfl,
    f20 := Tryd.func23.trans (congrArg some rfl),
    t0 := Tryd.underlying0,
    a0 := Tryd.isAgg0,
    z0 := Tryd.sizeOf0,
    v0 := Tryd.zeroValue0,
    t3 := Tryd.underlying3,
    a3 := Tryd.isAgg3,
    z3 := Tryd.sizeOf3,
    v3 := Tryd.zeroValue3,
    t4 := Tryd.underlying4,
    a4 := Tryd.isAgg4,
    z4 := Tryd.sizeOf4,
    v4 := Tryd.zeroValue4,
    t22 := Tryd.underlying29,
    a22 := Tryd.isAgg29,
    z22 := Tryd.sizeOf29,
    v22 := Tryd.zeroValue29,
    i3 := by kernel_rfl }
theorem putCells_len (off : Nat) (d : Array Int) (cur : Array Value) : (putCells (Value.int .i64) off d cur).size = cur.size := by simp [putCells]
theorem putCells_cut (off k : Nat) (d : Array Int) (cur : Array Value) (h : off + d.size ≤ cur.size) (hk : k ≤ d.size) : ((putCells (Value.int .i64) off d cur).toList.drop off).take k = (d.toList.take k).map (Value.int .i64) := by
  apply List.ext_getElem?
  intro j
  by_cases hj : j < k
  · rw [List.getElem?_take_of_lt hj, List.getElem?_drop, Array.getElem?_toList]
    have h1 : off + j < cur.size := by omega
    have h2 : j < d.size := by omega
    simp [putCells, h1, hj, h2]
  · rw [List.getElem?_take_eq_none (by omega), List.getElem?_eq_none (by simp; omega)]
theorem holdsI {w : World} {g o : Nat} {cur : Array Value} {e : TypeId} {l : List Int} (hg : w.heap[g]? = some (.cells cur e (0, 0))) (hc : (cur.toList.drop o).take l.length = l.map (Value.int .i64)) : Holds (Value.int .i64) w g o l.toArray := by
  intro j hj
  have hj' : j < l.length := by simpa using hj
  constructor
  · have h1 : ((cur.toList.drop o).take l.length)[j]? = (l.map (Value.int .i64))[j]? := by rw [hc]
    rw [List.getElem?_take_of_lt hj', List.getElem?_drop, Array.getElem?_toList] at h1
    simp only [World.cell?, hg]
    simp [h1, hj']
  · simp [World.frozen?, hg]
theorem heap_putI {w : World} {g n o : Nat} {os : Array Obj} {cur : Array Value} {e : TypeId} {fr : Nat × Nat} (d : Array Int) (hb : w.heap[g]? = some (.cells cur e fr)) :
    (grow (putRow (Value.int .i64) (Sort.ahead w n) g o d) os).heap[g]? = some (.cells (putCells (Value.int .i64) o d cur) e fr) := by
  have hg : g < w.heap.size := (Array.getElem?_eq_some_iff.1 hb).1
  rw [heap_grow_old _ _ (by simpa using hg)]
  simp [putRow, mapBlock, Sort.ahead, Array.getElem?_modify, hb, onCells]
theorem grownBy_putI {w : World} {g n o : Nat} {os : Array Obj} (d : Array Int) : w.grownBy (grow (putRow (Value.int .i64) (Sort.ahead w n) g o d) os) (some g) := by
  refine ⟨rfl, rfl, rfl, by simp, fun k hk hne => ?_⟩
  rw [heap_grow_old _ _ (by simpa using hk)]
  have : g ≠ k := fun e => hne (by rw [e])
  simp [putRow, mapBlock, Sort.ahead, Array.getElem?_modify, this]
theorem repI_of (S : Nat → Prop) (w : World) : ∀ l : List Int, Go.Vx.RepDs S w (Go.Vx.encI l) (l.map (.int .i64))
  | [] => by simp only [Go.Vx.encI, List.map_nil, Go.Vx.RepDs]
  | x :: r => by
    rw [show Go.Vx.encI (x :: r) = .int .i64 x :: Go.Vx.encI r from rfl, List.map_cons]
    simp only [Go.Vx.RepDs, Go.Vx.RepD]
    exact ⟨_, _, rfl, rfl, repI_of S w r⟩
/-- One own row that is handed over, and written in place. -/
theorem row_left {e : Go.Vx.Env} {w w' : World} {n m g o c : Nat} {cur cur' : Array Value} {l l' : List Int} {xs : List Go.Vx.D} (hlen : e.m.length = 1) (hm : e.m[0]? = some (.slice (some ⟨g, o, none⟩) n c)) (hH : Go.Vx.HpOk e w [(0, .row 3 8 1 n xs)])
    (hg : w.heap[g]? = some (.cells cur 3 (0, 0))) (hgr : w.grownBy w' (some g)) (hg' : w'.heap[g]? = some (.cells cur' 3 (0, 0))) (hsz : cur'.size = cur.size) (hm' : l'.length = m) (hcap : m ≤ c) (hmax : c ≤ maxLen) (hcs : o + c * 1 ≤ cur.size) (hcut : (cur'.toList.drop o).take m = l'.map (.int .i64)) (hlim : m * 8 ≤ Go.Vx.LB) :
    Go.Vx.Left G0 0 e w [(0, .row 3 8 1 n xs)] ⟨[.slice (some ⟨g, o, none⟩) m c], e.pub⟩ w' [(0, .row 3 8 1 m (Go.Vx.encI l'))] := by
  have h0 : ∀ i, Go.Vx.has [(0, Go.Vx.Ob.row 3 8 1 m (Go.Vx.encI l'))] i → i = 0 := by
    intro i hi
    unfold Go.Vx.has at hi
    simp only [Go.Vc.lk] at hi
    split at hi
    · rename_i e1; exact (Go.Vc.nbeq.1 e1).symm
    · cases hi
  have hf : Go.Vx.foot e 0 g := ⟨_, hm, by rfl⟩
  have hft : ∀ k, Go.Vx.foot ⟨[.slice (some ⟨g, o, none⟩) m c], e.pub⟩ 0 k → k = g := by
    rintro k ⟨v, h1, h2⟩
    have h1 : some (Value.slice (some ⟨g, o, none⟩) m c) = some v := h1
    injection h1 with h1; subst h1
    have h2 : some g = some k := h2
    injection h2 with h2; exact h2.symm
  have hpub : ¬ e.pub g := fun hp => hH.npub 0 g (by rfl) hf hp
  refine ⟨⟨fun i ob ho => ?_, fun i j k hi hj hne _ _ => absurd ((h0 i hi).trans (h0 j hj).symm) hne, fun i k hi hk hp => ?_, fun k hk => Nat.lt_of_lt_of_le (hH.pubLt k hk) hgr.size⟩, by simp [hlen], ?_, trivial, fun i v hv hns => ?_, fun k hk => hk, fun k hk => .inl hk, fun i hi => ?_, fun i k hi hk => ?_⟩
  · obtain rfl := h0 i (by simp [Go.Vx.has, ho])
    simp only [Go.Vc.lk, Nat.beq_refl] at ho
    injection ho with ho; subst ho
    exact ⟨some ⟨g, o, none⟩, c, l'.map (.int .i64), rfl, ⟨m, by simp [hm'], .inr ⟨g, o, c, cur', rfl, hg', hcap, hmax, by rw [hsz]; exact hcs, by rw [Nat.mul_one]; exact hcut⟩⟩, repI_of _ _ l', hlim⟩
  · obtain rfl := h0 i hi
    rw [hft k hk] at hp
    exact hpub hp
  · exact ⟨hgr.os, hgr.tape, hgr.output, hgr.size, fun k hk hn => hgr.block k hk (fun e1 => by injection e1 with e1; subst e1; exact hn ⟨0, by rfl, hf⟩)⟩
  · rcases Nat.eq_zero_or_pos i with rfl | hi
    · rw [hm] at hv; injection hv with hv; exact absurd hv.symm (hns _ _ _)
    · have := (List.getElem?_eq_some_iff.1 hv).1; omega
  · obtain rfl := h0 i hi; simp [hlen]
  · obtain rfl := h0 i hi
    rw [hft k hk]
    exact .inl ⟨0, by rfl, hf⟩
def srtI (l : List Int) : List Int := l.mergeSort fun x y => decide (x ≤ y)
theorem sort_tri (l : List Int) (hl : l.length * 8 ≤ Go.Vx.LB) : Go.Vx.Tri Tryd.prog G0 22 1 0 [.row 0] [(0, .row 3 8 1 l.length (Go.Vx.encI l))] (fun o H' => o = .ret (.tup []) ∧ H' = [(0, .row 3 8 1 l.length (Go.Vx.encI (srtI l)))]) := by
  intro e w vs hlen hargs hH hG
  simp only [Go.Vx.RepSVs, Go.Vx.RepSV] at hargs
  obtain ⟨v, s, rfl, ⟨A, n, c, rfl, hm⟩, rfl⟩ := hargs
  obtain ⟨A', c', xs, hm', hrow, hxs, hlb⟩ := hH.ob 0 _ rfl
  rw [hm] at hm'; injection hm' with hm'; injection hm' with e1 e2 e3
  subst e1; subst e2; subst e3
  have hx := repI_flat hxs
  have hsl : (srtI l).length = l.length := by unfold srtI; simp
  obtain ⟨n', hn, ⟨hv, hz⟩ | ⟨g, o, cap, cur, hv, hg, hc1, hc2, hsz, htk⟩⟩ := hrow
  · simp only at hv hn
    injection hv with h1 h2 h3
    subst h1; subst h3
    have hl0 : l = [] := List.eq_nil_of_length_eq_zero h2
    subst hl0
    refine (Any.slices_Sort_int_none sortI none 0 w).mono ?_
    rintro en w' ⟨rfl, rfl⟩
    refine ⟨.ret (.tup []), _, e, ⟨rfl, rfl⟩, ⟨_, rfl, by simp only [Go.Vx.RepSV, Go.Vx.RepSVs]; exact ⟨_, rfl, rfl⟩⟩, ?_⟩
    exact ⟨by simpa [srtI] using hH, rfl, Go.Vc.Only.refl _ _, trivial, fun _ _ h _ => h, fun _ h => h, fun _ h => .inl h, fun i hi => by
      have : i = 0 := by
        unfold Go.Vx.has at hi
        simp only [Go.Vc.lk] at hi
        split at hi
        · rename_i e1; exact (Go.Vc.nbeq.1 e1).symm
        · cases hi
      omega, fun i k hi hk => .inl ⟨0, by rfl, by
        have : i = 0 := by
          unfold Go.Vx.has at hi
          simp only [Go.Vc.lk] at hi
          split at hi
          · rename_i e1; exact (Go.Vc.nbeq.1 e1).symm
          · cases hi
        subst this; exact hk⟩⟩
  · simp only at hv hg htk hn hsz
    injection hv with h1 h2 h3
    subst h1; subst h3
    have hnl : n' = l.length := h2.symm
    subst hnl
    rw [Nat.mul_one, hx] at htk
    have hlt := (Array.getElem?_eq_some_iff.1 hg).1
    have hl' := hl
    simp only [Go.Vx.LB] at hl'
    refine (Any.slices_Sort_int sortI g o c l w (holdsI hg htk) hlt (by omega)).mono ?_
    rintro en w' ⟨rfl, q, os, rfl⟩
    refine ⟨.ret (.tup []), _, _, ⟨rfl, rfl⟩, ⟨_, rfl, by simp only [Go.Vx.RepSV, Go.Vx.RepSVs]; exact ⟨_, rfl, rfl⟩⟩, row_left (l := l) hlen hm hH hg (grownBy_putI _) (heap_putI _ hg) (putCells_len _ _ _) hsl hc1 hc2 hsz ?_ hl⟩
    have := putCells_cut o l.length (srtI l).toArray cur (by simp [hsl]; omega) (by simp [hsl])
    rw [List.toList_toArray, ← hsl, List.take_length] at this
    rw [← hsl]
    exact this
/-- The same, while an own block keeps the slice. -/
theorem sort_tri2 (l : List Int) (hl : l.length * 8 ≤ Go.Vx.LB) : Go.Vx.Tri Tryd.prog G0 22 2 0 [.row 1] [(0, .blk 46 [.row 1, .nl]), (1, .row 3 8 1 l.length (Go.Vx.encI l))] (fun o H' => o = .ret (.tup []) ∧ H' = [(0, .blk 46 [.row 1, .nl]), (1, .row 3 8 1 l.length (Go.Vx.encI (srtI l)))]) := by
  intro e w vs hlen hargs hH hG
  simp only [Go.Vx.RepSVs, Go.Vx.RepSV] at hargs
  obtain ⟨v, s, rfl, ⟨A, n, c, rfl, hm⟩, rfl⟩ := hargs
  obtain ⟨A', c', xs, hm', hrow, hxs, hlb⟩ := hH.ob 1 _ rfl
  obtain ⟨g0, vs0, hm0, hg0, hvs0⟩ := hH.ob 0 _ rfl
  rw [hm] at hm'; injection hm' with hm'; injection hm' with e1 e2 e3
  subst e1; subst e2; subst e3
  have hx := repI_flat hxs
  have hsl : (srtI l).length = l.length := by unfold srtI; simp
  have hasE : ∀ {i : Nat} {ob : Go.Vx.Ob}, Go.Vx.has [(0, .blk 46 [.row 1, .nl]), (1, ob)] i → i = 0 ∨ i = 1 := by
    intro i ob hi
    unfold Go.Vx.has at hi
    simp only [Go.Vc.lk] at hi
    split at hi
    · rename_i e1; exact .inl (Go.Vc.nbeq.1 e1).symm
    · split at hi
      · rename_i e1; exact .inr (Go.Vc.nbeq.1 e1).symm
      · cases hi
  have hasI : ∀ {i : Nat} {ob ob' : Go.Vx.Ob}, Go.Vx.has [(0, .blk 46 [.row 1, .nl]), (1, ob)] i → Go.Vx.has [(0, .blk 46 [.row 1, .nl]), (1, ob')] i := by
    intro i ob ob' hi
    rcases hasE hi with rfl | rfl <;> rfl
  obtain ⟨n', hn, ⟨hv, hz⟩ | ⟨g, o, cap, cur, hv, hg, hc1, hc2, hsz, htk⟩⟩ := hrow
  · simp only at hv hn
    injection hv with h1 h2 h3
    subst h1; subst h3
    have hl0 : l = [] := List.eq_nil_of_length_eq_zero h2
    subst hl0
    refine (Any.slices_Sort_int_none sortI none 0 w).mono ?_
    rintro en w' ⟨rfl, rfl⟩
    refine ⟨.ret (.tup []), _, e, ⟨rfl, rfl⟩, ⟨_, rfl, by simp only [Go.Vx.RepSV, Go.Vx.RepSVs]; exact ⟨_, rfl, rfl⟩⟩, ?_⟩
    exact ⟨by simpa [srtI] using hH, rfl, Go.Vc.Only.refl _ _, trivial, fun _ _ h _ => h, fun _ h => h, fun _ h => .inl h, fun i hi => by
      rcases hasE hi with rfl | rfl <;> omega, fun i k hi hk => .inl ⟨i, hasI hi, hk⟩⟩
  · simp only at hv hg htk hn hsz
    injection hv with h1 h2 h3
    subst h1; subst h3
    have hnl : n' = l.length := h2.symm
    subst hnl
    rw [Nat.mul_one, hx] at htk
    have hlt := (Array.getElem?_eq_some_iff.1 hg).1
    have hl' := hl
    simp only [Go.Vx.LB] at hl'
    have hf1 : Go.Vx.foot e 1 g := ⟨_, hm, rfl⟩
    have hf0 : Go.Vx.foot e 0 g0 := ⟨_, hm0, rfl⟩
    have hne : g0 ≠ g := fun h => hH.sep 0 1 g0 rfl rfl (by decide) hf0 (h ▸ hf1)
    have hlt0 := (Array.getElem?_eq_some_iff.1 hg0).1
    refine (Any.slices_Sort_int sortI g o c l w (holdsI hg htk) hlt (by omega)).mono ?_
    rintro en w' ⟨rfl, q, os, rfl⟩
    have hgr : w.grownBy (grow (putRow (Value.int .i64) (Sort.ahead w q) g o (srtI l).toArray) os) (some g) := grownBy_putI _
    have hcut := putCells_cut o l.length (srtI l).toArray cur (by simp [hsl]; omega) (by simp [hsl])
    rw [List.toList_toArray, ← hsl, List.take_length] at hcut
    refine ⟨.ret (.tup []), _, e, ⟨rfl, rfl⟩, ⟨_, rfl, by simp only [Go.Vx.RepSV, Go.Vx.RepSVs]; exact ⟨_, rfl, rfl⟩⟩, ?_⟩
    refine ⟨⟨fun i ob ho => ?_, fun i j k hi hj => hH.sep i j k (hasI hi) (hasI hj), fun i k hi => hH.npub i k (hasI hi), fun k hk => Nat.lt_of_lt_of_le (hH.pubLt k hk) hgr.size⟩, rfl, ?_, trivial, fun _ _ h _ => h, fun _ h => h, fun _ h => .inl h, fun i hi => ?_, fun i k hi hk => .inl ⟨i, hasI hi, hk⟩⟩
    · rcases hasE (i := i) (by unfold Go.Vx.has; rw [ho]; rfl) with rfl | rfl
      · simp only [Go.Vc.lk, Nat.beq_refl] at ho
        injection ho with ho; subst ho
        exact ⟨g0, vs0, hm0, (hgr.block g0 hlt0 (fun e1 => by injection e1 with e1; exact hne e1)).trans hg0, by simpa only [Go.Vx.RepSVs, Go.Vx.RepSV] using hvs0⟩
      · have ho : some (Go.Vx.Ob.row 3 8 1 l.length (Go.Vx.encI (srtI l))) = some ob := ho
        injection ho with ho; subst ho
        refine ⟨some ⟨g, o, none⟩, c, (srtI l).map (.int .i64), hm, ⟨l.length, by simp [hsl], .inr ⟨g, o, c, _, rfl, heap_putI _ hg, hc1, hc2, by rw [putCells_len]; exact hsz, ?_⟩⟩, repI_of _ _ _, hl⟩
        rw [Nat.mul_one, ← hsl]
        exact hcut
    · exact ⟨hgr.os, hgr.tape, hgr.output, hgr.size, fun k hk hn => hgr.block k hk (fun e1 => by injection e1 with e1; subst e1; exact hn ⟨1, rfl, hf1⟩)⟩
    · rcases hasE hi with rfl | rfl <;> omega
theorem comp_tri (l : List Int) (hl : l.length * 8 ≤ Go.Vx.LB) : Go.Vx.Tri Tryd.prog G0 23 1 0 [.row 0] [(0, .row 3 8 1 l.length (Go.Vx.encI l))] (fun o H' => o = .ret (.row 0) ∧ H' = [(0, .row 3 8 1 (Lib.compact l).length (Go.Vx.encI (Lib.compact l)))]) := by
  intro e w vs hlen hargs hH hG
  simp only [Go.Vx.RepSVs, Go.Vx.RepSV] at hargs
  obtain ⟨v, s, rfl, ⟨A, n, c, rfl, hm⟩, rfl⟩ := hargs
  obtain ⟨A', c', xs, hm', hrow, hxs, hlb⟩ := hH.ob 0 _ rfl
  rw [hm] at hm'; injection hm' with hm'; injection hm' with e1 e2 e3
  subst e1; subst e2; subst e3
  have hx := repI_flat hxs
  have hcl : (Lib.compact l).length ≤ l.length := by
    unfold Lib.compact Lib.compactUpTo
    rw [List.length_map]
    exact Nat.le_trans (List.length_filter_le _ _) (by simp)
  obtain ⟨n', hn, ⟨hv, hz⟩ | ⟨g, o, cap, cur, hv, hg, hc1, hc2, hsz, htk⟩⟩ := hrow
  · simp only at hv hn
    injection hv with h1 h2 h3
    subst h1; subst h3
    have hl0 : l = [] := List.eq_nil_of_length_eq_zero h2
    subst hl0
    refine (Any.slices_Compact_int_empty compI none 0 w).mono ?_
    rintro en w' ⟨rfl, rfl⟩
    refine ⟨.ret (.row 0), _, e, ⟨rfl, rfl⟩, ⟨_, rfl, by simp only [Go.Vx.RepSV]; exact ⟨_, _, _, rfl, hm⟩⟩, ?_⟩
    exact ⟨hH, rfl, Go.Vc.Only.refl _ _, trivial, fun _ _ h _ => h, fun _ h => h, fun _ h => .inl h, fun i hi => by
      have : i = 0 := by
        unfold Go.Vx.has at hi
        simp only [Go.Vc.lk] at hi
        split at hi
        · rename_i e1; exact (Go.Vc.nbeq.1 e1).symm
        · cases hi
      omega, fun i k hi hk => .inl ⟨0, by rfl, by
        have : i = 0 := by
          unfold Go.Vx.has at hi
          simp only [Go.Vc.lk] at hi
          split at hi
          · rename_i e1; exact (Go.Vc.nbeq.1 e1).symm
          · cases hi
        subst this; exact hk⟩⟩
  · simp only at hv hg htk hn hsz
    injection hv with h1 h2 h3
    subst h1; subst h3
    have hnl : n' = l.length := h2.symm
    subst hnl
    rw [Nat.mul_one, hx] at htk
    have hlt := (Array.getElem?_eq_some_iff.1 hg).1
    have hl' := hl
    simp only [Go.Vx.LB] at hl'
    refine (Any.slices_Compact_int compI g o c l w (holdsI hg htk) (by omega) hc1).mono ?_
    rintro en w' ⟨rfl, q, rfl⟩
    have hgrow : ∀ d : Array Int, putRow (Value.int .i64) (Sort.ahead w q) g o d = grow (putRow (Value.int .i64) (Sort.ahead w q) g o d) #[] := fun d => by unfold grow; rw [Array.append_empty]
    rw [hgrow]
    refine ⟨.ret (.row 0), _, _, ⟨rfl, rfl⟩, ⟨_, rfl, by simp only [Go.Vx.RepSV]; exact ⟨_, _, _, rfl, rfl⟩⟩, row_left (l := l) hlen hm hH hg (grownBy_putI _) (heap_putI _ hg) (putCells_len _ _ _) rfl (Nat.le_trans hcl hc1) hc2 hsz ?_ (Nat.le_trans (Nat.mul_le_mul_right _ hcl) hl)⟩
    have := putCells_cut o (Lib.compact l).length (Lib.compact l ++ List.replicate (l.length - (Lib.compact l).length) 0).toArray cur (by simp; omega) (by simp)
    rw [this]
    simp
end Go.Proofs.YtohmeplcjgmedaaDoor

/- FreeTypes. -/
namespace Go.Proofs.YtohmeplcjgmedaaDoor
open Go.Vx Go.Vc Go.RowKit

/-- The free numbers, sorted, each once. -/
def freeS (t : TG) : List Int := Go.Lib.compact (srtI (frG t []))
theorem freeS_len (t : TG) : (freeS t).length ≤ szG t := by
  unfold freeS
  have h1 : (Go.Lib.compact (srtI (frG t []))).length ≤ (srtI (frG t [])).length := by
    unfold Go.Lib.compact Go.Lib.compactUpTo
    rw [List.length_map]
    exact Nat.le_trans (List.length_filter_le _ _) (by simp)
  have h2 : (srtI (frG t [])).length = (frG t []).length := by unfold srtI; simp
  have h3 := frG_len t []
  omega
/-- What a temporary holds, said otherwise. -/
theorem weak_T {N n0 : Nat} {b : Bs G0 n0} {T : Vx.Tl} {H : Hp} {n : Nat} (t : Nat) (y : Vx.SV) {x : Vx.SV} (ht : lk T t = some x) (hl : lowB n y = true) (hxy : ∀ (e : Env) (w : World) (v : Value), RepSV e w x v → RepSV e w y v) : Weak b N ⟨T, H, n⟩ ⟨(t, y) :: T, H, n⟩ := by
  intro e a w h
  refine ⟨e, fun _ h => h, h.sz, h.df, h.len, fun t' z hx => ?_, h.hp, h.below, h.dr, h.mine, h.frm, h.pre, h.gl⟩
  simp only [lk] at hx
  split at hx
  · rename_i e'
    obtain rfl := nbeq.1 e'
    injection hx with hx; subst hx
    exact hxy _ _ _ (h.tm _ _ ht)
  · exact h.tm _ _ hx
theorem nl_dI (e : Env) (w : World) (v : Value) (h : RepSV e w .nl v) : RepSV e w (.d (dI [])) v := by
  simp only [RepSV] at h ⊢
  subst h
  unfold dI slD ebn
  simp only [RepD, Vx.encI, List.length_nil]
  exact ⟨none, 0, rfl, Nat.le_refl _, by simp, fun h => absurd rfl h, by simp [RepC]⟩
theorem wtyp_nl (t : TG) (h1 : ([] : List Int).length + szG t < 1099511627776) (h2 : ([] : List Int).length + szG t < 8796093022208) : Tri Tryd.prog G0 21 2 0 [.own 0 0, .d (dG t), .nl] (wkr .nl []) (wkrPost .nl ([] ++ frG t [])) := by
  intro e w vs hlen hargs hH hG
  refine wtyp_tri t [] [] h1 h2 e w vs hlen ?_ hH hG
  simp only [RepSVs] at hargs ⊢
  obtain ⟨v, s, rfl, a1, v2, s2, rfl, a2, v3, s3, rfl, a3, rfl⟩ := hargs
  exact ⟨v, _, rfl, a1, v2, _, rfl, a2, v3, _, rfl, nl_dI _ _ _ a3, rfl⟩
theorem freeT_fn (t : TG) (h : szG t < 1099511627776) : FnR Tryd.prog G0 8 [dG t] (dI (freeS t)) := by
  have hl := frG_len t []
  have h2 : (srtI (frG t [])).length = (frG t []).length := by unfold srtI; simp
  refine fnQ_of_vc txok mixed [] Tryd.func8 rfl rfl (by simp) fun b => ?_
  conv => whnf
  refine weakC _ (weak_nlC 1 0 3 8 1 rfl rfl) ?_
  refine callT [1, 2] (wtyp_nl t (by simpa using h) (by simp; omega)) gf21 rfl rfl ⟨rfl, rfl, trivial⟩ rfl ?_
  rintro o' H' ⟨rfl, rfl⟩
  conv => whnf
  rw [List.nil_append]
  refine callT [1, 2] (sort_tri2 (frG t []) (by simp only [LB]; omega)) gf22 rfl rfl ⟨rfl, rfl, trivial⟩ rfl ?_
  rintro o' H' ⟨rfl, rfl⟩
  conv => whnf
  rw [← h2]
  refine callT [2] (comp_tri (srtI (frG t [])) (by simp only [LB]; omega)) gf23 rfl rfl ⟨rfl, trivial⟩ rfl ?_
  rintro o' H' ⟨rfl, rfl⟩
  conv => whnf
  try exact rfl
end Go.Proofs.YtohmeplcjgmedaaDoor

/- put, renamed, Put. -/
namespace Go.Proofs.YtohmeplcjgmedaaDoor
open Go.Vx Go.Vc Go.RowKit

/-- A list whose first ones are changed. -/
def mixF (g : TG → TG) (l : List TG) (i : Nat) : List TG := (l.take i).map g ++ l.drop i
theorem mixF_len (g : TG → TG) (l : List TG) (i : Nat) : (mixF g l i).length = l.length := by
  simp [mixF]; omega
theorem mixF_get {g : TG → TG} {l : List TG} {i : Nat} (h : i < l.length) (h' : i < (mixF g l i).length) : (mixF g l i)[i] = l[i] := by
  simp only [mixF]
  rw [List.getElem_append_right (by simp; omega)]
  simp [Nat.min_eq_left (Nat.le_of_lt h)]
theorem mixF_set {g : TG → TG} {l : List TG} {i : Nat} (h : i < l.length) : (mixF g l i).set i (g l[i]) = mixF g l (i + 1) := by
  simp only [mixF]
  rw [List.set_append_right _ _ (by simp; omega)]
  simp only [List.length_map, List.length_take, Nat.min_eq_left (Nat.le_of_lt h), Nat.sub_self]
  rw [List.drop_eq_getElem_cons h, List.set_cons_zero, List.take_succ_eq_append_getElem h, List.map_append, List.append_assoc]
  rfl
theorem mixF_zero (g : TG → TG) (l : List TG) : mixF g l 0 = l := by simp [mixF]
theorem mixF_all (g : TG → TG) (l : List TG) : mixF g l l.length = l.map g := by simp [mixF]
theorem encGs_set (l : List TG) (i : Nat) (hi : i < l.length) (x : TG) : ovl (encGs l) (i * 4) (encG x) = encGs (l.set i x) := by
  rw [encGs_eq, encGs_eq]; exact fl_set encG_len l i hi x

def varG (n : Int) : TG := .mk 6 n [] []
def ownS (l : List TG) : List Int := l.flatMap freeS
theorem ownS_take {l : List TG} {i : Nat} (h : i < l.length) : ownS (l.take (i + 1)) = ownS (l.take i) ++ freeS l[i] := by
  unfold ownS
  rw [List.take_succ_eq_append_getElem h, List.flatMap_append]; simp
theorem ownS_len : ∀ l : List TG, (ownS l).length ≤ szGs l
  | [] => by simp [ownS, szGs]
  | t :: r => by
    have h1 := freeS_len t
    have h2 := ownS_len r
    unfold ownS at h2 ⊢
    rw [List.flatMap_cons, List.length_append, szGs]; omega
def freshN (fr : List Int) (l : List TG) (x n : Int) : Int := (mex [fr, ownS l, [x, n]].flatten : Nat)
/-- A type put for a number: so many levels deep. -/
def putF : Nat → TG → Int → TG → List Int → TG
  | 0, t, _, _, _ => t
  | f + 1, t, x, y, fr =>
    if t.k = 6 ∧ t.n = x then y
    else if bndG t.k = true ∧ t.n = x then t
    else if bndG t.k = true ∧ t.n ∈ fr ∧ 0 < t.kids.length then
      .mk t.k (freshN fr t.kids x t.n) t.ls ((t.kids.map fun u => putF f u t.n (varG (freshN fr t.kids x t.n)) [freshN fr t.kids x t.n]).map fun u => putF f u x y fr)
    else .mk t.k t.n t.ls (t.kids.map fun u => putF f u x y fr)
def renF (f : Nat) (t : TG) (x : Int) (fr : List Int) : TG := .mk t.k (freshN fr t.kids x t.n) t.ls (t.kids.map fun u => putF f u t.n (varG (freshN fr t.kids x t.n)) [freshN fr t.kids x t.n])
theorem szGs_map {g : TG → TG} : ∀ {l : List TG}, (∀ t ∈ l, szG (g t) = szG t) → szGs (l.map g) = szGs l
  | [], _ => rfl
  | t :: r, h => by
    rw [List.map_cons, szGs, szGs, h t (by simp), szGs_map fun u hu => h u (by simp [hu])]
theorem szG_eq (t : TG) : szG t = szGs t.kids + 1 := by cases t; simp only [szG, g_kids]
theorem szGs_map_le {g : TG → TG} : ∀ {l : List TG}, (∀ t ∈ l, szG (g t) ≤ szG t) → szGs (l.map g) ≤ szGs l
  | [], _ => Nat.le_refl _
  | t :: r, h => by
    rw [List.map_cons, szGs, szGs]
    exact Nat.add_le_add (h t (by simp)) (szGs_map_le fun u hu => h u (by simp [hu]))
theorem sz_put : ∀ (f : Nat) (t : TG) (x : Int) (y : TG) (fr : List Int), szG y = 1 → szG (putF f t x y fr) ≤ szG t
  | 0, _, _, _, _, _ => Nat.le_refl _
  | f + 1, t, x, y, fr, hy => by
    unfold putF
    have hv : ∀ n, szG (varG n) = 1 := fun n => by simp [varG, szG, szGs]
    have ht := szG_eq t
    repeat' split
    · omega
    · exact Nat.le_refl _
    · rw [szG, ht]
      exact Nat.succ_le_succ (Nat.le_trans (szGs_map_le fun u _ => sz_put f u x y fr hy) (szGs_map_le fun u _ => sz_put f u _ _ _ (hv _)))
    · rw [szG, ht]
      exact Nat.succ_le_succ (szGs_map_le fun u _ => sz_put f u x y fr hy)
theorem freeS_var (n : Int) : freeS (varG n) = [n] := by
  unfold freeS varG
  have h : frG (.mk 6 n [] []) [] = [n] := by
    rw [frG_mk, if_pos ⟨rfl, by show (-1 : Int) < 0; decide⟩]; rfl
  rw [h]
  unfold srtI
  rw [List.mergeSort_singleton]
  rfl
def PutOk (f : Nat) : Prop := ∀ t, szG t ≤ f → ∀ x y fr, FnR Tryd.prog G0 24 [dG t, .int .i64 x, dG y, dI fr] (dG (putF f t x y fr))
theorem putT_fn {f : Nat} (hp : PutOk f) (t : TG) (ht : szG t ≤ f) (x : Int) (y : TG) (hy : szG y < 1099511627776) : FnR Tryd.prog G0 9 [dG t, .int .i64 x, dG y] (dG (putF f t x y (freeS y))) := by
  refine fnQ_of_vc txok mixed [(1, .take 0 (.pure 1 (.take 2 (.take 3 (.run 4 (.fin 5 (.fin 6 .done)))))))] Tryd.func9 rfl rfl (by simp) fun b => ?_
  conv => whnf
  refine And.intro (by kernel_rfl) ?_
  conv => whnf
  refine callF (freeT_fn y hy) gf8 rfl rfl ?_
  conv => whnf
  refine callF (hp t ht x y (freeS y)) gf24 rfl rfl ?_
  conv => whnf
  rfl
theorem ren_fn {f : Nat} (hp : PutOk f) (t : TG) (ht : szGs t.kids ≤ f) (hz : szGs t.kids < 1099511627776) (x : Int) (fr : List Int) : FnR Tryd.prog G0 41 [dG t, .int .i64 x, dI fr] (dG (renF f t x fr)) := by
  obtain ⟨k, n, ls, ks⟩ := t
  simp only [g_kids] at ht hz
  refine fnQ_sz fun hs => ?_
  have hl := (szOk_G (t := .mk k n ls ks) hs.1).1
  have hfr := (szOk_sl hs.2.2.1).1
  simp only [g_kids, LB] at hl hfr
  refine fnQ_of_vc txok mixed [(12, .pure 0 (.take 1 (.pure 2 (.take 3 (.pure 4 (.take 5 (.pure 6 (.pure 7 (.run 8 (.pure 9 (.fin 10 .done)))))))))))] Tryd.func41 rfl rfl (by simp) fun b => ?_
  conv => whnf
  simp only [g_kids]
  have hown : ∀ i, (ownS (ks.take i)).length < 1099511627776 := fun i => by
    have := ownS_len (ks.take i)
    have := szGs_le ks i
    omega
  refine loopH (fun i : Nat => i ≤ ks.length) (fun i => ks.length - i) (fun i => [(16, .d (.int .i64 i)), (7, .row 2)]) (fun i => [(0, .blk 25 [.d (.int .i64 k), .d (.int .i64 n), .d (dL ls), .d (dGs ks)]), (1, .blk 25 [.d (.int .i64 0), .d (.int .i64 0), .nl, .nl]), (2, .row 3 8 1 (ownS (ks.take i)).length (Vx.encI (ownS (ks.take i))))]) 3 0 (by omega) ((weak_nlT 7 3 8 1 rfl).trans (weak_of rfl (by repeat ((conv => whnf); first | exact trivial | refine And.intro rfl ?_ | refine And.intro (incD (by omega)) ?_)) (by repeat ((conv => whnf); first | exact trivial | refine And.intro rfl ?_ | refine And.intro (incD (by omega)) ?_)))) ?_
  intro i hi
  conv => whnf
  refine And.intro (fun hb => ?_) (fun hb => ?_)
  · have hb := of_decide_eq_true hb
    have hil : i < ks.length := by omega
    conv => whnf
    refine IdxC.encGs i hil rfl ?_
    conv => whnf
    have hzi : szG ks[i] < 1099511627776 := by have := szG_mem (List.getElem_mem hil); omega
    refine callF (freeT_fn ks[i] hzi) gf8 rfl rfl ?_
    conv => whnf
    have ho := hown (i + 1)
    rw [ownS_take hil] at ho
    refine appR (i := 2) (sz := 1) (n := (ownS (ks.take i)).length) (m := (freeS ks[i]).length) (xs := Vx.encI (ownS (ks.take i))) (ys := Vx.encI (freeS ks[i])) txok (fun _ => false) (ownS (ks.take (i + 1))).length (Vx.encI (ownS (ks.take (i + 1)))) (by exact rfl) (by exact rfl) (by exact rfl) (by kernel_rfl) (by rw [encI_len, Nat.mul_one]) (encI_scal _) (by rw [ownS_take hil, List.length_append]) (by rw [ownS_take hil]; simp [Vx.encI]) (by rw [ownS_take hil]; simp only [LB]; omega) ?_
    conv => whnf
    exact again (i + 1) (by omega) (by omega) (weak_of rfl (by repeat ((conv => whnf); first | exact trivial | refine And.intro rfl ?_ | refine And.intro (incD (by omega)) ?_)) (by repeat ((conv => whnf); first | exact trivial | refine And.intro rfl ?_ | refine And.intro (incD (by omega)) ?_)))
  · have hb := of_decide_eq_false hb
    have hi : i = ks.length := by omega
    subst hi
    rw [List.take_length]
    conv => whnf
    refine pubC (fun i => Nat.ble 2 i) ?_
    refine effC txok ?_
    conv => whnf
    refine callV (fresh_fn [fr, ownS ks, [x, n]] (by have := hown ks.length; rw [List.take_length] at this; simp; omega)) gf66 rfl rfl rfl rfl ?_
    conv => whnf
    refine callT [] (clone_tri ks) gf42 rfl rfl trivial rfl ?_
    rintro o' H' ⟨rfl, rfl⟩
    conv => whnf
    generalize hm : mex [fr, ownS ks, [x, n]].flatten = m
    have hput : ∀ u ∈ ks, FnR Tryd.prog G0 9 [dG u, .int .i64 n, dG (varG (m : Nat))] (dG (putF f u n (varG (m : Nat)) [(m : Int)])) := fun u hu => by
      have h1 := putT_fn hp u (by have := szG_mem hu; omega) n (varG (m : Nat)) (by simp [varG, szG, szGs])
      rwa [freeS_var] at h1
    have hgo : renF f (.mk k n ls ks) x fr = .mk k (m : Nat) ls (ks.map fun u => putF f u n (varG (m : Nat)) [(m : Int)]) := by
      subst hm; rfl
    rw [hgo]
    generalize hg : (fun u => putF f u n (varG (m : Nat)) [(m : Int)]) = g
    have hput : ∀ u ∈ ks, FnR Tryd.prog G0 9 [dG u, .int .i64 n, dG (varG (m : Nat))] (dG (g u)) := fun u hu => by
      subst hg; exact hput u hu
    refine loopH (fun i : Nat => i ≤ ks.length) (fun i => ks.length - i) (fun i => [(40, .d (.int .i64 i))]) (fun i => [(0, .blk 25 [.d (.int .i64 k), .d (.int .i64 n), .d (dL ls), .row 5]), (1, .blk 25 [.d (.int .i64 0), .d (.int .i64 0), .nl, .nl]), (5, .row 25 64 4 ks.length (encGs (mixF g ks i)))]) 6 0 (by omega) ?_ ?_
    · rw [mixF_zero]
      exact weak_of rfl (by repeat ((conv => whnf); first | exact trivial | refine And.intro rfl ?_ | refine And.intro (incD (by omega)) ?_)) (by repeat ((conv => whnf); first | exact trivial | refine And.intro rfl ?_ | refine And.intro (incD (by omega)) ?_))
    intro i hi
    conv => whnf
    refine And.intro (fun hb => ?_) (fun hb => ?_)
    · have hb := of_decide_eq_true hb
      have hil : i < ks.length := by omega
      have hml := mixF_len g ks i
      conv => whnf
      refine ⟨i, rfl, hil, ?_⟩
      conv => whnf
      refine ⟨encG ks[i], by rw [← mixF_get (g := g) hil (by omega)]; exact encGs_at _ i (by omega), rfl, ?_⟩
      conv => whnf
      refine And.intro (by kernel_rfl) ?_
      conv => whnf
      refine callF (hput ks[i] (by simp)) gf9 rfl rfl ?_
      conv => whnf
      refine ⟨i, rfl, hil, ?_⟩
      conv => whnf
      refine ⟨encGs (mixF g ks (i + 1)), ?_, ?_, ?_⟩
      · show i * 4 + 4 ≤ (encGs (mixF g ks i)).length
        rw [encGs_len, hml]; omega
      · rw [← mixF_set hil]; exact encGs_set _ i (by omega) _
      conv => whnf
      exact again (i + 1) (by omega) (by omega) (weak_of rfl (by repeat ((conv => whnf); first | exact trivial | refine And.intro rfl ?_ | refine And.intro (incD (by omega)) ?_)) (by repeat ((conv => whnf); first | exact trivial | refine And.intro rfl ?_ | refine And.intro (incD (by omega)) ?_)))
    · have hb := of_decide_eq_false hb
      have hi : i = ks.length := by omega
      subst hi
      rw [mixF_all]
      conv => whnf
      simp only [dG, encG, g_k, g_n, g_ls, g_kids, List.length_map]
end Go.Proofs.YtohmeplcjgmedaaDoor

/- put, Put. -/
namespace Go.Proofs.YtohmeplcjgmedaaDoor
open Go.Vx Go.Vc Go.RowKit

theorem putF_mk (f : Nat) (k n : Int) (ls : List ByteArray) (l : List TG) (x : Int) (y : TG) (fr : List Int) : putF (f + 1) (.mk k n ls l) x y fr =
    if k = 6 ∧ n = x then y
    else if bndG k = true ∧ n = x then .mk k n ls l
    else if bndG k = true ∧ n ∈ fr ∧ 0 < l.length then
      .mk k (freshN fr l x n) ls ((l.map fun u => putF f u n (varG (freshN fr l x n)) [freshN fr l x n]).map fun u => putF f u x y fr)
    else .mk k n ls (l.map fun u => putF f u x y fr) := rfl
abbrev pH (t y : TG) : Hp := [(0, .blk 25 [.d (.int .i64 t.k), .d (.int .i64 t.n), .d (dL t.ls), .d (dGs t.kids)]), (1, .blk 25 [.d (.int .i64 y.k), .d (.int .i64 y.n), .d (dL y.ls), .d (dGs y.kids)]), (2, .blk 25 [.d (.int .i64 0), .d (.int .i64 0), .nl, .nl])]
theorem put_fn : ∀ f, f < 1099511627776 → PutOk f := by
  intro f
  induction f with
  | zero =>
    intro _ t ht
    have := szG_pos t
    omega
  | succ f ih =>
    intro hf t ht x y fr
    have ih := ih (by omega)
    obtain ⟨k, n, ls, ks⟩ := t
    have ht : szGs ks ≤ f := by simp only [szG] at ht; omega
    refine fnQ_sz fun hs => ?_
    have hl := (szOk_G (t := .mk k n ls ks) hs.1).1
    simp only [g_kids, LB] at hl
    refine fnQ_of_vc txok mixed ((100003, .done) :: (100008, .done) :: [(12, .pure 0 (.take 1 (.pure 2 (.take 3 (.pure 4 (.take 5 (.pure 6 (.run 7 (.pure 8 (.fin 9 .done))))))))))]) Tryd.func24 rfl rfl (by simp) fun b => ?_
    conv => whnf
    refine CutC.mk (fun st => ¬ (k = 6 ∧ n = x) ∧ st = ⟨[(1, .d (.int .i64 x)), (3, .d (dI fr)), (4, .own 0 0), (6, .own 1 0), (8, .own 2 0)], pH (.mk k n ls ks) y, 3⟩) ?_ ?_
    · conv => whnf
      simp only [g_k, g_n]
      refine And.intro (fun h1 => ?_) (fun h1 => ?_)
      · have h1 : k = 6 := eq_of_beq h1
        conv => whnf
        refine And.intro (fun h2 => ?_) (fun h2 => ?_)
        · have h2 : n = x := eq_of_beq h2
          conv => whnf
          rw [putF_mk, if_pos ⟨h1, h2⟩]
          rfl
        · have h2 : n ≠ x := by simpa using h2
          conv => whnf
          exact ⟨_, ⟨fun h => h2 h.2, rfl⟩, weak_of rfl (by repeat ((conv => whnf); first | exact trivial | refine And.intro rfl ?_ | refine And.intro (incD (by omega)) ?_)) (by repeat ((conv => whnf); first | exact trivial | refine And.intro rfl ?_ | refine And.intro (incD (by omega)) ?_))⟩
      · have h1 : k ≠ 6 := by simpa using h1
        conv => whnf
        exact ⟨_, ⟨fun h => h1 h.1, rfl⟩, weak_of rfl (by repeat ((conv => whnf); first | exact trivial | refine And.intro rfl ?_ | refine And.intro (incD (by omega)) ?_)) (by repeat ((conv => whnf); first | exact trivial | refine And.intro rfl ?_ | refine And.intro (incD (by omega)) ?_))⟩
    rintro st' ⟨hno, rfl⟩
    conv => whnf
    refine CutC.mk (fun st => ∃ n' l', l'.length = ks.length ∧ szGs l' ≤ f ∧ putF (f + 1) (.mk k n ls ks) x y fr = .mk k n' ls (l'.map fun u => putF f u x y fr) ∧ st = ⟨[(1, .d (.int .i64 x)), (3, .d (dI fr)), (4, .own 0 0), (6, .own 1 0), (8, .own 2 0)], pH (.mk k n' ls l') y, 3⟩) ?_ ?_
    · conv => whnf
      refine callF (binder_fn (.mk k n ls ks)) gf36 rfl rfl ?_
      simp only [g_k, g_n, g_ls, g_kids]
      conv => whnf
      refine And.intro (fun h1 => ?_) (fun h1 => ?_)
      · conv => whnf
        refine And.intro (fun h2 => ?_) (fun h2 => ?_)
        · have h2 : n = x := eq_of_beq h2
          conv => whnf
          rw [putF_mk, if_neg hno, if_pos ⟨h1, h2⟩]
          rfl
        · have h2 : n ≠ x := by simpa only [g_n, beq_eq_false_iff_ne, ne_eq] using h2
          conv => whnf
          refine callF (contains_fn fr n) gf40 rfl rfl ?_
          conv => whnf
          refine And.intro (fun h3 => ?_) (fun h3 => ?_)
          · have h3 : n ∈ fr := of_decide_eq_true h3
            conv => whnf
            refine And.intro (fun h4 => ?_) (fun h4 => ?_)
            · have h4 := of_decide_eq_true h4; simp only [g_kids] at h4
              conv => whnf
              refine callF (ren_fn ih (.mk k n ls ks) ht (by rw [g_kids]; omega) x fr) gf41 rfl rfl ?_
              conv => whnf
              refine ⟨_, ⟨freshN fr ks x n, ks.map fun u => putF f u n (varG (freshN fr ks x n)) [freshN fr ks x n], by simp, ?_, ?_, rfl⟩, weak_of rfl (by repeat ((conv => whnf); first | exact trivial | refine And.intro rfl ?_ | refine And.intro (incD (by omega)) ?_)) (by repeat ((conv => whnf); first | exact trivial | refine And.intro rfl ?_ | refine And.intro (incD (by omega)) ?_))⟩
              · exact Nat.le_trans (szGs_map_le fun u _ => sz_put f u _ _ _ (by simp [varG, szG, szGs])) ht
              · rw [putF_mk, if_neg hno, if_neg (fun h => h2 h.2), if_pos ⟨h1, h3, by omega⟩]
            · have h4 := of_decide_eq_false h4; simp only [g_kids] at h4
              conv => whnf
              refine ⟨_, ⟨n, ks, rfl, ht, ?_, rfl⟩, weak_of rfl (by repeat ((conv => whnf); first | exact trivial | refine And.intro rfl ?_ | refine And.intro (incD (by omega)) ?_)) (by repeat ((conv => whnf); first | exact trivial | refine And.intro rfl ?_ | refine And.intro (incD (by omega)) ?_))⟩
              rw [putF_mk, if_neg hno, if_neg (fun h => h2 h.2), if_neg (fun h => by have := h.2.2; omega)]
          · have h3 : n ∉ fr := of_decide_eq_false h3
            conv => whnf
            refine ⟨_, ⟨n, ks, rfl, ht, ?_, rfl⟩, weak_of rfl (by repeat ((conv => whnf); first | exact trivial | refine And.intro rfl ?_ | refine And.intro (incD (by omega)) ?_)) (by repeat ((conv => whnf); first | exact trivial | refine And.intro rfl ?_ | refine And.intro (incD (by omega)) ?_))⟩
            rw [putF_mk, if_neg hno, if_neg (fun h => h2 h.2), if_neg (fun h => h3 h.2.1)]
      · conv => whnf
        refine ⟨_, ⟨n, ks, rfl, ht, ?_, rfl⟩, weak_of rfl (by repeat ((conv => whnf); first | exact trivial | refine And.intro rfl ?_ | refine And.intro (incD (by omega)) ?_)) (by repeat ((conv => whnf); first | exact trivial | refine And.intro rfl ?_ | refine And.intro (incD (by omega)) ?_))⟩
        rw [putF_mk, if_neg hno, if_neg (fun h => by rw [h.1] at h1; cases h1), if_neg (fun h => by rw [h.1] at h1; cases h1)]
    rintro st' ⟨n', l', hl', hlf, hres, rfl⟩
    rw [hres]
    clear hres hno
    conv => whnf
    simp only [g_k, g_n, g_ls, g_kids]
    refine callT [] (clone_tri l') gf42 rfl rfl trivial rfl ?_
    rintro o' H' ⟨rfl, rfl⟩
    conv => whnf
    have hput : ∀ u ∈ l', FnR Tryd.prog G0 24 [dG u, .int .i64 x, dG y, dI fr] (dG (putF f u x y fr)) := fun u hu => ih u (by have := szG_mem hu; omega) x y fr
    generalize hg : (fun u => putF f u x y fr) = g
    have hput : ∀ u ∈ l', FnR Tryd.prog G0 24 [dG u, .int .i64 x, dG y, dI fr] (dG (g u)) := fun u hu => by
      subst hg; exact hput u hu
    refine loopH (fun i : Nat => i ≤ l'.length) (fun i => l'.length - i) (fun i => [(49, .d (.int .i64 i))]) (fun i => [(0, .blk 25 [.d (.int .i64 k), .d (.int .i64 n'), .d (dL ls), .row 3]), (1, .blk 25 [.d (.int .i64 y.k), .d (.int .i64 y.n), .d (dL y.ls), .d (dGs y.kids)]), (2, .blk 25 [.d (.int .i64 0), .d (.int .i64 0), .nl, .nl]), (3, .row 25 64 4 l'.length (encGs (mixF g l' i)))]) 4 0 (by omega) ?_ ?_
    · rw [mixF_zero]
      exact weak_of rfl (by repeat ((conv => whnf); first | exact trivial | refine And.intro rfl ?_ | refine And.intro (incD (by omega)) ?_)) (by repeat ((conv => whnf); first | exact trivial | refine And.intro rfl ?_ | refine And.intro (incD (by omega)) ?_))
    intro i hi
    conv => whnf
    refine And.intro (fun hb => ?_) (fun hb => ?_)
    · have hb := of_decide_eq_true hb
      have hil : i < l'.length := by omega
      have hml := mixF_len g l' i
      conv => whnf
      refine ⟨i, rfl, hil, ?_⟩
      conv => whnf
      refine ⟨encG l'[i], by rw [← mixF_get (g := g) hil (by omega)]; exact encGs_at _ i (by omega), rfl, ?_⟩
      conv => whnf
      refine And.intro (by kernel_rfl) ?_
      conv => whnf
      refine callF (hput l'[i] (by simp)) gf24 rfl rfl ?_
      conv => whnf
      refine ⟨i, rfl, hil, ?_⟩
      conv => whnf
      refine ⟨encGs (mixF g l' (i + 1)), ?_, ?_, ?_⟩
      · show i * 4 + 4 ≤ (encGs (mixF g l' i)).length
        rw [encGs_len, hml]; omega
      · rw [← mixF_set hil]; exact encGs_set _ i (by omega) _
      conv => whnf
      exact again (i + 1) (by omega) (by omega) (weak_of rfl (by repeat ((conv => whnf); first | exact trivial | refine And.intro rfl ?_ | refine And.intro (incD (by omega)) ?_)) (by repeat ((conv => whnf); first | exact trivial | refine And.intro rfl ?_ | refine And.intro (incD (by omega)) ?_)))
    · have hb := of_decide_eq_false hb
      have hi : i = l'.length := by omega
      subst hi
      rw [mixF_all]
      conv => whnf
      simp only [dG, encG, g_k, g_n, g_ls, g_kids, List.length_map]
theorem putTop_fn (t : TG) (ht : szG t < 1099511627776) (x : Int) (y : TG) (hy : szG y < 1099511627776) : FnR Tryd.prog G0 9 [dG t, .int .i64 x, dG y] (dG (putF (szG t) t x y (freeS y))) :=
  putT_fn (put_fn _ ht) t (Nat.le_refl _) x y hy
end Go.Proofs.YtohmeplcjgmedaaDoor

/- The embedded strings.Builder of the teller. -/
namespace Go.Proofs.YtohmeplcjgmedaaDoor
open Go.Vx Go.Vc Go.RowKit

/-- The builder's address cell: nil, or its own address. -/
def adr : Bool → Go.Vx.SV
  | true => .own 0 0
  | false => .d (.val (.pointer none))
def tel (c : Bool) (l : List UInt8) : Hp := [(0, .blk 62 [adr c, .row 1]), (1, .row 5 1 1 l.length (encB l))]
theorem noEsc (v : Value) (w : World) : (callFunc 79 #[v]).run Tryd.prog w = .ok (.value v) w := by
  rw [run_callFunc_extern Tryd.func79 (by kernel_rfl) (by kernel_rfl) (by kernel_rfl) (e := Extern.AbiNoEscape.same) (by kernel_rfl), Go.Lib.run_noEscape]
  rfl
theorem copyCheck_tri (c : Bool) (l : List UInt8) : Tri Tryd.prog G0 67 2 0 [.own 0 0] (tel c l) (fun o H' => o = .ret (.tup []) ∧ H' = tel true l) := by
  refine tri_of_vc txok mixed [] [] Tryd.func67 rfl rfl (by simp) fun b => ?_
  cases c
  · conv => whnf
    refine toUnsafeC (off := 0) (i := 0) (by exact rfl) (by exact rfl) (by exact rfl) Tryd.underlying57 Tryd.underlying111 (t' := 60) (sz := 2) (by kernel_rfl) (by decide) (by decide) ?_
    conv => whnf
    refine sameC (by exact rfl) noEsc (by exact rfl) ?_
    conv => whnf
    refine fromUnsafeC (off := 0) (i := 0) (by exact rfl) (by exact rfl) (by exact rfl) Tryd.underlying111 Tryd.underlying57 (u := 60) (sz := 2) (by kernel_rfl) (by kernel_rfl) ?_
    conv => whnf
    exact ⟨rfl, rfl⟩
  · conv => whnf
    refine ptrC (i := 0) (j := 0) txok false (by exact rfl) Tryd.underlying57 (by exact rfl) (by exact rfl) (by exact rfl) (by decide) (by exact rfl) (by exact rfl) ?_
    conv => whnf
    exact ⟨rfl, rfl⟩
theorem wByte_tri (c : Bool) (l : List UInt8) (x : UInt8) (hl : l.length < 1099511627776) : Tri Tryd.prog G0 44 2 0 [.own 0 0, .d (.int .u8 x.toNat)] (tel c l) (fun o H' => o = .ret (cD .nilIface) ∧ H' = tel true (l ++ [x])) := by
  refine tri_of_vc txok mixed [] [] Tryd.func44 rfl rfl (by simp) fun b => ?_
  cases c
  all_goals
    conv => whnf
    first
      | refine callT [0, 1] (copyCheck_tri false l) gf67 rfl rfl ⟨rfl, rfl, trivial⟩ rfl ?_
      | refine callT [0, 1] (copyCheck_tri true l) gf67 rfl rfl ⟨rfl, rfl, trivial⟩ rfl ?_
    rintro o' H' ⟨rfl, rfl⟩
    conv => whnf
    refine appR (i := 1) (sz := 1) (n := l.length) (m := 1) (xs := encB l) (ys := [.int .u8 x.toNat]) txok (fun k => Nat.beq k 2) (l ++ [x]).length (encB (l ++ [x])) (by exact rfl) (by exact rfl) (by exact rfl) (by kernel_rfl) (by exact rfl) (scalDs_mem (by exact rfl)) (by simp) (by rw [encB_app]; rfl) (by simp only [LB, List.length_append, List.length_cons, List.length_nil]; omega) ?_
    conv => whnf
    exact ⟨rfl, rfl⟩
theorem wStr_tri (c : Bool) (l : List UInt8) (s : ByteArray) (hl : l.length < 1099511627776) (hs : s.size < 1099511627776) : Tri Tryd.prog G0 45 2 0 [.own 0 0, .d (.str s)] (tel c l) (fun o H' => o = .ret (.tup [.d (.int .i64 s.size), cD .nilIface]) ∧ H' = tel true (l ++ s.data.toList)) := by
  refine tri_of_vc txok mixed [] [] Tryd.func45 rfl rfl (by simp) fun b => ?_
  cases c
  all_goals
    conv => whnf
    first
      | refine callT [0, 1] (copyCheck_tri false l) gf67 rfl rfl ⟨rfl, rfl, trivial⟩ rfl ?_
      | refine callT [0, 1] (copyCheck_tri true l) gf67 rfl rfl ⟨rfl, rfl, trivial⟩ rfl ?_
    rintro o' H' ⟨rfl, rfl⟩
    conv => whnf
    refine appStrC (i := 1) (l := l) (s := s) (fun _ => false) (by exact rfl) (by exact rfl) (by exact rfl) (by exact rfl) Tryd.underlying58 Tryd.underlying9 (by kernel_rfl) (l ++ s.data.toList).length (by rw [List.length_append, Array.length_toList]; rfl) (by simp only [LB, List.length_append, Array.length_toList]; show l.length + s.size ≤ _; omega) ?_
    conv => whnf
    exact ⟨rfl, rfl⟩
end Go.Proofs.YtohmeplcjgmedaaDoor

/- String. -/
namespace Go.Proofs.YtohmeplcjgmedaaDoor
open Go.Vx Go.Vc Go.RowKit

theorem bStr_tri (c : Bool) (l : List UInt8) (h0 : l ≠ []) : Tri Tryd.prog G0 31 2 0 [.own 0 0] (tel c l) (fun o H' => o = .ret (.d (.str (bs l))) ∧ H' = []) := by
  refine tri_of_vc txok mixed [] [(1, .pure 0 (.pure 1 (.pure 2 (.take 3 (.pure 5 (.pure 6 (.pure 7 (.take 8 (.pure 9 (.run 4 (.fin 10 (.pure 11 .done))))))))))))] Tryd.func31 rfl rfl (by simp) fun b => ?_
  cases c
  all_goals
    conv => whnf
    refine And.intro (by kernel_rfl) ?_
    conv => whnf
    refine sliceDataC (i := 1) (by exact rfl) (by exact rfl) (by exact rfl) (fun h => h0 (List.eq_nil_of_length_eq_zero h)) ?_
    conv => whnf
    refine unsafeStringC (i := 1) (l := l) (by exact rfl) (by exact rfl) (by exact rfl) (by exact rfl) Tryd.underlying82 (by kernel_rfl) rfl h0 ?_
    conv => whnf
    exact ⟨rfl, rfl⟩
end Go.Proofs.YtohmeplcjgmedaaDoor

/- Text: numbers. -/
namespace Go.Proofs.YtohmeplcjgmedaaDoor
open Go.Vx Go.Vc Go.RowKit

theorem small_fn (i : Int) (hi : i = 0 ∨ i = 1 ∨ i = 2) : FnR Tryd.prog G0 83 [.int .i64 i] (.str (bs [UInt8.ofNat (48 + i.toNat)])) := by
  rcases hi with rfl | rfl | rfl
  all_goals
    refine fnQ_of_vc txok mixed [] Tryd.func83 rfl rfl (by simp) fun b => ?_
    conv => whnf
    refine And.intro (fun h => ?_) (fun h => by simp at h)
    conv => whnf
    refine slStrC txok rfl rfl rfl rfl rfl rfl (by decide) (by decide) (by decide) _ rfl ?_
    conv => whnf
    rfl
theorem formatInt_fn (i : Int) (hi : i = 0 ∨ i = 1 ∨ i = 2) : FnR Tryd.prog G0 80 [.int .i64 i, .int .i64 10] (.str (bs [UInt8.ofNat (48 + i.toNat)])) := by
  have hs := small_fn i hi
  rcases hi with rfl | rfl | rfl
  all_goals
    refine fnQ_of_vc txok mixed [] Tryd.func80 rfl rfl (by simp) fun b => ?_
    conv => whnf
    refine And.intro (fun h => ?_) (fun h => by simp at h)
    conv => whnf
    refine And.intro (fun h => ?_) (fun h => by simp at h)
    conv => whnf
    refine And.intro (fun h => ?_) (fun h => by simp at h)
    conv => whnf
    exact callF hs gf83 rfl rfl rfl
theorem itoa0_fn (i : Int) (hi : i = 0 ∨ i = 1 ∨ i = 2) : FnR Tryd.prog G0 68 [.int .i64 i] (.str (bs [UInt8.ofNat (48 + i.toNat)])) := by
  refine fnQ_of_vc txok mixed [] Tryd.func68 rfl rfl (by simp) fun b => ?_
  conv => whnf
  exact callF (formatInt_fn i hi) gf80 rfl rfl rfl
theorem itoa_small (i : Int) (hi : i = 0 ∨ i = 1 ∨ i = 2) : FnR Tryd.prog G0 49 [.int .i64 i] (.str (bs [UInt8.ofNat (48 + i.toNat)])) := by
  refine fnQ_of_vc txok mixed [] Tryd.func49 rfl rfl (by simp) fun b => ?_
  conv => whnf
  exact callF (itoa0_fn i hi) gf68 rfl rfl rfl

def dig (i : Int) : List UInt8 := [UInt8.ofNat (48 + i.toNat)]
def numT (s : List Int) (n : Int) : List UInt8 := if lastI s n ≥ 0 then 116 :: dig (lastI s n) else 35 :: dig n
theorem str_cons (x : UInt8) (l : List UInt8) : ((⟨#[x]⟩ : ByteArray) ++ bs l).data.toList = x :: l := by
  simp [bs]
theorem str_sz (x : UInt8) (l : List UInt8) : ((⟨#[x]⟩ : ByteArray) ++ bs l).size = l.length + 1 := by
  show ((⟨#[x]⟩ : ByteArray) ++ bs l).data.size = _
  rw [← Array.length_toList, str_cons]; rfl
theorem number_tri (c : Bool) (l : List UInt8) (s : List Int) (n : Int) (hl : l.length < 1099511627000) (hn : n = 0 ∨ n = 1 ∨ n = 2) (hs : lastI s n ≥ 0 → lastI s n = 0 ∨ lastI s n = 1 ∨ lastI s n = 2) : Tri Tryd.prog G0 46 2 0 [.own 0 0, .d (dI s), .d (.int .i64 n)] (tel c l) (fun o H' => o = .ret (.tup []) ∧ H' = tel true (l ++ numT s n)) := by
  refine tri_of_vc txok mixed [] [(2, .pure 0 (.pure 1 (.pure 2 (.pure 3 (.fin 4 (.pure 5 (.fin 6 .done))))))), (3, .pure 0 (.pure 1 (.pure 2 (.pure 3 (.fin 4 (.pure 5 (.fin 6 .done)))))))] Tryd.func46 rfl rfl (by simp) fun b => ?_
  cases c
  all_goals
    conv => whnf
    refine callF (last_fn s n) gf35 rfl rfl ?_
    conv => whnf
    refine And.intro (fun h => ?_) (fun h => ?_)
    · have h := of_decide_eq_true h
      rw [numT, if_pos h]
      conv => whnf
      refine And.intro (by kernel_rfl) ?_
      conv => whnf
      refine callF (itoa_small _ (hs h)) gf49 rfl rfl ?_
      conv => whnf
      refine And.intro (by show 1 + 1 ≤ 9223372036854775807; decide) ?_
      conv => whnf
      first
        | refine callT [0, 1] (wStr_tri false l (⟨#[116]⟩ ++ bs (dig (lastI s n))) (by omega) (by rw [str_sz]; simp [dig])) gf45 rfl rfl ⟨rfl, rfl, trivial⟩ rfl ?_
        | refine callT [0, 1] (wStr_tri true l (⟨#[116]⟩ ++ bs (dig (lastI s n))) (by omega) (by rw [str_sz]; simp [dig])) gf45 rfl rfl ⟨rfl, rfl, trivial⟩ rfl ?_
      rintro o' H' ⟨rfl, rfl⟩
      rw [str_cons]
      conv => whnf
      exact ⟨rfl, rfl⟩
    · have h := of_decide_eq_false h
      rw [numT, if_neg h]
      conv => whnf
      refine And.intro (by kernel_rfl) ?_
      conv => whnf
      refine callF (itoa_small n hn) gf49 rfl rfl ?_
      conv => whnf
      refine And.intro (by show 1 + 1 ≤ 9223372036854775807; decide) ?_
      conv => whnf
      first
        | refine callT [0, 1] (wStr_tri false l (⟨#[35]⟩ ++ bs (dig n)) (by omega) (by rw [str_sz]; simp [dig])) gf45 rfl rfl ⟨rfl, rfl, trivial⟩ rfl ?_
        | refine callT [0, 1] (wStr_tri true l (⟨#[35]⟩ ++ bs (dig n)) (by omega) (by rw [str_sz]; simp [dig])) gf45 rfl rfl ⟨rfl, rfl, trivial⟩ rfl ?_
      rintro o' H' ⟨rfl, rfl⟩
      rw [str_cons]
      conv => whnf
      exact ⟨rfl, rfl⟩
end Go.Proofs.YtohmeplcjgmedaaDoor

/- Text: of numbers, functions of numbers, alls. -/
namespace Go.Proofs.YtohmeplcjgmedaaDoor
open Go.Vx Go.Vc Go.RowKit

theorem typVar_tri (c : Bool) (l : List UInt8) (s : List Int) (n : Int) (hl : l.length < 1099511627000) (hn : n = 0 ∨ n = 1 ∨ n = 2) (hs : lastI s n ≥ 0 → lastI s n = 0 ∨ lastI s n = 1 ∨ lastI s n = 2) : Tri Tryd.prog G0 30 2 0 [.own 0 0, .d (dG (varG n)), .d (dI s)] (tel c l) (fun o H' => o = .ret (.tup []) ∧ H' = tel true (l ++ numT s n)) := by
  refine tri_of_vc txok mixed [] [(16, .pure 0 (.pure 1 (.pure 2 (.pure 3 (.pure 4 (.take 5 (.pure 6 (.fin 7 .done)))))))), (11, .pure 0 (.pure 1 (.pure 2 (.pure 3 (.pure 4 (.take 5 (.pure 6 (.pure 7 (.pure 8 (.pure 9 (.pure 10 (.run 11 (.pure 12 (.pure 13 (.fin 14 .done))))))))))))))), (12, .pure 0 (.pure 1 (.take 2 (.pure 3 (.pure 5 (.pure 7 (.take 8 (.three 4 6 9 (.two 6 9 (.run 9 (.run 10 (.fin 11 .done))) (.run 6 (.run 10 (.fin 11 .done)))) (.two 4 9 (.run 9 (.run 10 (.fin 11 .done))) (.two 4 10 (.run 10 (.fin 11 .done)) (.run 4 (.fin 11 .done)))) (.two 4 6 (.run 6 (.run 10 (.fin 11 .done))) (.two 4 10 (.run 10 (.fin 11 .done)) (.run 4 (.fin 11 .done))))))))))))] Tryd.func30 rfl rfl (by simp) fun b => ?_
  cases c
  all_goals
    conv => whnf
    repeat ((refine And.intro (fun h => ?_) (fun h => ?_) <;> first | exact Bool.noConfusion h | skip); conv => whnf)
    refine callF (binder_fn (varG n)) gf36 rfl rfl ?_
    conv => whnf
    repeat ((refine And.intro (fun h => ?_) (fun h => ?_) <;> first | exact Bool.noConfusion h | skip); conv => whnf)
    first
      | refine callT [0, 1] (number_tri false l s n hl hn hs) gf46 rfl rfl ⟨rfl, rfl, trivial⟩ rfl ?_
      | refine callT [0, 1] (number_tri true l s n hl hn hs) gf46 rfl rfl ⟨rfl, rfl, trivial⟩ rfl ?_
    rintro o' H' ⟨rfl, rfl⟩
    conv => whnf
    exact ⟨rfl, rfl⟩
theorem inVar_tri (c : Bool) (l : List UInt8) (s : List Int) (n : Int) (hl : l.length < 1099511627000) (hn : n = 0 ∨ n = 1 ∨ n = 2) (hs : lastI s n ≥ 0 → lastI s n = 0 ∨ lastI s n = 1 ∨ lastI s n = 2) : Tri Tryd.prog G0 47 2 0 [.own 0 0, .d (dG (varG n)), .d (dI s)] (tel c l) (fun o H' => o = .ret (.tup []) ∧ H' = tel true (l ++ numT s n)) := by
  refine tri_of_vc txok mixed [] [] Tryd.func47 rfl rfl (by simp) fun b => ?_
  cases c
  all_goals
    conv => whnf
    repeat ((refine And.intro (fun h => ?_) (fun h => ?_) <;> first | exact Bool.noConfusion h | skip); conv => whnf)
    refine callF (binder_fn (varG n)) gf36 rfl rfl ?_
    conv => whnf
    repeat ((refine And.intro (fun h => ?_) (fun h => ?_) <;> first | exact Bool.noConfusion h | skip); conv => whnf)
    first
      | refine callT [0, 1] (typVar_tri false l s n hl hn hs) gf30 rfl rfl ⟨rfl, rfl, trivial⟩ rfl ?_
      | refine callT [0, 1] (typVar_tri true l s n hl hn hs) gf30 rfl rfl ⟨rfl, rfl, trivial⟩ rfl ?_
    rintro o' H' ⟨rfl, rfl⟩
    conv => whnf
    exact ⟨rfl, rfl⟩
def fnG (n m : Int) : TG := .mk 4 0 [] [varG n, varG m]
def fnT (s : List Int) (n m : Int) : List UInt8 := numT s n ++ ([32, 45, 62, 32] ++ numT s m)
theorem typFn_tri (l : List UInt8) (s : List Int) (n m : Int) (hl : l.length < 1099511620000) (hz : (numT s n).length < 10) (hn : n = 0 ∨ n = 1 ∨ n = 2) (hm : m = 0 ∨ m = 1 ∨ m = 2) (hs : ∀ n, lastI s n ≥ 0 → lastI s n = 0 ∨ lastI s n = 1 ∨ lastI s n = 2) : Tri Tryd.prog G0 30 2 0 [.own 0 0, .d (dG (fnG n m)), .d (dI s)] (tel true l) (fun o H' => o = .ret (.tup []) ∧ H' = tel true (l ++ fnT s n m)) := by
  refine tri_of_vc txok mixed [] [(16, .pure 0 (.pure 1 (.pure 2 (.pure 3 (.pure 4 (.take 5 (.pure 6 (.fin 7 .done)))))))), (11, .pure 0 (.pure 1 (.pure 2 (.pure 3 (.pure 4 (.take 5 (.pure 6 (.pure 7 (.pure 8 (.pure 9 (.pure 10 (.run 11 (.pure 12 (.pure 13 (.fin 14 .done))))))))))))))), (12, .pure 0 (.pure 1 (.take 2 (.pure 3 (.pure 5 (.pure 7 (.take 8 (.three 4 6 9 (.two 6 9 (.run 9 (.run 10 (.fin 11 .done))) (.run 6 (.run 10 (.fin 11 .done)))) (.two 4 9 (.run 9 (.run 10 (.fin 11 .done))) (.two 4 10 (.run 10 (.fin 11 .done)) (.run 4 (.fin 11 .done)))) (.two 4 6 (.run 6 (.run 10 (.fin 11 .done))) (.two 4 10 (.run 10 (.fin 11 .done)) (.run 4 (.fin 11 .done))))))))))))] Tryd.func30 rfl rfl (by simp) fun b => ?_
  conv => whnf
  repeat ((refine And.intro (fun h => ?_) (fun h => ?_) <;> first | exact Bool.noConfusion h | skip); conv => whnf)
  refine IdxC.encGs (l := [varG n, varG m]) 0 (by show 0 < 2; decide) rfl ?_
  conv => whnf
  refine callT [0, 1] (inVar_tri true l s n (by omega) hn (hs n)) gf47 rfl rfl ⟨rfl, rfl, trivial⟩ rfl ?_
  rintro o' H' ⟨rfl, rfl⟩
  conv => whnf
  refine callT [0, 1] (wStr_tri true (l ++ numT s n) ⟨#[32, 45, 62, 32]⟩ (by rw [List.length_append]; omega) (by decide)) gf45 rfl rfl ⟨rfl, rfl, trivial⟩ rfl ?_
  rintro o' H' ⟨rfl, rfl⟩
  conv => whnf
  refine IdxC.encGs (l := [varG n, varG m]) 1 (by show 1 < 2; decide) rfl ?_
  conv => whnf
  refine callT [0, 1] (typVar_tri true (l ++ numT s n ++ [32, 45, 62, 32]) s m (by simp only [List.length_append, List.length_cons, List.length_nil]; omega) hm (hs m)) gf30 rfl rfl ⟨rfl, rfl, trivial⟩ rfl ?_
  rintro o' H' ⟨rfl, rfl⟩
  conv => whnf
  refine ⟨rfl, ?_⟩
  rw [fnT, ← List.append_assoc, ← List.append_assoc]
  rfl
def arr80 : Value := .agg #[.string ⟨#[109, 117]⟩, .string ⟨#[97, 108, 108]⟩, .string ⟨#[115, 111, 109, 101]⟩]
theorem bld80 {dst : Option Tmp} {ty : TypeId} {pos : String} {after : Array Edge} {gd : Option (Nat × Bool)} (a : Act) (w : World) : (execOp a.eval { dst := dst, op := .build 80 #[(0, .const (.string ⟨#[109, 117]⟩)), (1, .const (.string ⟨#[97, 108, 108]⟩)), (2, .const (.string ⟨#[115, 111, 109, 101]⟩))], type := ty, pos := pos, after := after, guard := gd }).run Tryd.prog w = .ok (.value arr80) w := by
  simp only [execOp]
  exact run_val (run_build w 80 _ _ (by kernel_rfl))
theorem idx80 (w : World) : (Instr.index 80 (.agg #[.string ⟨#[109, 117]⟩, .string ⟨#[97, 108, 108]⟩, .string ⟨#[115, 111, 109, 101]⟩]) (.int .i64 1)).run Tryd.prog w = .ok (.string ⟨#[97, 108, 108]⟩) w := by
  simp [Instr.index, asIntOf, Go.run_underlying Tryd.underlying80, part, Tryd.sizeOf9, Tryd.isAgg9]
theorem numT_len (s : List Int) (n : Int) : (numT s n).length < 10 := by
  unfold numT; split <;> simp [dig]
def allS : ByteArray := ⟨#[97, 108, 108]⟩ ++ ⟨#[32, 116]⟩ ++ bs [UInt8.ofNat (48 + Int.toNat 0)] ++ ⟨#[46, 32]⟩
set_option maxRecDepth 4000 in
set_option maxHeartbeats 2000000 in
theorem typAll_tri (p n m : Int) (hn : n = 0 ∨ n = 1 ∨ n = 2) (hm : m = 0 ∨ m = 1 ∨ m = 2) (hs : ∀ n, lastI [p] n ≥ 0 → lastI [p] n = 0 ∨ lastI [p] n = 1 ∨ lastI [p] n = 2) : Tri Tryd.prog G0 30 2 0 [.own 0 0, .d (dG (.mk 10 p [] [fnG n m])), .d (dI [])] (tel false []) (fun o H' => o = .ret (.tup []) ∧ H' = tel true ([97, 108, 108, 32, 116, 48, 46, 32] ++ fnT [p] n m)) := by
  refine tri_of_vc txok mixed [] ((11, .pure 0 (.pure 1 (.pure 2 (.pure 4 (.take 5 (.pure 6 (.pure 9 (.pure 10 (.two 3 11 (.two 7 11 (.pure 8 (.run 11 (.pure 12 (.pure 13 (.fin 14 .done))))) (.run 7 (.pure 8 (.pure 12 (.pure 13 (.fin 14 .done)))))) (.run 3 (.run 7 (.pure 8 (.pure 12 (.pure 13 (.fin 14 .done))))))))))))))) :: [(16, .pure 0 (.pure 1 (.pure 2 (.pure 3 (.pure 4 (.take 5 (.pure 6 (.fin 7 .done)))))))), (11, .pure 0 (.pure 1 (.pure 2 (.pure 3 (.pure 4 (.take 5 (.pure 6 (.pure 7 (.pure 8 (.pure 9 (.pure 10 (.run 11 (.pure 12 (.pure 13 (.fin 14 .done))))))))))))))), (12, .pure 0 (.pure 1 (.take 2 (.pure 3 (.pure 5 (.pure 7 (.take 8 (.three 4 6 9 (.two 6 9 (.run 9 (.run 10 (.fin 11 .done))) (.run 6 (.run 10 (.fin 11 .done)))) (.two 4 9 (.run 9 (.run 10 (.fin 11 .done))) (.two 4 10 (.run 10 (.fin 11 .done)) (.run 4 (.fin 11 .done)))) (.two 4 6 (.run 6 (.run 10 (.fin 11 .done))) (.two 4 10 (.run 10 (.fin 11 .done)) (.run 4 (.fin 11 .done))))))))))))]) Tryd.func30 rfl rfl (by simp) fun b => ?_
  conv => whnf
  repeat ((refine And.intro (fun h => ?_) (fun h => ?_) <;> first | exact Bool.noConfusion h | skip); conv => whnf)
  refine callF (binder_fn (.mk 10 p [] [fnG n m])) gf36 rfl rfl ?_
  conv => whnf
  repeat ((refine And.intro (fun h => ?_) (fun h => ?_) <;> first | exact Bool.noConfusion h | skip); conv => whnf)
  refine And.intro (by kernel_rfl) ?_
  repeat'
    first
      | exact Nat.le_of_ble_eq_true rfl
      | ((conv => whnf); first
      | refine And.intro ?_ ?_
      | refine valKC arr80 bld80 ?_
      | refine idxKC (j := 1) ⟨#[97, 108, 108]⟩ (by exact rfl) (by exact rfl) (by exact rfl) Tryd.underlying80 idx80 ?_
      | refine callF (itoa_small 0 (.inl rfl)) gf49 (by exact rfl) (by exact rfl) ?_
      | refine callT [0, 1] (wStr_tri false [] allS (by decide) (by decide)) gf45 (by exact rfl) (by exact rfl) ⟨rfl, rfl, trivial⟩ rfl ?_)
  all_goals rintro o' H' ⟨rfl, rfl⟩
  all_goals (conv => whnf)
  all_goals refine And.intro (by kernel_rfl) ?_
  all_goals (conv => whnf)
  all_goals
    repeat'
      ((conv => whnf); first
        | refine And.intro ?_ ?_
        | refine IdxC.encGs (l := [fnG n m]) 0 (by show 0 < 1; decide) rfl ?_
        | refine callF (clip_fn []) gf37 rfl rfl ?_
        | refine snocI [] p rfl rfl (by decide) ?_)
  all_goals (conv => whnf)
  all_goals refine pubC (fun i => Nat.ble 3 i) ?_
  all_goals (conv => whnf)
  all_goals refine callT [0, 1] (typFn_tri ([] ++ allS.data.toList) [p] n m (by decide) (numT_len _ _) hn hm hs) gf30 rfl rfl ⟨rfl, rfl, trivial⟩ rfl ?_
  all_goals rintro o' H' ⟨rfl, rfl⟩
  all_goals (conv => whnf)
  all_goals try exact ⟨rfl, rfl⟩
  all_goals trace_state
end Go.Proofs.YtohmeplcjgmedaaDoor

/- Text; Size; alive. -/
namespace Go.Proofs.YtohmeplcjgmedaaDoor
open Go.Vx Go.Vc Go.RowKit

def allT (p n m : Int) : List UInt8 := [97, 108, 108, 32, 116, 48, 46, 32] ++ fnT [p] n m
theorem typAll_nl (p n m : Int) (hn : n = 0 ∨ n = 1 ∨ n = 2) (hm : m = 0 ∨ m = 1 ∨ m = 2) (hs : ∀ n, lastI [p] n ≥ 0 → lastI [p] n = 0 ∨ lastI [p] n = 1 ∨ lastI [p] n = 2) : Tri Tryd.prog G0 30 2 0 [.own 0 0, .d (dG (.mk 10 p [] [fnG n m])), .nl] (tel false []) (fun o H' => o = .ret (.tup []) ∧ H' = tel true (allT p n m)) := by
  intro e w vs hlen hargs hH hG
  refine typAll_tri p n m hn hm hs e w vs hlen ?_ hH hG
  simp only [RepSVs] at hargs ⊢
  obtain ⟨v, s, rfl, a1, v2, s2, rfl, a2, v3, s3, rfl, a3, rfl⟩ := hargs
  exact ⟨v, _, rfl, a1, v2, _, rfl, a2, v3, _, rfl, nl_dI _ _ _ a3, rfl⟩
theorem textAll_fn (p n m : Int) (hn : n = 0 ∨ n = 1 ∨ n = 2) (hm : m = 0 ∨ m = 1 ∨ m = 2) (hs : ∀ n, lastI [p] n ≥ 0 → lastI [p] n = 0 ∨ lastI [p] n = 1 ∨ lastI [p] n = 2) : FnR Tryd.prog G0 19 [dG (.mk 10 p [] [fnG n m])] (.str (bs (allT p n m))) := by
  refine fnQ_of_vc txok mixed [] Tryd.func19 rfl rfl (by simp) fun b => ?_
  conv => whnf
  refine weakC _ (weak_nlC 1 1 5 1 1 rfl rfl) ?_
  refine callT [1, 2] (typAll_nl p n m hn hm hs) gf30 rfl rfl ⟨rfl, rfl, trivial⟩ rfl ?_
  rintro o' H' ⟨rfl, rfl⟩
  conv => whnf
  refine callT [1, 2] (bStr_tri true (allT p n m) (by simp [allT])) gf31 rfl rfl ⟨rfl, rfl, trivial⟩ rfl ?_
  rintro o' H' ⟨rfl, rfl⟩
  conv => whnf
  try exact rfl
theorem v_fn (n : Int) : FnR Tryd.prog G0 18 [.int .i64 n] (dG (varG n)) := by
  refine fnQ_of_vc txok mixed [] Tryd.func18 rfl rfl (by simp) fun b => ?_
  conv => whnf
  rfl
theorem fnw_fn (n m : Int) : FnR Tryd.prog G0 17 [dG (varG n), dG (varG m)] (dG (fnG n m)) := by
  refine fnQ_of_vc txok mixed [] Tryd.func17 rfl rfl (by simp) fun b => ?_
  conv => whnf
  rfl
theorem all_fn (p n m : Int) : FnR Tryd.prog G0 16 [.int .i64 p, dG (fnG n m)] (dG (.mk 10 p [] [fnG n m])) := by
  refine fnQ_of_vc txok mixed [] Tryd.func16 rfl rfl (by simp) fun b => ?_
  conv => whnf
  rfl
end Go.Proofs.YtohmeplcjgmedaaDoor

/- alive. -/
namespace Go.Proofs.YtohmeplcjgmedaaDoor
open Go.Vx Go.Vc Go.RowKit

theorem last1 (p n : Int) (h : lastI [p] n ≥ 0) : lastI [p] n = 0 ∨ lastI [p] n = 1 ∨ lastI [p] n = 2 := by
  have h0 : prI [p] = [(0, p)] := rfl
  unfold lastI at h ⊢
  rw [h0] at h ⊢
  by_cases hp : p = n
  · left; simp [hp]
  · simp [hp] at h
def aG : TG := .mk 10 1 [] [fnG 1 2]
theorem freeS_fn : freeS (fnG 1 2) = [1, 2] := by
  unfold freeS
  have h : frG (fnG 1 2) [] = [1, 2] := by rfl
  rw [h]
  have h2 : srtI [1, 2] = [1, 2] := by
    unfold srtI
    exact List.mergeSort_of_pairwise (by simp)
  rw [h2]; rfl
theorem freeS_a : freeS aG = [2] := by
  unfold freeS
  have h : frG aG [] = [2] := by rfl
  rw [h]
  have h2 : srtI [2] = [2] := by
    unfold srtI
    exact List.mergeSort_singleton _
  rw [h2]; rfl
theorem put_a : putF (szG aG) aG 2 (varG 1) [1] = .mk 10 0 [] [fnG 0 1] := by
  have h : freshN [1] [fnG 1 2] 2 1 = 0 := by
    unfold freshN ownS
    rw [List.flatMap_cons, freeS_fn]
    rfl
  show putF 4 (.mk 10 1 [] [fnG 1 2]) 2 (varG 1) [1] = _
  rw [putF_mk, if_neg (by decide), if_neg (by decide), if_pos (by decide), h]
  rfl
theorem same1 : samG aG (.mk 10 7 [] [fnG 7 2]) [] [] = true := by kernel_rfl
theorem same2 : samG aG (.mk 10 7 [] [fnG 7 3]) [] [] = false := by kernel_rfl
theorem txt1 : bs (allT 1 1 2) = ⟨#[97, 108, 108, 32, 116, 48, 46, 32, 116, 48, 32, 45, 62, 32, 35, 50]⟩ := by kernel_rfl
theorem txt2 : bs (allT 0 0 1) = ⟨#[97, 108, 108, 32, 116, 48, 46, 32, 116, 48, 32, 45, 62, 32, 35, 49]⟩ := by kernel_rfl
theorem right_a : rightG aG = 0 := by kernel_rfl
theorem alive_fn : FnR Tryd.prog G0 7 [] (.bool true) := by
  refine fnQ_of_vc txok mixed [(2, .take 0 (.run 1 (.run 2 (.run 3 (.run 4 (.run 5 (.pure 6 (.take 7 (.run 8 (.run 9 (.run 10 (.run 11 (.run 12 (.pure 13 (.pure 14 (.pure 15 (.take 16 (.run 17 (.pure 18 (.pure 19 (.pure 20 (.take 21 (.run 22 (.run 23 (.run 24 (.pure 25 (.pure 26 (.pure 27 (.take 28 (.run 29 (.pure 30 (.pure 31 (.pure 32 (.take 33 (.run 34 (.pure 35 (.pure 36 (.pure 37 (.pure 38 .done)))))))))))))))))))))))))))))))))))))))] Tryd.func7 rfl rfl (by simp) fun b => ?_
  conv => whnf
  refine callF (v_fn 1) gf18 rfl rfl ?_
  conv => whnf
  refine callF (v_fn 2) gf18 rfl rfl ?_
  conv => whnf
  refine callF (fnw_fn 1 2) gf17 rfl rfl ?_
  conv => whnf
  refine callF (all_fn 1 1 2) gf16 rfl rfl ?_
  conv => whnf
  refine And.intro (by kernel_rfl) ?_
  conv => whnf
  refine callF (v_fn 7) gf18 rfl rfl ?_
  conv => whnf
  refine callF (v_fn 2) gf18 rfl rfl ?_
  conv => whnf
  refine callF (fnw_fn 7 2) gf17 rfl rfl ?_
  conv => whnf
  refine callF (all_fn 7 7 2) gf16 rfl rfl ?_
  conv => whnf
  refine callF (sameT_fn aG (.mk 10 7 [] [fnG 7 2]) (by decide)) gf12 rfl rfl ?_
  rw [same1]
  conv => whnf
  refine And.intro (fun _ => ?_) (fun h => by cases h)
  conv => whnf
  refine callF (v_fn 7) gf18 rfl rfl ?_
  conv => whnf
  refine callF (v_fn 3) gf18 rfl rfl ?_
  conv => whnf
  refine callF (fnw_fn 7 3) gf17 rfl rfl ?_
  conv => whnf
  refine callF (all_fn 7 7 3) gf16 rfl rfl ?_
  conv => whnf
  refine callF (sameT_fn aG (.mk 10 7 [] [fnG 7 3]) (by decide)) gf12 rfl rfl ?_
  rw [same2]
  conv => whnf
  refine And.intro (fun _ => ?_) (fun h => by cases h)
  conv => whnf
  refine callF (textAll_fn 1 1 2 (.inr (.inl rfl)) (.inr (.inr rfl)) (last1 1)) gf19 rfl rfl ?_
  rw [txt1]
  conv => whnf
  refine And.intro (fun _ => ?_) (fun h => by simp at h)
  conv => whnf
  refine callF (v_fn 1) gf18 rfl rfl ?_
  conv => whnf
  have hput := putTop_fn aG (by decide) 2 (varG 1) (by decide)
  rw [freeS_var, put_a] at hput
  refine callF hput gf9 rfl rfl ?_
  conv => whnf
  refine callF (textAll_fn 0 0 1 (.inl rfl) (.inr (.inl rfl)) (last1 0)) gf19 rfl rfl ?_
  rw [txt2]
  conv => whnf
  refine And.intro (fun _ => ?_) (fun h => by simp at h)
  conv => whnf
  refine callF (rightType_fn aG) gf20 rfl rfl ?_
  rw [right_a]
  conv => whnf
  refine And.intro (fun _ => ?_) (fun h => by simp at h)
  conv => whnf
  refine callF (freeT_fn aG (by decide)) gf8 rfl rfl ?_
  rw [freeS_a]
  conv => whnf
  try exact rfl
end Go.Proofs.YtohmeplcjgmedaaDoor

