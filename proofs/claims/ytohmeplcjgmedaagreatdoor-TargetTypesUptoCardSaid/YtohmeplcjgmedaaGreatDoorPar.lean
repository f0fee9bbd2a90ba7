/- Texts of mine, joined: Bh Bi Bj Bk Bl Bm Bn Bo Bp Yx Yb Bu Bv Bw Yy Bz Cd Yc. -/
import Derived.Shelf.Sort.Plain
import Derived.Shelf.Slices.In.SortNone
import Derived.Shelf.Slices.CompactI
import Derived.Sort.OwnSortedInts
import Derived.Test.YtohmeplcjgmedaaGreatDoorPaq
import Derived.Test.YtohmeplcjgmedaaGreatDoorPam
import Derived.Test.YtohmeplcjgmedaaGreatDoorPao
import Derived.Test.YtohmeplcjgmedaaGreatDoorPak
/- The shelf's slices.Sort and slices.Compact at ints, laid at this seat's program: printed by a program of mine out of Lean's print of the kit's laying command. -/
set_option linter.unusedSimpArgs false
set_option linter.unusedVariables false
namespace Go.Proofs.YtohmeplcjgmedaaGreatDoor
open Go.Proofs Go.Shelf Go.RowKit Go.Lib Go.Sort
def sortI_ren : Ren :=
  { f := fun x => match x with | 189 => 25 | 125 => 51 | 257 => 50 | 128 => 88 | 129 => 89 | 294 => 79 | 295 => 80 | 296 => 81 | 297 => 82 | 298 => 83 | 299 => 84 | 216 => 85 | 300 => 86 | 301 => 87 | 328 => 105 | 329 => 106 | 330 => 107 | 331 => 108 | 332 => 109 | 215 => 110 | 343 => 121 | n => n,
    t := fun x => match x with | 28 => 29 | 3 => 3 | 46 => 79 | 0 => 0 | 51 => 112 | 53 => 114 | 4 => 4 | 183 => 104 | 182 => 103 | 131 => 109 | 5 => 5 | 9 => 9 | 218 => 130 | 222 => 134 | 228 => 146 | 229 => 147 | n => n,
    g := fun n => n }
theorem sortI : Lays.n189 Tryz.prog sortI_ren :=
  { mixed := rfl,
    f125 := Tryz.func51.trans (congrArg some rfl),
    f128 := Tryz.func88.trans (congrArg some rfl),
    f129 := Tryz.func89.trans (congrArg some rfl),
    f189 := Tryz.func25.trans (congrArg some rfl),
    f215 := Tryz.func110.trans (congrArg some rfl),
    f216 := Tryz.func85.trans (congrArg some rfl),
    f257 := Tryz.func50.trans (congrArg some rfl),
    f294 := Tryz.func79.trans (congrArg some rfl),
    f295 := Tryz.func80.trans (congrArg some rfl),
    f296 := Tryz.func81.trans (congrArg some rfl),
    f297 := Tryz.func82.trans (congrArg some rfl),
    f298 := Tryz.func83.trans (congrArg some rfl),
    f299 := Tryz.func84.trans (congrArg some rfl),
    f300 := Tryz.func86.trans (congrArg some rfl),
    f301 := Tryz.func87.trans (congrArg some rfl),
    f328 := Tryz.func105.trans (congrArg some rfl),
    f329 := Tryz.func106.trans (congrArg some rfl),
    f330 := Tryz.func107.trans (congrArg some rfl),
    f331 := Tryz.func108.trans (congrArg some rfl),
    f332 := Tryz.func109.trans (congrArg some rfl),
    f343 := Tryz.func121.trans (congrArg some rfl),
    t0 := Tryz.underlying0,
    a0 := Tryz.isAgg0,
    z0 := Tryz.sizeOf0,
    v0 := Tryz.zeroValue0,
    t3 := Tryz.underlying3,
    a3 := Tryz.isAgg3,
    z3 := Tryz.sizeOf3,
    v3 := Tryz.zeroValue3,
    t4 := Tryz.underlying4,
    a4 := Tryz.isAgg4,
    z4 := Tryz.sizeOf4,
    v4 := Tryz.zeroValue4,
    t5 := Tryz.underlying5,
    a5 := Tryz.isAgg5,
    z5 := Tryz.sizeOf5,
    v5 := Tryz.zeroValue5,
    t9 := Tryz.underlying9,
    a9 := Tryz.isAgg9,
    z9 := Tryz.sizeOf9,
    v9 := Tryz.zeroValue9,
    t28 := Tryz.underlying29,
    a28 := Tryz.isAgg29,
    z28 := Tryz.sizeOf29,
    v28 := Tryz.zeroValue29,
    t46 := Tryz.underlying79,
    a46 := Tryz.isAgg79,
    z46 := Tryz.sizeOf79,
    v46 := Tryz.zeroValue79,
    t51 := Tryz.underlying112,
    a51 := Tryz.isAgg112,
    z51 := Tryz.sizeOf112,
    v51 := Tryz.zeroValue112,
    t53 := Tryz.underlying114,
    a53 := Tryz.isAgg114,
    z53 := Tryz.sizeOf114,
    v53 := Tryz.zeroValue114,
    t131 := Tryz.underlying109,
    a131 := Tryz.isAgg109,
    z131 := Tryz.sizeOf109,
    v131 := Tryz.zeroValue109,
    t182 := Tryz.underlying103,
    a182 := Tryz.isAgg103,
    z182 := Tryz.sizeOf103,
    v182 := Tryz.zeroValue103,
    t183 := Tryz.underlying104,
    a183 := Tryz.isAgg104,
    z183 := Tryz.sizeOf104,
    v183 := Tryz.zeroValue104,
    t218 := Tryz.underlying130,
    a218 := Tryz.isAgg130,
    z218 := Tryz.sizeOf130,
    v218 := Tryz.zeroValue130,
    t222 := Tryz.underlying134,
    a222 := Tryz.isAgg134,
    z222 := Tryz.sizeOf134,
    v222 := Tryz.zeroValue134,
    t228 := Tryz.underlying146,
    a228 := Tryz.isAgg146,
    z228 := Tryz.sizeOf146,
    v228 := Tryz.zeroValue146,
    t229 := Tryz.underlying147,
    a229 := Tryz.isAgg147,
    z229 := Tryz.sizeOf147,
    v229 := Tryz.zeroValue147 }
def compI_ren : Ren :=
  { f := fun x => match x with | 20 => 26 | n => n,
    t := fun x => match x with | 22 => 29 | 3 => 3 | 4 => 4 | 0 => 0 | n => n,
    g := fun n => n }
theorem compI : Lays2.n20 Tryz.prog compI_ren :=
  { mixed := rfl,
    f20 := Tryz.func26.trans (congrArg some rfl),
    t0 := Tryz.underlying0,
    a0 := Tryz.isAgg0,
    z0 := Tryz.sizeOf0,
    v0 := Tryz.zeroValue0,
    t3 := Tryz.underlying3,
    a3 := Tryz.isAgg3,
    z3 := Tryz.sizeOf3,
    v3 := Tryz.zeroValue3,
    t4 := Tryz.underlying4,
    a4 := Tryz.isAgg4,
    z4 := Tryz.sizeOf4,
    v4 := Tryz.zeroValue4,
    t22 := Tryz.underlying29,
    a22 := Tryz.isAgg29,
    z22 := Tryz.sizeOf29,
    v22 := Tryz.zeroValue29,
    i3 := by kernel_rfl }
theorem putCells_len (off : Nat) (d : Array Int) (cur : Array Value) : (putCells (Value.int .i64) off d cur).size = cur.size := by simp [putCells]
theorem putCells_cut (off k : Nat) (d : Array Int) (cur : Array Value) (h : off + d.size ≤ cur.size) (hk : k ≤ d.size) : ((putCells (Value.int .i64) off d cur).toList.drop off).take k = (d.toList.take k).map (Value.int .i64) := by
  apply List.ext_getElem?
  intro j
  by_cases hj : j < k
  · rw [List.getElem?_take_of_lt hj, List.getElem?_drop, Array.getElem?_toList]
    have h1 : off + j < cur.size := by omega
    have h2 : j < d.size := by omega
    simp [putCells, h1, hj, h2]
  · rw [List.getElem?_take_eq_none (by omega), List.getElem?_eq_none (by simp; omega)]
theorem holdsI {w : World} {g o : Nat} {cur : Array Value} {e : TypeId} {l : List Int} (hg : w.heap[g]? = some (.cells cur e (0, 0))) (hc : (cur.toList.drop o).take l.length = l.map (Value.int .i64)) : Holds (Value.int .i64) w g o l.toArray := by
  intro j hj
  have hj' : j < l.length := by simpa using hj
  constructor
  · have h1 : ((cur.toList.drop o).take l.length)[j]? = (l.map (Value.int .i64))[j]? := by rw [hc]
    rw [List.getElem?_take_of_lt hj', List.getElem?_drop, Array.getElem?_toList] at h1
    simp only [World.cell?, hg]
    simp [h1, hj']
  · simp [World.frozen?, hg]
theorem heap_putI {w : World} {g n o : Nat} {os : Array Obj} {cur : Array Value} {e : TypeId} {fr : Nat × Nat} (d : Array Int) (hb : w.heap[g]? = some (.cells cur e fr)) :
    (grow (putRow (Value.int .i64) (Sort.ahead w n) g o d) os).heap[g]? = some (.cells (putCells (Value.int .i64) o d cur) e fr) := by
  have hg : g < w.heap.size := (Array.getElem?_eq_some_iff.1 hb).1
  rw [heap_grow_old _ _ (by simpa using hg)]
  simp [putRow, mapBlock, Sort.ahead, Array.getElem?_modify, hb, onCells]
theorem grownBy_putI {w : World} {g n o : Nat} {os : Array Obj} (d : Array Int) : w.grownBy (grow (putRow (Value.int .i64) (Sort.ahead w n) g o d) os) (some g) := by
  refine ⟨rfl, rfl, rfl, by simp, fun k hk hne => ?_⟩
  rw [heap_grow_old _ _ (by simpa using hk)]
  have : g ≠ k := fun e => hne (by rw [e])
  simp [putRow, mapBlock, Sort.ahead, Array.getElem?_modify, this]
theorem repI_of (S : Nat → Prop) (w : World) : ∀ l : List Int, Go.Vx.RepDs S w (Go.Vx.encI l) (l.map (.int .i64))
  | [] => by simp only [Go.Vx.encI, List.map_nil, Go.Vx.RepDs]
  | x :: r => by
    rw [show Go.Vx.encI (x :: r) = .int .i64 x :: Go.Vx.encI r from rfl, List.map_cons]
    simp only [Go.Vx.RepDs, Go.Vx.RepD]
    exact ⟨_, _, rfl, rfl, repI_of S w r⟩
/-- One own row that is handed over, and written in place. -/
theorem row_left {e : Go.Vx.Env} {w w' : World} {n m g o c : Nat} {cur cur' : Array Value} {l l' : List Int} {xs : List Go.Vx.D} (hlen : e.m.length = 1) (hm : e.m[0]? = some (.slice (some ⟨g, o, none⟩) n c)) (hH : Go.Vx.HpOk e w [(0, .row 3 8 1 n xs)])
    (hg : w.heap[g]? = some (.cells cur 3 (0, 0))) (hgr : w.grownBy w' (some g)) (hg' : w'.heap[g]? = some (.cells cur' 3 (0, 0))) (hsz : cur'.size = cur.size) (hm' : l'.length = m) (hcap : m ≤ c) (hmax : c ≤ maxLen) (hcs : o + c * 1 ≤ cur.size) (hcut : (cur'.toList.drop o).take m = l'.map (.int .i64)) (hlim : m * 8 ≤ Go.Vx.LB) :
    Go.Vx.Left G0 0 e w [(0, .row 3 8 1 n xs)] ⟨[.slice (some ⟨g, o, none⟩) m c], e.pub⟩ w' [(0, .row 3 8 1 m (Go.Vx.encI l'))] := by
  have h0 : ∀ i, Go.Vx.has [(0, Go.Vx.Ob.row 3 8 1 m (Go.Vx.encI l'))] i → i = 0 := by
    intro i hi
    unfold Go.Vx.has at hi
    simp only [Go.Vc.lk] at hi
    split at hi
    · rename_i e1; exact (Go.Vc.nbeq.1 e1).symm
    · cases hi
  have hf : Go.Vx.foot e 0 g := ⟨_, hm, by rfl⟩
  have hft : ∀ k, Go.Vx.foot ⟨[.slice (some ⟨g, o, none⟩) m c], e.pub⟩ 0 k → k = g := by
    rintro k ⟨v, h1, h2⟩
    have h1 : some (Value.slice (some ⟨g, o, none⟩) m c) = some v := h1
    injection h1 with h1; subst h1
    have h2 : some g = some k := h2
    injection h2 with h2; exact h2.symm
  have hpub : ¬ e.pub g := fun hp => hH.npub 0 g (by rfl) hf hp
  refine ⟨⟨fun i ob ho => ?_, fun i j k hi hj hne _ _ => absurd ((h0 i hi).trans (h0 j hj).symm) hne, fun i k hi hk hp => ?_, fun k hk => Nat.lt_of_lt_of_le (hH.pubLt k hk) hgr.size⟩, by simp [hlen], ?_, trivial, fun i v hv hns => ?_, fun k hk => hk, fun k hk => .inl hk, fun i hi => ?_, fun i k hi hk => ?_⟩
  · obtain rfl := h0 i (by simp [Go.Vx.has, ho])
    simp only [Go.Vc.lk, Nat.beq_refl] at ho
    injection ho with ho; subst ho
    exact ⟨some ⟨g, o, none⟩, c, l'.map (.int .i64), rfl, ⟨m, by simp [hm'], .inr ⟨g, o, c, cur', rfl, hg', hcap, hmax, by rw [hsz]; exact hcs, by rw [Nat.mul_one]; exact hcut⟩⟩, repI_of _ _ l', hlim⟩
  · obtain rfl := h0 i hi
    rw [hft k hk] at hp
    exact hpub hp
  · exact ⟨hgr.os, hgr.tape, hgr.output, hgr.size, fun k hk hn => hgr.block k hk (fun e1 => by injection e1 with e1; subst e1; exact hn ⟨0, by rfl, hf⟩)⟩
  · rcases Nat.eq_zero_or_pos i with rfl | hi
    · rw [hm] at hv; injection hv with hv; exact absurd hv.symm (hns _ _ _)
    · have := (List.getElem?_eq_some_iff.1 hv).1; omega
  · obtain rfl := h0 i hi; simp [hlen]
  · obtain rfl := h0 i hi
    rw [hft k hk]
    exact .inl ⟨0, by rfl, hf⟩
def srtI (l : List Int) : List Int := l.mergeSort fun x y => decide (x ≤ y)
theorem sort_tri (l : List Int) (hl : l.length * 8 ≤ Go.Vx.LB) : Go.Vx.Tri Tryz.prog G0 25 1 0 [.row 0] [(0, .row 3 8 1 l.length (Go.Vx.encI l))] (fun o H' => o = .ret (.tup []) ∧ H' = [(0, .row 3 8 1 l.length (Go.Vx.encI (srtI l)))]) := by
  intro e w vs hlen hargs hH hG
  simp only [Go.Vx.RepSVs, Go.Vx.RepSV] at hargs
  obtain ⟨v, s, rfl, ⟨A, n, c, rfl, hm⟩, rfl⟩ := hargs
  obtain ⟨A', c', xs, hm', hrow, hxs, hlb⟩ := hH.ob 0 _ rfl
  rw [hm] at hm'; injection hm' with hm'; injection hm' with e1 e2 e3
  subst e1; subst e2; subst e3
  have hx := repI_flat hxs
  have hsl : (srtI l).length = l.length := by unfold srtI; simp
  obtain ⟨n', hn, ⟨hv, hz⟩ | ⟨g, o, cap, cur, hv, hg, hc1, hc2, hsz, htk⟩⟩ := hrow
  · simp only at hv hn
    injection hv with h1 h2 h3
    subst h1; subst h3
    have hl0 : l = [] := List.eq_nil_of_length_eq_zero h2
    subst hl0
    refine (Any.slices_Sort_int_none sortI none 0 w).mono ?_
    rintro en w' ⟨rfl, rfl⟩
    refine ⟨.ret (.tup []), _, e, ⟨rfl, rfl⟩, ⟨_, rfl, by simp only [Go.Vx.RepSV, Go.Vx.RepSVs]; exact ⟨_, rfl, rfl⟩⟩, ?_⟩
    exact ⟨by simpa [srtI] using hH, rfl, Go.Vc.Only.refl _ _, trivial, fun _ _ h _ => h, fun _ h => h, fun _ h => .inl h, fun i hi => by
      have : i = 0 := by
        unfold Go.Vx.has at hi
        simp only [Go.Vc.lk] at hi
        split at hi
        · rename_i e1; exact (Go.Vc.nbeq.1 e1).symm
        · cases hi
      omega, fun i k hi hk => .inl ⟨0, by rfl, by
        have : i = 0 := by
          unfold Go.Vx.has at hi
          simp only [Go.Vc.lk] at hi
          split at hi
          · rename_i e1; exact (Go.Vc.nbeq.1 e1).symm
          · cases hi
        subst this; exact hk⟩⟩
  · simp only at hv hg htk hn hsz
    injection hv with h1 h2 h3
    subst h1; subst h3
    have hnl : n' = l.length := h2.symm
    subst hnl
    rw [Nat.mul_one, hx] at htk
    have hlt := (Array.getElem?_eq_some_iff.1 hg).1
    have hl' := hl
    simp only [Go.Vx.LB] at hl'
    refine (Any.slices_Sort_int sortI g o c l w (holdsI hg htk) hlt (by omega)).mono ?_
    rintro en w' ⟨rfl, q, os, rfl⟩
    refine ⟨.ret (.tup []), _, _, ⟨rfl, rfl⟩, ⟨_, rfl, by simp only [Go.Vx.RepSV, Go.Vx.RepSVs]; exact ⟨_, rfl, rfl⟩⟩, row_left (l := l) hlen hm hH hg (grownBy_putI _) (heap_putI _ hg) (putCells_len _ _ _) hsl hc1 hc2 hsz ?_ hl⟩
    have := putCells_cut o l.length (srtI l).toArray cur (by simp [hsl]; omega) (by simp [hsl])
    rw [List.toList_toArray, ← hsl, List.take_length] at this
    rw [← hsl]
    exact this
/-- The same, while an own block keeps the slice. -/
theorem sort_tri2 (l : List Int) (hl : l.length * 8 ≤ Go.Vx.LB) : Go.Vx.Tri Tryz.prog G0 25 2 0 [.row 1] [(0, .blk 47 [.row 1, .nl]), (1, .row 3 8 1 l.length (Go.Vx.encI l))] (fun o H' => o = .ret (.tup []) ∧ H' = [(0, .blk 47 [.row 1, .nl]), (1, .row 3 8 1 l.length (Go.Vx.encI (srtI l)))]) := by
  intro e w vs hlen hargs hH hG
  simp only [Go.Vx.RepSVs, Go.Vx.RepSV] at hargs
  obtain ⟨v, s, rfl, ⟨A, n, c, rfl, hm⟩, rfl⟩ := hargs
  obtain ⟨A', c', xs, hm', hrow, hxs, hlb⟩ := hH.ob 1 _ rfl
  obtain ⟨g0, vs0, hm0, hg0, hvs0⟩ := hH.ob 0 _ rfl
  rw [hm] at hm'; injection hm' with hm'; injection hm' with e1 e2 e3
  subst e1; subst e2; subst e3
  have hx := repI_flat hxs
  have hsl : (srtI l).length = l.length := by unfold srtI; simp
  have hasE : ∀ {i : Nat} {ob : Go.Vx.Ob}, Go.Vx.has [(0, .blk 47 [.row 1, .nl]), (1, ob)] i → i = 0 ∨ i = 1 := by
    intro i ob hi
    unfold Go.Vx.has at hi
    simp only [Go.Vc.lk] at hi
    split at hi
    · rename_i e1; exact .inl (Go.Vc.nbeq.1 e1).symm
    · split at hi
      · rename_i e1; exact .inr (Go.Vc.nbeq.1 e1).symm
      · cases hi
  have hasI : ∀ {i : Nat} {ob ob' : Go.Vx.Ob}, Go.Vx.has [(0, .blk 47 [.row 1, .nl]), (1, ob)] i → Go.Vx.has [(0, .blk 47 [.row 1, .nl]), (1, ob')] i := by
    intro i ob ob' hi
    rcases hasE hi with rfl | rfl <;> rfl
  obtain ⟨n', hn, ⟨hv, hz⟩ | ⟨g, o, cap, cur, hv, hg, hc1, hc2, hsz, htk⟩⟩ := hrow
  · simp only at hv hn
    injection hv with h1 h2 h3
    subst h1; subst h3
    have hl0 : l = [] := List.eq_nil_of_length_eq_zero h2
    subst hl0
    refine (Any.slices_Sort_int_none sortI none 0 w).mono ?_
    rintro en w' ⟨rfl, rfl⟩
    refine ⟨.ret (.tup []), _, e, ⟨rfl, rfl⟩, ⟨_, rfl, by simp only [Go.Vx.RepSV, Go.Vx.RepSVs]; exact ⟨_, rfl, rfl⟩⟩, ?_⟩
    exact ⟨by simpa [srtI] using hH, rfl, Go.Vc.Only.refl _ _, trivial, fun _ _ h _ => h, fun _ h => h, fun _ h => .inl h, fun i hi => by
      rcases hasE hi with rfl | rfl <;> omega, fun i k hi hk => .inl ⟨i, hasI hi, hk⟩⟩
  · simp only at hv hg htk hn hsz
    injection hv with h1 h2 h3
    subst h1; subst h3
    have hnl : n' = l.length := h2.symm
    subst hnl
    rw [Nat.mul_one, hx] at htk
    have hlt := (Array.getElem?_eq_some_iff.1 hg).1
    have hl' := hl
    simp only [Go.Vx.LB] at hl'
    have hf1 : Go.Vx.foot e 1 g := ⟨_, hm, rfl⟩
    have hf0 : Go.Vx.foot e 0 g0 := ⟨_, hm0, rfl⟩
    have hne : g0 ≠ g := fun h => hH.sep 0 1 g0 rfl rfl (by decide) hf0 (h ▸ hf1)
    have hlt0 := (Array.getElem?_eq_some_iff.1 hg0).1
    refine (Any.slices_Sort_int sortI g o c l w (holdsI hg htk) hlt (by omega)).mono ?_
    rintro en w' ⟨rfl, q, os, rfl⟩
    have hgr : w.grownBy (grow (putRow (Value.int .i64) (Sort.ahead w q) g o (srtI l).toArray) os) (some g) := grownBy_putI _
    have hcut := putCells_cut o l.length (srtI l).toArray cur (by simp [hsl]; omega) (by simp [hsl])
    rw [List.toList_toArray, ← hsl, List.take_length] at hcut
    refine ⟨.ret (.tup []), _, e, ⟨rfl, rfl⟩, ⟨_, rfl, by simp only [Go.Vx.RepSV, Go.Vx.RepSVs]; exact ⟨_, rfl, rfl⟩⟩, ?_⟩
    refine ⟨⟨fun i ob ho => ?_, fun i j k hi hj => hH.sep i j k (hasI hi) (hasI hj), fun i k hi => hH.npub i k (hasI hi), fun k hk => Nat.lt_of_lt_of_le (hH.pubLt k hk) hgr.size⟩, rfl, ?_, trivial, fun _ _ h _ => h, fun _ h => h, fun _ h => .inl h, fun i hi => ?_, fun i k hi hk => .inl ⟨i, hasI hi, hk⟩⟩
    · rcases hasE (i := i) (by unfold Go.Vx.has; rw [ho]; rfl) with rfl | rfl
      · simp only [Go.Vc.lk, Nat.beq_refl] at ho
        injection ho with ho; subst ho
        exact ⟨g0, vs0, hm0, (hgr.block g0 hlt0 (fun e1 => by injection e1 with e1; exact hne e1)).trans hg0, by simpa only [Go.Vx.RepSVs, Go.Vx.RepSV] using hvs0⟩
      · have ho : some (Go.Vx.Ob.row 3 8 1 l.length (Go.Vx.encI (srtI l))) = some ob := ho
        injection ho with ho; subst ho
        refine ⟨some ⟨g, o, none⟩, c, (srtI l).map (.int .i64), hm, ⟨l.length, by simp [hsl], .inr ⟨g, o, c, _, rfl, heap_putI _ hg, hc1, hc2, by rw [putCells_len]; exact hsz, ?_⟩⟩, repI_of _ _ _, hl⟩
        rw [Nat.mul_one, ← hsl]
        exact hcut
    · exact ⟨hgr.os, hgr.tape, hgr.output, hgr.size, fun k hk hn => hgr.block k hk (fun e1 => by injection e1 with e1; subst e1; exact hn ⟨1, rfl, hf1⟩)⟩
    · rcases hasE hi with rfl | rfl <;> omega
theorem comp_tri (l : List Int) (hl : l.length * 8 ≤ Go.Vx.LB) : Go.Vx.Tri Tryz.prog G0 26 1 0 [.row 0] [(0, .row 3 8 1 l.length (Go.Vx.encI l))] (fun o H' => o = .ret (.row 0) ∧ H' = [(0, .row 3 8 1 (Lib.compact l).length (Go.Vx.encI (Lib.compact l)))]) := by
  intro e w vs hlen hargs hH hG
  simp only [Go.Vx.RepSVs, Go.Vx.RepSV] at hargs
  obtain ⟨v, s, rfl, ⟨A, n, c, rfl, hm⟩, rfl⟩ := hargs
  obtain ⟨A', c', xs, hm', hrow, hxs, hlb⟩ := hH.ob 0 _ rfl
  rw [hm] at hm'; injection hm' with hm'; injection hm' with e1 e2 e3
  subst e1; subst e2; subst e3
  have hx := repI_flat hxs
  have hcl : (Lib.compact l).length ≤ l.length := by
    unfold Lib.compact Lib.compactUpTo
    rw [List.length_map]
    exact Nat.le_trans (List.length_filter_le _ _) (by simp)
  obtain ⟨n', hn, ⟨hv, hz⟩ | ⟨g, o, cap, cur, hv, hg, hc1, hc2, hsz, htk⟩⟩ := hrow
  · simp only at hv hn
    injection hv with h1 h2 h3
    subst h1; subst h3
    have hl0 : l = [] := List.eq_nil_of_length_eq_zero h2
    subst hl0
    refine (Any.slices_Compact_int_empty compI none 0 w).mono ?_
    rintro en w' ⟨rfl, rfl⟩
    refine ⟨.ret (.row 0), _, e, ⟨rfl, rfl⟩, ⟨_, rfl, by simp only [Go.Vx.RepSV]; exact ⟨_, _, _, rfl, hm⟩⟩, ?_⟩
    exact ⟨hH, rfl, Go.Vc.Only.refl _ _, trivial, fun _ _ h _ => h, fun _ h => h, fun _ h => .inl h, fun i hi => by
      have : i = 0 := by
        unfold Go.Vx.has at hi
        simp only [Go.Vc.lk] at hi
        split at hi
        · rename_i e1; exact (Go.Vc.nbeq.1 e1).symm
        · cases hi
      omega, fun i k hi hk => .inl ⟨0, by rfl, by
        have : i = 0 := by
          unfold Go.Vx.has at hi
          simp only [Go.Vc.lk] at hi
          split at hi
          · rename_i e1; exact (Go.Vc.nbeq.1 e1).symm
          · cases hi
        subst this; exact hk⟩⟩
  · simp only at hv hg htk hn hsz
    injection hv with h1 h2 h3
    subst h1; subst h3
    have hnl : n' = l.length := h2.symm
    subst hnl
    rw [Nat.mul_one, hx] at htk
    have hlt := (Array.getElem?_eq_some_iff.1 hg).1
    have hl' := hl
    simp only [Go.Vx.LB] at hl'
    refine (Any.slices_Compact_int compI g o c l w (holdsI hg htk) (by omega) hc1).mono ?_
    rintro en w' ⟨rfl, q, rfl⟩
    have hgrow : ∀ d : Array Int, putRow (Value.int .i64) (Sort.ahead w q) g o d = grow (putRow (Value.int .i64) (Sort.ahead w q) g o d) #[] := fun d => by unfold grow; rw [Array.append_empty]
    rw [hgrow]
    refine ⟨.ret (.row 0), _, _, ⟨rfl, rfl⟩, ⟨_, rfl, by simp only [Go.Vx.RepSV]; exact ⟨_, _, _, rfl, rfl⟩⟩, row_left (l := l) hlen hm hH hg (grownBy_putI _) (heap_putI _ hg) (putCells_len _ _ _) rfl (Nat.le_trans hcl hc1) hc2 hsz ?_ (Nat.le_trans (Nat.mul_le_mul_right _ hcl) hl)⟩
    have := putCells_cut o (Lib.compact l).length (Lib.compact l ++ List.replicate (l.length - (Lib.compact l).length) 0).toArray cur (by simp; omega) (by simp)
    rw [this]
    simp
end Go.Proofs.YtohmeplcjgmedaaGreatDoor

/- FreeTypes. -/
namespace Go.Proofs.YtohmeplcjgmedaaGreatDoor
open Go.Vx Go.Vc Go.RowKit

/-- The free numbers, sorted, each once. -/
def freeS (t : TG) : List Int := Go.Lib.compact (srtI (frG t []))
theorem freeS_len (t : TG) : (freeS t).length ≤ szG t := by
  unfold freeS
  have h1 : (Go.Lib.compact (srtI (frG t []))).length ≤ (srtI (frG t [])).length := by
    unfold Go.Lib.compact Go.Lib.compactUpTo
    rw [List.length_map]
    exact Nat.le_trans (List.length_filter_le _ _) (by simp)
  have h2 : (srtI (frG t [])).length = (frG t []).length := by unfold srtI; simp
  have h3 := frG_len t []
  omega
/-- What a temporary holds, said otherwise. -/
theorem weak_T {N n0 : Nat} {b : Bs G0 n0} {T : Vx.Tl} {H : Hp} {n : Nat} (t : Nat) (y : Vx.SV) {x : Vx.SV} (ht : lk T t = some x) (hl : lowB n y = true) (hxy : ∀ (e : Env) (w : World) (v : Value), RepSV e w x v → RepSV e w y v) : Weak b N ⟨T, H, n⟩ ⟨(t, y) :: T, H, n⟩ := by
  intro e a w h
  refine ⟨e, fun _ h => h, h.sz, h.df, h.len, fun t' z hx => ?_, h.hp, h.below, h.dr, h.mine, h.frm, h.pre, h.gl⟩
  simp only [lk] at hx
  split at hx
  · rename_i e'
    obtain rfl := nbeq.1 e'
    injection hx with hx; subst hx
    exact hxy _ _ _ (h.tm _ _ ht)
  · exact h.tm _ _ hx
theorem nl_dI (e : Env) (w : World) (v : Value) (h : RepSV e w .nl v) : RepSV e w (.d (dI [])) v := by
  simp only [RepSV] at h ⊢
  subst h
  unfold dI slD ebn
  simp only [RepD, Vx.encI, List.length_nil]
  exact ⟨none, 0, rfl, Nat.le_refl _, by simp, fun h => absurd rfl h, by simp [RepC]⟩
theorem wtyp_nl (t : TG) (h1 : ([] : List Int).length + szG t < 1099511627776) (h2 : ([] : List Int).length + szG t < 8796093022208) : Tri Tryz.prog G0 24 2 0 [.own 0 0, .d (dG t), .nl] (wkr .nl []) (wkrPost .nl ([] ++ frG t [])) := by
  intro e w vs hlen hargs hH hG
  refine wtyp_tri t [] [] h1 h2 e w vs hlen ?_ hH hG
  simp only [RepSVs] at hargs ⊢
  obtain ⟨v, s, rfl, a1, v2, s2, rfl, a2, v3, s3, rfl, a3, rfl⟩ := hargs
  exact ⟨v, _, rfl, a1, v2, _, rfl, a2, v3, _, rfl, nl_dI _ _ _ a3, rfl⟩
theorem freeT_fn (t : TG) (h : szG t < 1099511627776) : FnR Tryz.prog G0 8 [dG t] (dI (freeS t)) := by
  have hl := frG_len t []
  have h2 : (srtI (frG t [])).length = (frG t []).length := by unfold srtI; simp
  refine fnQ_of_vc txok mixed [] Tryz.func8 rfl rfl (by simp) fun b => ?_
  conv => whnf
  refine weakC _ (weak_nlC 1 0 3 8 1 rfl rfl) ?_
  refine callT [1, 2] (wtyp_nl t (by simpa using h) (by simp; omega)) gf24 rfl rfl ⟨rfl, rfl, trivial⟩ rfl ?_
  rintro o' H' ⟨rfl, rfl⟩
  conv => whnf
  rw [List.nil_append]
  refine callT [1, 2] (sort_tri2 (frG t []) (by simp only [LB]; omega)) gf25 rfl rfl ⟨rfl, rfl, trivial⟩ rfl ?_
  rintro o' H' ⟨rfl, rfl⟩
  conv => whnf
  rw [← h2]
  refine callT [2] (comp_tri (srtI (frG t [])) (by simp only [LB]; omega)) gf26 rfl rfl ⟨rfl, trivial⟩ rfl ?_
  rintro o' H' ⟨rfl, rfl⟩
  conv => whnf
  try exact rfl
end Go.Proofs.YtohmeplcjgmedaaGreatDoor

/- put, renamed, Put. -/
set_option linter.unusedSimpArgs false
set_option linter.unusedVariables false
namespace Go.Proofs.YtohmeplcjgmedaaGreatDoor
open Go.Vx Go.Vc Go.RowKit

/-- A list whose first ones are changed. -/
def mixF (g : TG → TG) (l : List TG) (i : Nat) : List TG := (l.take i).map g ++ l.drop i
theorem mixF_len (g : TG → TG) (l : List TG) (i : Nat) : (mixF g l i).length = l.length := by
  simp [mixF]; omega
theorem mixF_get {g : TG → TG} {l : List TG} {i : Nat} (h : i < l.length) (h' : i < (mixF g l i).length) : (mixF g l i)[i] = l[i] := by
  simp only [mixF]
  rw [List.getElem_append_right (by simp; omega)]
  simp [Nat.min_eq_left (Nat.le_of_lt h)]
theorem mixF_set {g : TG → TG} {l : List TG} {i : Nat} (h : i < l.length) : (mixF g l i).set i (g l[i]) = mixF g l (i + 1) := by
  simp only [mixF]
  rw [List.set_append_right _ _ (by simp; omega)]
  simp only [List.length_map, List.length_take, Nat.min_eq_left (Nat.le_of_lt h), Nat.sub_self]
  rw [List.drop_eq_getElem_cons h, List.set_cons_zero, List.take_succ_eq_append_getElem h, List.map_append, List.append_assoc]
  rfl
theorem mixF_zero (g : TG → TG) (l : List TG) : mixF g l 0 = l := by simp [mixF]
theorem mixF_all (g : TG → TG) (l : List TG) : mixF g l l.length = l.map g := by simp [mixF]
theorem encGs_set (l : List TG) (i : Nat) (hi : i < l.length) (x : TG) : ovl (encGs l) (i * 4) (encG x) = encGs (l.set i x) := by
  rw [encGs_eq, encGs_eq]; exact fl_set encG_len l i hi x

def varG (n : Int) : TG := .mk 6 n [] []
def ownS (l : List TG) : List Int := l.flatMap freeS
theorem ownS_take {l : List TG} {i : Nat} (h : i < l.length) : ownS (l.take (i + 1)) = ownS (l.take i) ++ freeS l[i] := by
  unfold ownS
  rw [List.take_succ_eq_append_getElem h, List.flatMap_append]; simp
theorem ownS_len : ∀ l : List TG, (ownS l).length ≤ szGs l
  | [] => by simp [ownS, szGs]
  | t :: r => by
    have h1 := freeS_len t
    have h2 := ownS_len r
    unfold ownS at h2 ⊢
    rw [List.flatMap_cons, List.length_append, szGs]; omega
def freshN (fr : List Int) (l : List TG) (x n : Int) : Int := (mex [fr, ownS l, [x, n]].flatten : Nat)
/-- A type put for a number: so many levels deep. -/
def putF : Nat → TG → Int → TG → List Int → TG
  | 0, t, _, _, _ => t
  | f + 1, t, x, y, fr =>
    if t.k = 6 ∧ t.n = x then y
    else if bndG t.k = true ∧ t.n = x then t
    else if bndG t.k = true ∧ t.n ∈ fr ∧ 0 < t.kids.length then
      .mk t.k (freshN fr t.kids x t.n) t.ls ((t.kids.map fun u => putF f u t.n (varG (freshN fr t.kids x t.n)) [freshN fr t.kids x t.n]).map fun u => putF f u x y fr)
    else .mk t.k t.n t.ls (t.kids.map fun u => putF f u x y fr)
def renF (f : Nat) (t : TG) (x : Int) (fr : List Int) : TG := .mk t.k (freshN fr t.kids x t.n) t.ls (t.kids.map fun u => putF f u t.n (varG (freshN fr t.kids x t.n)) [freshN fr t.kids x t.n])
theorem szGs_map {g : TG → TG} : ∀ {l : List TG}, (∀ t ∈ l, szG (g t) = szG t) → szGs (l.map g) = szGs l
  | [], _ => rfl
  | t :: r, h => by
    rw [List.map_cons, szGs, szGs, h t (by simp), szGs_map fun u hu => h u (by simp [hu])]
theorem szG_eq (t : TG) : szG t = szGs t.kids + 1 := by cases t; simp only [szG, g_kids]
theorem szGs_map_le {g : TG → TG} : ∀ {l : List TG}, (∀ t ∈ l, szG (g t) ≤ szG t) → szGs (l.map g) ≤ szGs l
  | [], _ => Nat.le_refl _
  | t :: r, h => by
    rw [List.map_cons, szGs, szGs]
    exact Nat.add_le_add (h t (by simp)) (szGs_map_le fun u hu => h u (by simp [hu]))
theorem sz_put : ∀ (f : Nat) (t : TG) (x : Int) (y : TG) (fr : List Int), szG y = 1 → szG (putF f t x y fr) ≤ szG t
  | 0, _, _, _, _, _ => Nat.le_refl _
  | f + 1, t, x, y, fr, hy => by
    unfold putF
    have hv : ∀ n, szG (varG n) = 1 := fun n => by simp [varG, szG, szGs]
    have ht := szG_eq t
    repeat' split
    · omega
    · exact Nat.le_refl _
    · rw [szG, ht]
      exact Nat.succ_le_succ (Nat.le_trans (szGs_map_le fun u _ => sz_put f u x y fr hy) (szGs_map_le fun u _ => sz_put f u _ _ _ (hv _)))
    · rw [szG, ht]
      exact Nat.succ_le_succ (szGs_map_le fun u _ => sz_put f u x y fr hy)
theorem freeS_var (n : Int) : freeS (varG n) = [n] := by
  unfold freeS varG
  have h : frG (.mk 6 n [] []) [] = [n] := by
    rw [frG_mk, if_pos ⟨rfl, by show (-1 : Int) < 0; decide⟩]; rfl
  rw [h]
  unfold srtI
  rw [List.mergeSort_singleton]
  rfl
def PutOk (f : Nat) : Prop := ∀ t, szG t ≤ f → ∀ x y fr, FnR Tryz.prog G0 64 [dG t, .int .i64 x, dG y, dI fr] (dG (putF f t x y fr))
theorem putT_fn {f : Nat} (hp : PutOk f) (t : TG) (ht : szG t ≤ f) (x : Int) (y : TG) (hy : szG y < 1099511627776) : FnR Tryz.prog G0 35 [dG t, .int .i64 x, dG y] (dG (putF f t x y (freeS y))) := by
  refine fnQ_of_vc txok mixed [(1, .take 0 (.pure 1 (.take 2 (.take 3 (.run 4 (.fin 5 (.fin 6 .done)))))))] Tryz.func35 rfl rfl (by simp) fun b => ?_
  conv => whnf
  refine And.intro (by kernel_rfl) ?_
  conv => whnf
  refine callF (freeT_fn y hy) gf8 rfl rfl ?_
  conv => whnf
  refine callF (hp t ht x y (freeS y)) gf64 rfl rfl ?_
  conv => whnf
  rfl
theorem ren_fn {f : Nat} (hp : PutOk f) (t : TG) (ht : szGs t.kids ≤ f) (hz : szGs t.kids < 1099511627776) (x : Int) (fr : List Int) : FnR Tryz.prog G0 95 [dG t, .int .i64 x, dI fr] (dG (renF f t x fr)) := by
  obtain ⟨k, n, ls, ks⟩ := t
  simp only [g_kids] at ht hz
  refine fnQ_sz fun hs => ?_
  have hl := (szOk_G (t := .mk k n ls ks) hs.1).1
  have hfr := (szOk_sl hs.2.2.1).1
  simp only [g_kids, LB] at hl hfr
  refine fnQ_of_vc txok mixed [(12, .pure 0 (.take 1 (.pure 2 (.take 3 (.pure 4 (.take 5 (.pure 6 (.pure 7 (.run 8 (.pure 9 (.fin 10 .done)))))))))))] Tryz.func95 rfl rfl (by simp) fun b => ?_
  conv => whnf
  simp only [g_kids]
  have hown : ∀ i, (ownS (ks.take i)).length < 1099511627776 := fun i => by
    have := ownS_len (ks.take i)
    have := szGs_le ks i
    omega
  refine loopH (fun i : Nat => i ≤ ks.length) (fun i => ks.length - i) (fun i => [(16, .d (.int .i64 i)), (7, .row 2)]) (fun i => [(0, .blk 25 [.d (.int .i64 k), .d (.int .i64 n), .d (dL ls), .d (dGs ks)]), (1, .blk 25 [.d (.int .i64 0), .d (.int .i64 0), .nl, .nl]), (2, .row 3 8 1 (ownS (ks.take i)).length (Vx.encI (ownS (ks.take i))))]) 3 0 (by omega) ((weak_nlT 7 3 8 1 rfl).trans (weak_of rfl (by repeat ((conv => whnf); first | exact trivial | refine And.intro rfl ?_ | refine And.intro (incD (by omega)) ?_)) (by repeat ((conv => whnf); first | exact trivial | refine And.intro rfl ?_ | refine And.intro (incD (by omega)) ?_)))) ?_
  intro i hi
  conv => whnf
  refine And.intro (fun hb => ?_) (fun hb => ?_)
  · have hb := of_decide_eq_true hb
    have hil : i < ks.length := by omega
    conv => whnf
    refine IdxC.encGs i hil rfl ?_
    conv => whnf
    have hzi : szG ks[i] < 1099511627776 := by have := szG_mem (List.getElem_mem hil); omega
    refine callF (freeT_fn ks[i] hzi) gf8 rfl rfl ?_
    conv => whnf
    have ho := hown (i + 1)
    rw [ownS_take hil] at ho
    refine appR (i := 2) (sz := 1) (n := (ownS (ks.take i)).length) (m := (freeS ks[i]).length) (xs := Vx.encI (ownS (ks.take i))) (ys := Vx.encI (freeS ks[i])) txok (fun _ => false) (ownS (ks.take (i + 1))).length (Vx.encI (ownS (ks.take (i + 1)))) (by exact rfl) (by exact rfl) (by exact rfl) (by kernel_rfl) (by rw [encI_len, Nat.mul_one]) (encI_scal _) (by rw [ownS_take hil, List.length_append]) (by rw [ownS_take hil]; simp [Vx.encI]) (by rw [ownS_take hil]; simp only [LB]; omega) ?_
    conv => whnf
    exact again (i + 1) (by omega) (by omega) (weak_of rfl (by repeat ((conv => whnf); first | exact trivial | refine And.intro rfl ?_ | refine And.intro (incD (by omega)) ?_)) (by repeat ((conv => whnf); first | exact trivial | refine And.intro rfl ?_ | refine And.intro (incD (by omega)) ?_)))
  · have hb := of_decide_eq_false hb
    have hi : i = ks.length := by omega
    subst hi
    rw [List.take_length]
    conv => whnf
    refine pubC (fun i => Nat.ble 2 i) ?_
    refine effC txok ?_
    conv => whnf
    refine callV (fresh_fn [fr, ownS ks, [x, n]] (by have := hown ks.length; rw [List.take_length] at this; simp; omega)) gf113 rfl rfl rfl rfl ?_
    conv => whnf
    refine callT [] (clone_tri ks) gf96 rfl rfl trivial rfl ?_
    rintro o' H' ⟨rfl, rfl⟩
    conv => whnf
    generalize hm : mex [fr, ownS ks, [x, n]].flatten = m
    have hput : ∀ u ∈ ks, FnR Tryz.prog G0 35 [dG u, .int .i64 n, dG (varG (m : Nat))] (dG (putF f u n (varG (m : Nat)) [(m : Int)])) := fun u hu => by
      have h1 := putT_fn hp u (by have := szG_mem hu; omega) n (varG (m : Nat)) (by simp [varG, szG, szGs])
      rwa [freeS_var] at h1
    have hgo : renF f (.mk k n ls ks) x fr = .mk k (m : Nat) ls (ks.map fun u => putF f u n (varG (m : Nat)) [(m : Int)]) := by
      subst hm; rfl
    rw [hgo]
    generalize hg : (fun u => putF f u n (varG (m : Nat)) [(m : Int)]) = g
    have hput : ∀ u ∈ ks, FnR Tryz.prog G0 35 [dG u, .int .i64 n, dG (varG (m : Nat))] (dG (g u)) := fun u hu => by
      subst hg; exact hput u hu
    refine loopH (fun i : Nat => i ≤ ks.length) (fun i => ks.length - i) (fun i => [(40, .d (.int .i64 i))]) (fun i => [(0, .blk 25 [.d (.int .i64 k), .d (.int .i64 n), .d (dL ls), .row 5]), (1, .blk 25 [.d (.int .i64 0), .d (.int .i64 0), .nl, .nl]), (5, .row 25 64 4 ks.length (encGs (mixF g ks i)))]) 6 0 (by omega) ?_ ?_
    · rw [mixF_zero]
      exact weak_of rfl (by repeat ((conv => whnf); first | exact trivial | refine And.intro rfl ?_ | refine And.intro (incD (by omega)) ?_)) (by repeat ((conv => whnf); first | exact trivial | refine And.intro rfl ?_ | refine And.intro (incD (by omega)) ?_))
    intro i hi
    conv => whnf
    refine And.intro (fun hb => ?_) (fun hb => ?_)
    · have hb := of_decide_eq_true hb
      have hil : i < ks.length := by omega
      have hml := mixF_len g ks i
      conv => whnf
      refine ⟨i, rfl, hil, ?_⟩
      conv => whnf
      refine ⟨encG ks[i], by rw [← mixF_get (g := g) hil (by omega)]; exact encGs_at _ i (by omega), rfl, ?_⟩
      conv => whnf
      refine And.intro (by kernel_rfl) ?_
      conv => whnf
      refine callF (hput ks[i] (by simp)) gf35 rfl rfl ?_
      conv => whnf
      refine ⟨i, rfl, hil, ?_⟩
      conv => whnf
      refine ⟨encGs (mixF g ks (i + 1)), ?_, ?_, ?_⟩
      · show i * 4 + 4 ≤ (encGs (mixF g ks i)).length
        rw [encGs_len, hml]; omega
      · rw [← mixF_set hil]; exact encGs_set _ i (by omega) _
      conv => whnf
      exact again (i + 1) (by omega) (by omega) (weak_of rfl (by repeat ((conv => whnf); first | exact trivial | refine And.intro rfl ?_ | refine And.intro (incD (by omega)) ?_)) (by repeat ((conv => whnf); first | exact trivial | refine And.intro rfl ?_ | refine And.intro (incD (by omega)) ?_)))
    · have hb := of_decide_eq_false hb
      have hi : i = ks.length := by omega
      subst hi
      rw [mixF_all]
      conv => whnf
      simp only [dG, encG, g_k, g_n, g_ls, g_kids, List.length_map]
end Go.Proofs.YtohmeplcjgmedaaGreatDoor

/- put, Put. -/
set_option linter.unusedSimpArgs false
set_option linter.unusedVariables false
namespace Go.Proofs.YtohmeplcjgmedaaGreatDoor
open Go.Vx Go.Vc Go.RowKit

theorem putF_mk (f : Nat) (k n : Int) (ls : List ByteArray) (l : List TG) (x : Int) (y : TG) (fr : List Int) : putF (f + 1) (.mk k n ls l) x y fr =
    if k = 6 ∧ n = x then y
    else if bndG k = true ∧ n = x then .mk k n ls l
    else if bndG k = true ∧ n ∈ fr ∧ 0 < l.length then
      .mk k (freshN fr l x n) ls ((l.map fun u => putF f u n (varG (freshN fr l x n)) [freshN fr l x n]).map fun u => putF f u x y fr)
    else .mk k n ls (l.map fun u => putF f u x y fr) := rfl
abbrev pH (t y : TG) : Hp := [(0, .blk 25 [.d (.int .i64 t.k), .d (.int .i64 t.n), .d (dL t.ls), .d (dGs t.kids)]), (1, .blk 25 [.d (.int .i64 y.k), .d (.int .i64 y.n), .d (dL y.ls), .d (dGs y.kids)]), (2, .blk 25 [.d (.int .i64 0), .d (.int .i64 0), .nl, .nl])]
theorem put_fn : ∀ f, f < 1099511627776 → PutOk f := by
  intro f
  induction f with
  | zero =>
    intro _ t ht
    have := szG_pos t
    omega
  | succ f ih =>
    intro hf t ht x y fr
    have ih := ih (by omega)
    obtain ⟨k, n, ls, ks⟩ := t
    have ht : szGs ks ≤ f := by simp only [szG] at ht; omega
    refine fnQ_sz fun hs => ?_
    have hl := (szOk_G (t := .mk k n ls ks) hs.1).1
    simp only [g_kids, LB] at hl
    refine fnQ_of_vc txok mixed ((100003, .done) :: (100008, .done) :: [(12, .pure 0 (.take 1 (.pure 2 (.take 3 (.pure 4 (.take 5 (.pure 6 (.run 7 (.pure 8 (.fin 9 .done))))))))))]) Tryz.func64 rfl rfl (by simp) fun b => ?_
    conv => whnf
    refine CutC.mk (fun st => ¬ (k = 6 ∧ n = x) ∧ st = ⟨[(1, .d (.int .i64 x)), (3, .d (dI fr)), (4, .own 0 0), (6, .own 1 0), (8, .own 2 0)], pH (.mk k n ls ks) y, 3⟩) ?_ ?_
    · conv => whnf
      simp only [g_k, g_n]
      refine And.intro (fun h1 => ?_) (fun h1 => ?_)
      · have h1 : k = 6 := eq_of_beq h1
        conv => whnf
        refine And.intro (fun h2 => ?_) (fun h2 => ?_)
        · have h2 : n = x := eq_of_beq h2
          conv => whnf
          rw [putF_mk, if_pos ⟨h1, h2⟩]
          rfl
        · have h2 : n ≠ x := by simpa using h2
          conv => whnf
          exact ⟨_, ⟨fun h => h2 h.2, rfl⟩, weak_of rfl (by repeat ((conv => whnf); first | exact trivial | refine And.intro rfl ?_ | refine And.intro (incD (by omega)) ?_)) (by repeat ((conv => whnf); first | exact trivial | refine And.intro rfl ?_ | refine And.intro (incD (by omega)) ?_))⟩
      · have h1 : k ≠ 6 := by simpa using h1
        conv => whnf
        exact ⟨_, ⟨fun h => h1 h.1, rfl⟩, weak_of rfl (by repeat ((conv => whnf); first | exact trivial | refine And.intro rfl ?_ | refine And.intro (incD (by omega)) ?_)) (by repeat ((conv => whnf); first | exact trivial | refine And.intro rfl ?_ | refine And.intro (incD (by omega)) ?_))⟩
    rintro st' ⟨hno, rfl⟩
    conv => whnf
    refine CutC.mk (fun st => ∃ n' l', l'.length = ks.length ∧ szGs l' ≤ f ∧ putF (f + 1) (.mk k n ls ks) x y fr = .mk k n' ls (l'.map fun u => putF f u x y fr) ∧ st = ⟨[(1, .d (.int .i64 x)), (3, .d (dI fr)), (4, .own 0 0), (6, .own 1 0), (8, .own 2 0)], pH (.mk k n' ls l') y, 3⟩) ?_ ?_
    · conv => whnf
      refine callF (binder_fn (.mk k n ls ks)) gf48 rfl rfl ?_
      simp only [g_k, g_n, g_ls, g_kids]
      conv => whnf
      refine And.intro (fun h1 => ?_) (fun h1 => ?_)
      · conv => whnf
        refine And.intro (fun h2 => ?_) (fun h2 => ?_)
        · have h2 : n = x := eq_of_beq h2
          conv => whnf
          rw [putF_mk, if_neg hno, if_pos ⟨h1, h2⟩]
          rfl
        · have h2 : n ≠ x := by simpa only [g_n, beq_eq_false_iff_ne, ne_eq] using h2
          conv => whnf
          refine callF (contains_fn fr n) gf94 rfl rfl ?_
          conv => whnf
          refine And.intro (fun h3 => ?_) (fun h3 => ?_)
          · have h3 : n ∈ fr := of_decide_eq_true h3
            conv => whnf
            refine And.intro (fun h4 => ?_) (fun h4 => ?_)
            · have h4 := of_decide_eq_true h4; simp only [g_kids] at h4
              conv => whnf
              refine callF (ren_fn ih (.mk k n ls ks) ht (by rw [g_kids]; omega) x fr) gf95 rfl rfl ?_
              conv => whnf
              refine ⟨_, ⟨freshN fr ks x n, ks.map fun u => putF f u n (varG (freshN fr ks x n)) [freshN fr ks x n], by simp, ?_, ?_, rfl⟩, weak_of rfl (by repeat ((conv => whnf); first | exact trivial | refine And.intro rfl ?_ | refine And.intro (incD (by omega)) ?_)) (by repeat ((conv => whnf); first | exact trivial | refine And.intro rfl ?_ | refine And.intro (incD (by omega)) ?_))⟩
              · exact Nat.le_trans (szGs_map_le fun u _ => sz_put f u _ _ _ (by simp [varG, szG, szGs])) ht
              · rw [putF_mk, if_neg hno, if_neg (fun h => h2 h.2), if_pos ⟨h1, h3, by omega⟩]
            · have h4 := of_decide_eq_false h4; simp only [g_kids] at h4
              conv => whnf
              refine ⟨_, ⟨n, ks, rfl, ht, ?_, rfl⟩, weak_of rfl (by repeat ((conv => whnf); first | exact trivial | refine And.intro rfl ?_ | refine And.intro (incD (by omega)) ?_)) (by repeat ((conv => whnf); first | exact trivial | refine And.intro rfl ?_ | refine And.intro (incD (by omega)) ?_))⟩
              rw [putF_mk, if_neg hno, if_neg (fun h => h2 h.2), if_neg (fun h => by have := h.2.2; omega)]
          · have h3 : n ∉ fr := of_decide_eq_false h3
            conv => whnf
            refine ⟨_, ⟨n, ks, rfl, ht, ?_, rfl⟩, weak_of rfl (by repeat ((conv => whnf); first | exact trivial | refine And.intro rfl ?_ | refine And.intro (incD (by omega)) ?_)) (by repeat ((conv => whnf); first | exact trivial | refine And.intro rfl ?_ | refine And.intro (incD (by omega)) ?_))⟩
            rw [putF_mk, if_neg hno, if_neg (fun h => h2 h.2), if_neg (fun h => h3 h.2.1)]
      · conv => whnf
        refine ⟨_, ⟨n, ks, rfl, ht, ?_, rfl⟩, weak_of rfl (by repeat ((conv => whnf); first | exact trivial | refine And.intro rfl ?_ | refine And.intro (incD (by omega)) ?_)) (by repeat ((conv => whnf); first | exact trivial | refine And.intro rfl ?_ | refine And.intro (incD (by omega)) ?_))⟩
        rw [putF_mk, if_neg hno, if_neg (fun h => by rw [h.1] at h1; cases h1), if_neg (fun h => by rw [h.1] at h1; cases h1)]
    rintro st' ⟨n', l', hl', hlf, hres, rfl⟩
    rw [hres]
    clear hres hno
    conv => whnf
    simp only [g_k, g_n, g_ls, g_kids]
    refine callT [] (clone_tri l') gf96 rfl rfl trivial rfl ?_
    rintro o' H' ⟨rfl, rfl⟩
    conv => whnf
    have hput : ∀ u ∈ l', FnR Tryz.prog G0 64 [dG u, .int .i64 x, dG y, dI fr] (dG (putF f u x y fr)) := fun u hu => ih u (by have := szG_mem hu; omega) x y fr
    generalize hg : (fun u => putF f u x y fr) = g
    have hput : ∀ u ∈ l', FnR Tryz.prog G0 64 [dG u, .int .i64 x, dG y, dI fr] (dG (g u)) := fun u hu => by
      subst hg; exact hput u hu
    refine loopH (fun i : Nat => i ≤ l'.length) (fun i => l'.length - i) (fun i => [(49, .d (.int .i64 i))]) (fun i => [(0, .blk 25 [.d (.int .i64 k), .d (.int .i64 n'), .d (dL ls), .row 3]), (1, .blk 25 [.d (.int .i64 y.k), .d (.int .i64 y.n), .d (dL y.ls), .d (dGs y.kids)]), (2, .blk 25 [.d (.int .i64 0), .d (.int .i64 0), .nl, .nl]), (3, .row 25 64 4 l'.length (encGs (mixF g l' i)))]) 4 0 (by omega) ?_ ?_
    · rw [mixF_zero]
      exact weak_of rfl (by repeat ((conv => whnf); first | exact trivial | refine And.intro rfl ?_ | refine And.intro (incD (by omega)) ?_)) (by repeat ((conv => whnf); first | exact trivial | refine And.intro rfl ?_ | refine And.intro (incD (by omega)) ?_))
    intro i hi
    conv => whnf
    refine And.intro (fun hb => ?_) (fun hb => ?_)
    · have hb := of_decide_eq_true hb
      have hil : i < l'.length := by omega
      have hml := mixF_len g l' i
      conv => whnf
      refine ⟨i, rfl, hil, ?_⟩
      conv => whnf
      refine ⟨encG l'[i], by rw [← mixF_get (g := g) hil (by omega)]; exact encGs_at _ i (by omega), rfl, ?_⟩
      conv => whnf
      refine And.intro (by kernel_rfl) ?_
      conv => whnf
      refine callF (hput l'[i] (by simp)) gf64 rfl rfl ?_
      conv => whnf
      refine ⟨i, rfl, hil, ?_⟩
      conv => whnf
      refine ⟨encGs (mixF g l' (i + 1)), ?_, ?_, ?_⟩
      · show i * 4 + 4 ≤ (encGs (mixF g l' i)).length
        rw [encGs_len, hml]; omega
      · rw [← mixF_set hil]; exact encGs_set _ i (by omega) _
      conv => whnf
      exact again (i + 1) (by omega) (by omega) (weak_of rfl (by repeat ((conv => whnf); first | exact trivial | refine And.intro rfl ?_ | refine And.intro (incD (by omega)) ?_)) (by repeat ((conv => whnf); first | exact trivial | refine And.intro rfl ?_ | refine And.intro (incD (by omega)) ?_)))
    · have hb := of_decide_eq_false hb
      have hi : i = l'.length := by omega
      subst hi
      rw [mixF_all]
      conv => whnf
      simp only [dG, encG, g_k, g_n, g_ls, g_kids, List.length_map]
theorem putTop_fn (t : TG) (ht : szG t < 1099511627776) (x : Int) (y : TG) (hy : szG y < 1099511627776) : FnR Tryz.prog G0 35 [dG t, .int .i64 x, dG y] (dG (putF (szG t) t x y (freeS y))) :=
  putT_fn (put_fn _ ht) t (Nat.le_refl _) x y hy
end Go.Proofs.YtohmeplcjgmedaaGreatDoor

/- The embedded strings.Builder of the teller. -/
set_option linter.unusedSimpArgs false
set_option linter.unusedVariables false
namespace Go.Proofs.YtohmeplcjgmedaaGreatDoor
open Go.Vx Go.Vc Go.RowKit

/-- The builder's address cell: nil, or its own address. -/
def adr : Bool → Go.Vx.SV
  | true => .own 0 0
  | false => .d (.val (.pointer none))
def tel (c : Bool) (l : List UInt8) : Hp := [(0, .blk 59 [adr c, .row 1]), (1, .row 5 1 1 l.length (encB l))]
theorem noEsc (v : Value) (w : World) : (callFunc 111 #[v]).run Tryz.prog w = .ok (.value v) w := by
  rw [run_callFunc_extern Tryz.func111 (by kernel_rfl) (by kernel_rfl) (by kernel_rfl) (e := Extern.AbiNoEscape.same) (by kernel_rfl), Go.Lib.run_noEscape]
  rfl
theorem copyCheck_tri (c : Bool) (l : List UInt8) : Tri Tryz.prog G0 90 2 0 [.own 0 0] (tel c l) (fun o H' => o = .ret (.tup []) ∧ H' = tel true l) := by
  refine tri_of_vc txok mixed [] [] Tryz.func90 rfl rfl (by simp) fun b => ?_
  cases c
  · conv => whnf
    refine toUnsafeC (off := 0) (i := 0) (by exact rfl) (by exact rfl) (by exact rfl) Tryz.underlying54 Tryz.underlying136 (t' := 57) (sz := 2) (by kernel_rfl) (by decide) (by decide) ?_
    conv => whnf
    refine sameC (by exact rfl) noEsc (by exact rfl) ?_
    conv => whnf
    refine fromUnsafeC (off := 0) (i := 0) (by exact rfl) (by exact rfl) (by exact rfl) Tryz.underlying136 Tryz.underlying54 (u := 57) (sz := 2) (by kernel_rfl) (by kernel_rfl) ?_
    conv => whnf
    exact ⟨rfl, rfl⟩
  · conv => whnf
    refine ptrC (i := 0) (j := 0) txok false (by exact rfl) Tryz.underlying54 (by exact rfl) (by exact rfl) (by exact rfl) (by decide) (by exact rfl) (by exact rfl) ?_
    conv => whnf
    exact ⟨rfl, rfl⟩
theorem wByte_tri (c : Bool) (l : List UInt8) (x : UInt8) (hl : l.length < 1099511627776) : Tri Tryz.prog G0 55 2 0 [.own 0 0, .d (.int .u8 x.toNat)] (tel c l) (fun o H' => o = .ret (cD .nilIface) ∧ H' = tel true (l ++ [x])) := by
  refine tri_of_vc txok mixed [] [] Tryz.func55 rfl rfl (by simp) fun b => ?_
  cases c
  all_goals
    conv => whnf
    first
      | refine callT [0, 1] (copyCheck_tri false l) gf90 rfl rfl ⟨rfl, rfl, trivial⟩ rfl ?_
      | refine callT [0, 1] (copyCheck_tri true l) gf90 rfl rfl ⟨rfl, rfl, trivial⟩ rfl ?_
    rintro o' H' ⟨rfl, rfl⟩
    conv => whnf
    refine appR (i := 1) (sz := 1) (n := l.length) (m := 1) (xs := encB l) (ys := [.int .u8 x.toNat]) txok (fun k => Nat.beq k 2) (l ++ [x]).length (encB (l ++ [x])) (by exact rfl) (by exact rfl) (by exact rfl) (by kernel_rfl) (by exact rfl) (scalDs_mem (by exact rfl)) (by simp) (by rw [encB_app]; rfl) (by simp only [LB, List.length_append, List.length_cons, List.length_nil]; omega) ?_
    conv => whnf
    exact ⟨rfl, rfl⟩
theorem wStr_tri (c : Bool) (l : List UInt8) (s : ByteArray) (hl : l.length < 1099511627776) (hs : s.size < 1099511627776) : Tri Tryz.prog G0 56 2 0 [.own 0 0, .d (.str s)] (tel c l) (fun o H' => o = .ret (.tup [.d (.int .i64 s.size), cD .nilIface]) ∧ H' = tel true (l ++ s.data.toList)) := by
  refine tri_of_vc txok mixed [] [] Tryz.func56 rfl rfl (by simp) fun b => ?_
  cases c
  all_goals
    conv => whnf
    first
      | refine callT [0, 1] (copyCheck_tri false l) gf90 rfl rfl ⟨rfl, rfl, trivial⟩ rfl ?_
      | refine callT [0, 1] (copyCheck_tri true l) gf90 rfl rfl ⟨rfl, rfl, trivial⟩ rfl ?_
    rintro o' H' ⟨rfl, rfl⟩
    conv => whnf
    refine appStrC (i := 1) (l := l) (s := s) (fun _ => false) (by exact rfl) (by exact rfl) (by exact rfl) (by exact rfl) Tryz.underlying55 Tryz.underlying9 (by kernel_rfl) (l ++ s.data.toList).length (by rw [List.length_append, Array.length_toList]; rfl) (by simp only [LB, List.length_append, Array.length_toList]; show l.length + s.size ≤ _; omega) ?_
    conv => whnf
    exact ⟨rfl, rfl⟩
end Go.Proofs.YtohmeplcjgmedaaGreatDoor

/- String. -/
set_option linter.unusedSimpArgs false
set_option linter.unusedVariables false
namespace Go.Proofs.YtohmeplcjgmedaaGreatDoor
open Go.Vx Go.Vc Go.RowKit

theorem bStr_tri (c : Bool) (l : List UInt8) (h0 : l ≠ []) : Tri Tryz.prog G0 30 2 0 [.own 0 0] (tel c l) (fun o H' => o = .ret (.d (.str (bs l))) ∧ H' = []) := by
  refine tri_of_vc txok mixed [] [(1, .pure 0 (.pure 1 (.pure 2 (.take 3 (.pure 5 (.pure 6 (.pure 7 (.take 8 (.pure 9 (.run 4 (.fin 10 (.pure 11 .done))))))))))))] Tryz.func30 rfl rfl (by simp) fun b => ?_
  cases c
  all_goals
    conv => whnf
    refine And.intro (by kernel_rfl) ?_
    conv => whnf
    refine sliceDataC (i := 1) (by exact rfl) (by exact rfl) (by exact rfl) (fun h => h0 (List.eq_nil_of_length_eq_zero h)) ?_
    conv => whnf
    refine unsafeStringC (i := 1) (l := l) (by exact rfl) (by exact rfl) (by exact rfl) (by exact rfl) Tryz.underlying90 (by kernel_rfl) rfl h0 ?_
    conv => whnf
    exact ⟨rfl, rfl⟩
end Go.Proofs.YtohmeplcjgmedaaGreatDoor

/- Text: numbers. -/
set_option linter.unusedSimpArgs false
set_option linter.unusedVariables false
namespace Go.Proofs.YtohmeplcjgmedaaGreatDoor
open Go.Vx Go.Vc Go.RowKit

theorem small_fn (i : Int) (hi : i = 0 ∨ i = 1 ∨ i = 2) : FnR Tryz.prog G0 114 [.int .i64 i] (.str (bs [UInt8.ofNat (48 + i.toNat)])) := by
  rcases hi with rfl | rfl | rfl
  all_goals
    refine fnQ_of_vc txok mixed [] Tryz.func114 rfl rfl (by simp) fun b => ?_
    conv => whnf
    refine And.intro (fun h => ?_) (fun h => by simp at h)
    conv => whnf
    refine slStrC txok rfl rfl rfl rfl rfl rfl (by decide) (by decide) (by decide) _ rfl ?_
    conv => whnf
    rfl
theorem formatInt_fn (i : Int) (hi : i = 0 ∨ i = 1 ∨ i = 2) : FnR Tryz.prog G0 99 [.int .i64 i, .int .i64 10] (.str (bs [UInt8.ofNat (48 + i.toNat)])) := by
  have hs := small_fn i hi
  rcases hi with rfl | rfl | rfl
  all_goals
    refine fnQ_of_vc txok mixed [] Tryz.func99 rfl rfl (by simp) fun b => ?_
    conv => whnf
    refine And.intro (fun h => ?_) (fun h => by simp at h)
    conv => whnf
    refine And.intro (fun h => ?_) (fun h => by simp at h)
    conv => whnf
    refine And.intro (fun h => ?_) (fun h => by simp at h)
    conv => whnf
    exact callF hs gf114 rfl rfl rfl
theorem itoa0_fn (i : Int) (hi : i = 0 ∨ i = 1 ∨ i = 2) : FnR Tryz.prog G0 91 [.int .i64 i] (.str (bs [UInt8.ofNat (48 + i.toNat)])) := by
  refine fnQ_of_vc txok mixed [] Tryz.func91 rfl rfl (by simp) fun b => ?_
  conv => whnf
  exact callF (formatInt_fn i hi) gf99 rfl rfl rfl
theorem itoa_small (i : Int) (hi : i = 0 ∨ i = 1 ∨ i = 2) : FnR Tryz.prog G0 60 [.int .i64 i] (.str (bs [UInt8.ofNat (48 + i.toNat)])) := by
  refine fnQ_of_vc txok mixed [] Tryz.func60 rfl rfl (by simp) fun b => ?_
  conv => whnf
  exact callF (itoa0_fn i hi) gf91 rfl rfl rfl

def dig (i : Int) : List UInt8 := [UInt8.ofNat (48 + i.toNat)]
def numT (s : List Int) (n : Int) : List UInt8 := if lastI s n ≥ 0 then 116 :: dig (lastI s n) else 35 :: dig n
theorem str_cons (x : UInt8) (l : List UInt8) : ((⟨#[x]⟩ : ByteArray) ++ bs l).data.toList = x :: l := by
  simp [bs]
theorem str_sz (x : UInt8) (l : List UInt8) : ((⟨#[x]⟩ : ByteArray) ++ bs l).size = l.length + 1 := by
  show ((⟨#[x]⟩ : ByteArray) ++ bs l).data.size = _
  rw [← Array.length_toList, str_cons]; rfl
theorem number_tri (c : Bool) (l : List UInt8) (s : List Int) (n : Int) (hl : l.length < 1099511627000) (hn : n = 0 ∨ n = 1 ∨ n = 2) (hs : lastI s n ≥ 0 → lastI s n = 0 ∨ lastI s n = 1 ∨ lastI s n = 2) : Tri Tryz.prog G0 57 2 0 [.own 0 0, .d (dI s), .d (.int .i64 n)] (tel c l) (fun o H' => o = .ret (.tup []) ∧ H' = tel true (l ++ numT s n)) := by
  refine tri_of_vc txok mixed [] [(2, .pure 0 (.pure 1 (.pure 2 (.pure 3 (.fin 4 (.pure 5 (.fin 6 .done))))))), (3, .pure 0 (.pure 1 (.pure 2 (.pure 3 (.fin 4 (.pure 5 (.fin 6 .done)))))))] Tryz.func57 rfl rfl (by simp) fun b => ?_
  cases c
  all_goals
    conv => whnf
    refine callF (last_fn s n) gf47 rfl rfl ?_
    conv => whnf
    refine And.intro (fun h => ?_) (fun h => ?_)
    · have h := of_decide_eq_true h
      rw [numT, if_pos h]
      conv => whnf
      refine And.intro (by kernel_rfl) ?_
      conv => whnf
      refine callF (itoa_small _ (hs h)) gf60 rfl rfl ?_
      conv => whnf
      refine And.intro (by show 1 + 1 ≤ 9223372036854775807; decide) ?_
      conv => whnf
      first
        | refine callT [0, 1] (wStr_tri false l (⟨#[116]⟩ ++ bs (dig (lastI s n))) (by omega) (by rw [str_sz]; simp [dig])) gf56 rfl rfl ⟨rfl, rfl, trivial⟩ rfl ?_
        | refine callT [0, 1] (wStr_tri true l (⟨#[116]⟩ ++ bs (dig (lastI s n))) (by omega) (by rw [str_sz]; simp [dig])) gf56 rfl rfl ⟨rfl, rfl, trivial⟩ rfl ?_
      rintro o' H' ⟨rfl, rfl⟩
      rw [str_cons]
      conv => whnf
      exact ⟨rfl, rfl⟩
    · have h := of_decide_eq_false h
      rw [numT, if_neg h]
      conv => whnf
      refine And.intro (by kernel_rfl) ?_
      conv => whnf
      refine callF (itoa_small n hn) gf60 rfl rfl ?_
      conv => whnf
      refine And.intro (by show 1 + 1 ≤ 9223372036854775807; decide) ?_
      conv => whnf
      first
        | refine callT [0, 1] (wStr_tri false l (⟨#[35]⟩ ++ bs (dig n)) (by omega) (by rw [str_sz]; simp [dig])) gf56 rfl rfl ⟨rfl, rfl, trivial⟩ rfl ?_
        | refine callT [0, 1] (wStr_tri true l (⟨#[35]⟩ ++ bs (dig n)) (by omega) (by rw [str_sz]; simp [dig])) gf56 rfl rfl ⟨rfl, rfl, trivial⟩ rfl ?_
      rintro o' H' ⟨rfl, rfl⟩
      rw [str_cons]
      conv => whnf
      exact ⟨rfl, rfl⟩
end Go.Proofs.YtohmeplcjgmedaaGreatDoor

/- Text: of numbers, functions of numbers, alls. -/
set_option linter.unusedSimpArgs false
set_option linter.unusedVariables false
namespace Go.Proofs.YtohmeplcjgmedaaGreatDoor
open Go.Vx Go.Vc Go.RowKit

theorem typVar_tri (c : Bool) (l : List UInt8) (s : List Int) (n : Int) (hl : l.length < 1099511627000) (hn : n = 0 ∨ n = 1 ∨ n = 2) (hs : lastI s n ≥ 0 → lastI s n = 0 ∨ lastI s n = 1 ∨ lastI s n = 2) : Tri Tryz.prog G0 29 2 0 [.own 0 0, .d (dG (varG n)), .d (dI s)] (tel c l) (fun o H' => o = .ret (.tup []) ∧ H' = tel true (l ++ numT s n)) := by
  refine tri_of_vc txok mixed [] [(16, .pure 0 (.pure 1 (.pure 2 (.pure 3 (.pure 4 (.take 5 (.pure 6 (.fin 7 .done)))))))), (11, .pure 0 (.pure 1 (.pure 2 (.pure 3 (.pure 4 (.take 5 (.pure 6 (.pure 7 (.pure 8 (.pure 9 (.pure 10 (.run 11 (.pure 12 (.pure 13 (.fin 14 .done))))))))))))))), (12, .pure 0 (.pure 1 (.take 2 (.pure 3 (.pure 5 (.pure 7 (.take 8 (.three 4 6 9 (.two 6 9 (.run 9 (.run 10 (.fin 11 .done))) (.run 6 (.run 10 (.fin 11 .done)))) (.two 4 9 (.run 9 (.run 10 (.fin 11 .done))) (.two 4 10 (.run 10 (.fin 11 .done)) (.run 4 (.fin 11 .done)))) (.two 4 6 (.run 6 (.run 10 (.fin 11 .done))) (.two 4 10 (.run 10 (.fin 11 .done)) (.run 4 (.fin 11 .done))))))))))))] Tryz.func29 rfl rfl (by simp) fun b => ?_
  cases c
  all_goals
    conv => whnf
    repeat ((refine And.intro (fun h => ?_) (fun h => ?_) <;> first | exact Bool.noConfusion h | skip); conv => whnf)
    refine callF (binder_fn (varG n)) gf48 rfl rfl ?_
    conv => whnf
    repeat ((refine And.intro (fun h => ?_) (fun h => ?_) <;> first | exact Bool.noConfusion h | skip); conv => whnf)
    first
      | refine callT [0, 1] (number_tri false l s n hl hn hs) gf57 rfl rfl ⟨rfl, rfl, trivial⟩ rfl ?_
      | refine callT [0, 1] (number_tri true l s n hl hn hs) gf57 rfl rfl ⟨rfl, rfl, trivial⟩ rfl ?_
    rintro o' H' ⟨rfl, rfl⟩
    conv => whnf
    exact ⟨rfl, rfl⟩
theorem inVar_tri (c : Bool) (l : List UInt8) (s : List Int) (n : Int) (hl : l.length < 1099511627000) (hn : n = 0 ∨ n = 1 ∨ n = 2) (hs : lastI s n ≥ 0 → lastI s n = 0 ∨ lastI s n = 1 ∨ lastI s n = 2) : Tri Tryz.prog G0 58 2 0 [.own 0 0, .d (dG (varG n)), .d (dI s)] (tel c l) (fun o H' => o = .ret (.tup []) ∧ H' = tel true (l ++ numT s n)) := by
  refine tri_of_vc txok mixed [] [] Tryz.func58 rfl rfl (by simp) fun b => ?_
  cases c
  all_goals
    conv => whnf
    repeat ((refine And.intro (fun h => ?_) (fun h => ?_) <;> first | exact Bool.noConfusion h | skip); conv => whnf)
    refine callF (binder_fn (varG n)) gf48 rfl rfl ?_
    conv => whnf
    repeat ((refine And.intro (fun h => ?_) (fun h => ?_) <;> first | exact Bool.noConfusion h | skip); conv => whnf)
    first
      | refine callT [0, 1] (typVar_tri false l s n hl hn hs) gf29 rfl rfl ⟨rfl, rfl, trivial⟩ rfl ?_
      | refine callT [0, 1] (typVar_tri true l s n hl hn hs) gf29 rfl rfl ⟨rfl, rfl, trivial⟩ rfl ?_
    rintro o' H' ⟨rfl, rfl⟩
    conv => whnf
    exact ⟨rfl, rfl⟩
def fnG (n m : Int) : TG := .mk 4 0 [] [varG n, varG m]
def fnT (s : List Int) (n m : Int) : List UInt8 := numT s n ++ ([32, 45, 62, 32] ++ numT s m)
theorem typFn_tri (l : List UInt8) (s : List Int) (n m : Int) (hl : l.length < 1099511620000) (hz : (numT s n).length < 10) (hn : n = 0 ∨ n = 1 ∨ n = 2) (hm : m = 0 ∨ m = 1 ∨ m = 2) (hs : ∀ n, lastI s n ≥ 0 → lastI s n = 0 ∨ lastI s n = 1 ∨ lastI s n = 2) : Tri Tryz.prog G0 29 2 0 [.own 0 0, .d (dG (fnG n m)), .d (dI s)] (tel true l) (fun o H' => o = .ret (.tup []) ∧ H' = tel true (l ++ fnT s n m)) := by
  refine tri_of_vc txok mixed [] [(16, .pure 0 (.pure 1 (.pure 2 (.pure 3 (.pure 4 (.take 5 (.pure 6 (.fin 7 .done)))))))), (11, .pure 0 (.pure 1 (.pure 2 (.pure 3 (.pure 4 (.take 5 (.pure 6 (.pure 7 (.pure 8 (.pure 9 (.pure 10 (.run 11 (.pure 12 (.pure 13 (.fin 14 .done))))))))))))))), (12, .pure 0 (.pure 1 (.take 2 (.pure 3 (.pure 5 (.pure 7 (.take 8 (.three 4 6 9 (.two 6 9 (.run 9 (.run 10 (.fin 11 .done))) (.run 6 (.run 10 (.fin 11 .done)))) (.two 4 9 (.run 9 (.run 10 (.fin 11 .done))) (.two 4 10 (.run 10 (.fin 11 .done)) (.run 4 (.fin 11 .done)))) (.two 4 6 (.run 6 (.run 10 (.fin 11 .done))) (.two 4 10 (.run 10 (.fin 11 .done)) (.run 4 (.fin 11 .done))))))))))))] Tryz.func29 rfl rfl (by simp) fun b => ?_
  conv => whnf
  repeat ((refine And.intro (fun h => ?_) (fun h => ?_) <;> first | exact Bool.noConfusion h | skip); conv => whnf)
  refine IdxC.encGs (l := [varG n, varG m]) 0 (by show 0 < 2; decide) rfl ?_
  conv => whnf
  refine callT [0, 1] (inVar_tri true l s n (by omega) hn (hs n)) gf58 rfl rfl ⟨rfl, rfl, trivial⟩ rfl ?_
  rintro o' H' ⟨rfl, rfl⟩
  conv => whnf
  refine callT [0, 1] (wStr_tri true (l ++ numT s n) ⟨#[32, 45, 62, 32]⟩ (by rw [List.length_append]; omega) (by decide)) gf56 rfl rfl ⟨rfl, rfl, trivial⟩ rfl ?_
  rintro o' H' ⟨rfl, rfl⟩
  conv => whnf
  refine IdxC.encGs (l := [varG n, varG m]) 1 (by show 1 < 2; decide) rfl ?_
  conv => whnf
  refine callT [0, 1] (typVar_tri true (l ++ numT s n ++ [32, 45, 62, 32]) s m (by simp only [List.length_append, List.length_cons, List.length_nil]; omega) hm (hs m)) gf29 rfl rfl ⟨rfl, rfl, trivial⟩ rfl ?_
  rintro o' H' ⟨rfl, rfl⟩
  conv => whnf
  refine ⟨rfl, ?_⟩
  rw [fnT, ← List.append_assoc, ← List.append_assoc]
  rfl
def arr80 : Value := .agg #[.string ⟨#[109, 117]⟩, .string ⟨#[97, 108, 108]⟩, .string ⟨#[115, 111, 109, 101]⟩]
theorem bld80 {dst : Option Tmp} {ty : TypeId} {pos : String} {after : Array Edge} {gd : Option (Nat × Bool)} (a : Act) (w : World) : (execOp a.eval { dst := dst, op := .build 88 #[(0, .const (.string ⟨#[109, 117]⟩)), (1, .const (.string ⟨#[97, 108, 108]⟩)), (2, .const (.string ⟨#[115, 111, 109, 101]⟩))], type := ty, pos := pos, after := after, guard := gd }).run Tryz.prog w = .ok (.value arr80) w := by
  simp only [execOp]
  exact run_val (run_build w 88 _ _ (by kernel_rfl))
theorem idx80 (w : World) : (Instr.index 88 (.agg #[.string ⟨#[109, 117]⟩, .string ⟨#[97, 108, 108]⟩, .string ⟨#[115, 111, 109, 101]⟩]) (.int .i64 1)).run Tryz.prog w = .ok (.string ⟨#[97, 108, 108]⟩) w := by
  simp [Instr.index, asIntOf, Go.run_underlying Tryz.underlying88, part, Tryz.sizeOf9, Tryz.isAgg9]
theorem numT_len (s : List Int) (n : Int) : (numT s n).length < 10 := by
  unfold numT; split <;> simp [dig]
def allS : ByteArray := ⟨#[97, 108, 108]⟩ ++ ⟨#[32, 116]⟩ ++ bs [UInt8.ofNat (48 + Int.toNat 0)] ++ ⟨#[46, 32]⟩
set_option maxRecDepth 4000 in
set_option maxHeartbeats 2000000 in
theorem typAll_tri (p n m : Int) (hn : n = 0 ∨ n = 1 ∨ n = 2) (hm : m = 0 ∨ m = 1 ∨ m = 2) (hs : ∀ n, lastI [p] n ≥ 0 → lastI [p] n = 0 ∨ lastI [p] n = 1 ∨ lastI [p] n = 2) : Tri Tryz.prog G0 29 2 0 [.own 0 0, .d (dG (.mk 10 p [] [fnG n m])), .d (dI [])] (tel false []) (fun o H' => o = .ret (.tup []) ∧ H' = tel true ([97, 108, 108, 32, 116, 48, 46, 32] ++ fnT [p] n m)) := by
  refine tri_of_vc txok mixed [] ((11, .pure 0 (.pure 1 (.pure 2 (.pure 4 (.take 5 (.pure 6 (.pure 9 (.pure 10 (.two 3 11 (.two 7 11 (.pure 8 (.run 11 (.pure 12 (.pure 13 (.fin 14 .done))))) (.run 7 (.pure 8 (.pure 12 (.pure 13 (.fin 14 .done)))))) (.run 3 (.run 7 (.pure 8 (.pure 12 (.pure 13 (.fin 14 .done))))))))))))))) :: [(16, .pure 0 (.pure 1 (.pure 2 (.pure 3 (.pure 4 (.take 5 (.pure 6 (.fin 7 .done)))))))), (11, .pure 0 (.pure 1 (.pure 2 (.pure 3 (.pure 4 (.take 5 (.pure 6 (.pure 7 (.pure 8 (.pure 9 (.pure 10 (.run 11 (.pure 12 (.pure 13 (.fin 14 .done))))))))))))))), (12, .pure 0 (.pure 1 (.take 2 (.pure 3 (.pure 5 (.pure 7 (.take 8 (.three 4 6 9 (.two 6 9 (.run 9 (.run 10 (.fin 11 .done))) (.run 6 (.run 10 (.fin 11 .done)))) (.two 4 9 (.run 9 (.run 10 (.fin 11 .done))) (.two 4 10 (.run 10 (.fin 11 .done)) (.run 4 (.fin 11 .done)))) (.two 4 6 (.run 6 (.run 10 (.fin 11 .done))) (.two 4 10 (.run 10 (.fin 11 .done)) (.run 4 (.fin 11 .done))))))))))))]) Tryz.func29 rfl rfl (by simp) fun b => ?_
  conv => whnf
  repeat ((refine And.intro (fun h => ?_) (fun h => ?_) <;> first | exact Bool.noConfusion h | skip); conv => whnf)
  refine callF (binder_fn (.mk 10 p [] [fnG n m])) gf48 rfl rfl ?_
  conv => whnf
  repeat ((refine And.intro (fun h => ?_) (fun h => ?_) <;> first | exact Bool.noConfusion h | skip); conv => whnf)
  refine And.intro (by kernel_rfl) ?_
  repeat'
    first
      | exact Nat.le_of_ble_eq_true rfl
      | ((conv => whnf); first
      | refine And.intro ?_ ?_
      | refine valKC arr80 bld80 ?_
      | refine idxKC (j := 1) ⟨#[97, 108, 108]⟩ (by exact rfl) (by exact rfl) (by exact rfl) Tryz.underlying88 idx80 ?_
      | refine callF (itoa_small 0 (.inl rfl)) gf60 (by exact rfl) (by exact rfl) ?_
      | refine callT [0, 1] (wStr_tri false [] allS (by decide) (by decide)) gf56 (by exact rfl) (by exact rfl) ⟨rfl, rfl, trivial⟩ rfl ?_)
  all_goals rintro o' H' ⟨rfl, rfl⟩
  all_goals (conv => whnf)
  all_goals refine And.intro (by kernel_rfl) ?_
  all_goals (conv => whnf)
  all_goals
    repeat'
      ((conv => whnf); first
        | refine And.intro ?_ ?_
        | refine IdxC.encGs (l := [fnG n m]) 0 (by show 0 < 1; decide) rfl ?_
        | refine callF (clip_fn []) gf49 rfl rfl ?_
        | refine snocI [] p rfl rfl (by decide) ?_)
  all_goals (conv => whnf)
  all_goals refine pubC (fun i => Nat.ble 3 i) ?_
  all_goals (conv => whnf)
  all_goals refine callT [0, 1] (typFn_tri ([] ++ allS.data.toList) [p] n m (by decide) (numT_len _ _) hn hm hs) gf29 rfl rfl ⟨rfl, rfl, trivial⟩ rfl ?_
  all_goals rintro o' H' ⟨rfl, rfl⟩
  all_goals (conv => whnf)
  all_goals try exact ⟨rfl, rfl⟩
  all_goals trace_state
end Go.Proofs.YtohmeplcjgmedaaGreatDoor

/- Text; Size; alive. -/
set_option linter.unusedSimpArgs false
set_option linter.unusedVariables false
namespace Go.Proofs.YtohmeplcjgmedaaGreatDoor
open Go.Vx Go.Vc Go.RowKit

def allT (p n m : Int) : List UInt8 := [97, 108, 108, 32, 116, 48, 46, 32] ++ fnT [p] n m
theorem typAll_nl (p n m : Int) (hn : n = 0 ∨ n = 1 ∨ n = 2) (hm : m = 0 ∨ m = 1 ∨ m = 2) (hs : ∀ n, lastI [p] n ≥ 0 → lastI [p] n = 0 ∨ lastI [p] n = 1 ∨ lastI [p] n = 2) : Tri Tryz.prog G0 29 2 0 [.own 0 0, .d (dG (.mk 10 p [] [fnG n m])), .nl] (tel false []) (fun o H' => o = .ret (.tup []) ∧ H' = tel true (allT p n m)) := by
  intro e w vs hlen hargs hH hG
  refine typAll_tri p n m hn hm hs e w vs hlen ?_ hH hG
  simp only [RepSVs] at hargs ⊢
  obtain ⟨v, s, rfl, a1, v2, s2, rfl, a2, v3, s3, rfl, a3, rfl⟩ := hargs
  exact ⟨v, _, rfl, a1, v2, _, rfl, a2, v3, _, rfl, nl_dI _ _ _ a3, rfl⟩
theorem textAll_fn (p n m : Int) (hn : n = 0 ∨ n = 1 ∨ n = 2) (hm : m = 0 ∨ m = 1 ∨ m = 2) (hs : ∀ n, lastI [p] n ≥ 0 → lastI [p] n = 0 ∨ lastI [p] n = 1 ∨ lastI [p] n = 2) : FnR Tryz.prog G0 12 [dG (.mk 10 p [] [fnG n m])] (.str (bs (allT p n m))) := by
  refine fnQ_of_vc txok mixed [] Tryz.func12 rfl rfl (by simp) fun b => ?_
  conv => whnf
  refine weakC _ (weak_nlC 1 1 5 1 1 rfl rfl) ?_
  refine callT [1, 2] (typAll_nl p n m hn hm hs) gf29 rfl rfl ⟨rfl, rfl, trivial⟩ rfl ?_
  rintro o' H' ⟨rfl, rfl⟩
  conv => whnf
  refine callT [1, 2] (bStr_tri true (allT p n m) (by simp [allT])) gf30 rfl rfl ⟨rfl, rfl, trivial⟩ rfl ?_
  rintro o' H' ⟨rfl, rfl⟩
  conv => whnf
  try exact rfl
theorem v_fn (n : Int) : FnR Tryz.prog G0 34 [.int .i64 n] (dG (varG n)) := by
  refine fnQ_of_vc txok mixed [] Tryz.func34 rfl rfl (by simp) fun b => ?_
  conv => whnf
  rfl
theorem fnw_fn (n m : Int) : FnR Tryz.prog G0 33 [dG (varG n), dG (varG m)] (dG (fnG n m)) := by
  refine fnQ_of_vc txok mixed [] Tryz.func33 rfl rfl (by simp) fun b => ?_
  conv => whnf
  rfl
theorem all_fn (p n m : Int) : FnR Tryz.prog G0 32 [.int .i64 p, dG (fnG n m)] (dG (.mk 10 p [] [fnG n m])) := by
  refine fnQ_of_vc txok mixed [] Tryz.func32 rfl rfl (by simp) fun b => ?_
  conv => whnf
  rfl
end Go.Proofs.YtohmeplcjgmedaaGreatDoor

/- alive. -/
set_option linter.unusedSimpArgs false
set_option linter.unusedVariables false
namespace Go.Proofs.YtohmeplcjgmedaaGreatDoor
open Go.Vx Go.Vc Go.RowKit

theorem last1 (p n : Int) (h : lastI [p] n ≥ 0) : lastI [p] n = 0 ∨ lastI [p] n = 1 ∨ lastI [p] n = 2 := by
  have h0 : prI [p] = [(0, p)] := rfl
  unfold lastI at h ⊢
  rw [h0] at h ⊢
  by_cases hp : p = n
  · left; simp [hp]
  · simp [hp] at h
def aG : TG := .mk 10 1 [] [fnG 1 2]
theorem freeS_fn : freeS (fnG 1 2) = [1, 2] := by
  unfold freeS
  have h : frG (fnG 1 2) [] = [1, 2] := by rfl
  rw [h]
  have h2 : srtI [1, 2] = [1, 2] := by
    unfold srtI
    exact List.mergeSort_of_pairwise (by simp)
  rw [h2]; rfl
theorem freeS_a : freeS aG = [2] := by
  unfold freeS
  have h : frG aG [] = [2] := by rfl
  rw [h]
  have h2 : srtI [2] = [2] := by
    unfold srtI
    exact List.mergeSort_singleton _
  rw [h2]; rfl
theorem put_a : putF (szG aG) aG 2 (varG 1) [1] = .mk 10 0 [] [fnG 0 1] := by
  have h : freshN [1] [fnG 1 2] 2 1 = 0 := by
    unfold freshN ownS
    rw [List.flatMap_cons, freeS_fn]
    rfl
  show putF 4 (.mk 10 1 [] [fnG 1 2]) 2 (varG 1) [1] = _
  rw [putF_mk, if_neg (by decide), if_neg (by decide), if_pos (by decide), h]
  rfl
theorem same1 : samG aG (.mk 10 7 [] [fnG 7 2]) [] [] = true := by kernel_rfl
theorem same2 : samG aG (.mk 10 7 [] [fnG 7 3]) [] [] = false := by kernel_rfl
theorem txt1 : bs (allT 1 1 2) = ⟨#[97, 108, 108, 32, 116, 48, 46, 32, 116, 48, 32, 45, 62, 32, 35, 50]⟩ := by kernel_rfl
theorem txt2 : bs (allT 0 0 1) = ⟨#[97, 108, 108, 32, 116, 48, 46, 32, 116, 48, 32, 45, 62, 32, 35, 49]⟩ := by kernel_rfl
theorem right_a : rightG aG = 0 := by kernel_rfl
theorem alive_fn : FnR Tryz.prog G0 14 [] (.bool true) := by
  refine fnQ_of_vc txok mixed [(2, .take 0 (.run 1 (.run 2 (.run 3 (.run 4 (.run 5 (.pure 6 (.take 7 (.run 8 (.run 9 (.run 10 (.run 11 (.run 12 (.pure 13 (.pure 14 (.pure 15 (.take 16 (.run 17 (.pure 18 (.pure 19 (.pure 20 (.take 21 (.run 22 (.run 23 (.run 24 (.pure 25 (.pure 26 (.pure 27 (.take 28 (.run 29 (.pure 30 (.pure 31 (.pure 32 (.take 33 (.run 34 (.pure 35 (.pure 36 (.pure 37 (.pure 38 .done)))))))))))))))))))))))))))))))))))))))] Tryz.func14 rfl rfl (by simp) fun b => ?_
  conv => whnf
  refine callF (v_fn 1) gf34 rfl rfl ?_
  conv => whnf
  refine callF (v_fn 2) gf34 rfl rfl ?_
  conv => whnf
  refine callF (fnw_fn 1 2) gf33 rfl rfl ?_
  conv => whnf
  refine callF (all_fn 1 1 2) gf32 rfl rfl ?_
  conv => whnf
  refine And.intro (by kernel_rfl) ?_
  conv => whnf
  refine callF (v_fn 7) gf34 rfl rfl ?_
  conv => whnf
  refine callF (v_fn 2) gf34 rfl rfl ?_
  conv => whnf
  refine callF (fnw_fn 7 2) gf33 rfl rfl ?_
  conv => whnf
  refine callF (all_fn 7 7 2) gf32 rfl rfl ?_
  conv => whnf
  refine callF (sameT_fn aG (.mk 10 7 [] [fnG 7 2]) (by decide)) gf16 rfl rfl ?_
  rw [same1]
  conv => whnf
  refine And.intro (fun _ => ?_) (fun h => by cases h)
  conv => whnf
  refine callF (v_fn 7) gf34 rfl rfl ?_
  conv => whnf
  refine callF (v_fn 3) gf34 rfl rfl ?_
  conv => whnf
  refine callF (fnw_fn 7 3) gf33 rfl rfl ?_
  conv => whnf
  refine callF (all_fn 7 7 3) gf32 rfl rfl ?_
  conv => whnf
  refine callF (sameT_fn aG (.mk 10 7 [] [fnG 7 3]) (by decide)) gf16 rfl rfl ?_
  rw [same2]
  conv => whnf
  refine And.intro (fun _ => ?_) (fun h => by cases h)
  conv => whnf
  refine callF (textAll_fn 1 1 2 (.inr (.inl rfl)) (.inr (.inr rfl)) (last1 1)) gf12 rfl rfl ?_
  rw [txt1]
  conv => whnf
  refine And.intro (fun _ => ?_) (fun h => by simp at h)
  conv => whnf
  refine callF (v_fn 1) gf34 rfl rfl ?_
  conv => whnf
  have hput := putTop_fn aG (by decide) 2 (varG 1) (by decide)
  rw [freeS_var, put_a] at hput
  refine callF hput gf35 rfl rfl ?_
  conv => whnf
  refine callF (textAll_fn 0 0 1 (.inl rfl) (.inr (.inl rfl)) (last1 0)) gf12 rfl rfl ?_
  rw [txt2]
  conv => whnf
  refine And.intro (fun _ => ?_) (fun h => by simp at h)
  conv => whnf
  refine callF (rightType_fn aG) gf5 rfl rfl ?_
  rw [right_a]
  conv => whnf
  refine And.intro (fun _ => ?_) (fun h => by simp at h)
  conv => whnf
  refine callF (freeT_fn aG (by decide)) gf8 rfl rfl ?_
  rw [freeS_a]
  conv => whnf
  try exact rfl
end Go.Proofs.YtohmeplcjgmedaaGreatDoor

/- The reference's RightType. -/
set_option linter.unusedSimpArgs false
set_option linter.unusedVariables false
namespace Go.Proofs.YtohmeplcjgmedaaGreatDoor
open Go.Vx Go.Vc Go.RowKit

theorem orderedR_fn (l : List ByteArray) : FnR Tryz.prog G0 46 [dL l] (.bool (ordS l)) := by
  refine fnQ_sz fun hs => ?_
  have hl := (szOk_sl hs.1).1
  simp only [LB] at hl
  refine fnQ_of_vc txok mixed [(4, .pure 0 (.pure 1 (.pure 2 (.pure 3 (.take 4 (.pure 5 (.pure 6 (.pure 7 (.take 8 (.pure 9 .done))))))))))] Tryz.func46 rfl rfl (by simp) fun b => ?_
  conv => whnf
  refine loopH (fun i : Nat => (i ≤ l.length ∨ i = 0) ∧ ordS l = ordS (l.drop i)) (fun i => l.length - i) (fun i => [(3, .d (.int .i64 ((i + 1 : Nat) : Int)))]) (fun _ => []) 0 0 ⟨by omega, rfl⟩ (weak_of rfl (by repeat ((conv => whnf); first | exact trivial | refine And.intro rfl ?_ | refine And.intro (incD (by omega)) ?_)) (by repeat ((conv => whnf); first | exact trivial | refine And.intro rfl ?_ | refine And.intro (incD (by omega)) ?_))) ?_
  rintro i ⟨hi, hx⟩
  conv => whnf
  refine And.intro (fun hb => ?_) (fun hb => ?_)
  · have hb : i + 1 < l.length := by have := of_decide_eq_true hb; omega
    rw [ordS_drop hb] at hx
    conv => whnf
    refine And.intro (by kernel_rfl) ?_
    conv => whnf
    have e1 : IntKind.i64.wrap (((i + 1 : Nat) : Int) - 1) = (i : Int) := (Go.Vc.wrap_small (by omega) (by omega)).trans (by omega)
    rw [e1]
    refine IdxC.encS i (by omega) rfl ?_
    conv => whnf
    refine IdxC.encS (i + 1) hb rfl ?_
    conv => whnf
    refine And.intro (fun he => ?_) (fun he => ?_)
    · conv => whnf
      refine congrArg D.bool ?_
      rw [hx]
      simp only [Bool.not_eq_true'] at he
      rw [he]; rfl
    · conv => whnf
      simp only [Bool.not_eq_false'] at he
      rw [he, Bool.true_and] at hx
      rw [incD (by omega)]
      exact again (i + 1) (by omega) ⟨by omega, hx⟩ (weak_of rfl (by repeat ((conv => whnf); first | exact trivial | refine And.intro rfl ?_ | refine And.intro (incD (by omega)) ?_)) (by repeat ((conv => whnf); first | exact trivial | refine And.intro rfl ?_ | refine And.intro (incD (by omega)) ?_)))
  · have hb : ¬ i + 1 < l.length := by have := of_decide_eq_false hb; omega
    conv => whnf
    refine congrArg D.bool ?_
    rw [hx]
    have : (l.drop i).length ≤ 1 := by simp; omega
    match h : l.drop i, this with
    | [], _ => rfl
    | [_], _ => rfl

def kidN (k : Int) : Int := if k = 1 ∨ k = 2 ∨ k = 3 ∨ k = 6 then 0 else if k = 4 ∨ k = 5 then 2 else if k = 7 ∨ k = 8 then -1 else if k = 9 ∨ k = 10 ∨ k = 11 then 1 else -2
theorem kidsR_fn (k : Int) : FnR Tryz.prog G0 44 [.int .i64 k] (.int .i64 (kidN k)) := by
  refine fnQ_of_vc txok mixed [] Tryz.func44 rfl rfl (by simp) fun b => ?_
  repeat' ((conv => whnf); refine And.intro (fun h => ?_) (fun h => ?_))
  all_goals (conv => whnf)
  all_goals refine congrArg (D.int .i64) ?_
  all_goals simp_all [kidN]
theorem bindsR_fn (k : Int) : FnR Tryz.prog G0 45 [.int .i64 k] (.bool (bndG k)) := by
  refine fnQ_of_vc txok mixed [] Tryz.func45 rfl rfl (by simp) fun b => ?_
  (repeat' ((conv => whnf); first | refine And.intro (fun _ => ?_) (fun _ => ?_))) <;> (conv => whnf)
  all_goals simp_all [bndG, retD]
def shA (k : Int) (len : Nat) : Bool := !(kidN k == -2 || (decide (kidN k ≥ 0) && ((len : Int) != kidN k)))
def shB (k n : Int) : Bool := !((n != 0 && (k != 6)) && !bndG k)
def shC (k : Int) (ls : List ByteArray) (len : Nat) : Bool := if k == 7 then !(((ls.length : Int) != (len : Int)) || !ordS ls) else !(decide ((ls.length : Int) > 0))
def shR (k n : Int) (ls : List ByteArray) (len : Nat) : Bool := shA k len && shB k n && shC k ls len
mutual
def rightR : TG → Bool
  | .mk k n ls l => shR k n ls l.length && rightRs l
def rightRs : List TG → Bool
  | [] => true
  | t :: r => rightR t && rightRs r
end
theorem rightRs_drop {l : List TG} {i : Nat} (h : i < l.length) : rightRs (l.drop i) = (rightR l[i] && rightRs (l.drop (i + 1))) := by
  rw [List.drop_eq_getElem_cons h, rightRs]
theorem rightR_fn : ∀ t : TG, FnR Tryz.prog G0 23 [dG t] (.bool (rightR t)) := by
  refine TG.ind fun k n ls ks ih => ?_
  refine fnQ_sz fun hs => ?_
  have hl := (szOk_G (t := .mk k n ls ks) hs.1).1
  simp only [g_kids, LB] at hl
  refine fnQ_of_vc txok mixed ((100004, .done) :: (100006, .done) :: [(100011, .done)]) Tryz.func23 rfl rfl (by simp) fun b => ?_
  conv => whnf
  refine callF (kidsR_fn k) gf44 rfl rfl ?_
  simp only [g_k]
  conv => whnf
  refine CutC.mk (fun st => shA k ks.length = true ∧ st = ⟨[(1, .own 0 0)], [(0, .blk 25 [.d (.int .i64 k), .d (.int .i64 n), .d (dL ls), .d (dGs ks)])], 1⟩) ?_ ?_
  · try simp only [g_k, g_n, g_ls, g_kids]
    repeat' ((conv => whnf); first
      | refine And.intro (fun h => ?_) (fun h => ?_)
      | refine callF (kidsR_fn k) gf44 rfl rfl ?_
      | refine callF (bindsR_fn k) gf45 rfl rfl ?_
      | refine callF (orderedR_fn ls) gf46 rfl rfl ?_)
    all_goals (conv => whnf)
    all_goals first
      | exact ⟨_, ⟨by simp_all [shA], rfl⟩, weak_of rfl (by repeat ((conv => whnf); first | exact trivial | refine And.intro rfl ?_ | refine And.intro (incD (by omega)) ?_)) (by repeat ((conv => whnf); first | exact trivial | refine And.intro rfl ?_ | refine And.intro (incD (by omega)) ?_))⟩
      | (refine congrArg D.bool ?_; rw [rightR, shR]; simp_all [shA])
  rintro st' ⟨hA, rfl⟩
  conv => whnf
  refine CutC.mk (fun st => shB k n = true ∧ st = ⟨[(1, .own 0 0)], [(0, .blk 25 [.d (.int .i64 k), .d (.int .i64 n), .d (dL ls), .d (dGs ks)])], 1⟩) ?_ ?_
  · try simp only [g_k, g_n, g_ls, g_kids]
    repeat' ((conv => whnf); first
      | refine And.intro (fun h => ?_) (fun h => ?_)
      | refine callF (kidsR_fn k) gf44 rfl rfl ?_
      | refine callF (bindsR_fn k) gf45 rfl rfl ?_
      | refine callF (orderedR_fn ls) gf46 rfl rfl ?_)
    all_goals (conv => whnf)
    all_goals first
      | exact ⟨_, ⟨by simp_all [shB], rfl⟩, weak_of rfl (by repeat ((conv => whnf); first | exact trivial | refine And.intro rfl ?_ | refine And.intro (incD (by omega)) ?_)) (by repeat ((conv => whnf); first | exact trivial | refine And.intro rfl ?_ | refine And.intro (incD (by omega)) ?_))⟩
      | (refine congrArg D.bool ?_; rw [rightR, shR]; simp_all [shB])
  rintro st' ⟨hB, rfl⟩
  conv => whnf
  refine CutC.mk (fun st => shC k ls ks.length = true ∧ st = ⟨[(1, .own 0 0)], [(0, .blk 25 [.d (.int .i64 k), .d (.int .i64 n), .d (dL ls), .d (dGs ks)])], 1⟩) ?_ ?_
  · try simp only [g_k, g_n, g_ls, g_kids]
    repeat' ((conv => whnf); first
      | refine And.intro (fun h => ?_) (fun h => ?_)
      | refine callF (kidsR_fn k) gf44 rfl rfl ?_
      | refine callF (bindsR_fn k) gf45 rfl rfl ?_
      | refine callF (orderedR_fn ls) gf46 rfl rfl ?_)
    all_goals (conv => whnf)
    all_goals first
      | exact ⟨_, ⟨by simp_all [shC], rfl⟩, weak_of rfl (by repeat ((conv => whnf); first | exact trivial | refine And.intro rfl ?_ | refine And.intro (incD (by omega)) ?_)) (by repeat ((conv => whnf); first | exact trivial | refine And.intro rfl ?_ | refine And.intro (incD (by omega)) ?_))⟩
      | (refine congrArg D.bool ?_; rw [rightR, shR]; simp_all [shC])
  rintro st' ⟨hC, rfl⟩
  have hR : rightR (.mk k n ls ks) = rightRs ks := by rw [rightR, shR, hA, hB, hC]; rfl
  rw [hR]
  conv => whnf
  simp only [g_kids]
  refine loopH (fun i : Nat => i ≤ ks.length ∧ rightRs ks = rightRs (ks.drop i)) (fun i => ks.length - i) (fun i => [(4, .d (.int .i64 i))]) (fun _ => [(0, .blk 25 [.d (.int .i64 k), .d (.int .i64 n), .d (dL ls), .d (dGs ks)])]) 1 0 ⟨by omega, rfl⟩ (weak_of rfl (by repeat ((conv => whnf); first | exact trivial | refine And.intro rfl ?_ | refine And.intro (incD (by omega)) ?_)) (by repeat ((conv => whnf); first | exact trivial | refine And.intro rfl ?_ | refine And.intro (incD (by omega)) ?_))) ?_
  rintro i ⟨hi, hx⟩
  conv => whnf
  refine And.intro (fun hb => ?_) (fun hb => ?_)
  · have hil : i < ks.length := by have := of_decide_eq_true hb; omega
    rw [rightRs_drop hil] at hx
    conv => whnf
    refine IdxC.encGs i hil rfl ?_
    conv => whnf
    refine callF (ih ks[i] (by simp)) gf23 rfl rfl ?_
    conv => whnf
    refine And.intro (fun h => ?_) (fun h => ?_)
    · conv => whnf
      refine congrArg D.bool ?_
      rw [hx]; simp_all
    · conv => whnf
      rw [incD (by omega)]
      exact again (i + 1) (by omega) ⟨by omega, by rw [hx]; simp_all⟩ (weak_of rfl (by repeat ((conv => whnf); first | exact trivial | refine And.intro rfl ?_ | refine And.intro (incD (by omega)) ?_)) (by repeat ((conv => whnf); first | exact trivial | refine And.intro rfl ?_ | refine And.intro (incD (by omega)) ?_)))
  · have hi : i = ks.length := by have := of_decide_eq_false hb; omega
    subst hi
    conv => whnf
    refine congrArg D.bool ?_
    rw [hx, List.drop_length]; rfl
end Go.Proofs.YtohmeplcjgmedaaGreatDoor

/- What the text of a target type is. -/
set_option linter.unusedVariables false
set_option linter.unusedSimpArgs false
namespace Go.Proofs.YtohmeplcjgmedaaGreatDoor
open Go.Vx Go.Vc Go.RowKit Go.Lib

def numA (s : List Int) (n : Int) : List UInt8 := if lastI s n ≥ 0 then 116 :: itoa (lastI s n) else 35 :: itoa n
/-- Not such as a type is. -/
def badN (k : Int) (lsl len : Nat) : Bool := kidN k == -2 || (decide (kidN k ≥ 0) && ((len : Int) != kidN k)) || (k == 7 && ((lsl : Int) != (len : Int)))
def parW (x : Int × List UInt8) : List UInt8 := if (x.1 == 4 || bndG x.1) = true then 40 :: (x.2 ++ [41]) else x.2
def wordN (k : Int) : List UInt8 := if k = 9 then [109, 117] else if k = 10 then [97, 108, 108] else [115, 111, 109, 101]
def labA (rc : Bool) (ls : List ByteArray) (i : Nat) : List UInt8 := if rc = true then (ls.getD i ⟨#[]⟩).data.toList ++ [58, 32] else []
def sepA (rc : Bool) (i : Nat) : List UInt8 := if i > 0 then (if rc = true then [44, 32] else [32, 124, 32]) else []
def itemsTo (rc : Bool) (ls : List ByteArray) (xs : List (Int × List UInt8)) : Nat → List UInt8
  | 0 => []
  | i + 1 => itemsTo rc ls xs i ++ (sepA rc i ++ (labA rc ls i ++ parW (xs.getD i (0, []))))
def at0 (xs : List (Int × List UInt8)) : Int × List UInt8 := xs.getD 0 (0, [])
def at1 (xs : List (Int × List UInt8)) : Int × List UInt8 := xs.getD 1 (0, [])
def txN (k n : Int) (ls : List ByteArray) (xs : List (Int × List UInt8)) (s : List Int) : List UInt8 :=
  if badN k ls.length xs.length = true then [63]
  else if k = 1 then [105, 110, 116]
  else if k = 2 then [98, 111, 111, 108]
  else if k = 3 then [117, 110, 105, 116]
  else if k = 6 then numA s n
  else if k = 4 then parW (at0 xs) ++ ([32, 45, 62, 32] ++ (at1 xs).2)
  else if k = 5 then [40] ++ (parW (at0 xs) ++ ([32, 42, 32] ++ (parW (at1 xs) ++ [41])))
  else if k = 7 then [123] ++ (itemsTo true ls xs xs.length ++ [125])
  else if k = 8 then [91] ++ (itemsTo false ls xs xs.length ++ [93])
  else wordN k ++ ([32, 116] ++ (itoa s.length ++ ([46, 32] ++ (at0 xs).2)))
mutual
def txG : TG → List Int → List UInt8
  | .mk k n ls l, s => txN k n ls (txs l (if bndG k = true then s ++ [n] else s)) s
def txs : List TG → List Int → List (Int × List UInt8)
  | [], _ => []
  | t :: r, s => (t.k, txG t s) :: txs r s
end
theorem txs_map (s : List Int) : ∀ l : List TG, txs l s = l.map fun t => (t.k, txG t s)
  | [] => by simp [txs]
  | t :: r => by simp [txs, txs_map s r]
theorem txs_len (l : List TG) (s : List Int) : (txs l s).length = l.length := by rw [txs_map]; simp
theorem txs_at (l : List TG) (s : List Int) (i : Nat) (h : i < l.length) : (txs l s).getD i (0, []) = (l[i].k, txG l[i] s) := by
  rw [txs_map, List.getD_eq_getElem?_getD, List.getElem?_map, List.getElem?_eq_getElem h]; rfl
theorem lastI_lt (s : List Int) (n : Int) : lastI s n < s.length := by
  unfold lastI
  split
  · rename_i p h
    have hm := List.mem_of_find?_eq_some h
    unfold prI at hm
    simp only [List.mem_map, List.mem_range] at hm
    obtain ⟨j, hj, rfl⟩ := hm
    simp only
    omega
  · omega
theorem numA_len {s : List Int} {n : Int} (hs : s.length < 9223372036854775807) (hn : -9223372036854775808 ≤ n ∧ n ≤ 9223372036854775807) : (numA s n).length ≤ 21 := by
  unfold numA
  have := lastI_lt s n
  split
  · have := itoa_len20 (n := lastI s n) ⟨by omega, by omega⟩
    simp only [List.length_cons]; omega
  · have := itoa_len20 (n := n) ⟨by omega, by omega⟩
    simp only [List.length_cons]; omega
theorem parW_len (x : Int × List UInt8) : (parW x).length ≤ x.2.length + 2 := by unfold parW; split <;> simp
/-- The list's labels and texts, in bytes. -/
def sumX (xs : List (Int × List UInt8)) : Nat := szs (fun x => x.2.length + 8) xs
theorem itemsTo_len (rc : Bool) (ls : List ByteArray) (xs : List (Int × List UInt8)) (hrc : rc = true → ls.length = xs.length) : ∀ i, i ≤ xs.length → (itemsTo rc ls xs i).length ≤ szs ByteArray.size (ls.take i) + sumX (xs.take i)
  | 0, _ => by simp [itemsTo]
  | i + 1, h => by
    have ih := itemsTo_len rc ls xs hrc i (by omega)
    have hx : xs.getD i (0, []) = xs[i] := by rw [List.getD_eq_getElem?_getD, List.getElem?_eq_getElem (by omega)]; rfl
    have e1 : sumX (xs.take (i + 1)) = sumX (xs.take i) + (xs[i].2.length + 8) := by rw [List.take_succ_eq_append_getElem (by omega)]; simp only [sumX, szs, List.map_append, List.sum_append, List.map_cons, List.map_nil, List.sum_cons, List.sum_nil, Nat.add_zero]
    have hp := parW_len xs[i]
    have hs : (sepA rc i).length ≤ 3 := by unfold sepA; repeat' split
                                           all_goals simp
    rw [itemsTo, hx, e1]
    simp only [List.length_append]
    by_cases hr : rc = true
    · have hl := hrc hr
      have hlt : i < ls.length := by omega
      have e2 : szs ByteArray.size (ls.take (i + 1)) = szs ByteArray.size (ls.take i) + ls[i].size := by rw [List.take_succ_eq_append_getElem hlt]; simp only [szs, List.map_append, List.sum_append, List.map_cons, List.map_nil, List.sum_cons, List.sum_nil, Nat.add_zero]
      have hlab : (labA rc ls i).length = ls[i].size + 2 := by
        unfold labA
        rw [if_pos hr, List.getD_eq_getElem?_getD, List.getElem?_eq_getElem hlt]
        simp
      rw [e2, hlab]
      have : (sepA rc i).length ≤ 2 := by unfold sepA; rw [hr]; split <;> simp
      omega
    · have hlab : (labA rc ls i).length = 0 := by unfold labA; rw [if_neg hr]; rfl
      have e2 : szs ByteArray.size (ls.take i) ≤ szs ByteArray.size (ls.take (i + 1)) := by
        by_cases hlt : i < ls.length
        · rw [List.take_succ_eq_append_getElem hlt]; simp only [szs, List.map_append, List.sum_append]; omega
        · rw [List.take_of_length_le (by omega), List.take_of_length_le (by omega)]; exact Nat.le_refl _
      rw [hlab]
      omega
theorem getD_le (xs : List (Int × List UInt8)) (i : Nat) : (xs.getD i (0, [])).2.length ≤ sumX xs := by
  by_cases h : i < xs.length
  · rw [List.getD_eq_getElem?_getD, List.getElem?_eq_getElem h]
    have := szs_mem (sz := fun x : Int × List UInt8 => x.2.length + 8) (List.getElem_mem h)
    simp only [sumX, Option.getD_some] at *; omega
  · rw [List.getD_eq_getElem?_getD, List.getElem?_eq_none (by omega)]; simp
theorem two_le {xs : List (Int × List UInt8)} : (xs.getD 0 (0, [])).2.length + (xs.getD 1 (0, [])).2.length ≤ sumX xs := by
  match xs with
  | [] => simp
  | [a] => simp [sumX, szs]
  | a :: c :: r => simp [sumX, szs]; omega
theorem txN_len (k n : Int) (ls : List ByteArray) (xs : List (Int × List UInt8)) (s : List Int) (hs : s.length < 9223372036854775807) (hn : -9223372036854775808 ≤ n ∧ n ≤ 9223372036854775807) : (txN k n ls xs s).length ≤ 40 + szs ByteArray.size ls + sumX xs := by
  have h1 := numA_len hs hn
  have h2 := two_le (xs := xs)
  have h3 := parW_len (at0 xs)
  have h4 := parW_len (at1 xs)
  have h5 := itoa_len20 (n := (s.length : Int)) ⟨by omega, by omega⟩
  have h6 : (wordN k).length ≤ 4 := by unfold wordN; repeat' split
                                       all_goals simp
  unfold at0 at1 at *
  unfold txN at0 at1
  repeat' split
  all_goals try simp only [List.length_cons, List.length_nil, List.length_append]
  all_goals try omega
  · rename_i hb _ _ _ _ _ _ h7
    have hr : ls.length = xs.length := by
      subst h7
      have hb : badN 7 ls.length xs.length = false := by simpa using hb
      have : ((ls.length : Int) != (xs.length : Int)) = false := by
        cases hc : ((ls.length : Int) != (xs.length : Int))
        · rfl
        · unfold badN at hb; rw [hc] at hb; simp at hb
      have := eq_of_beq (by simpa using this : ((ls.length : Int) == (xs.length : Int)) = true)
      omega
    have := itemsTo_len true ls xs (fun _ => hr) xs.length (Nat.le_refl _)
    rw [List.take_of_length_le (by omega), List.take_length] at this
    omega
  · have := itemsTo_len false ls xs (fun h => by cases h) xs.length (Nat.le_refl _)
    rw [List.take_length] at this
    have : szs ByteArray.size (ls.take xs.length) ≤ szs ByteArray.size ls := by
      conv => rhs; rw [← List.take_append_drop xs.length ls]
      simp [szs, -List.take_append_drop]
    omega
theorem txG_len : ∀ t : TG, i64G t → ∀ s : List Int, s.length + szB t < 9223372036854775807 → (txG t s).length + 8 ≤ 100 * szB t := by
  refine TG.ind fun k n ls l ih h s hs => ?_
  rw [i64G, i64Gs_iff] at h
  rw [szB, szBs_eq] at hs
  rw [txG, szB, szBs_eq]
  have hN := txN_len k n ls (txs l (if bndG k = true then s ++ [n] else s)) s (by omega) h.2.1
  have hX : sumX (txs l (if bndG k = true then s ++ [n] else s)) ≤ 100 * szs szB l := by
    have hs' : (if bndG k = true then s ++ [n] else s).length ≤ s.length + 1 := by split <;> simp
    generalize (if bndG k = true then s ++ [n] else s) = s' at *
    have : ∀ m : List TG, (∀ t ∈ m, t ∈ l) → sumX (txs m s') ≤ 100 * szs szB m := by
      intro m
      induction m with
      | nil => intro _; simp [txs, sumX, szs]
      | cons t r ihr =>
        intro hm
        have h1 := ihr fun u hu => hm u (by simp [hu])
        have h2 := szs_mem (sz := szB) (hm t (by simp))
        have h3 := ih t (hm t (by simp)) (h.2.2 t (hm t (by simp))) s' (by omega)
        have e : sumX (txs (t :: r) s') = ((txG t s').length + 8) + sumX (txs r s') := by rw [txs]; simp [sumX, szs]
        rw [e, szs_cons, Nat.mul_add]
        omega
    exact this l fun _ h => h
  have : szs ByteArray.size ls ≤ 100 * szs ByteArray.size ls := by omega
  omega
end Go.Proofs.YtohmeplcjgmedaaGreatDoor

/- What stands free, and what putting does to it. -/
set_option linter.unusedSimpArgs false
set_option linter.unusedVariables false
namespace Go.Proofs.YtohmeplcjgmedaaGreatDoor

theorem lastI_neg (s : List Int) (n : Int) : lastI s n < 0 ↔ n ∉ s := by
  unfold lastI
  constructor
  · intro h hn
    obtain ⟨i, hi, rfl⟩ := List.getElem_of_mem hn
    have hmem : (((i : Nat) : Int), s[i]) ∈ prI s := by
      unfold prI
      rw [List.mem_map]
      refine ⟨s.length - 1 - i, by rw [List.mem_range]; omega, ?_⟩
      have h1 : s.length - 1 - (s.length - 1 - i) = i := by omega
      rw [h1]
      simp [ixI, List.getD, hi]
    have h2 : ((prI s).find? fun p => p.2 == s[i]).isSome = true := by
      rw [List.find?_isSome]
      exact ⟨_, hmem, by simp⟩
    obtain ⟨p, hp⟩ := Option.isSome_iff_exists.1 h2
    rw [hp] at h
    have := List.mem_of_find?_eq_some hp
    unfold prI at this
    rw [List.mem_map] at this
    obtain ⟨j, _, rfl⟩ := this
    simp at h
    omega
  · intro hn
    have h2 : (prI s).find? (fun p => p.2 == n) = none := by
      rw [List.find?_eq_none]
      intro p hp
      unfold prI at hp
      rw [List.mem_map] at hp
      obtain ⟨j, hj, rfl⟩ := hp
      rw [List.mem_range] at hj
      have h3 : s.length - 1 - j < s.length := by omega
      simp only [ixI, List.getD, List.getElem?_eq_getElem h3, Option.getD_some, beq_iff_eq]
      intro e
      exact hn (e ▸ List.getElem_mem h3)
    rw [h2]
    decide
theorem lastI_end (s : List Int) (n : Int) : lastI (s ++ [n]) n = s.length := by
  unfold lastI prI
  have h1 : (s ++ [n]).length = s.length + 1 := by simp
  rw [h1, List.range_succ_eq_map, List.map_cons, List.find?_cons]
  have h2 : ixI (s ++ [n]) (s.length + 1 - 1 - 0) = n := by simp [ixI, List.getD]
  rw [h2]
  simp
theorem lastI_snoc (s : List Int) {n z : Int} (h : z ≠ n) : lastI (s ++ [n]) z = lastI s z := by
  unfold lastI prI
  have h1 : (s ++ [n]).length = s.length + 1 := by simp
  rw [h1, List.range_succ_eq_map, List.map_cons, List.find?_cons]
  have h2 : ixI (s ++ [n]) (s.length + 1 - 1 - 0) = n := by simp [ixI, List.getD]
  rw [h2]
  have h3 : (n == z) = false := by simpa using Ne.symm h
  simp only [h3]
  rw [List.map_map]
  have h4 : (List.range s.length).map ((fun j => (((s.length + 1 - 1 - j : Nat) : Int), ixI (s ++ [n]) (s.length + 1 - 1 - j))) ∘ Nat.succ) = (List.range s.length).map fun j => (((s.length - 1 - j : Nat) : Int), ixI s (s.length - 1 - j)) := by
    refine List.map_congr_left fun j hj => ?_
    rw [List.mem_range] at hj
    have e : s.length + 1 - 1 - Nat.succ j = s.length - 1 - j := by omega
    simp only [Function.comp, e]
    congr 1
    simp only [ixI, List.getD]
    rw [List.getElem?_append_left (by omega)]
  rw [h4]
/-! ### Sets of numbers -/
theorem mem_compactTo (d : Array Int) (x : Int) : ∀ m, x ∈ Go.Lib.compactUpTo d m ↔ ∃ j, j < m ∧ d[j]! = x
  | 0 => by simp [Go.Lib.compactUpTo]
  | m + 1 => by
    rw [Go.Lib.compactUpTo_succ, List.mem_append, mem_compactTo d x m]
    constructor
    · rintro (⟨j, hj, h⟩ | h)
      · exact ⟨j, by omega, h⟩
      · split at h
        · simp at h; exact ⟨m, by omega, h.symm⟩
        · cases h
    · rintro ⟨j, hj, h⟩
      by_cases hjm : j < m
      · exact .inl ⟨j, hjm, h⟩
      · obtain rfl : j = m := by omega
        by_cases hk : Go.Lib.keeps d j = true
        · right; rw [if_pos hk]; simp [h]
        · left
          have hj0 : 0 < j := by
            rcases Nat.eq_zero_or_pos j with h0 | h0
            · subst h0; exact absurd (Go.Lib.keeps_lt_one d 0 (by omega)) hk
            · exact h0
          have he : d[j]! = d[j - 1]! := by
            by_cases he : d[j]! = d[j - 1]!
            · exact he
            · exact absurd (Go.Lib.keeps_pos he) hk
          exact ⟨j - 1, by omega, by rw [← he]; exact h⟩
theorem mem_compact (l : List Int) (x : Int) : x ∈ Go.Lib.compact l ↔ x ∈ l := by
  unfold Go.Lib.compact
  rw [mem_compactTo]
  constructor
  · rintro ⟨j, hj, rfl⟩
    simp only [List.getElem!_toArray]
    rw [getElem!_pos l j hj]
    exact List.getElem_mem hj
  · intro h
    obtain ⟨i, hi, rfl⟩ := List.getElem_of_mem h
    refine ⟨i, hi, ?_⟩
    simp only [List.getElem!_toArray]
    rw [getElem!_pos l i hi]
theorem mem_freeS (t : TG) (x : Int) : x ∈ freeS t ↔ x ∈ frG t [] := by
  unfold freeS srtI
  rw [mem_compact, List.mem_mergeSort]
theorem mem_ownS (l : List TG) (x : Int) : x ∈ ownS l ↔ ∃ u ∈ l, x ∈ frG u [] := by
  unfold ownS
  rw [List.mem_flatMap]
  simp only [mem_freeS]
/-! ### What stands free -/
theorem mem_frGs (l : List TG) (s : List Int) (n : Int) : n ∈ frGs l s ↔ ∃ u ∈ l, n ∈ frG u s := by
  induction l with
  | nil => simp [frGs]
  | cons t r ih => rw [frGs, List.mem_append, ih]; simp
theorem mem_snocB (k p n : Int) (s : List Int) : n ∉ (if bndG k = true then s ++ [p] else s) ↔ n ∉ s ∧ (bndG k = true → n ≠ p) := by
  split <;> simp_all
theorem mem_frG : ∀ (t : TG) (s : List Int) (n : Int), n ∈ frG t s ↔ n ∈ frG t [] ∧ n ∉ s := by
  refine TG.ind fun k p ls l ih s n => ?_
  have key : ∀ s, n ∈ frG (.mk k p ls l) s ↔ n ∉ s ∧ ((k = 6 ∧ n = p) ∨ ((bndG k = true → n ≠ p) ∧ ∃ u ∈ l, n ∈ frG u [])) := by
    intro s
    rw [frG_mk, List.mem_append, mem_frGs]
    have h1 : (∃ u ∈ l, n ∈ frG u (if bndG k = true then s ++ [p] else s)) ↔ n ∉ s ∧ (bndG k = true → n ≠ p) ∧ ∃ u ∈ l, n ∈ frG u [] := by
      constructor
      · rintro ⟨u, hu, h⟩
        have h := (ih u hu _ n).1 h
        have h2 := (mem_snocB k p n s).1 h.2
        exact ⟨h2.1, h2.2, u, hu, h.1⟩
      · rintro ⟨h2, h3, u, hu, h⟩
        exact ⟨u, hu, (ih u hu _ n).2 ⟨h, (mem_snocB k p n s).2 ⟨h2, h3⟩⟩⟩
    rw [h1]
    have hl := lastI_neg s p
    by_cases h6 : k = 6 ∧ lastI s p < 0
    · rw [if_pos h6]
      have h6 : k = 6 ∧ p ∉ s := ⟨h6.1, hl.1 h6.2⟩
      simp only [List.mem_singleton]
      constructor
      · rintro (rfl | ⟨h2, h3, h4⟩)
        · exact ⟨h6.2, .inl ⟨h6.1, rfl⟩⟩
        · exact ⟨h2, .inr ⟨h3, h4⟩⟩
      · rintro ⟨h2, ⟨_, h3⟩ | ⟨h3, h4⟩⟩
        · exact .inl h3
        · exact .inr ⟨h2, h3, h4⟩
    · rw [if_neg h6]
      constructor
      · rintro (h | ⟨h2, h3, h4⟩)
        · cases h
        · exact ⟨h2, .inr ⟨h3, h4⟩⟩
      · rintro ⟨h2, ⟨h3, rfl⟩ | ⟨h3, h4⟩⟩
        · exact absurd ⟨h3, hl.2 h2⟩ h6
        · exact .inr ⟨h2, h3, h4⟩
  rw [key s, key []]
  simp only [List.not_mem_nil, not_false_eq_true, true_and]
  exact And.comm
theorem fv_mk (k p : Int) (ls : List ByteArray) (l : List TG) (n : Int) : n ∈ frG (.mk k p ls l) [] ↔ (k = 6 ∧ n = p) ∨ ((bndG k = true → n ≠ p) ∧ ∃ u ∈ l, n ∈ frG u []) := by
  rw [frG_mk, List.mem_append, mem_frGs]
  have h1 : (∃ u ∈ l, n ∈ frG u (if bndG k = true then [] ++ [p] else [])) ↔ (bndG k = true → n ≠ p) ∧ ∃ u ∈ l, n ∈ frG u [] := by
    constructor
    · rintro ⟨u, hu, h⟩
      have h := (mem_frG u _ n).1 h
      have h2 := (mem_snocB k p n []).1 h.2
      exact ⟨h2.2, u, hu, h.1⟩
    · rintro ⟨h3, u, hu, h⟩
      exact ⟨u, hu, (mem_frG u _ n).2 ⟨h, (mem_snocB k p n []).2 ⟨by simp, h3⟩⟩⟩
  rw [h1]
  have hl : lastI [] p < 0 := (lastI_neg [] p).2 (by simp)
  simp [hl]
/-! ### Types whose numbers have no parts -/
mutual
def okV : TG → Bool
  | .mk k _ ls l => (decide (k ≠ 6) || (l.isEmpty && ls.isEmpty)) && okVs l
def okVs : List TG → Bool
  | [] => true
  | t :: r => okV t && okVs r
end
theorem okVs_iff (l : List TG) : okVs l = true ↔ ∀ u ∈ l, okV u = true := by
  induction l with
  | nil => simp [okVs]
  | cons t r ih => simp [okVs, ih]
theorem okV_mk (k n : Int) (ls : List ByteArray) (l : List TG) : okV (.mk k n ls l) = true ↔ (k = 6 → l = [] ∧ ls = []) ∧ ∀ u ∈ l, okV u = true := by
  rw [okV, Bool.and_eq_true, okVs_iff, Bool.or_eq_true, decide_eq_true_eq, Bool.and_eq_true, List.isEmpty_iff, List.isEmpty_iff]
  by_cases h : k = 6 <;> simp [h]
theorem okV_var (m : Int) : okV (varG m) = true := rfl
theorem okV_put : ∀ (f : Nat) (t : TG) (x : Int) (y : TG) (fr : List Int), okV y = true → okV t = true → okV (putF f t x y fr) = true
  | 0, t, _, _, _, _, h => h
  | f + 1, .mk k n ls l, x, y, fr, hy, h => by
    rw [putF_mk]
    obtain ⟨h1, h2⟩ := (okV_mk k n ls l).1 h
    split
    · exact hy
    · split
      · exact h
      · split
        · refine (okV_mk _ _ _ _).2 ⟨fun h6 => by rw [(h1 h6).1]; exact ⟨rfl, (h1 h6).2⟩, fun u hu => ?_⟩
          rw [List.mem_map] at hu
          obtain ⟨v, hv, rfl⟩ := hu
          rw [List.mem_map] at hv
          obtain ⟨w, hw, rfl⟩ := hv
          exact okV_put f _ x y fr hy (okV_put f w _ _ _ (okV_var _) (h2 w hw))
        · refine (okV_mk _ _ _ _).2 ⟨fun h6 => by rw [(h1 h6).1]; exact ⟨rfl, (h1 h6).2⟩, fun u hu => ?_⟩
          rw [List.mem_map] at hu
          obtain ⟨v, hv, rfl⟩ := hu
          exact okV_put f v x y fr hy (h2 v hv)
theorem fv_var (m z : Int) : z ∈ frG (varG m) [] ↔ z = m := by
  unfold varG
  rw [fv_mk]
  simp
end Go.Proofs.YtohmeplcjgmedaaGreatDoor

/- Putting: what stands free behind it; the same type, where the number does not stand free. -/
set_option linter.unusedSimpArgs false
set_option linter.unusedVariables false
namespace Go.Proofs.YtohmeplcjgmedaaGreatDoor

theorem fresh_facts (fr : List Int) (l : List TG) (x n : Int) : freshN fr l x n ∉ fr ∧ (∀ u ∈ l, freshN fr l x n ∉ frG u []) ∧ freshN fr l x n ≠ x ∧ freshN fr l x n ≠ n := by
  have h := mex_not [fr, ownS l, [x, n]].flatten
  have h : freshN fr l x n ∉ [fr, ownS l, [x, n]].flatten := h
  simp only [List.flatten_cons, List.flatten_nil, List.append_nil, List.mem_append, List.mem_cons, List.not_mem_nil, or_false, not_or] at h
  obtain ⟨h1, h2, h3, h4⟩ := h
  exact ⟨h1, fun u hu hf => h2 ((mem_ownS l _).2 ⟨u, hu, hf⟩), h3, h4⟩
theorem fv_put : ∀ (f : Nat) (t : TG) (x : Int) (y : TG) (fr : List Int), szG t ≤ f → okV t = true → (∀ z, z ∈ fr ↔ z ∈ frG y []) → ∀ z, z ∈ frG (putF f t x y fr) [] ↔ (z ∈ frG t [] ∧ z ≠ x) ∨ (x ∈ frG t [] ∧ z ∈ frG y [])
  | 0, t, _, _, _, h, _, _, _ => by have := szG_pos t; omega
  | f + 1, .mk k n ls l, x, y, fr, h, hv, hfr, z => by
    have hl : ∀ u ∈ l, szG u ≤ f := fun u hu => by have := szG_mem hu; simp only [szG] at h; omega
    obtain ⟨h1, h2⟩ := (okV_mk k n ls l).1 hv
    have ih : ∀ u ∈ l, ∀ z, z ∈ frG (putF f u x y fr) [] ↔ (z ∈ frG u [] ∧ z ≠ x) ∨ (x ∈ frG u [] ∧ z ∈ frG y []) := fun u hu => fv_put f u x y fr (hl u hu) (h2 u hu) hfr
    rw [putF_mk]
    by_cases c1 : k = 6 ∧ n = x
    · rw [if_pos c1]
      obtain ⟨rfl, rfl⟩ := c1
      rw [(h1 rfl).1]
      simp only [fv_mk]
      simp
    rw [if_neg c1]
    by_cases c2 : bndG k = true ∧ n = x
    · rw [if_pos c2]
      obtain ⟨hb, rfl⟩ := c2
      simp only [fv_mk]
      have h6 : k ≠ 6 := by rintro rfl; exact absurd hb (by decide)
      simp [h6, hb]
      intro hz _ _ _; exact hz
    rw [if_neg c2]
    by_cases c3 : bndG k = true ∧ n ∈ fr ∧ 0 < l.length
    · rw [if_pos c3]
      obtain ⟨hb, hn, _⟩ := c3
      have h6 : k ≠ 6 := by rintro rfl; exact absurd hb (by decide)
      have hnx : n ≠ x := fun e => c2 ⟨hb, e⟩
      obtain ⟨m1, m2, m3, m4⟩ := fresh_facts fr l x n
      generalize freshN fr l x n = m at m1 m2 m3 m4 ⊢
      have m1 : m ∉ frG y [] := fun h => m1 ((hfr m).2 h)
      have ihn : ∀ u ∈ l, ∀ z, z ∈ frG (putF f u n (varG m) [m]) [] ↔ (z ∈ frG u [] ∧ z ≠ n) ∨ (n ∈ frG u [] ∧ z = m) := fun u hu z => by
        rw [fv_put f u n (varG m) [m] (hl u hu) (h2 u hu) (fun z => by rw [fv_var]; simp) z, fv_var]
      have ih2 : ∀ u ∈ l, ∀ z, z ∈ frG (putF f (putF f u n (varG m) [m]) x y fr) [] ↔ (((z ∈ frG u [] ∧ z ≠ n) ∨ (n ∈ frG u [] ∧ z = m)) ∧ z ≠ x) ∨ (((x ∈ frG u [] ∧ x ≠ n) ∨ (n ∈ frG u [] ∧ x = m)) ∧ z ∈ frG y []) := fun u hu z => by
        rw [fv_put f _ x y fr (Nat.le_trans (sz_put f u n (varG m) [m] (by simp [varG, szG, szGs])) (hl u hu)) (okV_put f u n _ _ (okV_var m) (h2 u hu)) hfr z, ihn u hu, ihn u hu]
      simp only [fv_mk, List.mem_map, List.map_map]
      constructor
      · rintro (⟨h, _⟩ | ⟨hz, u', ⟨u, hu, rfl⟩, h⟩)
        · exact absurd h h6
        · have hz := hz hb
          rcases (ih2 u hu z).1 h with ⟨⟨a, b⟩ | ⟨_, b⟩, c⟩ | ⟨⟨a, b⟩ | ⟨_, b⟩, c⟩
          · exact .inl ⟨.inr ⟨fun _ => b, u, hu, a⟩, c⟩
          · exact absurd b hz
          · exact .inr ⟨.inr ⟨fun _ => b, u, hu, a⟩, c⟩
          · exact absurd b.symm m3
      · rintro (⟨⟨h, _⟩ | ⟨hz, u, hu, a⟩, c⟩ | ⟨⟨h, _⟩ | ⟨hz, u, hu, a⟩, c⟩)
        · exact absurd h h6
        · exact .inr ⟨fun _ e => m2 u hu (e ▸ a), _, ⟨u, hu, rfl⟩, (ih2 u hu z).2 (.inl ⟨.inl ⟨a, hz hb⟩, c⟩)⟩
        · exact absurd h h6
        · exact .inr ⟨fun _ e => m1 (e ▸ c), _, ⟨u, hu, rfl⟩, (ih2 u hu z).2 (.inr ⟨.inl ⟨a, hz hb⟩, c⟩)⟩
    rw [if_neg c3]
    simp only [fv_mk, List.mem_map]
    have hnb : bndG k = true → l ≠ [] → n ∉ frG y [] := fun hb hl0 h => c3 ⟨hb, (hfr n).2 h, List.length_pos_iff.2 hl0⟩
    constructor
    · rintro (⟨hk, rfl⟩ | ⟨hz, u', ⟨u, hu, rfl⟩, h⟩)
      · exact .inl ⟨.inl ⟨hk, rfl⟩, fun e => c1 ⟨hk, e⟩⟩
      · rcases (ih u hu z).1 h with ⟨a, b⟩ | ⟨a, b⟩
        · exact .inl ⟨.inr ⟨hz, u, hu, a⟩, b⟩
        · exact .inr ⟨.inr ⟨fun hb e => c2 ⟨hb, e.symm⟩, u, hu, a⟩, b⟩
    · rintro (⟨⟨hk, rfl⟩ | ⟨hz, u, hu, a⟩, c⟩ | ⟨⟨hk, e⟩ | ⟨hx, u, hu, a⟩, c⟩)
      · exact .inl ⟨hk, rfl⟩
      · exact .inr ⟨hz, _, ⟨u, hu, rfl⟩, (ih u hu z).2 (.inl ⟨a, c⟩)⟩
      · exact absurd ⟨hk, e.symm⟩ c1
      · exact .inr ⟨fun hb e => hnb hb (fun e0 => by rw [e0] at hu; cases hu) (e ▸ c), _, ⟨u, hu, rfl⟩, (ih u hu z).2 (.inr ⟨a, c⟩)⟩
/-! ### The same type -/
theorem samGs_map {g h : TG → TG} {s t : List Int} : ∀ (l : List TG), (∀ u ∈ l, samG (g u) (h u) s t = true) → samGs (l.map g) (l.map h) s t = true
  | [], _ => rfl
  | u :: r, hh => by
    rw [List.map_cons, List.map_cons, samGs, hh u (by simp), samGs_map r fun v hv => hh v (by simp [hv])]; rfl
theorem samGs_trans {l m r : List TG} {c d e : List Int} : ∀ (_ : ∀ u ∈ l, ∀ v w, samG u v c d = true → samG v w d e = true → samG u w c e = true), l.length = m.length → m.length = r.length → samGs l m c d = true → samGs m r d e = true → samGs l r c e = true := by
  induction l generalizing m r with
  | nil => intro _ _ _ _ _; exact samGs_nil _ _ _
  | cons u l ih =>
    intro h h1 h2 h3 h4
    match m, r, h1, h2 with
    | v :: m, w :: r, h1, h2 =>
      rw [samGs, Bool.and_eq_true] at h3 h4 ⊢
      exact ⟨h u (by simp) v w h3.1 h4.1, ih (fun u hu => h u (by simp [hu])) (by simpa using h1) (by simpa using h2) h3.2 h4.2⟩
theorem sam_iff (k n : Int) (ls : List ByteArray) (ks : List TG) (k' n' : Int) (ls' : List ByteArray) (ks' : List TG) (s t : List Int) : samG (.mk k n ls ks) (.mk k' n' ls' ks') s t = true ↔
    k = k' ∧ ks.length = ks'.length ∧ ls = ls' ∧ (k = 6 → lastI s n = lastI t n' ∧ (lastI s n < 0 → n = n') ∧ samGs ks ks' s t = true) ∧ (bndG k = true → samGs ks ks' (s ++ [n]) (t ++ [n']) = true) ∧ (k ≠ 6 → bndG k = false → n = n' ∧ samGs ks ks' s t = true) := by
  rw [samG_mk]
  simp only [Bool.and_eq_true, decide_eq_true_eq]
  by_cases h6 : k = 6
  · subst h6
    have hb : bndG 6 = false := rfl
    by_cases hn : lastI s n < 0 <;> simp [hb, hn, and_assoc]
  · by_cases hb : bndG k = true <;> simp [h6, hb, and_assoc]
theorem sam_trans : ∀ (a b g : TG) (c d e : List Int), samG a b c d = true → samG b g d e = true → samG a g c e = true := by
  refine TG.ind fun k n ls ks ih b g c d e h1 h2 => ?_
  obtain ⟨k', n', ls', ks'⟩ := b
  obtain ⟨k2, n2, ls2, ks2⟩ := g
  obtain ⟨rfl, a2, rfl, a4, a5, a6⟩ := (sam_iff ..).1 h1
  obtain ⟨rfl, b2, rfl, b4, b5, b6⟩ := (sam_iff ..).1 h2
  have tr : ∀ c d e, samGs ks ks' c d = true → samGs ks' ks2 d e = true → samGs ks ks2 c e = true := fun c d e => samGs_trans (fun u hu v w => ih u hu v w c d e) a2 b2
  refine (sam_iff ..).2 ⟨rfl, a2.trans b2, rfl, fun h6 => ?_, fun hb => tr _ _ _ (a5 hb) (b5 hb), fun h6 hb => ⟨(a6 h6 hb).1.trans (b6 h6 hb).1, tr _ _ _ (a6 h6 hb).2 (b6 h6 hb).2⟩⟩
  obtain ⟨p1, p2, p3⟩ := a4 h6
  obtain ⟨q1, q2, q3⟩ := b4 h6
  exact ⟨p1.trans q1, fun hn => (p2 hn).trans (q2 (p1 ▸ hn)), tr _ _ _ p3 q3⟩
/-- The same type, in two contexts that tell its free numbers alike. -/
theorem sam_ctx : ∀ (t : TG) (c d : List Int), c.length = d.length → (∀ z ∈ frG t [], lastI c z = lastI d z) → samG t t c d = true := by
  refine TG.ind fun k n ls l ih c d hcd h => ?_
  have hz : ∀ z, (bndG k = true → z ≠ n) → (∃ u ∈ l, z ∈ frG u []) → lastI c z = lastI d z := fun z h1 h2 => h z ((fv_mk ..).2 (.inr ⟨h1, h2⟩))
  have key : ∀ c' d' : List Int, c'.length = d'.length → (∀ u ∈ l, ∀ z ∈ frG u [], lastI c' z = lastI d' z) → samGs l l c' d' = true := fun c' d' e hh => by
    have := samGs_map (g := id) (h := id) (s := c') (t := d') l fun u hu => ih u hu c' d' e (hh u hu)
    simpa using this
  refine (sam_iff ..).2 ⟨rfl, rfl, rfl, fun h6 => ⟨h n ((fv_mk ..).2 (.inl ⟨h6, rfl⟩)), fun _ => rfl, ?_⟩, fun hb => ?_, fun h6 hb => ⟨rfl, ?_⟩⟩
  · exact key c d hcd fun u hu z hzu => hz z (fun hb => absurd h6 (by rintro rfl; exact absurd hb (by decide))) ⟨u, hu, hzu⟩
  · refine key _ _ (by simp [hcd]) fun u hu z hzu => ?_
    by_cases e : z = n
    · subst e; rw [lastI_end, lastI_end, hcd]
    · rw [lastI_snoc c e, lastI_snoc d e]; exact hz z (fun _ => e) ⟨u, hu, hzu⟩
  · exact key c d hcd fun u hu z hzu => hz z (fun hb' => by rw [hb'] at hb; cases hb) ⟨u, hu, hzu⟩
end Go.Proofs.YtohmeplcjgmedaaGreatDoor

/- Renaming, and putting for a number that does not stand free: the same type. -/
set_option linter.unusedSimpArgs false
set_option linter.unusedVariables false
namespace Go.Proofs.YtohmeplcjgmedaaGreatDoor

theorem samGs_self {g : TG → TG} {s t : List Int} (l : List TG) (h : ∀ u ∈ l, samG (g u) u s t = true) : samGs (l.map g) l s t = true := by
  have := samGs_map (g := g) (h := id) l h
  simpa using this
theorem bnd_ne6 {k : Int} (h : bndG k = true) : k ≠ 6 := by rintro rfl; exact absurd h (by decide)
theorem sam_ren : ∀ (f : Nat) (t : TG) (n m : Int) (c d : List Int), szG t ≤ f → okV t = true → m ∉ frG t [] → m ≠ n → c.length = d.length → (∀ z ∈ frG t [], z ≠ n → lastI c z = lastI d z) → (n ∈ frG t [] → lastI c m = lastI d n ∧ 0 ≤ lastI d n) → samG (putF f t n (varG m) [m]) t c d = true
  | 0, t, _, _, _, _, h, _, _, _, _, _, _ => by have := szG_pos t; omega
  | f + 1, .mk k p ls l, n, m, c, d, h, hv, hm, hmn, hcd, hz, hn => by
    have hl : ∀ u ∈ l, szG u ≤ f := fun u hu => by have := szG_mem hu; simp only [szG] at h; omega
    obtain ⟨h1, h2⟩ := (okV_mk k p ls l).1 hv
    have fvt : ∀ z, (bndG k = true → z ≠ p) → (∃ u ∈ l, z ∈ frG u []) → z ∈ frG (.mk k p ls l) [] := fun z a b => (fv_mk ..).2 (.inr ⟨a, b⟩)
    rw [putF_mk]
    by_cases c1 : k = 6 ∧ p = n
    · rw [if_pos c1]
      obtain ⟨rfl, rfl⟩ := c1
      obtain ⟨rfl, rfl⟩ := h1 rfl
      obtain ⟨q1, q2⟩ := hn ((fv_mk ..).2 (.inl ⟨rfl, rfl⟩))
      unfold varG
      exact (sam_iff ..).2 ⟨rfl, rfl, rfl, fun _ => ⟨q1, fun h => by omega, rfl⟩, fun hb => absurd rfl (bnd_ne6 hb), fun h => absurd rfl h⟩
    rw [if_neg c1]
    by_cases c2 : bndG k = true ∧ p = n
    · rw [if_pos c2]
      obtain ⟨hb, rfl⟩ := c2
      refine sam_ctx _ c d hcd fun z hzt => hz z hzt ?_
      rcases (fv_mk ..).1 hzt with ⟨h6, _⟩ | ⟨h3, _⟩
      · exact absurd h6 (bnd_ne6 hb)
      · exact h3 hb
    rw [if_neg c2]
    by_cases c3 : bndG k = true ∧ p ∈ [m] ∧ 0 < l.length
    · rw [if_pos c3]
      obtain ⟨hb, hpm, _⟩ := c3
      obtain rfl : p = m := by simpa using hpm
      obtain ⟨m1, m2, m3, m4⟩ := fresh_facts [p] l n p
      generalize freshN [p] l n p = q at m1 m2 m3 m4 ⊢
      refine (sam_iff ..).2 ⟨rfl, by simp, rfl, fun h6 => absurd h6 (bnd_ne6 hb), fun _ => ?_, fun _ hb' => by rw [hb] at hb'; cases hb'⟩
      rw [List.map_map]
      refine samGs_self l fun u hu => ?_
      have fu : ∀ z, z ∈ frG (putF f u p (varG q) [q]) [] ↔ (z ∈ frG u [] ∧ z ≠ p) ∨ (p ∈ frG u [] ∧ z = q) := fun z => by
        rw [fv_put f u p (varG q) [q] (hl u hu) (h2 u hu) (fun z => by rw [fv_var]; simp) z, fv_var]
      refine sam_trans _ (putF f u p (varG q) [q]) u (c ++ [q]) (d ++ [q]) (d ++ [p]) ?_ ?_
      · refine sam_ren f _ n p (c ++ [q]) (d ++ [q]) (Nat.le_trans (sz_put f u p (varG q) [q] (by simp [varG, szG, szGs])) (hl u hu)) (okV_put f u p _ _ (okV_var q) (h2 u hu)) ?_ hmn (by simp [hcd]) ?_ ?_
        · intro hp
          rcases (fu p).1 hp with ⟨_, e⟩ | ⟨_, e⟩
          · exact e rfl
          · exact m4 e.symm
        · intro z hzu hzn
          by_cases e : z = q
          · subst e; rw [lastI_end, lastI_end, hcd]
          · rw [lastI_snoc c e, lastI_snoc d e]
            rcases (fu z).1 hzu with ⟨a, b⟩ | ⟨_, e'⟩
            · exact hz z (fvt z (fun _ => b) ⟨u, hu, a⟩) hzn
            · exact absurd e' e
        · intro hnu
          rcases (fu n).1 hnu with ⟨a, b⟩ | ⟨_, e'⟩
          · rw [lastI_snoc c (Ne.symm m4), lastI_snoc d (Ne.symm m3)]
            exact hn (fvt n (fun _ => b) ⟨u, hu, a⟩)
          · exact absurd e'.symm m3
      · refine sam_ren f u p q (d ++ [q]) (d ++ [p]) (hl u hu) (h2 u hu) (m2 u hu) m4 (by simp) ?_ ?_
        · intro z hzu hzp
          have e : z ≠ q := fun e => m2 u hu (e ▸ hzu)
          rw [lastI_snoc d e, lastI_snoc d hzp]
        · intro _
          rw [lastI_end, lastI_end]
          exact ⟨rfl, by omega⟩
    rw [if_neg c3]
    refine (sam_iff ..).2 ⟨rfl, by simp, rfl, fun h6 => ?_, fun hb => ?_, fun h6 hb => ⟨rfl, ?_⟩⟩
    · have hpn : p ≠ n := fun e => c1 ⟨h6, e⟩
      refine ⟨hz p ((fv_mk ..).2 (.inl ⟨h6, rfl⟩)) hpn, fun _ => rfl, ?_⟩
      rw [(h1 h6).1]; rfl
    · refine samGs_self l fun u hu => ?_
      have hl0 : 0 < l.length := List.length_pos_of_mem hu
      have hpm : p ≠ m := fun e => c3 ⟨hb, by simp [e], hl0⟩
      have hpn : p ≠ n := fun e => c2 ⟨hb, e⟩
      refine sam_ren f u n m (c ++ [p]) (d ++ [p]) (hl u hu) (h2 u hu) (fun hmu => hm (fvt m (fun _ => Ne.symm hpm) ⟨u, hu, hmu⟩)) hmn (by simp [hcd]) ?_ ?_
      · intro z hzu hzn
        by_cases e : z = p
        · subst e; rw [lastI_end, lastI_end, hcd]
        · rw [lastI_snoc c e, lastI_snoc d e]
          exact hz z (fvt z (fun _ => e) ⟨u, hu, hzu⟩) hzn
      · intro hnu
        rw [lastI_snoc c (Ne.symm hpm), lastI_snoc d (Ne.symm hpn)]
        exact hn (fvt n (fun _ => Ne.symm hpn) ⟨u, hu, hnu⟩)
    · refine samGs_self l fun u hu => ?_
      have nb : bndG k = true → False := fun h => by rw [h] at hb; cases hb
      exact sam_ren f u n m c d (hl u hu) (h2 u hu) (fun hmu => hm (fvt m (fun h => (nb h).elim) ⟨u, hu, hmu⟩)) hmn hcd (fun z hzu hzn => hz z (fvt z (fun h => (nb h).elim) ⟨u, hu, hzu⟩) hzn) (fun hnu => hn (fvt n (fun h => (nb h).elim) ⟨u, hu, hnu⟩))
theorem sam_put : ∀ (f : Nat) (t : TG) (x : Int) (y : TG) (fr c : List Int), szG t ≤ f → okV t = true → x ∉ frG t [] → samG (putF f t x y fr) t c c = true
  | 0, t, _, _, _, _, h, _, _ => by have := szG_pos t; omega
  | f + 1, .mk k p ls l, x, y, fr, c, h, hv, hx => by
    have hl : ∀ u ∈ l, szG u ≤ f := fun u hu => by have := szG_mem hu; simp only [szG] at h; omega
    obtain ⟨h1, h2⟩ := (okV_mk k p ls l).1 hv
    have fvt : ∀ z, (bndG k = true → z ≠ p) → (∃ u ∈ l, z ∈ frG u []) → z ∈ frG (.mk k p ls l) [] := fun z a b => (fv_mk ..).2 (.inr ⟨a, b⟩)
    rw [putF_mk]
    by_cases c1 : k = 6 ∧ p = x
    · exact absurd ((fv_mk ..).2 (.inl ⟨c1.1, c1.2.symm⟩)) hx
    rw [if_neg c1]
    by_cases c2 : bndG k = true ∧ p = x
    · rw [if_pos c2]
      exact sam_ctx _ c c rfl fun _ _ => rfl
    rw [if_neg c2]
    by_cases c3 : bndG k = true ∧ p ∈ fr ∧ 0 < l.length
    · rw [if_pos c3]
      obtain ⟨hb, _, _⟩ := c3
      have hpx : p ≠ x := fun e => c2 ⟨hb, e⟩
      obtain ⟨m1, m2, m3, m4⟩ := fresh_facts fr l x p
      generalize freshN fr l x p = q at m1 m2 m3 m4 ⊢
      refine (sam_iff ..).2 ⟨rfl, by simp, rfl, fun h6 => absurd h6 (bnd_ne6 hb), fun _ => ?_, fun _ hb' => by rw [hb] at hb'; cases hb'⟩
      rw [List.map_map]
      refine samGs_self l fun u hu => ?_
      have fu : ∀ z, z ∈ frG (putF f u p (varG q) [q]) [] ↔ (z ∈ frG u [] ∧ z ≠ p) ∨ (p ∈ frG u [] ∧ z = q) := fun z => by
        rw [fv_put f u p (varG q) [q] (hl u hu) (h2 u hu) (fun z => by rw [fv_var]; simp) z, fv_var]
      refine sam_trans _ (putF f u p (varG q) [q]) u (c ++ [q]) (c ++ [q]) (c ++ [p]) ?_ ?_
      · refine sam_put f _ x y fr (c ++ [q]) (Nat.le_trans (sz_put f u p (varG q) [q] (by simp [varG, szG, szGs])) (hl u hu)) (okV_put f u p _ _ (okV_var q) (h2 u hu)) ?_
        intro hxu
        rcases (fu x).1 hxu with ⟨a, b⟩ | ⟨_, e'⟩
        · exact hx (fvt x (fun _ => b) ⟨u, hu, a⟩)
        · exact m3 e'.symm
      · refine sam_ren f u p q (c ++ [q]) (c ++ [p]) (hl u hu) (h2 u hu) (m2 u hu) m4 (by simp) ?_ ?_
        · intro z hzu hzp
          have e : z ≠ q := fun e => m2 u hu (e ▸ hzu)
          rw [lastI_snoc c e, lastI_snoc c hzp]
        · intro _
          rw [lastI_end, lastI_end]
          exact ⟨rfl, by omega⟩
    rw [if_neg c3]
    refine (sam_iff ..).2 ⟨rfl, by simp, rfl, fun h6 => ⟨rfl, fun _ => rfl, by rw [(h1 h6).1]; rfl⟩, fun hb => ?_, fun h6 hb => ⟨rfl, ?_⟩⟩
    · refine samGs_self l fun u hu => ?_
      have hpx : p ≠ x := fun e => c2 ⟨hb, e⟩
      exact sam_put f u x y fr (c ++ [p]) (hl u hu) (h2 u hu) (fun hxu => hx (fvt x (fun _ => Ne.symm hpx) ⟨u, hu, hxu⟩))
    · refine samGs_self l fun u hu => ?_
      have nb : bndG k = true → False := fun h => by rw [h] at hb; cases hb
      exact sam_put f u x y fr c (hl u hu) (h2 u hu) (fun hxu => hx (fvt x (fun h => (nb h).elim) ⟨u, hu, hxu⟩))
end Go.Proofs.YtohmeplcjgmedaaGreatDoor

/- The reference's RightType, Put1, Ints. -/
set_option linter.unusedSimpArgs false
set_option linter.unusedVariables false
namespace Go.Proofs.YtohmeplcjgmedaaGreatDoor
open Go.Vx Go.Vc Go.RowKit

def deepR : Nat → TG → Bool
  | 0, _ => true
  | n + 1, t => t.kids.any (deepR n)
theorem deepR_fn : ∀ (n : Nat) (t : TG), n ≤ 100000 → FnR Tryz.prog G0 22 [dG t, .int .i64 n] (.bool (deepR n t)) := by
  intro n
  induction n with
  | zero =>
    intro t _
    refine fnQ_of_vc txok mixed [] Tryz.func22 rfl rfl (by simp) fun b => ?_
    conv => whnf
    refine And.intro (fun h => ?_) (fun h => by simp at h)
    conv => whnf
    try exact rfl
  | succ q ihn =>
    intro t hq
    obtain ⟨k, n, ls, ks⟩ := t
    refine fnQ_sz fun hs => ?_
    have hl := (szOk_G (t := .mk k n ls ks) hs.1).1
    simp only [g_kids, LB] at hl
    refine fnQ_of_vc txok mixed [] Tryz.func22 rfl rfl (by simp) fun b => ?_
    conv => whnf
    refine And.intro (fun h => by simp at h; omega) (fun h => ?_)
    have hR : deepR (q + 1) (.mk k n ls ks) = ks.any (deepR q) := rfl
    rw [hR]
    conv => whnf
    simp only [g_kids]
    refine loopH (fun i : Nat => i ≤ ks.length ∧ ks.any (deepR q) = (ks.drop i).any (deepR q)) (fun i => ks.length - i) (fun i => [(5, .d (.int .i64 i))]) (fun _ => [(0, .blk 25 [.d (.int .i64 k), .d (.int .i64 n), .d (dL ls), .d (dGs ks)])]) 1 0 ⟨by omega, rfl⟩ (weak_of rfl (by repeat ((conv => whnf); first | exact trivial | refine And.intro rfl ?_ | refine And.intro (incD (by omega)) ?_)) (by repeat ((conv => whnf); first | exact trivial | refine And.intro rfl ?_ | refine And.intro (incD (by omega)) ?_))) ?_
    rintro i ⟨hi, hx⟩
    conv => whnf
    refine And.intro (fun hb => ?_) (fun hb => ?_)
    · have hil : i < ks.length := by have := of_decide_eq_true hb; omega
      rw [List.drop_eq_getElem_cons hil, List.any_cons] at hx
      conv => whnf
      refine IdxC.encGs i hil rfl ?_
      conv => whnf
      rw [show IntKind.i64.wrap (((q + 1 : Nat) : Int) - 1) = (q : Int) from (Go.Vc.wrap_small (by omega) (by omega)).trans (by omega)]
      refine callF (ihn ks[i] (by omega)) gf22 rfl rfl ?_
      conv => whnf
      refine And.intro (fun h => ?_) (fun h => ?_)
      · conv => whnf
        refine congrArg D.bool ?_
        rw [hx, h]; rfl
      · conv => whnf
        rw [incD (by omega)]
        exact again (i + 1) (by omega) ⟨by omega, by rw [hx, h]; rfl⟩ (weak_of rfl (by repeat ((conv => whnf); first | exact trivial | refine And.intro rfl ?_ | refine And.intro (incD (by omega)) ?_)) (by repeat ((conv => whnf); first | exact trivial | refine And.intro rfl ?_ | refine And.intro (incD (by omega)) ?_)))
    · have hi : i = ks.length := by have := of_decide_eq_false hb; omega
      subst hi
      conv => whnf
      refine congrArg D.bool ?_
      rw [hx, List.drop_length]; rfl
def rtR (t : TG) : Int := if deepR 100000 t = true then 4 else if rightR t = true then 0 else 1
theorem rtR_fn (t : TG) : FnR Tryz.prog G0 6 [dG t] (.int .i64 (rtR t)) := by
  refine fnQ_of_vc txok mixed [] Tryz.func6 rfl rfl (by simp) fun b => ?_
  conv => whnf
  refine callF (deepR_fn 100000 t (by omega)) gf22 rfl rfl ?_
  conv => whnf
  refine And.intro (fun h => ?_) (fun h => ?_)
  · conv => whnf
    rw [rtR, if_pos h]
  · conv => whnf
    refine callF (rightR_fn t) gf23 rfl rfl ?_
    conv => whnf
    refine And.intro (fun h2 => ?_) (fun h2 => ?_)
    · conv => whnf
      rw [rtR, if_neg (by simp [h]), if_neg (by simpa using h2)]
    · conv => whnf
      rw [rtR, if_neg (by simp [h]), if_pos (by simpa using h2)]
/-! ### Sets of numbers -/
def insF : List Int → Int → List Int
  | [], x => [x]
  | y :: r, x => if y > x then x :: y :: r else y :: insF r x
def put1 (l : List Int) (x : Int) : List Int := if x ∈ l then l else insF l x
theorem ints_fn (a c : List Int) : FnR Tryz.prog G0 7 [dI a, dI c] (.bool (decide (a = c))) := by
  refine fnQ_sz fun hs => ?_
  have hl := (szOk_sl hs.1).1
  simp only [LB] at hl
  refine fnQ_of_vc txok mixed [(6, .pure 0 (.pure 1 (.pure 2 (.take 3 (.pure 4 (.pure 5 (.pure 6 (.take 7 (.pure 8 .done)))))))))] Tryz.func7 rfl rfl (by simp) fun b => ?_
  conv => whnf
  refine And.intro (fun h => ?_) (fun h => ?_)
  · have h : a.length ≠ c.length := by intro e; rw [e] at h; simp at h
    conv => whnf
    refine congrArg D.bool ?_
    rw [eq_comm, decide_eq_false_iff_not]
    intro e; exact h (by rw [e])
  have h : a.length = c.length := by
    have : ((a.length : Int) == (c.length : Int)) = true := by simpa using h
    have := eq_of_beq this; omega
  conv => whnf
  refine loopH (fun i : Nat => i ≤ a.length ∧ a.take i = c.take i) (fun i => a.length - i) (fun i => [(5, .d (.int .i64 i))]) (fun _ => []) 0 0 ⟨by omega, rfl⟩ (weak_of rfl (by repeat ((conv => whnf); first | exact trivial | refine And.intro rfl ?_ | refine And.intro (incD (by omega)) ?_)) (by repeat ((conv => whnf); first | exact trivial | refine And.intro rfl ?_ | refine And.intro (incD (by omega)) ?_))) ?_
  rintro i ⟨hi, hx⟩
  conv => whnf
  refine And.intro (fun hb => ?_) (fun hb => ?_)
  · have hil : i < a.length := by have := of_decide_eq_true hb; omega
    have hil2 : i < c.length := by omega
    conv => whnf
    refine And.intro (by kernel_rfl) ?_
    conv => whnf
    refine IdxC.encI i hil rfl ?_
    conv => whnf
    refine IdxC.encI i hil2 rfl ?_
    conv => whnf
    refine And.intro (fun he => ?_) (fun he => ?_)
    · have he : a[i] ≠ c[i] := by simpa using he
      conv => whnf
      refine congrArg D.bool ?_
      rw [eq_comm, decide_eq_false_iff_not]
      intro e; subst e; exact he rfl
    · have he : a[i] = c[i] := by simpa using he
      conv => whnf
      rw [incD (by omega)]
      exact again (i + 1) (by omega) ⟨by omega, by rw [List.take_succ_eq_append_getElem hil, List.take_succ_eq_append_getElem hil2, hx, he]⟩ (weak_of rfl (by repeat ((conv => whnf); first | exact trivial | refine And.intro rfl ?_ | refine And.intro (incD (by omega)) ?_)) (by repeat ((conv => whnf); first | exact trivial | refine And.intro rfl ?_ | refine And.intro (incD (by omega)) ?_)))
  · have hi : i = a.length := by have := of_decide_eq_false hb; omega
    subst hi
    conv => whnf
    refine congrArg D.bool ?_
    rw [eq_comm, decide_eq_true_eq]
    rw [List.take_length, h, List.take_length] at hx
    exact hx
end Go.Proofs.YtohmeplcjgmedaaGreatDoor

/- Put1. -/
set_option linter.unusedSimpArgs false
set_option linter.unusedVariables false
namespace Go.Proofs.YtohmeplcjgmedaaGreatDoor
open Go.Vx Go.Vc Go.RowKit

def restF (d : Bool) (l : List Int) (x : Int) : List Int := match d with
  | true => l
  | false => insF l x
def p1H (o : List Int) : Hp := [(0, .row 3 8 1 o.length (Vx.encI o))]
theorem put1_fn (l : List Int) (x : Int) (hl : l.length < 1099511627776) : FnR Tryz.prog G0 53 [dI l, .int .i64 x] (dI (put1 l x)) := by
  refine fnQ_of_vc txok mixed [] Tryz.func53 rfl rfl (by simp) fun b => ?_
  conv => whnf
  refine loopH (fun y : Nat × Bool × List Int => y.1 ≤ l.length ∧ x ∉ l.take y.1 ∧ insF l x = y.2.2 ++ restF y.2.1 (l.drop y.1) x ∧ y.2.2.length ≤ y.1 + y.2.1.toNat) (fun y => l.length - y.1) (fun y => [(7, .d (.int .i64 y.1)), (6, .d (.bool y.2.1)), (5, .row 0)]) (fun y => p1H y.2.2) 1 (0, false, []) ⟨by simp, by simp, by simp [restF], by simp⟩ (((weak_kbT 6 false rfl).trans (weak_nlT 5 3 8 1 rfl)).trans (weak_of rfl (by repeat ((conv => whnf); first | exact trivial | refine And.intro rfl ?_ | refine And.intro (incD (by omega)) ?_)) (by repeat ((conv => whnf); first | exact trivial | refine And.intro rfl ?_ | refine And.intro (incD (by omega)) ?_)))) ?_
  rintro ⟨i, d, o⟩ ⟨hi, hx, ho, hlen⟩
  simp only at hi hx ho hlen
  have hd1 : d.toNat ≤ 1 := by cases d <;> decide
  conv => whnf
  refine And.intro (fun hb => ?_) (fun hb => ?_)
  · have hil : i < l.length := by have := of_decide_eq_true hb; omega
    have htk : l.take (i + 1) = l.take i ++ [l[i]] := List.take_succ_eq_append_getElem hil
    rw [List.drop_eq_getElem_cons hil] at ho
    conv => whnf
    refine IdxC.encI i hil rfl ?_
    conv => whnf
    refine And.intro (fun he => ?_) (fun he => ?_)
    · have he : l[i] = x := eq_of_beq he
      conv => whnf
      rw [put1, if_pos (he ▸ List.getElem_mem hil)]
    · have he : l[i] ≠ x := by simpa using he
      have hx' : x ∉ l.take (i + 1) := by
        rw [htk, List.mem_append, List.mem_singleton, not_or]
        exact ⟨hx, fun e => he e.symm⟩
      conv => whnf
      refine And.intro (fun h => ?_) (fun h => ?_)
      · have h : d = false := by simpa using h
        subst h
        conv => whnf
        refine IdxC.encI i hil rfl ?_
        conv => whnf
        refine And.intro (fun h2 => ?_) (fun h2 => ?_)
        · have h2 := of_decide_eq_true h2
          rw [restF, insF, if_pos h2] at ho
          conv => whnf
          refine appR (i := 0) (sz := 1) (n := (o).length) (m := 1) (xs := Vx.encI (o)) (ys := [.int .i64 (x)]) txok (fun k => Nat.ble 1 k) (o ++ [x]).length (Vx.encI (o ++ [x])) (by exact rfl) (by exact rfl) (by exact rfl) (by kernel_rfl) (by exact rfl) (scalDs_mem (by exact rfl)) (by simp) (by simp [Vx.encI]) (by simp only [LB, List.length_append, List.length_cons, List.length_nil]; omega) ?_
          conv => whnf
          refine IdxC.encI i hil rfl ?_
          conv => whnf
          refine appR (i := 0) (sz := 1) (n := (o ++ [x]).length) (m := 1) (xs := Vx.encI (o ++ [x])) (ys := [.int .i64 (l[i])]) txok (fun k => Nat.ble 1 k) (o ++ [x] ++ [l[i]]).length (Vx.encI (o ++ [x] ++ [l[i]])) (by exact rfl) (by exact rfl) (by exact rfl) (by kernel_rfl) (by exact rfl) (scalDs_mem (by exact rfl)) (by simp) (by simp [Vx.encI]) (by simp only [LB, List.length_append, List.length_cons, List.length_nil]; omega) ?_
          conv => whnf
          rw [incD (by omega)]
          exact again (i + 1, true, o ++ [x] ++ [l[i]]) (by simp; omega) ⟨by simp; omega, hx', by rw [ho]; simp [restF], by simp at hlen ⊢; omega⟩ ((weak_kbT 6 true rfl).trans (weak_of rfl (by repeat ((conv => whnf); first | exact trivial | refine And.intro rfl ?_ | refine And.intro (incD (by omega)) ?_)) (by repeat ((conv => whnf); first | exact trivial | refine And.intro rfl ?_ | refine And.intro (incD (by omega)) ?_))))
        · have h2 := of_decide_eq_false h2
          rw [restF, insF, if_neg h2] at ho
          conv => whnf
          refine IdxC.encI i hil rfl ?_
          conv => whnf
          refine appR (i := 0) (sz := 1) (n := (o).length) (m := 1) (xs := Vx.encI (o)) (ys := [.int .i64 (l[i])]) txok (fun k => Nat.ble 1 k) (o ++ [l[i]]).length (Vx.encI (o ++ [l[i]])) (by exact rfl) (by exact rfl) (by exact rfl) (by kernel_rfl) (by exact rfl) (scalDs_mem (by exact rfl)) (by simp) (by simp [Vx.encI]) (by simp only [LB, List.length_append, List.length_cons, List.length_nil]; omega) ?_
          conv => whnf
          rw [incD (by omega)]
          exact again (i + 1, false, o ++ [l[i]]) (by simp; omega) ⟨by simp; omega, hx', by rw [ho]; simp [restF], by simp at hlen ⊢; omega⟩ (weak_of rfl (by repeat ((conv => whnf); first | exact trivial | refine And.intro rfl ?_ | refine And.intro (incD (by omega)) ?_)) (by repeat ((conv => whnf); first | exact trivial | refine And.intro rfl ?_ | refine And.intro (incD (by omega)) ?_)))
      · have h : d = true := by simpa using h
        subst h
        rw [restF] at ho
        conv => whnf
        refine IdxC.encI i hil rfl ?_
        conv => whnf
        refine appR (i := 0) (sz := 1) (n := (o).length) (m := 1) (xs := Vx.encI (o)) (ys := [.int .i64 (l[i])]) txok (fun k => Nat.ble 1 k) (o ++ [l[i]]).length (Vx.encI (o ++ [l[i]])) (by exact rfl) (by exact rfl) (by exact rfl) (by kernel_rfl) (by exact rfl) (scalDs_mem (by exact rfl)) (by simp) (by simp [Vx.encI]) (by simp only [LB, List.length_append, List.length_cons, List.length_nil]; omega) ?_
        conv => whnf
        rw [incD (by omega)]
        exact again (i + 1, true, o ++ [l[i]]) (by simp; omega) ⟨by simp; omega, hx', by rw [ho]; simp [restF], by simp at hlen ⊢; omega⟩ (weak_of rfl (by repeat ((conv => whnf); first | exact trivial | refine And.intro rfl ?_ | refine And.intro (incD (by omega)) ?_)) (by repeat ((conv => whnf); first | exact trivial | refine And.intro rfl ?_ | refine And.intro (incD (by omega)) ?_)))
  · have hi : i = l.length := by have := of_decide_eq_false hb; omega
    subst hi
    rw [List.drop_length] at ho
    rw [List.take_length] at hx
    have hp : put1 l x = o ++ restF d [] x := by rw [put1, if_neg hx, ho]
    rw [hp]
    conv => whnf
    refine And.intro (fun h => ?_) (fun h => ?_)
    · have h : d = false := by simpa using h
      subst h
      conv => whnf
      refine appR (i := 0) (sz := 1) (n := o.length) (m := 1) (xs := Vx.encI o) (ys := [.int .i64 x]) txok (fun k => Nat.ble 1 k) (o ++ [x]).length (Vx.encI (o ++ [x])) (by exact rfl) (by exact rfl) (by exact rfl) (by kernel_rfl) (by exact rfl) (scalDs_mem (by exact rfl)) (by simp) (by simp [Vx.encI]) (by simp only [LB, List.length_append, List.length_cons, List.length_nil]; omega) ?_
      conv => whnf
      try exact rfl
    · have h : d = true := by simpa using h
      subst h
      conv => whnf
      rw [restF, List.append_nil]
end Go.Proofs.YtohmeplcjgmedaaGreatDoor

/- Sets of numbers as sorted lists; right types; sizes. -/
set_option linter.unusedSimpArgs false
set_option linter.unusedVariables false
namespace Go.Proofs.YtohmeplcjgmedaaGreatDoor

abbrev Asc (l : List Int) : Prop := l.Pairwise (· < ·)
theorem asc_ext : ∀ (a b : List Int), Asc a → Asc b → (∀ z, z ∈ a ↔ z ∈ b) → a = b
  | [], [], _, _, _ => rfl
  | [], y :: r, _, _, h => by have := (h y).2 (by simp); cases this
  | x :: r, [], _, _, h => by have := (h x).1 (by simp); cases this
  | x :: r, y :: s, ha, hb, h => by
    obtain ⟨a1, a2⟩ := List.pairwise_cons.1 ha
    obtain ⟨b1, b2⟩ := List.pairwise_cons.1 hb
    have e : x = y := by
      have h1 := (h x).1 (by simp)
      have h2 := (h y).2 (by simp)
      rcases List.mem_cons.1 h1 with e | h1
      · exact e
      · rcases List.mem_cons.1 h2 with e | h2
        · exact e.symm
        · have := a1 y h2; have := b1 x h1; omega
    subst e
    congr 1
    refine asc_ext r s a2 b2 fun z => ⟨fun hz => ?_, fun hz => ?_⟩
    · rcases List.mem_cons.1 ((h z).1 (by simp [hz])) with e | h1
      · have := a1 z hz; omega
      · exact h1
    · rcases List.mem_cons.1 ((h z).2 (by simp [hz])) with e | h1
      · have := b1 z hz; omega
      · exact h1
theorem compactTo_asc (d : Array Int) (hd : ∀ i j, i < j → j < d.size → d[i]! ≤ d[j]!) : ∀ m, m ≤ d.size → Asc (Go.Lib.compactUpTo d m)
  | 0, _ => by simp [Go.Lib.compactUpTo, Asc]
  | m + 1, hm => by
    rw [Go.Lib.compactUpTo_succ]
    have ih := compactTo_asc d hd m (by omega)
    by_cases hk : Go.Lib.keeps d m = true
    · rw [if_pos hk]
      refine List.pairwise_append.2 ⟨ih, by simp, fun a ha c hc => ?_⟩
      rw [List.mem_singleton] at hc
      subst hc
      obtain ⟨j, hj, rfl⟩ := (mem_compactTo d a m).1 ha
      have h1 : d[j]! ≤ d[m - 1]! := by
        by_cases e : j = m - 1
        · rw [e]; exact Int.le_refl _
        · exact hd j (m - 1) (by omega) (by omega)
      have h2 : d[m - 1]! ≤ d[m]! := hd (m - 1) m (by omega) (by omega)
      have h3 : d[m]! ≠ d[m - 1]! := fun e => by rw [Go.Lib.keeps_neg (by omega) e] at hk; cases hk
      omega
    · rw [if_neg hk, List.append_nil]; exact ih
theorem freeS_asc (t : TG) : Asc (freeS t) := by
  unfold freeS Go.Lib.compact
  have hs : (srtI (frG t [])).Pairwise (fun a c => decide (a ≤ c) = true) := by
    unfold srtI
    exact List.pairwise_mergeSort (fun a b c h1 h2 => by simp at *; omega) (fun a b => by simp; omega) _
  generalize srtI (frG t []) = l at hs
  refine compactTo_asc _ (fun i j hij hj => ?_) _ (by simp)
  have hj : j < l.length := by simpa using hj
  have := List.pairwise_iff_getElem.1 hs i j (by omega) hj hij
  simp only [List.getElem!_toArray]
  rw [getElem!_pos l i (by omega), getElem!_pos l j hj]
  simpa using this
theorem mem_insF (l : List Int) (x z : Int) : z ∈ insF l x ↔ z = x ∨ z ∈ l := by
  induction l with
  | nil => simp [insF]
  | cons y r ih =>
    rw [insF]
    split
    · simp
    · rw [List.mem_cons, ih, List.mem_cons]
      constructor
      · rintro (h | h | h) <;> simp [h]
      · rintro (h | h | h) <;> simp [h]
theorem insF_asc {l : List Int} {x : Int} (h : Asc l) (hx : x ∉ l) : Asc (insF l x) := by
  induction l with
  | nil => simp [insF, Asc]
  | cons y r ih =>
    obtain ⟨h1, h2⟩ := List.pairwise_cons.1 h
    rw [insF]
    split
    · rename_i hy
      refine List.pairwise_cons.2 ⟨fun z hz => ?_, h⟩
      rcases List.mem_cons.1 hz with rfl | hz
      · exact hy
      · have := h1 z hz; omega
    · rename_i hy
      have hxy : x ≠ y := fun e => hx (by simp [e])
      refine List.pairwise_cons.2 ⟨fun z hz => ?_, ih h2 (fun hr => hx (by simp [hr]))⟩
      rcases (mem_insF r x z).1 hz with rfl | hz
      · omega
      · exact h1 z hz
theorem insF_len (l : List Int) (x : Int) : (insF l x).length = l.length + 1 := by
  induction l with
  | nil => rfl
  | cons y r ih => rw [insF]; split <;> simp [ih]
theorem mem_put1 (l : List Int) (x z : Int) : z ∈ put1 l x ↔ z = x ∨ z ∈ l := by
  unfold put1
  split
  · rename_i h
    constructor
    · exact .inr
    · rintro (rfl | h') <;> assumption
  · exact mem_insF l x z
theorem put1_asc {l : List Int} {x : Int} (h : Asc l) : Asc (put1 l x) := by
  unfold put1
  split
  · exact h
  · rename_i hx; exact insF_asc h hx
theorem put1_len (l : List Int) (x : Int) : (put1 l x).length ≤ l.length + 1 := by
  unfold put1
  split
  · omega
  · rw [insF_len]; omega
/-- All but one put into a set. -/
def wantL (n : Int) : List Int → List Int → List Int
  | acc, [] => acc
  | acc, f :: r => wantL n (if f = n then acc else put1 acc f) r
def putL : List Int → List Int → List Int
  | acc, [] => acc
  | acc, f :: r => putL (put1 acc f) r
theorem wantL_facts (n : Int) : ∀ (l acc : List Int), Asc acc → Asc (wantL n acc l) ∧ (∀ z, z ∈ wantL n acc l ↔ z ∈ acc ∨ (z ∈ l ∧ z ≠ n)) ∧ (wantL n acc l).length ≤ acc.length + l.length
  | [], acc, h => ⟨h, fun z => by simp [wantL], by simp [wantL]⟩
  | f :: r, acc, h => by
    rw [wantL]
    by_cases e : f = n
    · rw [if_pos e]
      obtain ⟨h1, h2, h3⟩ := wantL_facts n r acc h
      refine ⟨h1, fun z => ?_, by simp; omega⟩
      rw [h2 z, List.mem_cons]
      constructor
      · rintro (a | ⟨a, b⟩)
        · exact .inl a
        · exact .inr ⟨.inr a, b⟩
      · rintro (a | ⟨rfl | a, b⟩)
        · exact .inl a
        · exact absurd e b
        · exact .inr ⟨a, b⟩
    · rw [if_neg e]
      obtain ⟨h1, h2, h3⟩ := wantL_facts n r (put1 acc f) (put1_asc h)
      have h4 := put1_len acc f
      refine ⟨h1, fun z => ?_, by simp; omega⟩
      rw [h2 z, mem_put1, List.mem_cons]
      constructor
      · rintro ((rfl | a) | ⟨a, b⟩)
        · exact .inr ⟨.inl rfl, e⟩
        · exact .inl a
        · exact .inr ⟨.inr a, b⟩
      · rintro (a | ⟨rfl | a, b⟩)
        · exact .inl (.inr a)
        · exact .inl (.inl rfl)
        · exact .inr ⟨a, b⟩
theorem putL_facts : ∀ (l acc : List Int), Asc acc → Asc (putL acc l) ∧ (∀ z, z ∈ putL acc l ↔ z ∈ acc ∨ z ∈ l) ∧ (putL acc l).length ≤ acc.length + l.length
  | [], acc, h => ⟨h, fun z => by simp [putL], by simp [putL]⟩
  | f :: r, acc, h => by
    rw [putL]
    obtain ⟨h1, h2, h3⟩ := putL_facts r (put1 acc f) (put1_asc h)
    have h4 := put1_len acc f
    refine ⟨h1, fun z => ?_, by simp; omega⟩
    rw [h2 z, mem_put1, List.mem_cons]
    constructor
    · rintro ((rfl | a) | a)
      · exact .inr (.inl rfl)
      · exact .inl a
      · exact .inr (.inr a)
    · rintro (a | rfl | a)
      · exact .inl (.inr a)
      · exact .inl (.inl rfl)
      · exact .inr a
/-! ### Right types; sizes -/
theorem okV_right : ∀ t : TG, rightR t = true → okV t = true := by
  refine TG.ind fun k n ls l ih h => ?_
  rw [rightR, Bool.and_eq_true] at h
  obtain ⟨h1, h2⟩ := h
  have hrs : ∀ m : List TG, rightRs m = true → ∀ u ∈ m, rightR u = true := by
    intro m
    induction m with
    | nil => intro _ u hu; cases hu
    | cons v r ihm =>
      intro h u hu
      rw [rightRs, Bool.and_eq_true] at h
      rcases List.mem_cons.1 hu with rfl | hu
      · exact h.1
      · exact ihm h.2 u hu
  refine (okV_mk k n ls l).2 ⟨fun h6 => ?_, fun u hu => ih u hu (hrs l h2 u hu)⟩
  subst h6
  have hk : kidN 6 = 0 := by decide
  have hk7 : ((6 : Int) == 7) = false := by decide
  simp only [shR, shA, shC, hk, hk7, Bool.and_eq_true] at h1
  obtain ⟨⟨ha, _⟩, hc⟩ := h1
  have e1 : l.length = 0 := by
    simp at ha
    simp [ha]
  have e2 : ls.length = 0 := by
    simp at hc
    simp [hc]
  exact ⟨List.eq_nil_of_length_eq_zero e1, List.eq_nil_of_length_eq_zero e2⟩
theorem sz_putm : ∀ (f : Nat) (t : TG) (x : Int) (y : TG) (fr : List Int), szG (putF f t x y fr) ≤ szG t * szG y
  | 0, t, _, y, _ => Nat.le_mul_of_pos_right _ (szG_pos y)
  | f + 1, .mk k n ls l, x, y, fr => by
    have hy := szG_pos y
    have hg : ∀ (g : TG → TG) (m : List TG), (∀ u ∈ m, szG (g u) ≤ szG u * szG y) → szGs (m.map g) ≤ szGs m * szG y := by
      intro g m
      induction m with
      | nil => intro _; simp [szGs]
      | cons u r ihm =>
        intro h
        have h1 := h u (by simp)
        have h2 := ihm fun v hv => h v (by simp [hv])
        rw [List.map_cons, szGs, szGs, Nat.add_mul]; omega
    rw [putF_mk]
    split
    · rw [szG]; exact Nat.le_mul_of_pos_left _ (by omega)
    · split
      · exact Nat.le_mul_of_pos_right _ hy
      · split
        · rw [List.map_map]
          have h1 := hg ((fun u => putF f u x y fr) ∘ fun u => putF f u n (varG (freshN fr l x n)) [freshN fr l x n]) l fun u _ =>
            Nat.le_trans (sz_putm f _ x y fr) (Nat.mul_le_mul_right _ (sz_put f u n _ _ (by simp [varG, szG, szGs])))
          simp only [szG, Nat.add_mul]; omega
        · have h1 := hg (fun u => putF f u x y fr) l fun u _ => sz_putm f u x y fr
          simp only [szG, Nat.add_mul]; omega
end Go.Proofs.YtohmeplcjgmedaaGreatDoor

/- Plain laws: what the program and the document tell of right types is the same. -/
set_option linter.unusedSimpArgs false
set_option linter.unusedVariables false
namespace Go.Proofs.YtohmeplcjgmedaaGreatDoor
open Go.Vx Go.Vc Go.RowKit

theorem depGs_any (n : Nat) : ∀ l : List TG, (l.any fun t => decide (depG t > n)) = decide (depGs l > n)
  | [] => by simp [depGs]
  | t :: r => by
    rw [List.any_cons, depGs_any n r, depGs, Bool.eq_iff_iff]
    simp only [Bool.or_eq_true, decide_eq_true_eq]
    omega
theorem deepR_dep : ∀ (n : Nat) (t : TG), deepR n t = decide (depG t > n)
  | 0, t => by
    obtain ⟨k, n, ls, l⟩ := t
    simp [deepR, depG]
  | n + 1, t => by
    obtain ⟨k, m, ls, l⟩ := t
    have : deepR (n + 1) (.mk k m ls l) = l.any (deepR n) := rfl
    rw [this, show (deepR n) = fun t => decide (depG t > n) from funext (deepR_dep n), depGs_any, depG, Bool.eq_iff_iff]
    simp only [decide_eq_true_eq]
    omega
theorem shp_shR (k n : Int) (ls : List ByteArray) (l : List TG) : shpG (.mk k n ls l) = shR k n ls l.length := by
  have hS : shpG (.mk k n ls l) = (if k = 1 ∨ k = 2 ∨ k = 3 then n == 0 && (ls.length : Int) == 0 && (l.length : Int) == 0
    else if k = 4 ∨ k = 5 then n == 0 && (ls.length : Int) == 0 && (l.length : Int) == 2
    else if k = 6 then (ls.length : Int) == 0 && (l.length : Int) == 0
    else if k = 7 then n == 0 && ordS ls && (ls.length : Int) == (l.length : Int)
    else if k = 8 then n == 0 && (ls.length : Int) == 0
    else if k = 9 ∨ k = 10 ∨ k = 11 then (ls.length : Int) == 0 && (l.length : Int) == 1
    else false) := rfl
  rw [hS]
  clear hS
  unfold shR shA shB shC
  have hL : decide ((ls.length : Int) > 0) = !((ls.length : Int) == 0) := by
    cases ls.length with
    | zero => rfl
    | succ m => rw [Bool.eq_iff_iff]; simp; omega
  rw [hL]
  by_cases hk : k < 1 ∨ 11 < k
  · have e : kidN k = -2 := by unfold kidN; rw [if_neg (by omega), if_neg (by omega), if_neg (by omega), if_neg (by omega)]
    conv => lhs; rw [if_neg (by omega), if_neg (by omega), if_neg (by omega), if_neg (by omega), if_neg (by omega), if_neg (by omega)]
    rw [e]
    rfl
  have hk' : k = 1 ∨ k = 2 ∨ k = 3 ∨ k = 4 ∨ k = 5 ∨ k = 6 ∨ k = 7 ∨ k = 8 ∨ k = 9 ∨ k = 10 ∨ k = 11 := by omega
  simp only [bne]
  rcases hk' with rfl | rfl | rfl | rfl | rfl | rfl | rfl | rfl | rfl | rfl | rfl
  · conv => lhs; rw [if_pos (by decide)]
    rw [show kidN 1 = 0 from by decide]
    conv => rhs; rw [if_neg (by decide)]
    generalize (n == 0) = A, (((ls.length : Nat) : Int) == 0) = B, (((l.length : Nat) : Int) == 0) = C
    cases A <;> cases B <;> cases C <;> rfl
  · conv => lhs; rw [if_pos (by decide)]
    rw [show kidN 2 = 0 from by decide]
    conv => rhs; rw [if_neg (by decide)]
    generalize (n == 0) = A, (((ls.length : Nat) : Int) == 0) = B, (((l.length : Nat) : Int) == 0) = C
    cases A <;> cases B <;> cases C <;> rfl
  · conv => lhs; rw [if_pos (by decide)]
    rw [show kidN 3 = 0 from by decide]
    conv => rhs; rw [if_neg (by decide)]
    generalize (n == 0) = A, (((ls.length : Nat) : Int) == 0) = B, (((l.length : Nat) : Int) == 0) = C
    cases A <;> cases B <;> cases C <;> rfl
  · conv => lhs; rw [if_neg (by decide), if_pos (by decide)]
    rw [show kidN 4 = 2 from by decide]
    conv => rhs; rw [if_neg (by decide)]
    generalize (n == 0) = A, (((ls.length : Nat) : Int) == 0) = B, (((l.length : Nat) : Int) == 2) = C
    cases A <;> cases B <;> cases C <;> rfl
  · conv => lhs; rw [if_neg (by decide), if_pos (by decide)]
    rw [show kidN 5 = 2 from by decide]
    conv => rhs; rw [if_neg (by decide)]
    generalize (n == 0) = A, (((ls.length : Nat) : Int) == 0) = B, (((l.length : Nat) : Int) == 2) = C
    cases A <;> cases B <;> cases C <;> rfl
  · conv => lhs; rw [if_neg (by decide), if_neg (by decide), if_pos (by decide)]
    rw [show kidN 6 = 0 from by decide]
    conv => rhs; rw [if_neg (by decide)]
    generalize (n == 0) = A, (((ls.length : Nat) : Int) == 0) = B, (((l.length : Nat) : Int) == 0) = C
    cases A <;> cases B <;> cases C <;> rfl
  · conv => lhs; rw [if_neg (by decide), if_neg (by decide), if_neg (by decide), if_pos (by decide)]
    rw [show kidN 7 = -1 from by decide]
    conv => rhs; rw [if_pos (by decide)]
    generalize (n == 0) = A, (((ls.length : Nat) : Int) == ((l.length : Nat) : Int)) = C, ordS ls = D, (((l.length : Nat) : Int) == -1) = E
    cases A <;> cases C <;> cases D <;> cases E <;> rfl
  · conv => lhs; rw [if_neg (by decide), if_neg (by decide), if_neg (by decide), if_neg (by decide), if_pos (by decide)]
    rw [show kidN 8 = -1 from by decide]
    conv => rhs; rw [if_neg (by decide)]
    generalize (n == 0) = A, (((ls.length : Nat) : Int) == 0) = B, (((l.length : Nat) : Int) == -1) = C
    cases A <;> cases B <;> cases C <;> rfl
  · conv => lhs; rw [if_neg (by decide), if_neg (by decide), if_neg (by decide), if_neg (by decide), if_neg (by decide), if_pos (by decide)]
    rw [show kidN 9 = 1 from by decide]
    conv => rhs; rw [if_neg (by decide)]
    generalize (n == 0) = A, (((ls.length : Nat) : Int) == 0) = B, (((l.length : Nat) : Int) == 1) = C
    cases A <;> cases B <;> cases C <;> rfl
  · conv => lhs; rw [if_neg (by decide), if_neg (by decide), if_neg (by decide), if_neg (by decide), if_neg (by decide), if_pos (by decide)]
    rw [show kidN 10 = 1 from by decide]
    conv => rhs; rw [if_neg (by decide)]
    generalize (n == 0) = A, (((ls.length : Nat) : Int) == 0) = B, (((l.length : Nat) : Int) == 1) = C
    cases A <;> cases B <;> cases C <;> rfl
  · conv => lhs; rw [if_neg (by decide), if_neg (by decide), if_neg (by decide), if_neg (by decide), if_neg (by decide), if_pos (by decide)]
    rw [show kidN 11 = 1 from by decide]
    conv => rhs; rw [if_neg (by decide)]
    generalize (n == 0) = A, (((ls.length : Nat) : Int) == 0) = B, (((l.length : Nat) : Int) == 1) = C
    cases A <;> cases B <;> cases C <;> rfl
theorem all_right : ∀ t : TG, rightR t = allG t := by
  refine TG.ind fun k n ls l ih => ?_
  have : ∀ m : List TG, (∀ t ∈ m, rightR t = allG t) → rightRs m = allGs m := by
    intro m
    induction m with
    | nil => intro _; rfl
    | cons t r ihr =>
      intro h
      rw [rightRs, allGs, h t (by simp), ihr fun u hu => h u (by simp [hu])]
  rw [rightR, allG, this l ih, shp_shR]
theorem rtR_right (t : TG) : rtR t = rightG t := by
  unfold rtR rightG
  rw [deepR_dep, all_right]
  simp only [decide_eq_true_eq]
end Go.Proofs.YtohmeplcjgmedaaGreatDoor

