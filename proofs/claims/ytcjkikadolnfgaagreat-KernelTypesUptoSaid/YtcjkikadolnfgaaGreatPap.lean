/- Texts of mine, joined: Bh Bi Bj Bu Bv Bw Yx Yy Bz Cd Zl Yt Yu Za Zb Zc Zd Ze Yc Zf Zg Zh Zi Zj Zk Zn Zo Zr Zq. -/
import Derived.Shelf.Sort.Plain
import Derived.Shelf.Slices.In.SortNone
import Derived.Shelf.Slices.CompactI
import Derived.Sort.OwnSortedInts
import Derived.Test.YtcjkikadolnfgaaGreatPao
import Derived.Test.YtcjkikadolnfgaaGreatPah
import Derived.Test.YtcjkikadolnfgaaGreatPag
import Derived.Test.YtcjkikadolnfgaaGreatPaf
/- The shelf's slices.Sort and slices.Compact at ints, laid at this seat's program: printed by a program of mine out of Lean's print of the kit's laying command. -/
set_option linter.unusedSimpArgs false
set_option linter.unusedVariables false
namespace Go.Proofs.YtcjkikadolnfgaaGreat
open Go.Proofs Go.Shelf Go.RowKit Go.Lib Go.Sort
def sortI_ren : Ren :=
  { f := fun x => match x with | 189 => 69 | 125 => 107 | 257 => 106 | 128 => 159 | 129 => 160 | 294 => 150 | 295 => 151 | 296 => 152 | 297 => 153 | 298 => 154 | 299 => 155 | 216 => 156 | 300 => 157 | 301 => 158 | 328 => 177 | 329 => 178 | 330 => 179 | 331 => 180 | 332 => 181 | 215 => 182 | 343 => 187 | n => n,
    t := fun x => match x with | 28 => 36 | 3 => 3 | 46 => 112 | 0 => 0 | 51 => 141 | 53 => 143 | 4 => 4 | 183 => 133 | 182 => 132 | 131 => 138 | 5 => 5 | 9 => 9 | 218 => 162 | 222 => 166 | 228 => 172 | 229 => 173 | n => n,
    g := fun n => n }
theorem sortI : Lays.n189 Tryz.prog sortI_ren :=
  { mixed := rfl,
    f125 := Tryz.func107.trans (congrArg some rfl),
    f128 := Tryz.func159.trans (congrArg some rfl),
    f129 := Tryz.func160.trans (congrArg some rfl),
    f189 := Tryz.func69.trans (congrArg some rfl),
    f215 := Tryz.func182.trans (congrArg some rfl),
    f216 := Tryz.func156.trans (congrArg some rfl),
    f257 := Tryz.func106.trans (congrArg some rfl),
    f294 := Tryz.func150.trans (congrArg some rfl),
    f295 := Tryz.func151.trans (congrArg some rfl),
    f296 := Tryz.func152.trans (congrArg some rfl),
    f297 := Tryz.func153.trans (congrArg some rfl),
    f298 := Tryz.func154.trans (congrArg some rfl),
    f299 := Tryz.func155.trans (congrArg some rfl),
    f300 := Tryz.func157.trans (congrArg some rfl),
    f301 := Tryz.func158.trans (congrArg some rfl),
    f328 := Tryz.func177.trans (congrArg some rfl),
    f329 := Tryz.func178.trans (congrArg some rfl),
    f330 := Tryz.func179.trans (congrArg some rfl),
    f331 := Tryz.func180.trans (congrArg some rfl),
    f332 := Tryz.func181.trans (congrArg some rfl),
    f343 := Tryz.func187.trans (congrArg some rfl),
    t0 := Tryz.underlying0,
    a0 := Tryz.isAgg0,
    z0 := Tryz.sizeOf0,
    v0 := Tryz.zeroValue0,
    t3 := Tryz.underlying3,
    a3 := Tryz.isAgg3,
    z3 := Tryz.sizeOf3,
    v3 := Tryz.zeroValue3,
    t4 := Tryz.underlying4,
    a4 := Tryz.isAgg4,
    z4 := Tryz.sizeOf4,
    v4 := Tryz.zeroValue4,
    t5 := Tryz.underlying5,
    a5 := Tryz.isAgg5,
    z5 := Tryz.sizeOf5,
    v5 := Tryz.zeroValue5,
    t9 := Tryz.underlying9,
    a9 := Tryz.isAgg9,
    z9 := Tryz.sizeOf9,
    v9 := Tryz.zeroValue9,
    t28 := Tryz.underlying36,
    a28 := Tryz.isAgg36,
    z28 := Tryz.sizeOf36,
    v28 := Tryz.zeroValue36,
    t46 := Tryz.underlying112,
    a46 := Tryz.isAgg112,
    z46 := Tryz.sizeOf112,
    v46 := Tryz.zeroValue112,
    t51 := Tryz.underlying141,
    a51 := Tryz.isAgg141,
    z51 := Tryz.sizeOf141,
    v51 := Tryz.zeroValue141,
    t53 := Tryz.underlying143,
    a53 := Tryz.isAgg143,
    z53 := Tryz.sizeOf143,
    v53 := Tryz.zeroValue143,
    t131 := Tryz.underlying138,
    a131 := Tryz.isAgg138,
    z131 := Tryz.sizeOf138,
    v131 := Tryz.zeroValue138,
    t182 := Tryz.underlying132,
    a182 := Tryz.isAgg132,
    z182 := Tryz.sizeOf132,
    v182 := Tryz.zeroValue132,
    t183 := Tryz.underlying133,
    a183 := Tryz.isAgg133,
    z183 := Tryz.sizeOf133,
    v183 := Tryz.zeroValue133,
    t218 := Tryz.underlying162,
    a218 := Tryz.isAgg162,
    z218 := Tryz.sizeOf162,
    v218 := Tryz.zeroValue162,
    t222 := Tryz.underlying166,
    a222 := Tryz.isAgg166,
    z222 := Tryz.sizeOf166,
    v222 := Tryz.zeroValue166,
    t228 := Tryz.underlying172,
    a228 := Tryz.isAgg172,
    z228 := Tryz.sizeOf172,
    v228 := Tryz.zeroValue172,
    t229 := Tryz.underlying173,
    a229 := Tryz.isAgg173,
    z229 := Tryz.sizeOf173,
    v229 := Tryz.zeroValue173 }
def compI_ren : Ren :=
  { f := fun x => match x with | 20 => 70 | n => n,
    t := fun x => match x with | 22 => 36 | 3 => 3 | 4 => 4 | 0 => 0 | n => n,
    g := fun n => n }
theorem compI : Lays2.n20 Tryz.prog compI_ren :=
  { mixed := rfl,
    f20 := Tryz.func70.trans (congrArg some rfl),
    t0 := Tryz.underlying0,
    a0 := Tryz.isAgg0,
    z0 := Tryz.sizeOf0,
    v0 := Tryz.zeroValue0,
    t3 := Tryz.underlying3,
    a3 := Tryz.isAgg3,
    z3 := Tryz.sizeOf3,
    v3 := Tryz.zeroValue3,
    t4 := Tryz.underlying4,
    a4 := Tryz.isAgg4,
    z4 := Tryz.sizeOf4,
    v4 := Tryz.zeroValue4,
    t22 := Tryz.underlying36,
    a22 := Tryz.isAgg36,
    z22 := Tryz.sizeOf36,
    v22 := Tryz.zeroValue36,
    i3 := by kernel_rfl }
theorem putCells_len (off : Nat) (d : Array Int) (cur : Array Value) : (putCells (Value.int .i64) off d cur).size = cur.size := by simp [putCells]
theorem putCells_cut (off k : Nat) (d : Array Int) (cur : Array Value) (h : off + d.size ≤ cur.size) (hk : k ≤ d.size) : ((putCells (Value.int .i64) off d cur).toList.drop off).take k = (d.toList.take k).map (Value.int .i64) := by
  apply List.ext_getElem?
  intro j
  by_cases hj : j < k
  · rw [List.getElem?_take_of_lt hj, List.getElem?_drop, Array.getElem?_toList]
    have h1 : off + j < cur.size := by omega
    have h2 : j < d.size := by omega
    simp [putCells, h1, hj, h2]
  · rw [List.getElem?_take_eq_none (by omega), List.getElem?_eq_none (by simp; omega)]
theorem holdsI {w : World} {g o : Nat} {cur : Array Value} {e : TypeId} {l : List Int} (hg : w.heap[g]? = some (.cells cur e (0, 0))) (hc : (cur.toList.drop o).take l.length = l.map (Value.int .i64)) : Holds (Value.int .i64) w g o l.toArray := by
  intro j hj
  have hj' : j < l.length := by simpa using hj
  constructor
  · have h1 : ((cur.toList.drop o).take l.length)[j]? = (l.map (Value.int .i64))[j]? := by rw [hc]
    rw [List.getElem?_take_of_lt hj', List.getElem?_drop, Array.getElem?_toList] at h1
    simp only [World.cell?, hg]
    simp [h1, hj']
  · simp [World.frozen?, hg]
theorem heap_putI {w : World} {g n o : Nat} {os : Array Obj} {cur : Array Value} {e : TypeId} {fr : Nat × Nat} (d : Array Int) (hb : w.heap[g]? = some (.cells cur e fr)) :
    (grow (putRow (Value.int .i64) (Sort.ahead w n) g o d) os).heap[g]? = some (.cells (putCells (Value.int .i64) o d cur) e fr) := by
  have hg : g < w.heap.size := (Array.getElem?_eq_some_iff.1 hb).1
  rw [heap_grow_old _ _ (by simpa using hg)]
  simp [putRow, mapBlock, Sort.ahead, Array.getElem?_modify, hb, onCells]
theorem grownBy_putI {w : World} {g n o : Nat} {os : Array Obj} (d : Array Int) : w.grownBy (grow (putRow (Value.int .i64) (Sort.ahead w n) g o d) os) (some g) := by
  refine ⟨rfl, rfl, rfl, by simp, fun k hk hne => ?_⟩
  rw [heap_grow_old _ _ (by simpa using hk)]
  have : g ≠ k := fun e => hne (by rw [e])
  simp [putRow, mapBlock, Sort.ahead, Array.getElem?_modify, this]
theorem repI_of (S : Nat → Prop) (w : World) : ∀ l : List Int, Go.Vx.RepDs S w (Go.Vx.encI l) (l.map (.int .i64))
  | [] => by simp only [Go.Vx.encI, List.map_nil, Go.Vx.RepDs]
  | x :: r => by
    rw [show Go.Vx.encI (x :: r) = .int .i64 x :: Go.Vx.encI r from rfl, List.map_cons]
    simp only [Go.Vx.RepDs, Go.Vx.RepD]
    exact ⟨_, _, rfl, rfl, repI_of S w r⟩
/-- One own row that is handed over, and written in place. -/
theorem row_left {e : Go.Vx.Env} {w w' : World} {n m g o c : Nat} {cur cur' : Array Value} {l l' : List Int} {xs : List Go.Vx.D} (hlen : e.m.length = 1) (hm : e.m[0]? = some (.slice (some ⟨g, o, none⟩) n c)) (hH : Go.Vx.HpOk e w [(0, .row 3 8 1 n xs)])
    (hg : w.heap[g]? = some (.cells cur 3 (0, 0))) (hgr : w.grownBy w' (some g)) (hg' : w'.heap[g]? = some (.cells cur' 3 (0, 0))) (hsz : cur'.size = cur.size) (hm' : l'.length = m) (hcap : m ≤ c) (hmax : c ≤ maxLen) (hcs : o + c * 1 ≤ cur.size) (hcut : (cur'.toList.drop o).take m = l'.map (.int .i64)) (hlim : m * 8 ≤ Go.Vx.LB) :
    Go.Vx.Left G0 0 e w [(0, .row 3 8 1 n xs)] ⟨[.slice (some ⟨g, o, none⟩) m c], e.pub⟩ w' [(0, .row 3 8 1 m (Go.Vx.encI l'))] := by
  have h0 : ∀ i, Go.Vx.has [(0, Go.Vx.Ob.row 3 8 1 m (Go.Vx.encI l'))] i → i = 0 := by
    intro i hi
    unfold Go.Vx.has at hi
    simp only [Go.Vc.lk] at hi
    split at hi
    · rename_i e1; exact (Go.Vc.nbeq.1 e1).symm
    · cases hi
  have hf : Go.Vx.foot e 0 g := ⟨_, hm, by rfl⟩
  have hft : ∀ k, Go.Vx.foot ⟨[.slice (some ⟨g, o, none⟩) m c], e.pub⟩ 0 k → k = g := by
    rintro k ⟨v, h1, h2⟩
    have h1 : some (Value.slice (some ⟨g, o, none⟩) m c) = some v := h1
    injection h1 with h1; subst h1
    have h2 : some g = some k := h2
    injection h2 with h2; exact h2.symm
  have hpub : ¬ e.pub g := fun hp => hH.npub 0 g (by rfl) hf hp
  refine ⟨⟨fun i ob ho => ?_, fun i j k hi hj hne _ _ => absurd ((h0 i hi).trans (h0 j hj).symm) hne, fun i k hi hk hp => ?_, fun k hk => Nat.lt_of_lt_of_le (hH.pubLt k hk) hgr.size⟩, by simp [hlen], ?_, trivial, fun i v hv hns => ?_, fun k hk => hk, fun k hk => .inl hk, fun i hi => ?_, fun i k hi hk => ?_⟩
  · obtain rfl := h0 i (by simp [Go.Vx.has, ho])
    simp only [Go.Vc.lk, Nat.beq_refl] at ho
    injection ho with ho; subst ho
    exact ⟨some ⟨g, o, none⟩, c, l'.map (.int .i64), rfl, ⟨m, by simp [hm'], .inr ⟨g, o, c, cur', rfl, hg', hcap, hmax, by rw [hsz]; exact hcs, by rw [Nat.mul_one]; exact hcut⟩⟩, repI_of _ _ l', hlim⟩
  · obtain rfl := h0 i hi
    rw [hft k hk] at hp
    exact hpub hp
  · exact ⟨hgr.os, hgr.tape, hgr.output, hgr.size, fun k hk hn => hgr.block k hk (fun e1 => by injection e1 with e1; subst e1; exact hn ⟨0, by rfl, hf⟩)⟩
  · rcases Nat.eq_zero_or_pos i with rfl | hi
    · rw [hm] at hv; injection hv with hv; exact absurd hv.symm (hns _ _ _)
    · have := (List.getElem?_eq_some_iff.1 hv).1; omega
  · obtain rfl := h0 i hi; simp [hlen]
  · obtain rfl := h0 i hi
    rw [hft k hk]
    exact .inl ⟨0, by rfl, hf⟩
def srtI (l : List Int) : List Int := l.mergeSort fun x y => decide (x ≤ y)
theorem sort_tri (l : List Int) (hl : l.length * 8 ≤ Go.Vx.LB) : Go.Vx.Tri Tryz.prog G0 69 1 0 [.row 0] [(0, .row 3 8 1 l.length (Go.Vx.encI l))] (fun o H' => o = .ret (.tup []) ∧ H' = [(0, .row 3 8 1 l.length (Go.Vx.encI (srtI l)))]) := by
  intro e w vs hlen hargs hH hG
  simp only [Go.Vx.RepSVs, Go.Vx.RepSV] at hargs
  obtain ⟨v, s, rfl, ⟨A, n, c, rfl, hm⟩, rfl⟩ := hargs
  obtain ⟨A', c', xs, hm', hrow, hxs, hlb⟩ := hH.ob 0 _ rfl
  rw [hm] at hm'; injection hm' with hm'; injection hm' with e1 e2 e3
  subst e1; subst e2; subst e3
  have hx := repI_flat hxs
  have hsl : (srtI l).length = l.length := by unfold srtI; simp
  obtain ⟨n', hn, ⟨hv, hz⟩ | ⟨g, o, cap, cur, hv, hg, hc1, hc2, hsz, htk⟩⟩ := hrow
  · simp only at hv hn
    injection hv with h1 h2 h3
    subst h1; subst h3
    have hl0 : l = [] := List.eq_nil_of_length_eq_zero h2
    subst hl0
    refine (Any.slices_Sort_int_none sortI none 0 w).mono ?_
    rintro en w' ⟨rfl, rfl⟩
    refine ⟨.ret (.tup []), _, e, ⟨rfl, rfl⟩, ⟨_, rfl, by simp only [Go.Vx.RepSV, Go.Vx.RepSVs]; exact ⟨_, rfl, rfl⟩⟩, ?_⟩
    exact ⟨by simpa [srtI] using hH, rfl, Go.Vc.Only.refl _ _, trivial, fun _ _ h _ => h, fun _ h => h, fun _ h => .inl h, fun i hi => by
      have : i = 0 := by
        unfold Go.Vx.has at hi
        simp only [Go.Vc.lk] at hi
        split at hi
        · rename_i e1; exact (Go.Vc.nbeq.1 e1).symm
        · cases hi
      omega, fun i k hi hk => .inl ⟨0, by rfl, by
        have : i = 0 := by
          unfold Go.Vx.has at hi
          simp only [Go.Vc.lk] at hi
          split at hi
          · rename_i e1; exact (Go.Vc.nbeq.1 e1).symm
          · cases hi
        subst this; exact hk⟩⟩
  · simp only at hv hg htk hn hsz
    injection hv with h1 h2 h3
    subst h1; subst h3
    have hnl : n' = l.length := h2.symm
    subst hnl
    rw [Nat.mul_one, hx] at htk
    have hlt := (Array.getElem?_eq_some_iff.1 hg).1
    have hl' := hl
    simp only [Go.Vx.LB] at hl'
    refine (Any.slices_Sort_int sortI g o c l w (holdsI hg htk) hlt (by omega)).mono ?_
    rintro en w' ⟨rfl, q, os, rfl⟩
    refine ⟨.ret (.tup []), _, _, ⟨rfl, rfl⟩, ⟨_, rfl, by simp only [Go.Vx.RepSV, Go.Vx.RepSVs]; exact ⟨_, rfl, rfl⟩⟩, row_left (l := l) hlen hm hH hg (grownBy_putI _) (heap_putI _ hg) (putCells_len _ _ _) hsl hc1 hc2 hsz ?_ hl⟩
    have := putCells_cut o l.length (srtI l).toArray cur (by simp [hsl]; omega) (by simp [hsl])
    rw [List.toList_toArray, ← hsl, List.take_length] at this
    rw [← hsl]
    exact this
/-- The same, while an own block keeps the slice. -/
theorem sort_tri2 (l : List Int) (hl : l.length * 8 ≤ Go.Vx.LB) : Go.Vx.Tri Tryz.prog G0 69 2 0 [.row 1] [(0, .blk 90 [.row 1, .nl]), (1, .row 3 8 1 l.length (Go.Vx.encI l))] (fun o H' => o = .ret (.tup []) ∧ H' = [(0, .blk 90 [.row 1, .nl]), (1, .row 3 8 1 l.length (Go.Vx.encI (srtI l)))]) := by
  intro e w vs hlen hargs hH hG
  simp only [Go.Vx.RepSVs, Go.Vx.RepSV] at hargs
  obtain ⟨v, s, rfl, ⟨A, n, c, rfl, hm⟩, rfl⟩ := hargs
  obtain ⟨A', c', xs, hm', hrow, hxs, hlb⟩ := hH.ob 1 _ rfl
  obtain ⟨g0, vs0, hm0, hg0, hvs0⟩ := hH.ob 0 _ rfl
  rw [hm] at hm'; injection hm' with hm'; injection hm' with e1 e2 e3
  subst e1; subst e2; subst e3
  have hx := repI_flat hxs
  have hsl : (srtI l).length = l.length := by unfold srtI; simp
  have hasE : ∀ {i : Nat} {ob : Go.Vx.Ob}, Go.Vx.has [(0, .blk 90 [.row 1, .nl]), (1, ob)] i → i = 0 ∨ i = 1 := by
    intro i ob hi
    unfold Go.Vx.has at hi
    simp only [Go.Vc.lk] at hi
    split at hi
    · rename_i e1; exact .inl (Go.Vc.nbeq.1 e1).symm
    · split at hi
      · rename_i e1; exact .inr (Go.Vc.nbeq.1 e1).symm
      · cases hi
  have hasI : ∀ {i : Nat} {ob ob' : Go.Vx.Ob}, Go.Vx.has [(0, .blk 90 [.row 1, .nl]), (1, ob)] i → Go.Vx.has [(0, .blk 90 [.row 1, .nl]), (1, ob')] i := by
    intro i ob ob' hi
    rcases hasE hi with rfl | rfl <;> rfl
  obtain ⟨n', hn, ⟨hv, hz⟩ | ⟨g, o, cap, cur, hv, hg, hc1, hc2, hsz, htk⟩⟩ := hrow
  · simp only at hv hn
    injection hv with h1 h2 h3
    subst h1; subst h3
    have hl0 : l = [] := List.eq_nil_of_length_eq_zero h2
    subst hl0
    refine (Any.slices_Sort_int_none sortI none 0 w).mono ?_
    rintro en w' ⟨rfl, rfl⟩
    refine ⟨.ret (.tup []), _, e, ⟨rfl, rfl⟩, ⟨_, rfl, by simp only [Go.Vx.RepSV, Go.Vx.RepSVs]; exact ⟨_, rfl, rfl⟩⟩, ?_⟩
    exact ⟨by simpa [srtI] using hH, rfl, Go.Vc.Only.refl _ _, trivial, fun _ _ h _ => h, fun _ h => h, fun _ h => .inl h, fun i hi => by
      rcases hasE hi with rfl | rfl <;> omega, fun i k hi hk => .inl ⟨i, hasI hi, hk⟩⟩
  · simp only at hv hg htk hn hsz
    injection hv with h1 h2 h3
    subst h1; subst h3
    have hnl : n' = l.length := h2.symm
    subst hnl
    rw [Nat.mul_one, hx] at htk
    have hlt := (Array.getElem?_eq_some_iff.1 hg).1
    have hl' := hl
    simp only [Go.Vx.LB] at hl'
    have hf1 : Go.Vx.foot e 1 g := ⟨_, hm, rfl⟩
    have hf0 : Go.Vx.foot e 0 g0 := ⟨_, hm0, rfl⟩
    have hne : g0 ≠ g := fun h => hH.sep 0 1 g0 rfl rfl (by decide) hf0 (h ▸ hf1)
    have hlt0 := (Array.getElem?_eq_some_iff.1 hg0).1
    refine (Any.slices_Sort_int sortI g o c l w (holdsI hg htk) hlt (by omega)).mono ?_
    rintro en w' ⟨rfl, q, os, rfl⟩
    have hgr : w.grownBy (grow (putRow (Value.int .i64) (Sort.ahead w q) g o (srtI l).toArray) os) (some g) := grownBy_putI _
    have hcut := putCells_cut o l.length (srtI l).toArray cur (by simp [hsl]; omega) (by simp [hsl])
    rw [List.toList_toArray, ← hsl, List.take_length] at hcut
    refine ⟨.ret (.tup []), _, e, ⟨rfl, rfl⟩, ⟨_, rfl, by simp only [Go.Vx.RepSV, Go.Vx.RepSVs]; exact ⟨_, rfl, rfl⟩⟩, ?_⟩
    refine ⟨⟨fun i ob ho => ?_, fun i j k hi hj => hH.sep i j k (hasI hi) (hasI hj), fun i k hi => hH.npub i k (hasI hi), fun k hk => Nat.lt_of_lt_of_le (hH.pubLt k hk) hgr.size⟩, rfl, ?_, trivial, fun _ _ h _ => h, fun _ h => h, fun _ h => .inl h, fun i hi => ?_, fun i k hi hk => .inl ⟨i, hasI hi, hk⟩⟩
    · rcases hasE (i := i) (by unfold Go.Vx.has; rw [ho]; rfl) with rfl | rfl
      · simp only [Go.Vc.lk, Nat.beq_refl] at ho
        injection ho with ho; subst ho
        exact ⟨g0, vs0, hm0, (hgr.block g0 hlt0 (fun e1 => by injection e1 with e1; exact hne e1)).trans hg0, by simpa only [Go.Vx.RepSVs, Go.Vx.RepSV] using hvs0⟩
      · have ho : some (Go.Vx.Ob.row 3 8 1 l.length (Go.Vx.encI (srtI l))) = some ob := ho
        injection ho with ho; subst ho
        refine ⟨some ⟨g, o, none⟩, c, (srtI l).map (.int .i64), hm, ⟨l.length, by simp [hsl], .inr ⟨g, o, c, _, rfl, heap_putI _ hg, hc1, hc2, by rw [putCells_len]; exact hsz, ?_⟩⟩, repI_of _ _ _, hl⟩
        rw [Nat.mul_one, ← hsl]
        exact hcut
    · exact ⟨hgr.os, hgr.tape, hgr.output, hgr.size, fun k hk hn => hgr.block k hk (fun e1 => by injection e1 with e1; subst e1; exact hn ⟨1, rfl, hf1⟩)⟩
    · rcases hasE hi with rfl | rfl <;> omega
theorem comp_tri (l : List Int) (hl : l.length * 8 ≤ Go.Vx.LB) : Go.Vx.Tri Tryz.prog G0 70 1 0 [.row 0] [(0, .row 3 8 1 l.length (Go.Vx.encI l))] (fun o H' => o = .ret (.row 0) ∧ H' = [(0, .row 3 8 1 (Lib.compact l).length (Go.Vx.encI (Lib.compact l)))]) := by
  intro e w vs hlen hargs hH hG
  simp only [Go.Vx.RepSVs, Go.Vx.RepSV] at hargs
  obtain ⟨v, s, rfl, ⟨A, n, c, rfl, hm⟩, rfl⟩ := hargs
  obtain ⟨A', c', xs, hm', hrow, hxs, hlb⟩ := hH.ob 0 _ rfl
  rw [hm] at hm'; injection hm' with hm'; injection hm' with e1 e2 e3
  subst e1; subst e2; subst e3
  have hx := repI_flat hxs
  have hcl : (Lib.compact l).length ≤ l.length := by
    unfold Lib.compact Lib.compactUpTo
    rw [List.length_map]
    exact Nat.le_trans (List.length_filter_le _ _) (by simp)
  obtain ⟨n', hn, ⟨hv, hz⟩ | ⟨g, o, cap, cur, hv, hg, hc1, hc2, hsz, htk⟩⟩ := hrow
  · simp only at hv hn
    injection hv with h1 h2 h3
    subst h1; subst h3
    have hl0 : l = [] := List.eq_nil_of_length_eq_zero h2
    subst hl0
    refine (Any.slices_Compact_int_empty compI none 0 w).mono ?_
    rintro en w' ⟨rfl, rfl⟩
    refine ⟨.ret (.row 0), _, e, ⟨rfl, rfl⟩, ⟨_, rfl, by simp only [Go.Vx.RepSV]; exact ⟨_, _, _, rfl, hm⟩⟩, ?_⟩
    exact ⟨hH, rfl, Go.Vc.Only.refl _ _, trivial, fun _ _ h _ => h, fun _ h => h, fun _ h => .inl h, fun i hi => by
      have : i = 0 := by
        unfold Go.Vx.has at hi
        simp only [Go.Vc.lk] at hi
        split at hi
        · rename_i e1; exact (Go.Vc.nbeq.1 e1).symm
        · cases hi
      omega, fun i k hi hk => .inl ⟨0, by rfl, by
        have : i = 0 := by
          unfold Go.Vx.has at hi
          simp only [Go.Vc.lk] at hi
          split at hi
          · rename_i e1; exact (Go.Vc.nbeq.1 e1).symm
          · cases hi
        subst this; exact hk⟩⟩
  · simp only at hv hg htk hn hsz
    injection hv with h1 h2 h3
    subst h1; subst h3
    have hnl : n' = l.length := h2.symm
    subst hnl
    rw [Nat.mul_one, hx] at htk
    have hlt := (Array.getElem?_eq_some_iff.1 hg).1
    have hl' := hl
    simp only [Go.Vx.LB] at hl'
    refine (Any.slices_Compact_int compI g o c l w (holdsI hg htk) (by omega) hc1).mono ?_
    rintro en w' ⟨rfl, q, rfl⟩
    have hgrow : ∀ d : Array Int, putRow (Value.int .i64) (Sort.ahead w q) g o d = grow (putRow (Value.int .i64) (Sort.ahead w q) g o d) #[] := fun d => by unfold grow; rw [Array.append_empty]
    rw [hgrow]
    refine ⟨.ret (.row 0), _, _, ⟨rfl, rfl⟩, ⟨_, rfl, by simp only [Go.Vx.RepSV]; exact ⟨_, _, _, rfl, rfl⟩⟩, row_left (l := l) hlen hm hH hg (grownBy_putI _) (heap_putI _ hg) (putCells_len _ _ _) rfl (Nat.le_trans hcl hc1) hc2 hsz ?_ (Nat.le_trans (Nat.mul_le_mul_right _ hcl) hl)⟩
    have := putCells_cut o (Lib.compact l).length (Lib.compact l ++ List.replicate (l.length - (Lib.compact l).length) 0).toArray cur (by simp; omega) (by simp)
    rw [this]
    simp
end Go.Proofs.YtcjkikadolnfgaaGreat

/- FreeTypes. -/
namespace Go.Proofs.YtcjkikadolnfgaaGreat
open Go.Vx Go.Vc Go.RowKit

/-- The free numbers, sorted, each once. -/
def freeS (t : TG) : List Int := Go.Lib.compact (srtI (frG t []))
theorem freeS_len (t : TG) : (freeS t).length ≤ szG t := by
  unfold freeS
  have h1 : (Go.Lib.compact (srtI (frG t []))).length ≤ (srtI (frG t [])).length := by
    unfold Go.Lib.compact Go.Lib.compactUpTo
    rw [List.length_map]
    exact Nat.le_trans (List.length_filter_le _ _) (by simp)
  have h2 : (srtI (frG t [])).length = (frG t []).length := by unfold srtI; simp
  have h3 := frG_len t []
  omega
/-- What a temporary holds, said otherwise. -/
theorem weak_T {N n0 : Nat} {b : Bs G0 n0} {T : Vx.Tl} {H : Hp} {n : Nat} (t : Nat) (y : Vx.SV) {x : Vx.SV} (ht : lk T t = some x) (hl : lowB n y = true) (hxy : ∀ (e : Env) (w : World) (v : Value), RepSV e w x v → RepSV e w y v) : Weak b N ⟨T, H, n⟩ ⟨(t, y) :: T, H, n⟩ := by
  intro e a w h
  refine ⟨e, fun _ h => h, h.sz, h.df, h.len, fun t' z hx => ?_, h.hp, h.below, h.dr, h.mine, h.frm, h.pre, h.gl⟩
  simp only [lk] at hx
  split at hx
  · rename_i e'
    obtain rfl := nbeq.1 e'
    injection hx with hx; subst hx
    exact hxy _ _ _ (h.tm _ _ ht)
  · exact h.tm _ _ hx
theorem nl_dI (e : Env) (w : World) (v : Value) (h : RepSV e w .nl v) : RepSV e w (.d (dI [])) v := by
  simp only [RepSV] at h ⊢
  subst h
  unfold dI slD ebn
  simp only [RepD, Vx.encI, List.length_nil]
  exact ⟨none, 0, rfl, Nat.le_refl _, by simp, fun h => absurd rfl h, by simp [RepC]⟩
theorem wtyp_nl (t : TG) (h1 : ([] : List Int).length + szG t < 1099511627776) (h2 : ([] : List Int).length + szG t < 8796093022208) : Tri Tryz.prog G0 68 2 0 [.own 0 0, .d (dG t), .nl] (wkr .nl []) (wkrPost .nl ([] ++ frG t [])) := by
  intro e w vs hlen hargs hH hG
  refine wtyp_tri t [] [] h1 h2 e w vs hlen ?_ hH hG
  simp only [RepSVs] at hargs ⊢
  obtain ⟨v, s, rfl, a1, v2, s2, rfl, a2, v3, s3, rfl, a3, rfl⟩ := hargs
  exact ⟨v, _, rfl, a1, v2, _, rfl, a2, v3, _, rfl, nl_dI _ _ _ a3, rfl⟩
theorem freeT_fn (t : TG) (h : szG t < 1099511627776) : FnR Tryz.prog G0 33 [dG t] (dI (freeS t)) := by
  have hl := frG_len t []
  have h2 : (srtI (frG t [])).length = (frG t []).length := by unfold srtI; simp
  refine fnQ_of_vc txok mixed [] Tryz.func33 rfl rfl (by simp) fun b => ?_
  conv => whnf
  refine weakC _ (weak_nlC 1 0 3 8 1 rfl rfl) ?_
  refine callT [1, 2] (wtyp_nl t (by simpa using h) (by simp; omega)) gf68 rfl rfl ⟨rfl, rfl, trivial⟩ rfl ?_
  rintro o' H' ⟨rfl, rfl⟩
  conv => whnf
  rw [List.nil_append]
  refine callT [1, 2] (sort_tri2 (frG t []) (by simp only [LB]; omega)) gf69 rfl rfl ⟨rfl, rfl, trivial⟩ rfl ?_
  rintro o' H' ⟨rfl, rfl⟩
  conv => whnf
  rw [← h2]
  refine callT [2] (comp_tri (srtI (frG t [])) (by simp only [LB]; omega)) gf70 rfl rfl ⟨rfl, trivial⟩ rfl ?_
  rintro o' H' ⟨rfl, rfl⟩
  conv => whnf
  try exact rfl
end Go.Proofs.YtcjkikadolnfgaaGreat

/- put, renamed, Put. -/
set_option linter.unusedSimpArgs false
set_option linter.unusedVariables false
namespace Go.Proofs.YtcjkikadolnfgaaGreat
open Go.Vx Go.Vc Go.RowKit

/-- A list whose first ones are changed. -/
def mixF (g : TG → TG) (l : List TG) (i : Nat) : List TG := (l.take i).map g ++ l.drop i
theorem mixF_len (g : TG → TG) (l : List TG) (i : Nat) : (mixF g l i).length = l.length := by
  simp [mixF]; omega
theorem mixF_get {g : TG → TG} {l : List TG} {i : Nat} (h : i < l.length) (h' : i < (mixF g l i).length) : (mixF g l i)[i] = l[i] := by
  simp only [mixF]
  rw [List.getElem_append_right (by simp; omega)]
  simp [Nat.min_eq_left (Nat.le_of_lt h)]
theorem mixF_set {g : TG → TG} {l : List TG} {i : Nat} (h : i < l.length) : (mixF g l i).set i (g l[i]) = mixF g l (i + 1) := by
  simp only [mixF]
  rw [List.set_append_right _ _ (by simp; omega)]
  simp only [List.length_map, List.length_take, Nat.min_eq_left (Nat.le_of_lt h), Nat.sub_self]
  rw [List.drop_eq_getElem_cons h, List.set_cons_zero, List.take_succ_eq_append_getElem h, List.map_append, List.append_assoc]
  rfl
theorem mixF_zero (g : TG → TG) (l : List TG) : mixF g l 0 = l := by simp [mixF]
theorem mixF_all (g : TG → TG) (l : List TG) : mixF g l l.length = l.map g := by simp [mixF]
theorem encGs_set (l : List TG) (i : Nat) (hi : i < l.length) (x : TG) : ovl (encGs l) (i * 4) (encG x) = encGs (l.set i x) := by
  rw [encGs_eq, encGs_eq]; exact fl_set encG_len l i hi x

def varG (n : Int) : TG := .mk 6 n [] []
def ownS (l : List TG) : List Int := l.flatMap freeS
theorem ownS_take {l : List TG} {i : Nat} (h : i < l.length) : ownS (l.take (i + 1)) = ownS (l.take i) ++ freeS l[i] := by
  unfold ownS
  rw [List.take_succ_eq_append_getElem h, List.flatMap_append]; simp
theorem ownS_len : ∀ l : List TG, (ownS l).length ≤ szGs l
  | [] => by simp [ownS, szGs]
  | t :: r => by
    have h1 := freeS_len t
    have h2 := ownS_len r
    unfold ownS at h2 ⊢
    rw [List.flatMap_cons, List.length_append, szGs]; omega
def freshN (fr : List Int) (l : List TG) (x n : Int) : Int := (mex [fr, ownS l, [x, n]].flatten : Nat)
/-- A type put for a number: so many levels deep. -/
def putF : Nat → TG → Int → TG → List Int → TG
  | 0, t, _, _, _ => t
  | f + 1, t, x, y, fr =>
    if t.k = 6 ∧ t.n = x then y
    else if bndG t.k = true ∧ t.n = x then t
    else if bndG t.k = true ∧ t.n ∈ fr ∧ 0 < t.kids.length then
      .mk t.k (freshN fr t.kids x t.n) t.ls ((t.kids.map fun u => putF f u t.n (varG (freshN fr t.kids x t.n)) [freshN fr t.kids x t.n]).map fun u => putF f u x y fr)
    else .mk t.k t.n t.ls (t.kids.map fun u => putF f u x y fr)
def renF (f : Nat) (t : TG) (x : Int) (fr : List Int) : TG := .mk t.k (freshN fr t.kids x t.n) t.ls (t.kids.map fun u => putF f u t.n (varG (freshN fr t.kids x t.n)) [freshN fr t.kids x t.n])
theorem szGs_map {g : TG → TG} : ∀ {l : List TG}, (∀ t ∈ l, szG (g t) = szG t) → szGs (l.map g) = szGs l
  | [], _ => rfl
  | t :: r, h => by
    rw [List.map_cons, szGs, szGs, h t (by simp), szGs_map fun u hu => h u (by simp [hu])]
theorem szG_eq (t : TG) : szG t = szGs t.kids + 1 := by cases t; simp only [szG, g_kids]
theorem szGs_map_le {g : TG → TG} : ∀ {l : List TG}, (∀ t ∈ l, szG (g t) ≤ szG t) → szGs (l.map g) ≤ szGs l
  | [], _ => Nat.le_refl _
  | t :: r, h => by
    rw [List.map_cons, szGs, szGs]
    exact Nat.add_le_add (h t (by simp)) (szGs_map_le fun u hu => h u (by simp [hu]))
theorem sz_put : ∀ (f : Nat) (t : TG) (x : Int) (y : TG) (fr : List Int), szG y = 1 → szG (putF f t x y fr) ≤ szG t
  | 0, _, _, _, _, _ => Nat.le_refl _
  | f + 1, t, x, y, fr, hy => by
    unfold putF
    have hv : ∀ n, szG (varG n) = 1 := fun n => by simp [varG, szG, szGs]
    have ht := szG_eq t
    repeat' split
    · omega
    · exact Nat.le_refl _
    · rw [szG, ht]
      exact Nat.succ_le_succ (Nat.le_trans (szGs_map_le fun u _ => sz_put f u x y fr hy) (szGs_map_le fun u _ => sz_put f u _ _ _ (hv _)))
    · rw [szG, ht]
      exact Nat.succ_le_succ (szGs_map_le fun u _ => sz_put f u x y fr hy)
theorem freeS_var (n : Int) : freeS (varG n) = [n] := by
  unfold freeS varG
  have h : frG (.mk 6 n [] []) [] = [n] := by
    rw [frG_mk, if_pos ⟨rfl, by show (-1 : Int) < 0; decide⟩]; rfl
  rw [h]
  unfold srtI
  rw [List.mergeSort_singleton]
  rfl
def PutOk (f : Nat) : Prop := ∀ t, szG t ≤ f → ∀ x y fr, FnR Tryz.prog G0 102 [dG t, .int .i64 x, dG y, dI fr] (dG (putF f t x y fr))
theorem putT_fn {f : Nat} (hp : PutOk f) (t : TG) (ht : szG t ≤ f) (x : Int) (y : TG) (hy : szG y < 1099511627776) : FnR Tryz.prog G0 61 [dG t, .int .i64 x, dG y] (dG (putF f t x y (freeS y))) := by
  refine fnQ_of_vc txok mixed [(1, .take 0 (.pure 1 (.take 2 (.take 3 (.run 4 (.fin 5 (.fin 6 .done)))))))] Tryz.func61 rfl rfl (by simp) fun b => ?_
  conv => whnf
  refine And.intro (by kernel_rfl) ?_
  conv => whnf
  refine callF (freeT_fn y hy) gf33 rfl rfl ?_
  conv => whnf
  refine callF (hp t ht x y (freeS y)) gf102 rfl rfl ?_
  conv => whnf
  rfl
theorem ren_fn {f : Nat} (hp : PutOk f) (t : TG) (ht : szGs t.kids ≤ f) (hz : szGs t.kids < 1099511627776) (x : Int) (fr : List Int) : FnR Tryz.prog G0 148 [dG t, .int .i64 x, dI fr] (dG (renF f t x fr)) := by
  obtain ⟨k, n, ls, ks⟩ := t
  simp only [g_kids] at ht hz
  refine fnQ_sz fun hs => ?_
  have hl := (szOk_G (t := .mk k n ls ks) hs.1).1
  have hfr := (szOk_sl hs.2.2.1).1
  simp only [g_kids, LB] at hl hfr
  refine fnQ_of_vc txok mixed [(12, .pure 0 (.take 1 (.pure 2 (.take 3 (.pure 4 (.take 5 (.pure 6 (.pure 7 (.run 8 (.pure 9 (.fin 10 .done)))))))))))] Tryz.func148 rfl rfl (by simp) fun b => ?_
  conv => whnf
  simp only [g_kids]
  have hown : ∀ i, (ownS (ks.take i)).length < 1099511627776 := fun i => by
    have := ownS_len (ks.take i)
    have := szGs_le ks i
    omega
  refine loopH (fun i : Nat => i ≤ ks.length) (fun i => ks.length - i) (fun i => [(16, .d (.int .i64 i)), (7, .row 2)]) (fun i => [(0, .blk 28 [.d (.int .i64 k), .d (.int .i64 n), .d (dL ls), .d (dGs ks)]), (1, .blk 28 [.d (.int .i64 0), .d (.int .i64 0), .nl, .nl]), (2, .row 3 8 1 (ownS (ks.take i)).length (Vx.encI (ownS (ks.take i))))]) 3 0 (by omega) ((weak_nlT 7 3 8 1 rfl).trans (weak_of rfl (by repeat ((conv => whnf); first | exact trivial | refine And.intro rfl ?_ | refine And.intro (incD (by omega)) ?_)) (by repeat ((conv => whnf); first | exact trivial | refine And.intro rfl ?_ | refine And.intro (incD (by omega)) ?_)))) ?_
  intro i hi
  conv => whnf
  refine And.intro (fun hb => ?_) (fun hb => ?_)
  · have hb := of_decide_eq_true hb
    have hil : i < ks.length := by omega
    conv => whnf
    refine IdxC.encGs i hil rfl ?_
    conv => whnf
    have hzi : szG ks[i] < 1099511627776 := by have := szG_mem (List.getElem_mem hil); omega
    refine callF (freeT_fn ks[i] hzi) gf33 rfl rfl ?_
    conv => whnf
    have ho := hown (i + 1)
    rw [ownS_take hil] at ho
    refine appR (i := 2) (sz := 1) (n := (ownS (ks.take i)).length) (m := (freeS ks[i]).length) (xs := Vx.encI (ownS (ks.take i))) (ys := Vx.encI (freeS ks[i])) txok (fun _ => false) (ownS (ks.take (i + 1))).length (Vx.encI (ownS (ks.take (i + 1)))) (by exact rfl) (by exact rfl) (by exact rfl) (by kernel_rfl) (by rw [encI_len, Nat.mul_one]) (encI_scal _) (by rw [ownS_take hil, List.length_append]) (by rw [ownS_take hil]; simp [Vx.encI]) (by rw [ownS_take hil]; simp only [LB]; omega) ?_
    conv => whnf
    exact again (i + 1) (by omega) (by omega) (weak_of rfl (by repeat ((conv => whnf); first | exact trivial | refine And.intro rfl ?_ | refine And.intro (incD (by omega)) ?_)) (by repeat ((conv => whnf); first | exact trivial | refine And.intro rfl ?_ | refine And.intro (incD (by omega)) ?_)))
  · have hb := of_decide_eq_false hb
    have hi : i = ks.length := by omega
    subst hi
    rw [List.take_length]
    conv => whnf
    refine pubC (fun i => Nat.ble 2 i) ?_
    refine effC txok ?_
    conv => whnf
    refine callV (fresh_fn [fr, ownS ks, [x, n]] (by have := hown ks.length; rw [List.take_length] at this; simp; omega)) gf176 rfl rfl rfl rfl ?_
    conv => whnf
    refine callT [] (clone_tri ks) gf149 rfl rfl trivial rfl ?_
    rintro o' H' ⟨rfl, rfl⟩
    conv => whnf
    generalize hm : mex [fr, ownS ks, [x, n]].flatten = m
    have hput : ∀ u ∈ ks, FnR Tryz.prog G0 61 [dG u, .int .i64 n, dG (varG (m : Nat))] (dG (putF f u n (varG (m : Nat)) [(m : Int)])) := fun u hu => by
      have h1 := putT_fn hp u (by have := szG_mem hu; omega) n (varG (m : Nat)) (by simp [varG, szG, szGs])
      rwa [freeS_var] at h1
    have hgo : renF f (.mk k n ls ks) x fr = .mk k (m : Nat) ls (ks.map fun u => putF f u n (varG (m : Nat)) [(m : Int)]) := by
      subst hm; rfl
    rw [hgo]
    generalize hg : (fun u => putF f u n (varG (m : Nat)) [(m : Int)]) = g
    have hput : ∀ u ∈ ks, FnR Tryz.prog G0 61 [dG u, .int .i64 n, dG (varG (m : Nat))] (dG (g u)) := fun u hu => by
      subst hg; exact hput u hu
    refine loopH (fun i : Nat => i ≤ ks.length) (fun i => ks.length - i) (fun i => [(40, .d (.int .i64 i))]) (fun i => [(0, .blk 28 [.d (.int .i64 k), .d (.int .i64 n), .d (dL ls), .row 5]), (1, .blk 28 [.d (.int .i64 0), .d (.int .i64 0), .nl, .nl]), (5, .row 28 64 4 ks.length (encGs (mixF g ks i)))]) 6 0 (by omega) ?_ ?_
    · rw [mixF_zero]
      exact weak_of rfl (by repeat ((conv => whnf); first | exact trivial | refine And.intro rfl ?_ | refine And.intro (incD (by omega)) ?_)) (by repeat ((conv => whnf); first | exact trivial | refine And.intro rfl ?_ | refine And.intro (incD (by omega)) ?_))
    intro i hi
    conv => whnf
    refine And.intro (fun hb => ?_) (fun hb => ?_)
    · have hb := of_decide_eq_true hb
      have hil : i < ks.length := by omega
      have hml := mixF_len g ks i
      conv => whnf
      refine ⟨i, rfl, hil, ?_⟩
      conv => whnf
      refine ⟨encG ks[i], by rw [← mixF_get (g := g) hil (by omega)]; exact encGs_at _ i (by omega), rfl, ?_⟩
      conv => whnf
      refine And.intro (by kernel_rfl) ?_
      conv => whnf
      refine callF (hput ks[i] (by simp)) gf61 rfl rfl ?_
      conv => whnf
      refine ⟨i, rfl, hil, ?_⟩
      conv => whnf
      refine ⟨encGs (mixF g ks (i + 1)), ?_, ?_, ?_⟩
      · show i * 4 + 4 ≤ (encGs (mixF g ks i)).length
        rw [encGs_len, hml]; omega
      · rw [← mixF_set hil]; exact encGs_set _ i (by omega) _
      conv => whnf
      exact again (i + 1) (by omega) (by omega) (weak_of rfl (by repeat ((conv => whnf); first | exact trivial | refine And.intro rfl ?_ | refine And.intro (incD (by omega)) ?_)) (by repeat ((conv => whnf); first | exact trivial | refine And.intro rfl ?_ | refine And.intro (incD (by omega)) ?_)))
    · have hb := of_decide_eq_false hb
      have hi : i = ks.length := by omega
      subst hi
      rw [mixF_all]
      conv => whnf
      simp only [dG, encG, g_k, g_n, g_ls, g_kids, List.length_map]
end Go.Proofs.YtcjkikadolnfgaaGreat

/- put, Put. -/
set_option linter.unusedSimpArgs false
set_option linter.unusedVariables false
namespace Go.Proofs.YtcjkikadolnfgaaGreat
open Go.Vx Go.Vc Go.RowKit

theorem putF_mk (f : Nat) (k n : Int) (ls : List ByteArray) (l : List TG) (x : Int) (y : TG) (fr : List Int) : putF (f + 1) (.mk k n ls l) x y fr =
    if k = 6 ∧ n = x then y
    else if bndG k = true ∧ n = x then .mk k n ls l
    else if bndG k = true ∧ n ∈ fr ∧ 0 < l.length then
      .mk k (freshN fr l x n) ls ((l.map fun u => putF f u n (varG (freshN fr l x n)) [freshN fr l x n]).map fun u => putF f u x y fr)
    else .mk k n ls (l.map fun u => putF f u x y fr) := rfl
abbrev pH (t y : TG) : Hp := [(0, .blk 28 [.d (.int .i64 t.k), .d (.int .i64 t.n), .d (dL t.ls), .d (dGs t.kids)]), (1, .blk 28 [.d (.int .i64 y.k), .d (.int .i64 y.n), .d (dL y.ls), .d (dGs y.kids)]), (2, .blk 28 [.d (.int .i64 0), .d (.int .i64 0), .nl, .nl])]
theorem put_fn : ∀ f, f < 1099511627776 → PutOk f := by
  intro f
  induction f with
  | zero =>
    intro _ t ht
    have := szG_pos t
    omega
  | succ f ih =>
    intro hf t ht x y fr
    have ih := ih (by omega)
    obtain ⟨k, n, ls, ks⟩ := t
    have ht : szGs ks ≤ f := by simp only [szG] at ht; omega
    refine fnQ_sz fun hs => ?_
    have hl := (szOk_G (t := .mk k n ls ks) hs.1).1
    simp only [g_kids, LB] at hl
    refine fnQ_of_vc txok mixed ((100003, .done) :: (100008, .done) :: [(12, .pure 0 (.take 1 (.pure 2 (.take 3 (.pure 4 (.take 5 (.pure 6 (.run 7 (.pure 8 (.fin 9 .done))))))))))]) Tryz.func102 rfl rfl (by simp) fun b => ?_
    conv => whnf
    refine CutC.mk (fun st => ¬ (k = 6 ∧ n = x) ∧ st = ⟨[(1, .d (.int .i64 x)), (3, .d (dI fr)), (4, .own 0 0), (6, .own 1 0), (8, .own 2 0)], pH (.mk k n ls ks) y, 3⟩) ?_ ?_
    · conv => whnf
      simp only [g_k, g_n]
      refine And.intro (fun h1 => ?_) (fun h1 => ?_)
      · have h1 : k = 6 := eq_of_beq h1
        conv => whnf
        refine And.intro (fun h2 => ?_) (fun h2 => ?_)
        · have h2 : n = x := eq_of_beq h2
          conv => whnf
          rw [putF_mk, if_pos ⟨h1, h2⟩]
          rfl
        · have h2 : n ≠ x := by simpa using h2
          conv => whnf
          exact ⟨_, ⟨fun h => h2 h.2, rfl⟩, weak_of rfl (by repeat ((conv => whnf); first | exact trivial | refine And.intro rfl ?_ | refine And.intro (incD (by omega)) ?_)) (by repeat ((conv => whnf); first | exact trivial | refine And.intro rfl ?_ | refine And.intro (incD (by omega)) ?_))⟩
      · have h1 : k ≠ 6 := by simpa using h1
        conv => whnf
        exact ⟨_, ⟨fun h => h1 h.1, rfl⟩, weak_of rfl (by repeat ((conv => whnf); first | exact trivial | refine And.intro rfl ?_ | refine And.intro (incD (by omega)) ?_)) (by repeat ((conv => whnf); first | exact trivial | refine And.intro rfl ?_ | refine And.intro (incD (by omega)) ?_))⟩
    rintro st' ⟨hno, rfl⟩
    conv => whnf
    refine CutC.mk (fun st => ∃ n' l', l'.length = ks.length ∧ szGs l' ≤ f ∧ putF (f + 1) (.mk k n ls ks) x y fr = .mk k n' ls (l'.map fun u => putF f u x y fr) ∧ st = ⟨[(1, .d (.int .i64 x)), (3, .d (dI fr)), (4, .own 0 0), (6, .own 1 0), (8, .own 2 0)], pH (.mk k n' ls l') y, 3⟩) ?_ ?_
    · conv => whnf
      refine callF (binder_fn (.mk k n ls ks)) gf85 rfl rfl ?_
      simp only [g_k, g_n, g_ls, g_kids]
      conv => whnf
      refine And.intro (fun h1 => ?_) (fun h1 => ?_)
      · conv => whnf
        refine And.intro (fun h2 => ?_) (fun h2 => ?_)
        · have h2 : n = x := eq_of_beq h2
          conv => whnf
          rw [putF_mk, if_neg hno, if_pos ⟨h1, h2⟩]
          rfl
        · have h2 : n ≠ x := by simpa only [g_n, beq_eq_false_iff_ne, ne_eq] using h2
          conv => whnf
          refine callF (contains_fn fr n) gf35 rfl rfl ?_
          conv => whnf
          refine And.intro (fun h3 => ?_) (fun h3 => ?_)
          · have h3 : n ∈ fr := of_decide_eq_true h3
            conv => whnf
            refine And.intro (fun h4 => ?_) (fun h4 => ?_)
            · have h4 := of_decide_eq_true h4; simp only [g_kids] at h4
              conv => whnf
              refine callF (ren_fn ih (.mk k n ls ks) ht (by rw [g_kids]; omega) x fr) gf148 rfl rfl ?_
              conv => whnf
              refine ⟨_, ⟨freshN fr ks x n, ks.map fun u => putF f u n (varG (freshN fr ks x n)) [freshN fr ks x n], by simp, ?_, ?_, rfl⟩, weak_of rfl (by repeat ((conv => whnf); first | exact trivial | refine And.intro rfl ?_ | refine And.intro (incD (by omega)) ?_)) (by repeat ((conv => whnf); first | exact trivial | refine And.intro rfl ?_ | refine And.intro (incD (by omega)) ?_))⟩
              · exact Nat.le_trans (szGs_map_le fun u _ => sz_put f u _ _ _ (by simp [varG, szG, szGs])) ht
              · rw [putF_mk, if_neg hno, if_neg (fun h => h2 h.2), if_pos ⟨h1, h3, by omega⟩]
            · have h4 := of_decide_eq_false h4; simp only [g_kids] at h4
              conv => whnf
              refine ⟨_, ⟨n, ks, rfl, ht, ?_, rfl⟩, weak_of rfl (by repeat ((conv => whnf); first | exact trivial | refine And.intro rfl ?_ | refine And.intro (incD (by omega)) ?_)) (by repeat ((conv => whnf); first | exact trivial | refine And.intro rfl ?_ | refine And.intro (incD (by omega)) ?_))⟩
              rw [putF_mk, if_neg hno, if_neg (fun h => h2 h.2), if_neg (fun h => by have := h.2.2; omega)]
          · have h3 : n ∉ fr := of_decide_eq_false h3
            conv => whnf
            refine ⟨_, ⟨n, ks, rfl, ht, ?_, rfl⟩, weak_of rfl (by repeat ((conv => whnf); first | exact trivial | refine And.intro rfl ?_ | refine And.intro (incD (by omega)) ?_)) (by repeat ((conv => whnf); first | exact trivial | refine And.intro rfl ?_ | refine And.intro (incD (by omega)) ?_))⟩
            rw [putF_mk, if_neg hno, if_neg (fun h => h2 h.2), if_neg (fun h => h3 h.2.1)]
      · conv => whnf
        refine ⟨_, ⟨n, ks, rfl, ht, ?_, rfl⟩, weak_of rfl (by repeat ((conv => whnf); first | exact trivial | refine And.intro rfl ?_ | refine And.intro (incD (by omega)) ?_)) (by repeat ((conv => whnf); first | exact trivial | refine And.intro rfl ?_ | refine And.intro (incD (by omega)) ?_))⟩
        rw [putF_mk, if_neg hno, if_neg (fun h => by rw [h.1] at h1; cases h1), if_neg (fun h => by rw [h.1] at h1; cases h1)]
    rintro st' ⟨n', l', hl', hlf, hres, rfl⟩
    rw [hres]
    clear hres hno
    conv => whnf
    simp only [g_k, g_n, g_ls, g_kids]
    refine callT [] (clone_tri l') gf149 rfl rfl trivial rfl ?_
    rintro o' H' ⟨rfl, rfl⟩
    conv => whnf
    have hput : ∀ u ∈ l', FnR Tryz.prog G0 102 [dG u, .int .i64 x, dG y, dI fr] (dG (putF f u x y fr)) := fun u hu => ih u (by have := szG_mem hu; omega) x y fr
    generalize hg : (fun u => putF f u x y fr) = g
    have hput : ∀ u ∈ l', FnR Tryz.prog G0 102 [dG u, .int .i64 x, dG y, dI fr] (dG (g u)) := fun u hu => by
      subst hg; exact hput u hu
    refine loopH (fun i : Nat => i ≤ l'.length) (fun i => l'.length - i) (fun i => [(49, .d (.int .i64 i))]) (fun i => [(0, .blk 28 [.d (.int .i64 k), .d (.int .i64 n'), .d (dL ls), .row 3]), (1, .blk 28 [.d (.int .i64 y.k), .d (.int .i64 y.n), .d (dL y.ls), .d (dGs y.kids)]), (2, .blk 28 [.d (.int .i64 0), .d (.int .i64 0), .nl, .nl]), (3, .row 28 64 4 l'.length (encGs (mixF g l' i)))]) 4 0 (by omega) ?_ ?_
    · rw [mixF_zero]
      exact weak_of rfl (by repeat ((conv => whnf); first | exact trivial | refine And.intro rfl ?_ | refine And.intro (incD (by omega)) ?_)) (by repeat ((conv => whnf); first | exact trivial | refine And.intro rfl ?_ | refine And.intro (incD (by omega)) ?_))
    intro i hi
    conv => whnf
    refine And.intro (fun hb => ?_) (fun hb => ?_)
    · have hb := of_decide_eq_true hb
      have hil : i < l'.length := by omega
      have hml := mixF_len g l' i
      conv => whnf
      refine ⟨i, rfl, hil, ?_⟩
      conv => whnf
      refine ⟨encG l'[i], by rw [← mixF_get (g := g) hil (by omega)]; exact encGs_at _ i (by omega), rfl, ?_⟩
      conv => whnf
      refine And.intro (by kernel_rfl) ?_
      conv => whnf
      refine callF (hput l'[i] (by simp)) gf102 rfl rfl ?_
      conv => whnf
      refine ⟨i, rfl, hil, ?_⟩
      conv => whnf
      refine ⟨encGs (mixF g l' (i + 1)), ?_, ?_, ?_⟩
      · show i * 4 + 4 ≤ (encGs (mixF g l' i)).length
        rw [encGs_len, hml]; omega
      · rw [← mixF_set hil]; exact encGs_set _ i (by omega) _
      conv => whnf
      exact again (i + 1) (by omega) (by omega) (weak_of rfl (by repeat ((conv => whnf); first | exact trivial | refine And.intro rfl ?_ | refine And.intro (incD (by omega)) ?_)) (by repeat ((conv => whnf); first | exact trivial | refine And.intro rfl ?_ | refine And.intro (incD (by omega)) ?_)))
    · have hb := of_decide_eq_false hb
      have hi : i = l'.length := by omega
      subst hi
      rw [mixF_all]
      conv => whnf
      simp only [dG, encG, g_k, g_n, g_ls, g_kids, List.length_map]
theorem putTop_fn (t : TG) (ht : szG t < 1099511627776) (x : Int) (y : TG) (hy : szG y < 1099511627776) : FnR Tryz.prog G0 61 [dG t, .int .i64 x, dG y] (dG (putF (szG t) t x y (freeS y))) :=
  putT_fn (put_fn _ ht) t (Nat.le_refl _) x y hy
end Go.Proofs.YtcjkikadolnfgaaGreat

/- What stands free, and what putting does to it. -/
set_option linter.unusedSimpArgs false
set_option linter.unusedVariables false
namespace Go.Proofs.YtcjkikadolnfgaaGreat

theorem lastI_neg (s : List Int) (n : Int) : lastI s n < 0 ↔ n ∉ s := by
  unfold lastI
  constructor
  · intro h hn
    obtain ⟨i, hi, rfl⟩ := List.getElem_of_mem hn
    have hmem : (((i : Nat) : Int), s[i]) ∈ prI s := by
      unfold prI
      rw [List.mem_map]
      refine ⟨s.length - 1 - i, by rw [List.mem_range]; omega, ?_⟩
      have h1 : s.length - 1 - (s.length - 1 - i) = i := by omega
      rw [h1]
      simp [ixI, List.getD, hi]
    have h2 : ((prI s).find? fun p => p.2 == s[i]).isSome = true := by
      rw [List.find?_isSome]
      exact ⟨_, hmem, by simp⟩
    obtain ⟨p, hp⟩ := Option.isSome_iff_exists.1 h2
    rw [hp] at h
    have := List.mem_of_find?_eq_some hp
    unfold prI at this
    rw [List.mem_map] at this
    obtain ⟨j, _, rfl⟩ := this
    simp at h
    omega
  · intro hn
    have h2 : (prI s).find? (fun p => p.2 == n) = none := by
      rw [List.find?_eq_none]
      intro p hp
      unfold prI at hp
      rw [List.mem_map] at hp
      obtain ⟨j, hj, rfl⟩ := hp
      rw [List.mem_range] at hj
      have h3 : s.length - 1 - j < s.length := by omega
      simp only [ixI, List.getD, List.getElem?_eq_getElem h3, Option.getD_some, beq_iff_eq]
      intro e
      exact hn (e ▸ List.getElem_mem h3)
    rw [h2]
    decide
theorem lastI_end (s : List Int) (n : Int) : lastI (s ++ [n]) n = s.length := by
  unfold lastI prI
  have h1 : (s ++ [n]).length = s.length + 1 := by simp
  rw [h1, List.range_succ_eq_map, List.map_cons, List.find?_cons]
  have h2 : ixI (s ++ [n]) (s.length + 1 - 1 - 0) = n := by simp [ixI, List.getD]
  rw [h2]
  simp
theorem lastI_snoc (s : List Int) {n z : Int} (h : z ≠ n) : lastI (s ++ [n]) z = lastI s z := by
  unfold lastI prI
  have h1 : (s ++ [n]).length = s.length + 1 := by simp
  rw [h1, List.range_succ_eq_map, List.map_cons, List.find?_cons]
  have h2 : ixI (s ++ [n]) (s.length + 1 - 1 - 0) = n := by simp [ixI, List.getD]
  rw [h2]
  have h3 : (n == z) = false := by simpa using Ne.symm h
  simp only [h3]
  rw [List.map_map]
  have h4 : (List.range s.length).map ((fun j => (((s.length + 1 - 1 - j : Nat) : Int), ixI (s ++ [n]) (s.length + 1 - 1 - j))) ∘ Nat.succ) = (List.range s.length).map fun j => (((s.length - 1 - j : Nat) : Int), ixI s (s.length - 1 - j)) := by
    refine List.map_congr_left fun j hj => ?_
    rw [List.mem_range] at hj
    have e : s.length + 1 - 1 - Nat.succ j = s.length - 1 - j := by omega
    simp only [Function.comp, e]
    congr 1
    simp only [ixI, List.getD]
    rw [List.getElem?_append_left (by omega)]
  rw [h4]
/-! ### Sets of numbers -/
theorem mem_compactTo (d : Array Int) (x : Int) : ∀ m, x ∈ Go.Lib.compactUpTo d m ↔ ∃ j, j < m ∧ d[j]! = x
  | 0 => by simp [Go.Lib.compactUpTo]
  | m + 1 => by
    rw [Go.Lib.compactUpTo_succ, List.mem_append, mem_compactTo d x m]
    constructor
    · rintro (⟨j, hj, h⟩ | h)
      · exact ⟨j, by omega, h⟩
      · split at h
        · simp at h; exact ⟨m, by omega, h.symm⟩
        · cases h
    · rintro ⟨j, hj, h⟩
      by_cases hjm : j < m
      · exact .inl ⟨j, hjm, h⟩
      · obtain rfl : j = m := by omega
        by_cases hk : Go.Lib.keeps d j = true
        · right; rw [if_pos hk]; simp [h]
        · left
          have hj0 : 0 < j := by
            rcases Nat.eq_zero_or_pos j with h0 | h0
            · subst h0; exact absurd (Go.Lib.keeps_lt_one d 0 (by omega)) hk
            · exact h0
          have he : d[j]! = d[j - 1]! := by
            by_cases he : d[j]! = d[j - 1]!
            · exact he
            · exact absurd (Go.Lib.keeps_pos he) hk
          exact ⟨j - 1, by omega, by rw [← he]; exact h⟩
theorem mem_compact (l : List Int) (x : Int) : x ∈ Go.Lib.compact l ↔ x ∈ l := by
  unfold Go.Lib.compact
  rw [mem_compactTo]
  constructor
  · rintro ⟨j, hj, rfl⟩
    simp only [List.getElem!_toArray]
    rw [getElem!_pos l j hj]
    exact List.getElem_mem hj
  · intro h
    obtain ⟨i, hi, rfl⟩ := List.getElem_of_mem h
    refine ⟨i, hi, ?_⟩
    simp only [List.getElem!_toArray]
    rw [getElem!_pos l i hi]
theorem mem_freeS (t : TG) (x : Int) : x ∈ freeS t ↔ x ∈ frG t [] := by
  unfold freeS srtI
  rw [mem_compact, List.mem_mergeSort]
theorem mem_ownS (l : List TG) (x : Int) : x ∈ ownS l ↔ ∃ u ∈ l, x ∈ frG u [] := by
  unfold ownS
  rw [List.mem_flatMap]
  simp only [mem_freeS]
/-! ### What stands free -/
theorem mem_frGs (l : List TG) (s : List Int) (n : Int) : n ∈ frGs l s ↔ ∃ u ∈ l, n ∈ frG u s := by
  induction l with
  | nil => simp [frGs]
  | cons t r ih => rw [frGs, List.mem_append, ih]; simp
theorem mem_snocB (k p n : Int) (s : List Int) : n ∉ (if bndG k = true then s ++ [p] else s) ↔ n ∉ s ∧ (bndG k = true → n ≠ p) := by
  split <;> simp_all
theorem mem_frG : ∀ (t : TG) (s : List Int) (n : Int), n ∈ frG t s ↔ n ∈ frG t [] ∧ n ∉ s := by
  refine TG.ind fun k p ls l ih s n => ?_
  have key : ∀ s, n ∈ frG (.mk k p ls l) s ↔ n ∉ s ∧ ((k = 6 ∧ n = p) ∨ ((bndG k = true → n ≠ p) ∧ ∃ u ∈ l, n ∈ frG u [])) := by
    intro s
    rw [frG_mk, List.mem_append, mem_frGs]
    have h1 : (∃ u ∈ l, n ∈ frG u (if bndG k = true then s ++ [p] else s)) ↔ n ∉ s ∧ (bndG k = true → n ≠ p) ∧ ∃ u ∈ l, n ∈ frG u [] := by
      constructor
      · rintro ⟨u, hu, h⟩
        have h := (ih u hu _ n).1 h
        have h2 := (mem_snocB k p n s).1 h.2
        exact ⟨h2.1, h2.2, u, hu, h.1⟩
      · rintro ⟨h2, h3, u, hu, h⟩
        exact ⟨u, hu, (ih u hu _ n).2 ⟨h, (mem_snocB k p n s).2 ⟨h2, h3⟩⟩⟩
    rw [h1]
    have hl := lastI_neg s p
    by_cases h6 : k = 6 ∧ lastI s p < 0
    · rw [if_pos h6]
      have h6 : k = 6 ∧ p ∉ s := ⟨h6.1, hl.1 h6.2⟩
      simp only [List.mem_singleton]
      constructor
      · rintro (rfl | ⟨h2, h3, h4⟩)
        · exact ⟨h6.2, .inl ⟨h6.1, rfl⟩⟩
        · exact ⟨h2, .inr ⟨h3, h4⟩⟩
      · rintro ⟨h2, ⟨_, h3⟩ | ⟨h3, h4⟩⟩
        · exact .inl h3
        · exact .inr ⟨h2, h3, h4⟩
    · rw [if_neg h6]
      constructor
      · rintro (h | ⟨h2, h3, h4⟩)
        · cases h
        · exact ⟨h2, .inr ⟨h3, h4⟩⟩
      · rintro ⟨h2, ⟨h3, rfl⟩ | ⟨h3, h4⟩⟩
        · exact absurd ⟨h3, hl.2 h2⟩ h6
        · exact .inr ⟨h2, h3, h4⟩
  rw [key s, key []]
  simp only [List.not_mem_nil, not_false_eq_true, true_and]
  exact And.comm
theorem fv_mk (k p : Int) (ls : List ByteArray) (l : List TG) (n : Int) : n ∈ frG (.mk k p ls l) [] ↔ (k = 6 ∧ n = p) ∨ ((bndG k = true → n ≠ p) ∧ ∃ u ∈ l, n ∈ frG u []) := by
  rw [frG_mk, List.mem_append, mem_frGs]
  have h1 : (∃ u ∈ l, n ∈ frG u (if bndG k = true then [] ++ [p] else [])) ↔ (bndG k = true → n ≠ p) ∧ ∃ u ∈ l, n ∈ frG u [] := by
    constructor
    · rintro ⟨u, hu, h⟩
      have h := (mem_frG u _ n).1 h
      have h2 := (mem_snocB k p n []).1 h.2
      exact ⟨h2.2, u, hu, h.1⟩
    · rintro ⟨h3, u, hu, h⟩
      exact ⟨u, hu, (mem_frG u _ n).2 ⟨h, (mem_snocB k p n []).2 ⟨by simp, h3⟩⟩⟩
  rw [h1]
  have hl : lastI [] p < 0 := (lastI_neg [] p).2 (by simp)
  simp [hl]
/-! ### Types whose numbers have no parts -/
mutual
def okV : TG → Bool
  | .mk k _ ls l => (decide (k ≠ 6) || (l.isEmpty && ls.isEmpty)) && okVs l
def okVs : List TG → Bool
  | [] => true
  | t :: r => okV t && okVs r
end
theorem okVs_iff (l : List TG) : okVs l = true ↔ ∀ u ∈ l, okV u = true := by
  induction l with
  | nil => simp [okVs]
  | cons t r ih => simp [okVs, ih]
theorem okV_mk (k n : Int) (ls : List ByteArray) (l : List TG) : okV (.mk k n ls l) = true ↔ (k = 6 → l = [] ∧ ls = []) ∧ ∀ u ∈ l, okV u = true := by
  rw [okV, Bool.and_eq_true, okVs_iff, Bool.or_eq_true, decide_eq_true_eq, Bool.and_eq_true, List.isEmpty_iff, List.isEmpty_iff]
  by_cases h : k = 6 <;> simp [h]
theorem okV_var (m : Int) : okV (varG m) = true := rfl
theorem okV_put : ∀ (f : Nat) (t : TG) (x : Int) (y : TG) (fr : List Int), okV y = true → okV t = true → okV (putF f t x y fr) = true
  | 0, t, _, _, _, _, h => h
  | f + 1, .mk k n ls l, x, y, fr, hy, h => by
    rw [putF_mk]
    obtain ⟨h1, h2⟩ := (okV_mk k n ls l).1 h
    split
    · exact hy
    · split
      · exact h
      · split
        · refine (okV_mk _ _ _ _).2 ⟨fun h6 => by rw [(h1 h6).1]; exact ⟨rfl, (h1 h6).2⟩, fun u hu => ?_⟩
          rw [List.mem_map] at hu
          obtain ⟨v, hv, rfl⟩ := hu
          rw [List.mem_map] at hv
          obtain ⟨w, hw, rfl⟩ := hv
          exact okV_put f _ x y fr hy (okV_put f w _ _ _ (okV_var _) (h2 w hw))
        · refine (okV_mk _ _ _ _).2 ⟨fun h6 => by rw [(h1 h6).1]; exact ⟨rfl, (h1 h6).2⟩, fun u hu => ?_⟩
          rw [List.mem_map] at hu
          obtain ⟨v, hv, rfl⟩ := hu
          exact okV_put f v x y fr hy (h2 v hv)
theorem fv_var (m z : Int) : z ∈ frG (varG m) [] ↔ z = m := by
  unfold varG
  rw [fv_mk]
  simp
end Go.Proofs.YtcjkikadolnfgaaGreat

/- Putting: what stands free behind it; the same type, where the number does not stand free. -/
set_option linter.unusedSimpArgs false
set_option linter.unusedVariables false
namespace Go.Proofs.YtcjkikadolnfgaaGreat

theorem fresh_facts (fr : List Int) (l : List TG) (x n : Int) : freshN fr l x n ∉ fr ∧ (∀ u ∈ l, freshN fr l x n ∉ frG u []) ∧ freshN fr l x n ≠ x ∧ freshN fr l x n ≠ n := by
  have h := mex_not [fr, ownS l, [x, n]].flatten
  have h : freshN fr l x n ∉ [fr, ownS l, [x, n]].flatten := h
  simp only [List.flatten_cons, List.flatten_nil, List.append_nil, List.mem_append, List.mem_cons, List.not_mem_nil, or_false, not_or] at h
  obtain ⟨h1, h2, h3, h4⟩ := h
  exact ⟨h1, fun u hu hf => h2 ((mem_ownS l _).2 ⟨u, hu, hf⟩), h3, h4⟩
theorem fv_put : ∀ (f : Nat) (t : TG) (x : Int) (y : TG) (fr : List Int), szG t ≤ f → okV t = true → (∀ z, z ∈ fr ↔ z ∈ frG y []) → ∀ z, z ∈ frG (putF f t x y fr) [] ↔ (z ∈ frG t [] ∧ z ≠ x) ∨ (x ∈ frG t [] ∧ z ∈ frG y [])
  | 0, t, _, _, _, h, _, _, _ => by have := szG_pos t; omega
  | f + 1, .mk k n ls l, x, y, fr, h, hv, hfr, z => by
    have hl : ∀ u ∈ l, szG u ≤ f := fun u hu => by have := szG_mem hu; simp only [szG] at h; omega
    obtain ⟨h1, h2⟩ := (okV_mk k n ls l).1 hv
    have ih : ∀ u ∈ l, ∀ z, z ∈ frG (putF f u x y fr) [] ↔ (z ∈ frG u [] ∧ z ≠ x) ∨ (x ∈ frG u [] ∧ z ∈ frG y []) := fun u hu => fv_put f u x y fr (hl u hu) (h2 u hu) hfr
    rw [putF_mk]
    by_cases c1 : k = 6 ∧ n = x
    · rw [if_pos c1]
      obtain ⟨rfl, rfl⟩ := c1
      rw [(h1 rfl).1]
      simp only [fv_mk]
      simp
    rw [if_neg c1]
    by_cases c2 : bndG k = true ∧ n = x
    · rw [if_pos c2]
      obtain ⟨hb, rfl⟩ := c2
      simp only [fv_mk]
      have h6 : k ≠ 6 := by rintro rfl; exact absurd hb (by decide)
      simp [h6, hb]
      intro hz _ _ _; exact hz
    rw [if_neg c2]
    by_cases c3 : bndG k = true ∧ n ∈ fr ∧ 0 < l.length
    · rw [if_pos c3]
      obtain ⟨hb, hn, _⟩ := c3
      have h6 : k ≠ 6 := by rintro rfl; exact absurd hb (by decide)
      have hnx : n ≠ x := fun e => c2 ⟨hb, e⟩
      obtain ⟨m1, m2, m3, m4⟩ := fresh_facts fr l x n
      generalize freshN fr l x n = m at m1 m2 m3 m4 ⊢
      have m1 : m ∉ frG y [] := fun h => m1 ((hfr m).2 h)
      have ihn : ∀ u ∈ l, ∀ z, z ∈ frG (putF f u n (varG m) [m]) [] ↔ (z ∈ frG u [] ∧ z ≠ n) ∨ (n ∈ frG u [] ∧ z = m) := fun u hu z => by
        rw [fv_put f u n (varG m) [m] (hl u hu) (h2 u hu) (fun z => by rw [fv_var]; simp) z, fv_var]
      have ih2 : ∀ u ∈ l, ∀ z, z ∈ frG (putF f (putF f u n (varG m) [m]) x y fr) [] ↔ (((z ∈ frG u [] ∧ z ≠ n) ∨ (n ∈ frG u [] ∧ z = m)) ∧ z ≠ x) ∨ (((x ∈ frG u [] ∧ x ≠ n) ∨ (n ∈ frG u [] ∧ x = m)) ∧ z ∈ frG y []) := fun u hu z => by
        rw [fv_put f _ x y fr (Nat.le_trans (sz_put f u n (varG m) [m] (by simp [varG, szG, szGs])) (hl u hu)) (okV_put f u n _ _ (okV_var m) (h2 u hu)) hfr z, ihn u hu, ihn u hu]
      simp only [fv_mk, List.mem_map, List.map_map]
      constructor
      · rintro (⟨h, _⟩ | ⟨hz, u', ⟨u, hu, rfl⟩, h⟩)
        · exact absurd h h6
        · have hz := hz hb
          rcases (ih2 u hu z).1 h with ⟨⟨a, b⟩ | ⟨_, b⟩, c⟩ | ⟨⟨a, b⟩ | ⟨_, b⟩, c⟩
          · exact .inl ⟨.inr ⟨fun _ => b, u, hu, a⟩, c⟩
          · exact absurd b hz
          · exact .inr ⟨.inr ⟨fun _ => b, u, hu, a⟩, c⟩
          · exact absurd b.symm m3
      · rintro (⟨⟨h, _⟩ | ⟨hz, u, hu, a⟩, c⟩ | ⟨⟨h, _⟩ | ⟨hz, u, hu, a⟩, c⟩)
        · exact absurd h h6
        · exact .inr ⟨fun _ e => m2 u hu (e ▸ a), _, ⟨u, hu, rfl⟩, (ih2 u hu z).2 (.inl ⟨.inl ⟨a, hz hb⟩, c⟩)⟩
        · exact absurd h h6
        · exact .inr ⟨fun _ e => m1 (e ▸ c), _, ⟨u, hu, rfl⟩, (ih2 u hu z).2 (.inr ⟨.inl ⟨a, hz hb⟩, c⟩)⟩
    rw [if_neg c3]
    simp only [fv_mk, List.mem_map]
    have hnb : bndG k = true → l ≠ [] → n ∉ frG y [] := fun hb hl0 h => c3 ⟨hb, (hfr n).2 h, List.length_pos_iff.2 hl0⟩
    constructor
    · rintro (⟨hk, rfl⟩ | ⟨hz, u', ⟨u, hu, rfl⟩, h⟩)
      · exact .inl ⟨.inl ⟨hk, rfl⟩, fun e => c1 ⟨hk, e⟩⟩
      · rcases (ih u hu z).1 h with ⟨a, b⟩ | ⟨a, b⟩
        · exact .inl ⟨.inr ⟨hz, u, hu, a⟩, b⟩
        · exact .inr ⟨.inr ⟨fun hb e => c2 ⟨hb, e.symm⟩, u, hu, a⟩, b⟩
    · rintro (⟨⟨hk, rfl⟩ | ⟨hz, u, hu, a⟩, c⟩ | ⟨⟨hk, e⟩ | ⟨hx, u, hu, a⟩, c⟩)
      · exact .inl ⟨hk, rfl⟩
      · exact .inr ⟨hz, _, ⟨u, hu, rfl⟩, (ih u hu z).2 (.inl ⟨a, c⟩)⟩
      · exact absurd ⟨hk, e.symm⟩ c1
      · exact .inr ⟨fun hb e => hnb hb (fun e0 => by rw [e0] at hu; cases hu) (e ▸ c), _, ⟨u, hu, rfl⟩, (ih u hu z).2 (.inr ⟨a, c⟩)⟩
/-! ### The same type -/
theorem samGs_map {g h : TG → TG} {s t : List Int} : ∀ (l : List TG), (∀ u ∈ l, samG (g u) (h u) s t = true) → samGs (l.map g) (l.map h) s t = true
  | [], _ => rfl
  | u :: r, hh => by
    rw [List.map_cons, List.map_cons, samGs, hh u (by simp), samGs_map r fun v hv => hh v (by simp [hv])]; rfl
theorem samGs_trans {l m r : List TG} {c d e : List Int} : ∀ (_ : ∀ u ∈ l, ∀ v w, samG u v c d = true → samG v w d e = true → samG u w c e = true), l.length = m.length → m.length = r.length → samGs l m c d = true → samGs m r d e = true → samGs l r c e = true := by
  induction l generalizing m r with
  | nil => intro _ _ _ _ _; exact samGs_nil _ _ _
  | cons u l ih =>
    intro h h1 h2 h3 h4
    match m, r, h1, h2 with
    | v :: m, w :: r, h1, h2 =>
      rw [samGs, Bool.and_eq_true] at h3 h4 ⊢
      exact ⟨h u (by simp) v w h3.1 h4.1, ih (fun u hu => h u (by simp [hu])) (by simpa using h1) (by simpa using h2) h3.2 h4.2⟩
theorem sam_iff (k n : Int) (ls : List ByteArray) (ks : List TG) (k' n' : Int) (ls' : List ByteArray) (ks' : List TG) (s t : List Int) : samG (.mk k n ls ks) (.mk k' n' ls' ks') s t = true ↔
    k = k' ∧ ks.length = ks'.length ∧ ls = ls' ∧ (k = 6 → lastI s n = lastI t n' ∧ (lastI s n < 0 → n = n') ∧ samGs ks ks' s t = true) ∧ (bndG k = true → samGs ks ks' (s ++ [n]) (t ++ [n']) = true) ∧ (k ≠ 6 → bndG k = false → n = n' ∧ samGs ks ks' s t = true) := by
  rw [samG_mk]
  simp only [Bool.and_eq_true, decide_eq_true_eq]
  by_cases h6 : k = 6
  · subst h6
    have hb : bndG 6 = false := rfl
    by_cases hn : lastI s n < 0 <;> simp [hb, hn, and_assoc]
  · by_cases hb : bndG k = true <;> simp [h6, hb, and_assoc]
theorem sam_trans : ∀ (a b g : TG) (c d e : List Int), samG a b c d = true → samG b g d e = true → samG a g c e = true := by
  refine TG.ind fun k n ls ks ih b g c d e h1 h2 => ?_
  obtain ⟨k', n', ls', ks'⟩ := b
  obtain ⟨k2, n2, ls2, ks2⟩ := g
  obtain ⟨rfl, a2, rfl, a4, a5, a6⟩ := (sam_iff ..).1 h1
  obtain ⟨rfl, b2, rfl, b4, b5, b6⟩ := (sam_iff ..).1 h2
  have tr : ∀ c d e, samGs ks ks' c d = true → samGs ks' ks2 d e = true → samGs ks ks2 c e = true := fun c d e => samGs_trans (fun u hu v w => ih u hu v w c d e) a2 b2
  refine (sam_iff ..).2 ⟨rfl, a2.trans b2, rfl, fun h6 => ?_, fun hb => tr _ _ _ (a5 hb) (b5 hb), fun h6 hb => ⟨(a6 h6 hb).1.trans (b6 h6 hb).1, tr _ _ _ (a6 h6 hb).2 (b6 h6 hb).2⟩⟩
  obtain ⟨p1, p2, p3⟩ := a4 h6
  obtain ⟨q1, q2, q3⟩ := b4 h6
  exact ⟨p1.trans q1, fun hn => (p2 hn).trans (q2 (p1 ▸ hn)), tr _ _ _ p3 q3⟩
/-- The same type, in two contexts that tell its free numbers alike. -/
theorem sam_ctx : ∀ (t : TG) (c d : List Int), c.length = d.length → (∀ z ∈ frG t [], lastI c z = lastI d z) → samG t t c d = true := by
  refine TG.ind fun k n ls l ih c d hcd h => ?_
  have hz : ∀ z, (bndG k = true → z ≠ n) → (∃ u ∈ l, z ∈ frG u []) → lastI c z = lastI d z := fun z h1 h2 => h z ((fv_mk ..).2 (.inr ⟨h1, h2⟩))
  have key : ∀ c' d' : List Int, c'.length = d'.length → (∀ u ∈ l, ∀ z ∈ frG u [], lastI c' z = lastI d' z) → samGs l l c' d' = true := fun c' d' e hh => by
    have := samGs_map (g := id) (h := id) (s := c') (t := d') l fun u hu => ih u hu c' d' e (hh u hu)
    simpa using this
  refine (sam_iff ..).2 ⟨rfl, rfl, rfl, fun h6 => ⟨h n ((fv_mk ..).2 (.inl ⟨h6, rfl⟩)), fun _ => rfl, ?_⟩, fun hb => ?_, fun h6 hb => ⟨rfl, ?_⟩⟩
  · exact key c d hcd fun u hu z hzu => hz z (fun hb => absurd h6 (by rintro rfl; exact absurd hb (by decide))) ⟨u, hu, hzu⟩
  · refine key _ _ (by simp [hcd]) fun u hu z hzu => ?_
    by_cases e : z = n
    · subst e; rw [lastI_end, lastI_end, hcd]
    · rw [lastI_snoc c e, lastI_snoc d e]; exact hz z (fun _ => e) ⟨u, hu, hzu⟩
  · exact key c d hcd fun u hu z hzu => hz z (fun hb' => by rw [hb'] at hb; cases hb) ⟨u, hu, hzu⟩
end Go.Proofs.YtcjkikadolnfgaaGreat

/- Renaming, and putting for a number that does not stand free: the same type. -/
set_option linter.unusedSimpArgs false
set_option linter.unusedVariables false
namespace Go.Proofs.YtcjkikadolnfgaaGreat

theorem samGs_self {g : TG → TG} {s t : List Int} (l : List TG) (h : ∀ u ∈ l, samG (g u) u s t = true) : samGs (l.map g) l s t = true := by
  have := samGs_map (g := g) (h := id) l h
  simpa using this
theorem bnd_ne6 {k : Int} (h : bndG k = true) : k ≠ 6 := by rintro rfl; exact absurd h (by decide)
theorem sam_ren : ∀ (f : Nat) (t : TG) (n m : Int) (c d : List Int), szG t ≤ f → okV t = true → m ∉ frG t [] → m ≠ n → c.length = d.length → (∀ z ∈ frG t [], z ≠ n → lastI c z = lastI d z) → (n ∈ frG t [] → lastI c m = lastI d n ∧ 0 ≤ lastI d n) → samG (putF f t n (varG m) [m]) t c d = true
  | 0, t, _, _, _, _, h, _, _, _, _, _, _ => by have := szG_pos t; omega
  | f + 1, .mk k p ls l, n, m, c, d, h, hv, hm, hmn, hcd, hz, hn => by
    have hl : ∀ u ∈ l, szG u ≤ f := fun u hu => by have := szG_mem hu; simp only [szG] at h; omega
    obtain ⟨h1, h2⟩ := (okV_mk k p ls l).1 hv
    have fvt : ∀ z, (bndG k = true → z ≠ p) → (∃ u ∈ l, z ∈ frG u []) → z ∈ frG (.mk k p ls l) [] := fun z a b => (fv_mk ..).2 (.inr ⟨a, b⟩)
    rw [putF_mk]
    by_cases c1 : k = 6 ∧ p = n
    · rw [if_pos c1]
      obtain ⟨rfl, rfl⟩ := c1
      obtain ⟨rfl, rfl⟩ := h1 rfl
      obtain ⟨q1, q2⟩ := hn ((fv_mk ..).2 (.inl ⟨rfl, rfl⟩))
      unfold varG
      exact (sam_iff ..).2 ⟨rfl, rfl, rfl, fun _ => ⟨q1, fun h => by omega, rfl⟩, fun hb => absurd rfl (bnd_ne6 hb), fun h => absurd rfl h⟩
    rw [if_neg c1]
    by_cases c2 : bndG k = true ∧ p = n
    · rw [if_pos c2]
      obtain ⟨hb, rfl⟩ := c2
      refine sam_ctx _ c d hcd fun z hzt => hz z hzt ?_
      rcases (fv_mk ..).1 hzt with ⟨h6, _⟩ | ⟨h3, _⟩
      · exact absurd h6 (bnd_ne6 hb)
      · exact h3 hb
    rw [if_neg c2]
    by_cases c3 : bndG k = true ∧ p ∈ [m] ∧ 0 < l.length
    · rw [if_pos c3]
      obtain ⟨hb, hpm, _⟩ := c3
      obtain rfl : p = m := by simpa using hpm
      obtain ⟨m1, m2, m3, m4⟩ := fresh_facts [p] l n p
      generalize freshN [p] l n p = q at m1 m2 m3 m4 ⊢
      refine (sam_iff ..).2 ⟨rfl, by simp, rfl, fun h6 => absurd h6 (bnd_ne6 hb), fun _ => ?_, fun _ hb' => by rw [hb] at hb'; cases hb'⟩
      rw [List.map_map]
      refine samGs_self l fun u hu => ?_
      have fu : ∀ z, z ∈ frG (putF f u p (varG q) [q]) [] ↔ (z ∈ frG u [] ∧ z ≠ p) ∨ (p ∈ frG u [] ∧ z = q) := fun z => by
        rw [fv_put f u p (varG q) [q] (hl u hu) (h2 u hu) (fun z => by rw [fv_var]; simp) z, fv_var]
      refine sam_trans _ (putF f u p (varG q) [q]) u (c ++ [q]) (d ++ [q]) (d ++ [p]) ?_ ?_
      · refine sam_ren f _ n p (c ++ [q]) (d ++ [q]) (Nat.le_trans (sz_put f u p (varG q) [q] (by simp [varG, szG, szGs])) (hl u hu)) (okV_put f u p _ _ (okV_var q) (h2 u hu)) ?_ hmn (by simp [hcd]) ?_ ?_
        · intro hp
          rcases (fu p).1 hp with ⟨_, e⟩ | ⟨_, e⟩
          · exact e rfl
          · exact m4 e.symm
        · intro z hzu hzn
          by_cases e : z = q
          · subst e; rw [lastI_end, lastI_end, hcd]
          · rw [lastI_snoc c e, lastI_snoc d e]
            rcases (fu z).1 hzu with ⟨a, b⟩ | ⟨_, e'⟩
            · exact hz z (fvt z (fun _ => b) ⟨u, hu, a⟩) hzn
            · exact absurd e' e
        · intro hnu
          rcases (fu n).1 hnu with ⟨a, b⟩ | ⟨_, e'⟩
          · rw [lastI_snoc c (Ne.symm m4), lastI_snoc d (Ne.symm m3)]
            exact hn (fvt n (fun _ => b) ⟨u, hu, a⟩)
          · exact absurd e'.symm m3
      · refine sam_ren f u p q (d ++ [q]) (d ++ [p]) (hl u hu) (h2 u hu) (m2 u hu) m4 (by simp) ?_ ?_
        · intro z hzu hzp
          have e : z ≠ q := fun e => m2 u hu (e ▸ hzu)
          rw [lastI_snoc d e, lastI_snoc d hzp]
        · intro _
          rw [lastI_end, lastI_end]
          exact ⟨rfl, by omega⟩
    rw [if_neg c3]
    refine (sam_iff ..).2 ⟨rfl, by simp, rfl, fun h6 => ?_, fun hb => ?_, fun h6 hb => ⟨rfl, ?_⟩⟩
    · have hpn : p ≠ n := fun e => c1 ⟨h6, e⟩
      refine ⟨hz p ((fv_mk ..).2 (.inl ⟨h6, rfl⟩)) hpn, fun _ => rfl, ?_⟩
      rw [(h1 h6).1]; rfl
    · refine samGs_self l fun u hu => ?_
      have hl0 : 0 < l.length := List.length_pos_of_mem hu
      have hpm : p ≠ m := fun e => c3 ⟨hb, by simp [e], hl0⟩
      have hpn : p ≠ n := fun e => c2 ⟨hb, e⟩
      refine sam_ren f u n m (c ++ [p]) (d ++ [p]) (hl u hu) (h2 u hu) (fun hmu => hm (fvt m (fun _ => Ne.symm hpm) ⟨u, hu, hmu⟩)) hmn (by simp [hcd]) ?_ ?_
      · intro z hzu hzn
        by_cases e : z = p
        · subst e; rw [lastI_end, lastI_end, hcd]
        · rw [lastI_snoc c e, lastI_snoc d e]
          exact hz z (fvt z (fun _ => e) ⟨u, hu, hzu⟩) hzn
      · intro hnu
        rw [lastI_snoc c (Ne.symm hpm), lastI_snoc d (Ne.symm hpn)]
        exact hn (fvt n (fun _ => Ne.symm hpn) ⟨u, hu, hnu⟩)
    · refine samGs_self l fun u hu => ?_
      have nb : bndG k = true → False := fun h => by rw [h] at hb; cases hb
      exact sam_ren f u n m c d (hl u hu) (h2 u hu) (fun hmu => hm (fvt m (fun h => (nb h).elim) ⟨u, hu, hmu⟩)) hmn hcd (fun z hzu hzn => hz z (fvt z (fun h => (nb h).elim) ⟨u, hu, hzu⟩) hzn) (fun hnu => hn (fvt n (fun h => (nb h).elim) ⟨u, hu, hnu⟩))
theorem sam_put : ∀ (f : Nat) (t : TG) (x : Int) (y : TG) (fr c : List Int), szG t ≤ f → okV t = true → x ∉ frG t [] → samG (putF f t x y fr) t c c = true
  | 0, t, _, _, _, _, h, _, _ => by have := szG_pos t; omega
  | f + 1, .mk k p ls l, x, y, fr, c, h, hv, hx => by
    have hl : ∀ u ∈ l, szG u ≤ f := fun u hu => by have := szG_mem hu; simp only [szG] at h; omega
    obtain ⟨h1, h2⟩ := (okV_mk k p ls l).1 hv
    have fvt : ∀ z, (bndG k = true → z ≠ p) → (∃ u ∈ l, z ∈ frG u []) → z ∈ frG (.mk k p ls l) [] := fun z a b => (fv_mk ..).2 (.inr ⟨a, b⟩)
    rw [putF_mk]
    by_cases c1 : k = 6 ∧ p = x
    · exact absurd ((fv_mk ..).2 (.inl ⟨c1.1, c1.2.symm⟩)) hx
    rw [if_neg c1]
    by_cases c2 : bndG k = true ∧ p = x
    · rw [if_pos c2]
      exact sam_ctx _ c c rfl fun _ _ => rfl
    rw [if_neg c2]
    by_cases c3 : bndG k = true ∧ p ∈ fr ∧ 0 < l.length
    · rw [if_pos c3]
      obtain ⟨hb, _, _⟩ := c3
      have hpx : p ≠ x := fun e => c2 ⟨hb, e⟩
      obtain ⟨m1, m2, m3, m4⟩ := fresh_facts fr l x p
      generalize freshN fr l x p = q at m1 m2 m3 m4 ⊢
      refine (sam_iff ..).2 ⟨rfl, by simp, rfl, fun h6 => absurd h6 (bnd_ne6 hb), fun _ => ?_, fun _ hb' => by rw [hb] at hb'; cases hb'⟩
      rw [List.map_map]
      refine samGs_self l fun u hu => ?_
      have fu : ∀ z, z ∈ frG (putF f u p (varG q) [q]) [] ↔ (z ∈ frG u [] ∧ z ≠ p) ∨ (p ∈ frG u [] ∧ z = q) := fun z => by
        rw [fv_put f u p (varG q) [q] (hl u hu) (h2 u hu) (fun z => by rw [fv_var]; simp) z, fv_var]
      refine sam_trans _ (putF f u p (varG q) [q]) u (c ++ [q]) (c ++ [q]) (c ++ [p]) ?_ ?_
      · refine sam_put f _ x y fr (c ++ [q]) (Nat.le_trans (sz_put f u p (varG q) [q] (by simp [varG, szG, szGs])) (hl u hu)) (okV_put f u p _ _ (okV_var q) (h2 u hu)) ?_
        intro hxu
        rcases (fu x).1 hxu with ⟨a, b⟩ | ⟨_, e'⟩
        · exact hx (fvt x (fun _ => b) ⟨u, hu, a⟩)
        · exact m3 e'.symm
      · refine sam_ren f u p q (c ++ [q]) (c ++ [p]) (hl u hu) (h2 u hu) (m2 u hu) m4 (by simp) ?_ ?_
        · intro z hzu hzp
          have e : z ≠ q := fun e => m2 u hu (e ▸ hzu)
          rw [lastI_snoc c e, lastI_snoc c hzp]
        · intro _
          rw [lastI_end, lastI_end]
          exact ⟨rfl, by omega⟩
    rw [if_neg c3]
    refine (sam_iff ..).2 ⟨rfl, by simp, rfl, fun h6 => ⟨rfl, fun _ => rfl, by rw [(h1 h6).1]; rfl⟩, fun hb => ?_, fun h6 hb => ⟨rfl, ?_⟩⟩
    · refine samGs_self l fun u hu => ?_
      have hpx : p ≠ x := fun e => c2 ⟨hb, e⟩
      exact sam_put f u x y fr (c ++ [p]) (hl u hu) (h2 u hu) (fun hxu => hx (fvt x (fun _ => Ne.symm hpx) ⟨u, hu, hxu⟩))
    · refine samGs_self l fun u hu => ?_
      have nb : bndG k = true → False := fun h => by rw [h] at hb; cases hb
      exact sam_put f u x y fr c (hl u hu) (h2 u hu) (fun hxu => hx (fvt x (fun h => (nb h).elim) ⟨u, hu, hxu⟩))
end Go.Proofs.YtcjkikadolnfgaaGreat


/- The reference's RightType. -/
set_option linter.unusedSimpArgs false
set_option linter.unusedVariables false
namespace Go.Proofs.YtcjkikadolnfgaaGreat
open Go.Vx Go.Vc Go.RowKit

theorem orderedR_fn (l : List ByteArray) : FnR Tryz.prog G0 104 [dL l] (.bool (ordS l)) := by
  refine fnQ_sz fun hs => ?_
  have hl := (szOk_sl hs.1).1
  simp only [LB] at hl
  refine fnQ_of_vc txok mixed [(4, .pure 0 (.pure 1 (.pure 2 (.pure 3 (.take 4 (.pure 5 (.pure 6 (.pure 7 (.take 8 (.pure 9 .done))))))))))] Tryz.func104 rfl rfl (by simp) fun b => ?_
  conv => whnf
  refine loopH (fun i : Nat => (i ≤ l.length ∨ i = 0) ∧ ordS l = ordS (l.drop i)) (fun i => l.length - i) (fun i => [(3, .d (.int .i64 ((i + 1 : Nat) : Int)))]) (fun _ => []) 0 0 ⟨by omega, rfl⟩ (weak_of rfl (by repeat ((conv => whnf); first | exact trivial | refine And.intro rfl ?_ | refine And.intro (incD (by omega)) ?_)) (by repeat ((conv => whnf); first | exact trivial | refine And.intro rfl ?_ | refine And.intro (incD (by omega)) ?_))) ?_
  rintro i ⟨hi, hx⟩
  conv => whnf
  refine And.intro (fun hb => ?_) (fun hb => ?_)
  · have hb : i + 1 < l.length := by have := of_decide_eq_true hb; omega
    rw [ordS_drop hb] at hx
    conv => whnf
    refine And.intro (by kernel_rfl) ?_
    conv => whnf
    have e1 : IntKind.i64.wrap (((i + 1 : Nat) : Int) - 1) = (i : Int) := (Go.Vc.wrap_small (by omega) (by omega)).trans (by omega)
    rw [e1]
    refine IdxC.encS i (by omega) rfl ?_
    conv => whnf
    refine IdxC.encS (i + 1) hb rfl ?_
    conv => whnf
    refine And.intro (fun he => ?_) (fun he => ?_)
    · conv => whnf
      refine congrArg D.bool ?_
      rw [hx]
      simp only [Bool.not_eq_true'] at he
      rw [he]; rfl
    · conv => whnf
      simp only [Bool.not_eq_false'] at he
      rw [he, Bool.true_and] at hx
      rw [incD (by omega)]
      exact again (i + 1) (by omega) ⟨by omega, hx⟩ (weak_of rfl (by repeat ((conv => whnf); first | exact trivial | refine And.intro rfl ?_ | refine And.intro (incD (by omega)) ?_)) (by repeat ((conv => whnf); first | exact trivial | refine And.intro rfl ?_ | refine And.intro (incD (by omega)) ?_)))
  · have hb : ¬ i + 1 < l.length := by have := of_decide_eq_false hb; omega
    conv => whnf
    refine congrArg D.bool ?_
    rw [hx]
    have : (l.drop i).length ≤ 1 := by simp; omega
    match h : l.drop i, this with
    | [], _ => rfl
    | [_], _ => rfl

def kidN (k : Int) : Int := if k = 1 ∨ k = 2 ∨ k = 3 ∨ k = 6 then 0 else if k = 4 ∨ k = 5 then 2 else if k = 7 ∨ k = 8 then -1 else if k = 9 ∨ k = 10 ∨ k = 11 then 1 else -2
theorem kidsR_fn (k : Int) : FnR Tryz.prog G0 103 [.int .i64 k] (.int .i64 (kidN k)) := by
  refine fnQ_of_vc txok mixed [] Tryz.func103 rfl rfl (by simp) fun b => ?_
  repeat' ((conv => whnf); refine And.intro (fun h => ?_) (fun h => ?_))
  all_goals (conv => whnf)
  all_goals refine congrArg (D.int .i64) ?_
  all_goals simp_all [kidN]
theorem bindsR_fn (k : Int) : FnR Tryz.prog G0 54 [.int .i64 k] (.bool (bndG k)) := by
  refine fnQ_of_vc txok mixed [] Tryz.func54 rfl rfl (by simp) fun b => ?_
  (repeat' ((conv => whnf); first | refine And.intro (fun _ => ?_) (fun _ => ?_))) <;> (conv => whnf)
  all_goals simp_all [bndG, retD]
def shA (k : Int) (len : Nat) : Bool := !(kidN k == -2 || (decide (kidN k ≥ 0) && ((len : Int) != kidN k)))
def shB (k n : Int) : Bool := !((n != 0 && (k != 6)) && !bndG k)
def shC (k : Int) (ls : List ByteArray) (len : Nat) : Bool := if k == 7 then !(((ls.length : Int) != (len : Int)) || !ordS ls) else !(decide ((ls.length : Int) > 0))
def shR (k n : Int) (ls : List ByteArray) (len : Nat) : Bool := shA k len && shB k n && shC k ls len
mutual
def rightR : TG → Bool
  | .mk k n ls l => shR k n ls l.length && rightRs l
def rightRs : List TG → Bool
  | [] => true
  | t :: r => rightR t && rightRs r
end
theorem rightRs_drop {l : List TG} {i : Nat} (h : i < l.length) : rightRs (l.drop i) = (rightR l[i] && rightRs (l.drop (i + 1))) := by
  rw [List.drop_eq_getElem_cons h, rightRs]
theorem rightR_fn : ∀ t : TG, FnR Tryz.prog G0 63 [dG t] (.bool (rightR t)) := by
  refine TG.ind fun k n ls ks ih => ?_
  refine fnQ_sz fun hs => ?_
  have hl := (szOk_G (t := .mk k n ls ks) hs.1).1
  simp only [g_kids, LB] at hl
  refine fnQ_of_vc txok mixed ((100004, .done) :: (100006, .done) :: [(100011, .done)]) Tryz.func63 rfl rfl (by simp) fun b => ?_
  conv => whnf
  refine callF (kidsR_fn k) gf103 rfl rfl ?_
  simp only [g_k]
  conv => whnf
  refine CutC.mk (fun st => shA k ks.length = true ∧ st = ⟨[(1, .own 0 0)], [(0, .blk 28 [.d (.int .i64 k), .d (.int .i64 n), .d (dL ls), .d (dGs ks)])], 1⟩) ?_ ?_
  · try simp only [g_k, g_n, g_ls, g_kids]
    repeat' ((conv => whnf); first
      | refine And.intro (fun h => ?_) (fun h => ?_)
      | refine callF (kidsR_fn k) gf103 rfl rfl ?_
      | refine callF (bindsR_fn k) gf54 rfl rfl ?_
      | refine callF (orderedR_fn ls) gf104 rfl rfl ?_)
    all_goals (conv => whnf)
    all_goals first
      | exact ⟨_, ⟨by simp_all [shA], rfl⟩, weak_of rfl (by repeat ((conv => whnf); first | exact trivial | refine And.intro rfl ?_ | refine And.intro (incD (by omega)) ?_)) (by repeat ((conv => whnf); first | exact trivial | refine And.intro rfl ?_ | refine And.intro (incD (by omega)) ?_))⟩
      | (refine congrArg D.bool ?_; rw [rightR, shR]; simp_all [shA])
  rintro st' ⟨hA, rfl⟩
  conv => whnf
  refine CutC.mk (fun st => shB k n = true ∧ st = ⟨[(1, .own 0 0)], [(0, .blk 28 [.d (.int .i64 k), .d (.int .i64 n), .d (dL ls), .d (dGs ks)])], 1⟩) ?_ ?_
  · try simp only [g_k, g_n, g_ls, g_kids]
    repeat' ((conv => whnf); first
      | refine And.intro (fun h => ?_) (fun h => ?_)
      | refine callF (kidsR_fn k) gf103 rfl rfl ?_
      | refine callF (bindsR_fn k) gf54 rfl rfl ?_
      | refine callF (orderedR_fn ls) gf104 rfl rfl ?_)
    all_goals (conv => whnf)
    all_goals first
      | exact ⟨_, ⟨by simp_all [shB], rfl⟩, weak_of rfl (by repeat ((conv => whnf); first | exact trivial | refine And.intro rfl ?_ | refine And.intro (incD (by omega)) ?_)) (by repeat ((conv => whnf); first | exact trivial | refine And.intro rfl ?_ | refine And.intro (incD (by omega)) ?_))⟩
      | (refine congrArg D.bool ?_; rw [rightR, shR]; simp_all [shB])
  rintro st' ⟨hB, rfl⟩
  conv => whnf
  refine CutC.mk (fun st => shC k ls ks.length = true ∧ st = ⟨[(1, .own 0 0)], [(0, .blk 28 [.d (.int .i64 k), .d (.int .i64 n), .d (dL ls), .d (dGs ks)])], 1⟩) ?_ ?_
  · try simp only [g_k, g_n, g_ls, g_kids]
    repeat' ((conv => whnf); first
      | refine And.intro (fun h => ?_) (fun h => ?_)
      | refine callF (kidsR_fn k) gf103 rfl rfl ?_
      | refine callF (bindsR_fn k) gf54 rfl rfl ?_
      | refine callF (orderedR_fn ls) gf104 rfl rfl ?_)
    all_goals (conv => whnf)
    all_goals first
      | exact ⟨_, ⟨by simp_all [shC], rfl⟩, weak_of rfl (by repeat ((conv => whnf); first | exact trivial | refine And.intro rfl ?_ | refine And.intro (incD (by omega)) ?_)) (by repeat ((conv => whnf); first | exact trivial | refine And.intro rfl ?_ | refine And.intro (incD (by omega)) ?_))⟩
      | (refine congrArg D.bool ?_; rw [rightR, shR]; simp_all [shC])
  rintro st' ⟨hC, rfl⟩
  have hR : rightR (.mk k n ls ks) = rightRs ks := by rw [rightR, shR, hA, hB, hC]; rfl
  rw [hR]
  conv => whnf
  simp only [g_kids]
  refine loopH (fun i : Nat => i ≤ ks.length ∧ rightRs ks = rightRs (ks.drop i)) (fun i => ks.length - i) (fun i => [(4, .d (.int .i64 i))]) (fun _ => [(0, .blk 28 [.d (.int .i64 k), .d (.int .i64 n), .d (dL ls), .d (dGs ks)])]) 1 0 ⟨by omega, rfl⟩ (weak_of rfl (by repeat ((conv => whnf); first | exact trivial | refine And.intro rfl ?_ | refine And.intro (incD (by omega)) ?_)) (by repeat ((conv => whnf); first | exact trivial | refine And.intro rfl ?_ | refine And.intro (incD (by omega)) ?_))) ?_
  rintro i ⟨hi, hx⟩
  conv => whnf
  refine And.intro (fun hb => ?_) (fun hb => ?_)
  · have hil : i < ks.length := by have := of_decide_eq_true hb; omega
    rw [rightRs_drop hil] at hx
    conv => whnf
    refine IdxC.encGs i hil rfl ?_
    conv => whnf
    refine callF (ih ks[i] (by simp)) gf63 rfl rfl ?_
    conv => whnf
    refine And.intro (fun h => ?_) (fun h => ?_)
    · conv => whnf
      refine congrArg D.bool ?_
      rw [hx]; simp_all
    · conv => whnf
      rw [incD (by omega)]
      exact again (i + 1) (by omega) ⟨by omega, by rw [hx]; simp_all⟩ (weak_of rfl (by repeat ((conv => whnf); first | exact trivial | refine And.intro rfl ?_ | refine And.intro (incD (by omega)) ?_)) (by repeat ((conv => whnf); first | exact trivial | refine And.intro rfl ?_ | refine And.intro (incD (by omega)) ?_)))
  · have hi : i = ks.length := by have := of_decide_eq_false hb; omega
    subst hi
    conv => whnf
    refine congrArg D.bool ?_
    rw [hx, List.drop_length]; rfl
end Go.Proofs.YtcjkikadolnfgaaGreat


/- The reference's RightType, Put1, Ints. -/
set_option linter.unusedSimpArgs false
set_option linter.unusedVariables false
namespace Go.Proofs.YtcjkikadolnfgaaGreat
open Go.Vx Go.Vc Go.RowKit

def deepR : Nat → TG → Bool
  | 0, _ => true
  | n + 1, t => t.kids.any (deepR n)
theorem deepR_fn : ∀ (n : Nat) (t : TG), n ≤ 100000 → FnR Tryz.prog G0 62 [dG t, .int .i64 n] (.bool (deepR n t)) := by
  intro n
  induction n with
  | zero =>
    intro t _
    refine fnQ_of_vc txok mixed [] Tryz.func62 rfl rfl (by simp) fun b => ?_
    conv => whnf
    refine And.intro (fun h => ?_) (fun h => by simp at h)
    conv => whnf
    try exact rfl
  | succ q ihn =>
    intro t hq
    obtain ⟨k, n, ls, ks⟩ := t
    refine fnQ_sz fun hs => ?_
    have hl := (szOk_G (t := .mk k n ls ks) hs.1).1
    simp only [g_kids, LB] at hl
    refine fnQ_of_vc txok mixed [] Tryz.func62 rfl rfl (by simp) fun b => ?_
    conv => whnf
    refine And.intro (fun h => by simp at h; omega) (fun h => ?_)
    have hR : deepR (q + 1) (.mk k n ls ks) = ks.any (deepR q) := rfl
    rw [hR]
    conv => whnf
    simp only [g_kids]
    refine loopH (fun i : Nat => i ≤ ks.length ∧ ks.any (deepR q) = (ks.drop i).any (deepR q)) (fun i => ks.length - i) (fun i => [(5, .d (.int .i64 i))]) (fun _ => [(0, .blk 28 [.d (.int .i64 k), .d (.int .i64 n), .d (dL ls), .d (dGs ks)])]) 1 0 ⟨by omega, rfl⟩ (weak_of rfl (by repeat ((conv => whnf); first | exact trivial | refine And.intro rfl ?_ | refine And.intro (incD (by omega)) ?_)) (by repeat ((conv => whnf); first | exact trivial | refine And.intro rfl ?_ | refine And.intro (incD (by omega)) ?_))) ?_
    rintro i ⟨hi, hx⟩
    conv => whnf
    refine And.intro (fun hb => ?_) (fun hb => ?_)
    · have hil : i < ks.length := by have := of_decide_eq_true hb; omega
      rw [List.drop_eq_getElem_cons hil, List.any_cons] at hx
      conv => whnf
      refine IdxC.encGs i hil rfl ?_
      conv => whnf
      rw [show IntKind.i64.wrap (((q + 1 : Nat) : Int) - 1) = (q : Int) from (Go.Vc.wrap_small (by omega) (by omega)).trans (by omega)]
      refine callF (ihn ks[i] (by omega)) gf62 rfl rfl ?_
      conv => whnf
      refine And.intro (fun h => ?_) (fun h => ?_)
      · conv => whnf
        refine congrArg D.bool ?_
        rw [hx, h]; rfl
      · conv => whnf
        rw [incD (by omega)]
        exact again (i + 1) (by omega) ⟨by omega, by rw [hx, h]; rfl⟩ (weak_of rfl (by repeat ((conv => whnf); first | exact trivial | refine And.intro rfl ?_ | refine And.intro (incD (by omega)) ?_)) (by repeat ((conv => whnf); first | exact trivial | refine And.intro rfl ?_ | refine And.intro (incD (by omega)) ?_)))
    · have hi : i = ks.length := by have := of_decide_eq_false hb; omega
      subst hi
      conv => whnf
      refine congrArg D.bool ?_
      rw [hx, List.drop_length]; rfl
def rtR (t : TG) : Int := if deepR 100000 t = true then 4 else if rightR t = true then 0 else 1
theorem rtR_fn (t : TG) : FnR Tryz.prog G0 30 [dG t] (.int .i64 (rtR t)) := by
  refine fnQ_of_vc txok mixed [] Tryz.func30 rfl rfl (by simp) fun b => ?_
  conv => whnf
  refine callF (deepR_fn 100000 t (by omega)) gf62 rfl rfl ?_
  conv => whnf
  refine And.intro (fun h => ?_) (fun h => ?_)
  · conv => whnf
    rw [rtR, if_pos h]
  · conv => whnf
    refine callF (rightR_fn t) gf63 rfl rfl ?_
    conv => whnf
    refine And.intro (fun h2 => ?_) (fun h2 => ?_)
    · conv => whnf
      rw [rtR, if_neg (by simp [h]), if_neg (by simpa using h2)]
    · conv => whnf
      rw [rtR, if_neg (by simp [h]), if_pos (by simpa using h2)]
/-! ### Sets of numbers -/
def insF : List Int → Int → List Int
  | [], x => [x]
  | y :: r, x => if y > x then x :: y :: r else y :: insF r x
def put1 (l : List Int) (x : Int) : List Int := if x ∈ l then l else insF l x
end Go.Proofs.YtcjkikadolnfgaaGreat

/- Put1. -/
set_option linter.unusedSimpArgs false
set_option linter.unusedVariables false
namespace Go.Proofs.YtcjkikadolnfgaaGreat
open Go.Vx Go.Vc Go.RowKit

def restF (d : Bool) (l : List Int) (x : Int) : List Int := match d with
  | true => l
  | false => insF l x
def p1H (o : List Int) : Hp := [(0, .row 3 8 1 o.length (Vx.encI o))]
theorem put1_fn (l : List Int) (x : Int) (hl : l.length < 1099511627776) : FnR Tryz.prog G0 108 [dI l, .int .i64 x] (dI (put1 l x)) := by
  refine fnQ_of_vc txok mixed [] Tryz.func108 rfl rfl (by simp) fun b => ?_
  conv => whnf
  refine loopH (fun y : Nat × Bool × List Int => y.1 ≤ l.length ∧ x ∉ l.take y.1 ∧ insF l x = y.2.2 ++ restF y.2.1 (l.drop y.1) x ∧ y.2.2.length ≤ y.1 + y.2.1.toNat) (fun y => l.length - y.1) (fun y => [(7, .d (.int .i64 y.1)), (6, .d (.bool y.2.1)), (5, .row 0)]) (fun y => p1H y.2.2) 1 (0, false, []) ⟨by simp, by simp, by simp [restF], by simp⟩ (((weak_kbT 6 false rfl).trans (weak_nlT 5 3 8 1 rfl)).trans (weak_of rfl (by repeat ((conv => whnf); first | exact trivial | refine And.intro rfl ?_ | refine And.intro (incD (by omega)) ?_)) (by repeat ((conv => whnf); first | exact trivial | refine And.intro rfl ?_ | refine And.intro (incD (by omega)) ?_)))) ?_
  rintro ⟨i, d, o⟩ ⟨hi, hx, ho, hlen⟩
  simp only at hi hx ho hlen
  have hd1 : d.toNat ≤ 1 := by cases d <;> decide
  conv => whnf
  refine And.intro (fun hb => ?_) (fun hb => ?_)
  · have hil : i < l.length := by have := of_decide_eq_true hb; omega
    have htk : l.take (i + 1) = l.take i ++ [l[i]] := List.take_succ_eq_append_getElem hil
    rw [List.drop_eq_getElem_cons hil] at ho
    conv => whnf
    refine IdxC.encI i hil rfl ?_
    conv => whnf
    refine And.intro (fun he => ?_) (fun he => ?_)
    · have he : l[i] = x := eq_of_beq he
      conv => whnf
      rw [put1, if_pos (he ▸ List.getElem_mem hil)]
    · have he : l[i] ≠ x := by simpa using he
      have hx' : x ∉ l.take (i + 1) := by
        rw [htk, List.mem_append, List.mem_singleton, not_or]
        exact ⟨hx, fun e => he e.symm⟩
      conv => whnf
      refine And.intro (fun h => ?_) (fun h => ?_)
      · have h : d = false := by simpa using h
        subst h
        conv => whnf
        refine IdxC.encI i hil rfl ?_
        conv => whnf
        refine And.intro (fun h2 => ?_) (fun h2 => ?_)
        · have h2 := of_decide_eq_true h2
          rw [restF, insF, if_pos h2] at ho
          conv => whnf
          refine appR (i := 0) (sz := 1) (n := (o).length) (m := 1) (xs := Vx.encI (o)) (ys := [.int .i64 (x)]) txok (fun k => Nat.ble 1 k) (o ++ [x]).length (Vx.encI (o ++ [x])) (by exact rfl) (by exact rfl) (by exact rfl) (by kernel_rfl) (by exact rfl) (scalDs_mem (by exact rfl)) (by simp) (by simp [Vx.encI]) (by simp only [LB, List.length_append, List.length_cons, List.length_nil]; omega) ?_
          conv => whnf
          refine IdxC.encI i hil rfl ?_
          conv => whnf
          refine appR (i := 0) (sz := 1) (n := (o ++ [x]).length) (m := 1) (xs := Vx.encI (o ++ [x])) (ys := [.int .i64 (l[i])]) txok (fun k => Nat.ble 1 k) (o ++ [x] ++ [l[i]]).length (Vx.encI (o ++ [x] ++ [l[i]])) (by exact rfl) (by exact rfl) (by exact rfl) (by kernel_rfl) (by exact rfl) (scalDs_mem (by exact rfl)) (by simp) (by simp [Vx.encI]) (by simp only [LB, List.length_append, List.length_cons, List.length_nil]; omega) ?_
          conv => whnf
          rw [incD (by omega)]
          exact again (i + 1, true, o ++ [x] ++ [l[i]]) (by simp; omega) ⟨by simp; omega, hx', by rw [ho]; simp [restF], by simp at hlen ⊢; omega⟩ ((weak_kbT 6 true rfl).trans (weak_of rfl (by repeat ((conv => whnf); first | exact trivial | refine And.intro rfl ?_ | refine And.intro (incD (by omega)) ?_)) (by repeat ((conv => whnf); first | exact trivial | refine And.intro rfl ?_ | refine And.intro (incD (by omega)) ?_))))
        · have h2 := of_decide_eq_false h2
          rw [restF, insF, if_neg h2] at ho
          conv => whnf
          refine IdxC.encI i hil rfl ?_
          conv => whnf
          refine appR (i := 0) (sz := 1) (n := (o).length) (m := 1) (xs := Vx.encI (o)) (ys := [.int .i64 (l[i])]) txok (fun k => Nat.ble 1 k) (o ++ [l[i]]).length (Vx.encI (o ++ [l[i]])) (by exact rfl) (by exact rfl) (by exact rfl) (by kernel_rfl) (by exact rfl) (scalDs_mem (by exact rfl)) (by simp) (by simp [Vx.encI]) (by simp only [LB, List.length_append, List.length_cons, List.length_nil]; omega) ?_
          conv => whnf
          rw [incD (by omega)]
          exact again (i + 1, false, o ++ [l[i]]) (by simp; omega) ⟨by simp; omega, hx', by rw [ho]; simp [restF], by simp at hlen ⊢; omega⟩ (weak_of rfl (by repeat ((conv => whnf); first | exact trivial | refine And.intro rfl ?_ | refine And.intro (incD (by omega)) ?_)) (by repeat ((conv => whnf); first | exact trivial | refine And.intro rfl ?_ | refine And.intro (incD (by omega)) ?_)))
      · have h : d = true := by simpa using h
        subst h
        rw [restF] at ho
        conv => whnf
        refine IdxC.encI i hil rfl ?_
        conv => whnf
        refine appR (i := 0) (sz := 1) (n := (o).length) (m := 1) (xs := Vx.encI (o)) (ys := [.int .i64 (l[i])]) txok (fun k => Nat.ble 1 k) (o ++ [l[i]]).length (Vx.encI (o ++ [l[i]])) (by exact rfl) (by exact rfl) (by exact rfl) (by kernel_rfl) (by exact rfl) (scalDs_mem (by exact rfl)) (by simp) (by simp [Vx.encI]) (by simp only [LB, List.length_append, List.length_cons, List.length_nil]; omega) ?_
        conv => whnf
        rw [incD (by omega)]
        exact again (i + 1, true, o ++ [l[i]]) (by simp; omega) ⟨by simp; omega, hx', by rw [ho]; simp [restF], by simp at hlen ⊢; omega⟩ (weak_of rfl (by repeat ((conv => whnf); first | exact trivial | refine And.intro rfl ?_ | refine And.intro (incD (by omega)) ?_)) (by repeat ((conv => whnf); first | exact trivial | refine And.intro rfl ?_ | refine And.intro (incD (by omega)) ?_)))
  · have hi : i = l.length := by have := of_decide_eq_false hb; omega
    subst hi
    rw [List.drop_length] at ho
    rw [List.take_length] at hx
    have hp : put1 l x = o ++ restF d [] x := by rw [put1, if_neg hx, ho]
    rw [hp]
    conv => whnf
    refine And.intro (fun h => ?_) (fun h => ?_)
    · have h : d = false := by simpa using h
      subst h
      conv => whnf
      refine appR (i := 0) (sz := 1) (n := o.length) (m := 1) (xs := Vx.encI o) (ys := [.int .i64 x]) txok (fun k => Nat.ble 1 k) (o ++ [x]).length (Vx.encI (o ++ [x])) (by exact rfl) (by exact rfl) (by exact rfl) (by kernel_rfl) (by exact rfl) (scalDs_mem (by exact rfl)) (by simp) (by simp [Vx.encI]) (by simp only [LB, List.length_append, List.length_cons, List.length_nil]; omega) ?_
      conv => whnf
      try exact rfl
    · have h : d = true := by simpa using h
      subst h
      conv => whnf
      rw [restF, List.append_nil]
end Go.Proofs.YtcjkikadolnfgaaGreat

/- Sets of numbers as sorted lists; right types; sizes. -/
set_option linter.unusedSimpArgs false
set_option linter.unusedVariables false
namespace Go.Proofs.YtcjkikadolnfgaaGreat

abbrev Asc (l : List Int) : Prop := l.Pairwise (· < ·)
theorem asc_ext : ∀ (a b : List Int), Asc a → Asc b → (∀ z, z ∈ a ↔ z ∈ b) → a = b
  | [], [], _, _, _ => rfl
  | [], y :: r, _, _, h => by have := (h y).2 (by simp); cases this
  | x :: r, [], _, _, h => by have := (h x).1 (by simp); cases this
  | x :: r, y :: s, ha, hb, h => by
    obtain ⟨a1, a2⟩ := List.pairwise_cons.1 ha
    obtain ⟨b1, b2⟩ := List.pairwise_cons.1 hb
    have e : x = y := by
      have h1 := (h x).1 (by simp)
      have h2 := (h y).2 (by simp)
      rcases List.mem_cons.1 h1 with e | h1
      · exact e
      · rcases List.mem_cons.1 h2 with e | h2
        · exact e.symm
        · have := a1 y h2; have := b1 x h1; omega
    subst e
    congr 1
    refine asc_ext r s a2 b2 fun z => ⟨fun hz => ?_, fun hz => ?_⟩
    · rcases List.mem_cons.1 ((h z).1 (by simp [hz])) with e | h1
      · have := a1 z hz; omega
      · exact h1
    · rcases List.mem_cons.1 ((h z).2 (by simp [hz])) with e | h1
      · have := b1 z hz; omega
      · exact h1
theorem compactTo_asc (d : Array Int) (hd : ∀ i j, i < j → j < d.size → d[i]! ≤ d[j]!) : ∀ m, m ≤ d.size → Asc (Go.Lib.compactUpTo d m)
  | 0, _ => by simp [Go.Lib.compactUpTo, Asc]
  | m + 1, hm => by
    rw [Go.Lib.compactUpTo_succ]
    have ih := compactTo_asc d hd m (by omega)
    by_cases hk : Go.Lib.keeps d m = true
    · rw [if_pos hk]
      refine List.pairwise_append.2 ⟨ih, by simp, fun a ha c hc => ?_⟩
      rw [List.mem_singleton] at hc
      subst hc
      obtain ⟨j, hj, rfl⟩ := (mem_compactTo d a m).1 ha
      have h1 : d[j]! ≤ d[m - 1]! := by
        by_cases e : j = m - 1
        · rw [e]; exact Int.le_refl _
        · exact hd j (m - 1) (by omega) (by omega)
      have h2 : d[m - 1]! ≤ d[m]! := hd (m - 1) m (by omega) (by omega)
      have h3 : d[m]! ≠ d[m - 1]! := fun e => by rw [Go.Lib.keeps_neg (by omega) e] at hk; cases hk
      omega
    · rw [if_neg hk, List.append_nil]; exact ih
theorem freeS_asc (t : TG) : Asc (freeS t) := by
  unfold freeS Go.Lib.compact
  have hs : (srtI (frG t [])).Pairwise (fun a c => decide (a ≤ c) = true) := by
    unfold srtI
    exact List.pairwise_mergeSort (fun a b c h1 h2 => by simp at *; omega) (fun a b => by simp; omega) _
  generalize srtI (frG t []) = l at hs
  refine compactTo_asc _ (fun i j hij hj => ?_) _ (by simp)
  have hj : j < l.length := by simpa using hj
  have := List.pairwise_iff_getElem.1 hs i j (by omega) hj hij
  simp only [List.getElem!_toArray]
  rw [getElem!_pos l i (by omega), getElem!_pos l j hj]
  simpa using this
theorem mem_insF (l : List Int) (x z : Int) : z ∈ insF l x ↔ z = x ∨ z ∈ l := by
  induction l with
  | nil => simp [insF]
  | cons y r ih =>
    rw [insF]
    split
    · simp
    · rw [List.mem_cons, ih, List.mem_cons]
      constructor
      · rintro (h | h | h) <;> simp [h]
      · rintro (h | h | h) <;> simp [h]
theorem insF_asc {l : List Int} {x : Int} (h : Asc l) (hx : x ∉ l) : Asc (insF l x) := by
  induction l with
  | nil => simp [insF, Asc]
  | cons y r ih =>
    obtain ⟨h1, h2⟩ := List.pairwise_cons.1 h
    rw [insF]
    split
    · rename_i hy
      refine List.pairwise_cons.2 ⟨fun z hz => ?_, h⟩
      rcases List.mem_cons.1 hz with rfl | hz
      · exact hy
      · have := h1 z hz; omega
    · rename_i hy
      have hxy : x ≠ y := fun e => hx (by simp [e])
      refine List.pairwise_cons.2 ⟨fun z hz => ?_, ih h2 (fun hr => hx (by simp [hr]))⟩
      rcases (mem_insF r x z).1 hz with rfl | hz
      · omega
      · exact h1 z hz
theorem insF_len (l : List Int) (x : Int) : (insF l x).length = l.length + 1 := by
  induction l with
  | nil => rfl
  | cons y r ih => rw [insF]; split <;> simp [ih]
theorem mem_put1 (l : List Int) (x z : Int) : z ∈ put1 l x ↔ z = x ∨ z ∈ l := by
  unfold put1
  split
  · rename_i h
    constructor
    · exact .inr
    · rintro (rfl | h') <;> assumption
  · exact mem_insF l x z
theorem put1_asc {l : List Int} {x : Int} (h : Asc l) : Asc (put1 l x) := by
  unfold put1
  split
  · exact h
  · rename_i hx; exact insF_asc h hx
theorem put1_len (l : List Int) (x : Int) : (put1 l x).length ≤ l.length + 1 := by
  unfold put1
  split
  · omega
  · rw [insF_len]; omega
/-- All but one put into a set. -/
def wantL (n : Int) : List Int → List Int → List Int
  | acc, [] => acc
  | acc, f :: r => wantL n (if f = n then acc else put1 acc f) r
def putL : List Int → List Int → List Int
  | acc, [] => acc
  | acc, f :: r => putL (put1 acc f) r
theorem wantL_facts (n : Int) : ∀ (l acc : List Int), Asc acc → Asc (wantL n acc l) ∧ (∀ z, z ∈ wantL n acc l ↔ z ∈ acc ∨ (z ∈ l ∧ z ≠ n)) ∧ (wantL n acc l).length ≤ acc.length + l.length
  | [], acc, h => ⟨h, fun z => by simp [wantL], by simp [wantL]⟩
  | f :: r, acc, h => by
    rw [wantL]
    by_cases e : f = n
    · rw [if_pos e]
      obtain ⟨h1, h2, h3⟩ := wantL_facts n r acc h
      refine ⟨h1, fun z => ?_, by simp; omega⟩
      rw [h2 z, List.mem_cons]
      constructor
      · rintro (a | ⟨a, b⟩)
        · exact .inl a
        · exact .inr ⟨.inr a, b⟩
      · rintro (a | ⟨rfl | a, b⟩)
        · exact .inl a
        · exact absurd e b
        · exact .inr ⟨a, b⟩
    · rw [if_neg e]
      obtain ⟨h1, h2, h3⟩ := wantL_facts n r (put1 acc f) (put1_asc h)
      have h4 := put1_len acc f
      refine ⟨h1, fun z => ?_, by simp; omega⟩
      rw [h2 z, mem_put1, List.mem_cons]
      constructor
      · rintro ((rfl | a) | ⟨a, b⟩)
        · exact .inr ⟨.inl rfl, e⟩
        · exact .inl a
        · exact .inr ⟨.inr a, b⟩
      · rintro (a | ⟨rfl | a, b⟩)
        · exact .inl (.inr a)
        · exact .inl (.inl rfl)
        · exact .inr ⟨a, b⟩
theorem putL_facts : ∀ (l acc : List Int), Asc acc → Asc (putL acc l) ∧ (∀ z, z ∈ putL acc l ↔ z ∈ acc ∨ z ∈ l) ∧ (putL acc l).length ≤ acc.length + l.length
  | [], acc, h => ⟨h, fun z => by simp [putL], by simp [putL]⟩
  | f :: r, acc, h => by
    rw [putL]
    obtain ⟨h1, h2, h3⟩ := putL_facts r (put1 acc f) (put1_asc h)
    have h4 := put1_len acc f
    refine ⟨h1, fun z => ?_, by simp; omega⟩
    rw [h2 z, mem_put1, List.mem_cons]
    constructor
    · rintro ((rfl | a) | a)
      · exact .inr (.inl rfl)
      · exact .inl a
      · exact .inr (.inr a)
    · rintro (a | rfl | a)
      · exact .inl (.inr a)
      · exact .inl (.inl rfl)
      · exact .inr a
/-! ### Right types; sizes -/
theorem okV_right : ∀ t : TG, rightR t = true → okV t = true := by
  refine TG.ind fun k n ls l ih h => ?_
  rw [rightR, Bool.and_eq_true] at h
  obtain ⟨h1, h2⟩ := h
  have hrs : ∀ m : List TG, rightRs m = true → ∀ u ∈ m, rightR u = true := by
    intro m
    induction m with
    | nil => intro _ u hu; cases hu
    | cons v r ihm =>
      intro h u hu
      rw [rightRs, Bool.and_eq_true] at h
      rcases List.mem_cons.1 hu with rfl | hu
      · exact h.1
      · exact ihm h.2 u hu
  refine (okV_mk k n ls l).2 ⟨fun h6 => ?_, fun u hu => ih u hu (hrs l h2 u hu)⟩
  subst h6
  have hk : kidN 6 = 0 := by decide
  have hk7 : ((6 : Int) == 7) = false := by decide
  simp only [shR, shA, shC, hk, hk7, Bool.and_eq_true] at h1
  obtain ⟨⟨ha, _⟩, hc⟩ := h1
  have e1 : l.length = 0 := by
    simp at ha
    simp [ha]
  have e2 : ls.length = 0 := by
    simp at hc
    simp [hc]
  exact ⟨List.eq_nil_of_length_eq_zero e1, List.eq_nil_of_length_eq_zero e2⟩
theorem sz_putm : ∀ (f : Nat) (t : TG) (x : Int) (y : TG) (fr : List Int), szG (putF f t x y fr) ≤ szG t * szG y
  | 0, t, _, y, _ => Nat.le_mul_of_pos_right _ (szG_pos y)
  | f + 1, .mk k n ls l, x, y, fr => by
    have hy := szG_pos y
    have hg : ∀ (g : TG → TG) (m : List TG), (∀ u ∈ m, szG (g u) ≤ szG u * szG y) → szGs (m.map g) ≤ szGs m * szG y := by
      intro g m
      induction m with
      | nil => intro _; simp [szGs]
      | cons u r ihm =>
        intro h
        have h1 := h u (by simp)
        have h2 := ihm fun v hv => h v (by simp [hv])
        rw [List.map_cons, szGs, szGs, Nat.add_mul]; omega
    rw [putF_mk]
    split
    · rw [szG]; exact Nat.le_mul_of_pos_left _ (by omega)
    · split
      · exact Nat.le_mul_of_pos_right _ hy
      · split
        · rw [List.map_map]
          have h1 := hg ((fun u => putF f u x y fr) ∘ fun u => putF f u n (varG (freshN fr l x n)) [freshN fr l x n]) l fun u _ =>
            Nat.le_trans (sz_putm f _ x y fr) (Nat.mul_le_mul_right _ (sz_put f u n _ _ (by simp [varG, szG, szGs])))
          simp only [szG, Nat.add_mul]; omega
        · have h1 := hg (fun u => putF f u x y fr) l fun u _ => sz_putm f u x y fr
          simp only [szG, Nat.add_mul]; omega
end Go.Proofs.YtcjkikadolnfgaaGreat

/- The reference: level, with. -/
set_option linter.unusedSimpArgs false
set_option linter.unusedVariables false
namespace Go.Proofs.YtcjkikadolnfgaaGreat
open Go.Vx Go.Vc Go.RowKit

def lvlN (l : List Int) (n : Int) : Nat → Int
  | 0 => -1
  | k + 1 => if l.getD k 0 = n then k else lvlN l n k
theorem rlevel_fn (l : List Int) (n : Int) (hl : l.length < 1099511627776) : FnR Tryz.prog G0 52 [dI l, .int .i64 n] (.int .i64 (lvlN l n l.length)) := by
  refine fnQ_of_vc txok mixed [] Tryz.func52 rfl rfl (by simp) fun b => ?_
  conv => whnf
  refine loopH (fun k : Nat => k ≤ l.length ∧ lvlN l n l.length = lvlN l n k) (fun k => k) (fun k => [(5, .d (.int .i64 ((k : Int) - 1)))]) (fun _ => []) 0 l.length ⟨by omega, rfl⟩ (weak_of rfl (by (conv => whnf); first | done | (refine And.intro (by rw [Go.Vc.wrap_small (by omega) (by omega)]) ?_; first | done | repeat ((conv => whnf); first | exact trivial | refine And.intro rfl ?_ | refine And.intro (incD (by omega)) ?_))) (by repeat ((conv => whnf); first | exact trivial | refine And.intro rfl ?_ | refine And.intro (incD (by omega)) ?_))) ?_
  rintro k ⟨hk, hx⟩
  conv => whnf
  refine And.intro (fun hb => ?_) (fun hb => ?_)
  · have hk0 : 1 ≤ k := by have := of_decide_eq_true hb; omega
    obtain ⟨j, rfl⟩ : ∃ j, k = j + 1 := ⟨k - 1, by omega⟩
    have hjl : j < l.length := by omega
    have hj : (((j + 1 : Nat) : Int) - 1) = (j : Int) := by omega
    rw [hj]
    conv => whnf
    refine IdxC.encI j hjl rfl ?_
    have hg : l.getD j 0 = l[j] := by rw [List.getD_eq_getElem?_getD, List.getElem?_eq_getElem hjl]; rfl
    rw [lvlN, hg] at hx
    conv => whnf
    refine And.intro (fun h => ?_) (fun h => ?_)
    · rw [if_pos (by simpa using h)] at hx
      conv => whnf
      rw [hx]
    · rw [if_neg (by simpa using h)] at hx
      conv => whnf
      refine again j (by omega) ⟨by omega, hx⟩ (weak_of rfl (by (conv => whnf); refine And.intro (by rw [Go.Vc.wrap_small (by omega) (by omega)]) ?_; first | done | repeat ((conv => whnf); first | exact trivial | refine And.intro rfl ?_ | refine And.intro (incD (by omega)) ?_)) (by repeat ((conv => whnf); first | exact trivial | refine And.intro rfl ?_ | refine And.intro (incD (by omega)) ?_)))
  · have hk0 : k = 0 := by have := of_decide_eq_false hb; omega
    subst hk0
    conv => whnf
    rw [hx]
    rfl
theorem rwith_fn (l : List Int) (n : Int) (hl : l.length < 1099511627776) : FnR Tryz.prog G0 55 [dI l, .int .i64 n] (dI (l ++ [n])) := by
  refine fnQ_of_vc txok mixed [] Tryz.func55 rfl rfl (by simp) fun b => ?_
  conv => whnf
  refine appR (i := 0) (sz := 1) (n := 0) (m := l.length) (xs := []) (ys := Vx.encI l) txok (fun _ => false) l.length (Vx.encI l) (by exact rfl) (by exact rfl) (by exact rfl) (by kernel_rfl) (by simp [Vx.encI]) (Vx.encI_scal l) (by simp) (by simp) (by simp only [LB]; omega) ?_
  conv => whnf
  refine appR (i := 0) (sz := 1) (n := l.length) (m := 1) (xs := Vx.encI l) (ys := Vx.encI [n]) txok (fun k => Nat.ble 1 k) (l ++ [n]).length (Vx.encI (l ++ [n])) (by exact rfl) (by exact rfl) (by exact rfl) (by kernel_rfl) (by exact rfl) (Vx.encI_scal _) (by simp) (by simp [Vx.encI]) (by simp only [LB, List.length_append, List.length_cons, List.length_nil]; omega) ?_
  conv => whnf
  try exact rfl
theorem lvlN_app (l m : List Int) (n : Int) : ∀ k, k ≤ l.length → lvlN (l ++ m) n k = lvlN l n k
  | 0, _ => rfl
  | k + 1, h => by
    have e : (l ++ m).getD k 0 = l.getD k 0 := by
      rw [List.getD_eq_getElem?_getD, List.getD_eq_getElem?_getD, List.getElem?_append_left (by omega)]
    rw [lvlN, lvlN, e, lvlN_app l m n k (by omega)]
theorem lvl_last (n : Int) (l : List Int) : lvlN l n l.length = lastI l n := by
  have key : ∀ r : List Int, lvlN r.reverse n r.reverse.length = lastI r.reverse n := by
    intro r
    induction r with
    | nil => rfl
    | cons x r ih =>
      rw [List.reverse_cons, List.length_append, List.length_cons, List.length_nil, lvlN]
      have e : (r.reverse ++ [x]).getD r.reverse.length 0 = x := by
        rw [List.getD_eq_getElem?_getD, List.getElem?_append_right (Nat.le_refl _)]; simp
      rw [e, lvlN_app _ _ _ _ (Nat.le_refl _), ih]
      by_cases h : x = n
      · rw [if_pos h]; subst h; rw [lastI_end]
      · rw [if_neg h, lastI_snoc _ (fun h' => h h'.symm)]
  have := key l.reverse
  rwa [List.reverse_reverse] at this
theorem level_fn (l : List Int) (n : Int) (hl : l.length < 1099511627776) : FnR Tryz.prog G0 52 [dI l, .int .i64 n] (.int .i64 (lastI l n)) := by
  have := rlevel_fn l n hl
  rwa [lvl_last] at this
end Go.Proofs.YtcjkikadolnfgaaGreat

/- The reference: what stands free; sizes. -/
set_option linter.unusedSimpArgs false
set_option linter.unusedVariables false
namespace Go.Proofs.YtcjkikadolnfgaaGreat
open Go.Vx Go.Vc Go.RowKit

theorem putL_app : ∀ (l m acc : List Int), putL acc (l ++ m) = putL (putL acc l) m
  | [], m, acc => by simp [putL]
  | f :: r, m, acc => by rw [List.cons_append, putL, putL, putL_app r m]
theorem putL_len : ∀ (l acc : List Int), (putL acc l).length ≤ acc.length + l.length
  | [], acc => by simp [putL]
  | f :: r, acc => by
    rw [putL]
    have := putL_len r (put1 acc f)
    have := put1_len acc f
    simp only [List.length_cons]; omega
theorem free_fn : ∀ (t : TG) (s got : List Int), s.length + szG t < 1099511627776 → got.length + szG t < 1099511627776 → FnR Tryz.prog G0 72 [dG t, dI s, dI got] (dI (putL got (frG t s))) := by
  refine TG.ind fun k n ls ks ih s got hss hacc => ?_
  refine fnQ_sz fun hs => ?_
  have hl := (szOk_G (t := .mk k n ls ks) hs.1).1
  simp only [g_kids, LB] at hl
  have hsz : szG (.mk k n ls ks) = szGs ks + 1 := by simp only [szG]
  rw [hsz] at hss hacc
  rw [frG_mk, putL_app]
  generalize he : (if k = 6 ∧ lastI s n < 0 then [n] else [] : List Int) = e0
  have he0 : e0.length ≤ 1 := by rw [← he]; split <;> simp
  have hg1 := putL_len e0 got
  refine fnQ_of_wk (N := 45) txok mixed Tryz.func72 rfl rfl (by simp) fun b => ?_
  refine wk_seq ⟨[(1, .d (dI s)), (2, .d (dI got)), (3, .own 0 0)], [(0, .blk 28 [.d (.int .i64 k), .d (.int .i64 n), .d (dL ls), .d (dGs ks)])], 1⟩ (wk_vc txok mixed [] ?_) ?_
  · conv => whnf
    exact weak_of rfl (by repeat ((conv => whnf); first | exact trivial | refine And.intro rfl ?_ | refine And.intro (incD (by omega)) ?_)) (by repeat ((conv => whnf); first | exact trivial | refine And.intro rfl ?_ | refine And.intro (incD (by omega)) ?_))
  refine wk_seq ⟨[(1, .d (dI s)), (2, .d (dI (putL got e0))), (3, .own 0 0)], [(0, .blk 28 [.d (.int .i64 k), .d (.int .i64 n), .d (dL ls), .d (dGs ks)])], 1⟩ (wk_vc txok mixed [] ?_) ?_
  · conv => whnf
    refine And.intro (fun h1 => ?_) (fun h1 => ?_)
    · have h1 : k = 6 := eq_of_beq h1
      conv => whnf
      refine callF (level_fn s n (by omega)) gf52 rfl rfl ?_
      conv => whnf
      refine And.intro (fun h2 => ?_) (fun h2 => ?_)
      · have h2 := of_decide_eq_true h2
        rw [if_pos ⟨h1, h2⟩] at he
        subst he
        conv => whnf
        refine callF (put1_fn got n (by omega)) gf108 rfl rfl ?_
        conv => whnf
        exact weak_of rfl (by repeat ((conv => whnf); first | exact trivial | refine And.intro rfl ?_ | refine And.intro (incD (by omega)) ?_)) (by repeat ((conv => whnf); first | exact trivial | refine And.intro rfl ?_ | refine And.intro (incD (by omega)) ?_))
      · have h2 := of_decide_eq_false h2
        rw [if_neg (fun h => h2 h.2)] at he
        subst he
        conv => whnf
        exact weak_of rfl (by repeat ((conv => whnf); first | exact trivial | refine And.intro rfl ?_ | refine And.intro (incD (by omega)) ?_)) (by repeat ((conv => whnf); first | exact trivial | refine And.intro rfl ?_ | refine And.intro (incD (by omega)) ?_))
    · have h1 : k ≠ 6 := ne_of_beq_false h1
      rw [if_neg (fun h => h1 h.1)] at he
      subst he
      conv => whnf
      exact weak_of rfl (by repeat ((conv => whnf); first | exact trivial | refine And.intro rfl ?_ | refine And.intro (incD (by omega)) ?_)) (by repeat ((conv => whnf); first | exact trivial | refine And.intro rfl ?_ | refine And.intro (incD (by omega)) ?_))
  generalize putL got e0 = g1 at *
  generalize hs' : (if bndG k = true then s ++ [n] else s) = s'
  have hsl : s'.length ≤ s.length + 1 := by rw [← hs']; split <;> simp
  refine wk_seq ⟨[(1, .d (dI s')), (2, .d (dI g1)), (3, .own 0 0)], [(0, .blk 28 [.d (.int .i64 k), .d (.int .i64 n), .d (dL ls), .d (dGs ks)])], 1⟩ (wk_vc txok mixed [] ?_) ?_
  · conv => whnf
    refine callF (bindsR_fn k) gf54 rfl rfl ?_
    conv => whnf
    refine And.intro (fun h5 => ?_) (fun h5 => ?_)
    · rw [if_pos h5] at hs'
      subst hs'
      conv => whnf
      refine callF (rwith_fn s n (by omega)) gf55 rfl rfl ?_
      conv => whnf
      exact weak_of rfl (by repeat ((conv => whnf); first | exact trivial | refine And.intro rfl ?_ | refine And.intro (incD (by omega)) ?_)) (by repeat ((conv => whnf); first | exact trivial | refine And.intro rfl ?_ | refine And.intro (incD (by omega)) ?_))
    · rw [if_neg (by rw [h5]; decide)] at hs'
      subst hs'
      conv => whnf
      exact weak_of rfl (by repeat ((conv => whnf); first | exact trivial | refine And.intro rfl ?_ | refine And.intro (incD (by omega)) ?_)) (by repeat ((conv => whnf); first | exact trivial | refine And.intro rfl ?_ | refine And.intro (incD (by omega)) ?_))
  refine wk_vc txok mixed [] ?_
  conv => whnf
  refine loopH (fun i : Nat => i ≤ ks.length) (fun i => ks.length - i) (fun i => [(7, .d (.int .i64 i)), (2, .d (dI (putL g1 (frGs (ks.take i) s'))))]) (fun i => [(0, .blk 28 [.d (.int .i64 k), .d (.int .i64 n), .d (dL ls), .d (dGs ks)])]) 1 0 (by omega) ?_ ?_
  · rw [show putL g1 (frGs (ks.take 0) s') = g1 from by simp [frGs, putL]]
    exact weak_of rfl (by repeat ((conv => whnf); first | exact trivial | refine And.intro rfl ?_ | refine And.intro (incD (by omega)) ?_)) (by repeat ((conv => whnf); first | exact trivial | refine And.intro rfl ?_ | refine And.intro (incD (by omega)) ?_))
  intro i hi
  conv => whnf
  refine And.intro (fun hb => ?_) (fun hb => ?_)
  · have hil : i < ks.length := by have := of_decide_eq_true hb; omega
    have hmem := szG_mem (List.getElem_mem hil)
    have hlen := frGs_len (ks.take i) s'
    have hpl := putL_len (frGs (ks.take i) s') g1
    have htk := szGs_take hil
    have htl := szGs_le ks (i + 1)
    have hN := ih ks[i] (by simp) s' (putL g1 (frGs (ks.take i) s')) (by omega) (by omega)
    rw [← putL_app, ← frGs_take hil] at hN
    conv => whnf
    refine IdxC.encGs i hil rfl ?_
    conv => whnf
    refine callF hN gf72 rfl rfl ?_
    conv => whnf
    rw [incD (by omega)]
    exact again (i + 1) (by omega) (by omega) (weak_of rfl (by repeat ((conv => whnf); first | exact trivial | refine And.intro rfl ?_ | refine And.intro (incD (by omega)) ?_)) (by repeat ((conv => whnf); first | exact trivial | refine And.intro rfl ?_ | refine And.intro (incD (by omega)) ?_)))
  · have hil : i = ks.length := by have := of_decide_eq_false hb; omega
    subst hil
    rw [List.take_length]
    conv => whnf
    try exact rfl
theorem freeTypes_eq (t : TG) : putL [] (frG t []) = freeS t := by
  obtain ⟨h1, h2, _⟩ := putL_facts (frG t []) [] List.Pairwise.nil
  refine asc_ext _ _ h1 (freeS_asc t) fun z => ?_
  rw [h2 z, mem_freeS]
  simp
theorem rfreeTypes_fn (t : TG) (hz : szG t < 1099511627776) : FnR Tryz.prog G0 36 [dG t] (dI (freeS t)) := by
  have h := free_fn t [] [] (by simpa using hz) (by simpa using hz)
  rw [freeTypes_eq] at h
  refine fnQ_of_vc txok mixed [] Tryz.func36 rfl rfl (by simp) fun b => ?_
  conv => whnf
  refine callF h gf72 rfl rfl ?_
  conv => whnf
  try exact rfl
end Go.Proofs.YtcjkikadolnfgaaGreat

/- The reference: sizes; which types are right. -/
set_option linter.unusedSimpArgs false
set_option linter.unusedVariables false
namespace Go.Proofs.YtcjkikadolnfgaaGreat
open Go.Vx Go.Vc Go.RowKit

def cutN (most : Int) (x : Nat) : Int := if (x : Int) ≤ most then x else most + 1
theorem sizeG_pos {t : TG} {most : Int} (h : 0 ≤ most) : sizeG t most = cutN most (szG t) := by unfold sizeG cutN; rw [if_neg (by omega)]
theorem rsize_fn : ∀ (t : TG) (most : Int), szG t < 4611686018427387904 → -9223372036854775808 ≤ most → most < 9223372036854775808 → FnR Tryz.prog G0 64 [dG t, .int .i64 most] (.int .i64 (sizeG t most)) := by
  refine TG.ind fun k n ls ks ih most hz hm0 hm => ?_
  refine fnQ_sz fun hs => ?_
  have hl := (szOk_G (t := .mk k n ls ks) hs.1).1
  simp only [g_kids, LB] at hl
  have hsz : szG (.mk k n ls ks) = szGs ks + 1 := by simp only [szG]
  by_cases hneg : most < 0
  · have e : sizeG (.mk k n ls ks) most = 0 := by unfold sizeG; rw [if_pos hneg]
    rw [e]
    refine fnQ_of_wk (N := 38) txok mixed Tryz.func64 rfl rfl (by simp) fun b => ?_
    refine wk_seq ⟨[(1, .d (.int .i64 most)), (2, .own 0 0)], [(0, .blk 28 [.d (.int .i64 k), .d (.int .i64 n), .d (dL ls), .d (dGs ks)])], 1⟩ (wk_vc txok mixed [] ?_) ?_
    · conv => whnf
      exact weak_of rfl (by repeat ((conv => whnf); first | exact trivial | refine And.intro rfl ?_ | refine And.intro (incD (by omega)) ?_)) (by repeat ((conv => whnf); first | exact trivial | refine And.intro rfl ?_ | refine And.intro (incD (by omega)) ?_))
    refine wk_seqR (wk_vc txok mixed [] ?_)
    conv => whnf
    refine And.intro (fun h => ?_) (fun h => absurd hneg (of_decide_eq_false h))
    conv => whnf
    try exact rfl
  · rw [sizeG_pos (by omega), hsz]
    rw [hsz] at hz
    refine fnQ_of_wk (N := 38) txok mixed Tryz.func64 rfl rfl (by simp) fun b => ?_
    refine wk_seq ⟨[(1, .d (.int .i64 most)), (2, .own 0 0)], [(0, .blk 28 [.d (.int .i64 k), .d (.int .i64 n), .d (dL ls), .d (dGs ks)])], 1⟩ (wk_vc txok mixed [] ?_) ?_
    · conv => whnf
      exact weak_of rfl (by repeat ((conv => whnf); first | exact trivial | refine And.intro rfl ?_ | refine And.intro (incD (by omega)) ?_)) (by repeat ((conv => whnf); first | exact trivial | refine And.intro rfl ?_ | refine And.intro (incD (by omega)) ?_))
    refine wk_seq ⟨[(1, .d (.int .i64 most)), (2, .own 0 0)], [(0, .blk 28 [.d (.int .i64 k), .d (.int .i64 n), .d (dL ls), .d (dGs ks)])], 1⟩ (wk_vc txok mixed [] ?_) ?_
    · conv => whnf
      refine And.intro (fun h => absurd (of_decide_eq_true h) hneg) (fun h => ?_)
      conv => whnf
      exact weak_of rfl (by repeat ((conv => whnf); first | exact trivial | refine And.intro rfl ?_ | refine And.intro (incD (by omega)) ?_)) (by repeat ((conv => whnf); first | exact trivial | refine And.intro rfl ?_ | refine And.intro (incD (by omega)) ?_))
    refine wk_seq ⟨[(5, .d (.int .i64 1)), (1, .d (.int .i64 most)), (2, .own 0 0)], [(0, .blk 28 [.d (.int .i64 k), .d (.int .i64 n), .d (dL ls), .d (dGs ks)])], 1⟩ (wk_vc txok mixed [] ?_) ?_
    · conv => whnf
      exact weak_of rfl (by repeat ((conv => whnf); first | exact trivial | refine And.intro rfl ?_ | refine And.intro (incD (by omega)) ?_)) (by repeat ((conv => whnf); first | exact trivial | refine And.intro rfl ?_ | refine And.intro (incD (by omega)) ?_))
    refine wk_seq ⟨[(5, .d (.int .i64 (cutN most (szGs ks + 1)))), (1, .d (.int .i64 most)), (2, .own 0 0)], [(0, .blk 28 [.d (.int .i64 k), .d (.int .i64 n), .d (dL ls), .d (dGs ks)])], 1⟩ (wk_vc txok mixed [] ?_) ?_
    · conv => whnf
      refine loopH (fun i : Nat => i ≤ ks.length) (fun i => ks.length - i) (fun i => [(6, .d (.int .i64 i)), (5, .d (.int .i64 (cutN most (szGs (ks.take i) + 1))))]) (fun i => [(0, .blk 28 [.d (.int .i64 k), .d (.int .i64 n), .d (dL ls), .d (dGs ks)])]) 1 0 (by omega) ?_ ?_
      · have e : cutN most (szGs (ks.take 0) + 1) = 1 := by
          simp only [List.take_zero, szGs, cutN]
          split <;> omega
        rw [e]
        exact weak_of rfl (by repeat ((conv => whnf); first | exact trivial | refine And.intro rfl ?_ | refine And.intro (incD (by omega)) ?_)) (by repeat ((conv => whnf); first | exact trivial | refine And.intro rfl ?_ | refine And.intro (incD (by omega)) ?_))
      intro i hi
      have htl := szGs_le ks i
      have hgo : cutN most (szGs (ks.take i) + 1) = (if ((szGs (ks.take i) + 1 : Nat) : Int) ≤ most then ((szGs (ks.take i) + 1 : Nat) : Int) else most + 1) := rfl
      by_cases ha : ((szGs (ks.take i) + 1 : Nat) : Int) ≤ most
      · rw [if_pos ha] at hgo
        rw [hgo]
        conv => whnf
        refine And.intro (fun hb => ?_) (fun hb => ?_)
        · have hil : i < ks.length := by have := of_decide_eq_true hb; omega
          have hmem := szG_mem (List.getElem_mem hil)
          have htk := szGs_take hil
          have htl2 := szGs_le ks (i + 1)
          have hN := ih ks[i] (by simp) (most - ((szGs (ks.take i) + 1 : Nat) : Int)) (by omega) (by omega) (by omega)
          rw [sizeG_pos (by omega)] at hN
          have e1 : IntKind.i64.wrap (most - ((szGs (ks.take i) + 1 : Nat) : Int)) = most - ((szGs (ks.take i) + 1 : Nat) : Int) := Go.Vc.wrap_small (by omega) (by omega)
          have e2 : IntKind.i64.wrap (((szGs (ks.take i) + 1 : Nat) : Int) + cutN (most - ((szGs (ks.take i) + 1 : Nat) : Int)) (szG ks[i])) = cutN most (szGs (ks.take (i + 1)) + 1) := by
            rw [htk]
            unfold cutN
            by_cases h : (szG ks[i] : Int) ≤ most - ((szGs (ks.take i) + 1 : Nat) : Int)
            · rw [if_pos h, if_pos (by omega), Go.Vc.wrap_small (by omega) (by omega)]; omega
            · rw [if_neg h, if_neg (by omega)]
              have : ((szGs (ks.take i) + 1 : Nat) : Int) + (most - ((szGs (ks.take i) + 1 : Nat) : Int) + 1) = most + 1 := by omega
              rw [this]
              exact Go.Vc.wrap_small (by omega) (by omega)
          rw [← e1] at hN
          conv => whnf
          refine And.intro (fun hb2 => ?_) (fun hb2 => absurd ha (of_decide_eq_false hb2))
          conv => whnf
          refine IdxC.encGs i hil rfl ?_
          conv => whnf
          refine callF hN gf64 rfl rfl ?_
          conv => whnf
          rw [e1, e2, incD (by omega)]
          exact again (i + 1) (by omega) (by omega) (weak_of rfl (by repeat ((conv => whnf); first | exact trivial | refine And.intro rfl ?_ | refine And.intro (incD (by omega)) ?_)) (by repeat ((conv => whnf); first | exact trivial | refine And.intro rfl ?_ | refine And.intro (incD (by omega)) ?_)))
        · have hil : i = ks.length := by have := of_decide_eq_false hb; omega
          subst hil
          rw [List.take_length] at hgo ⊢
          conv => whnf
          rw [← hgo]
          exact weak_of rfl (by repeat ((conv => whnf); first | exact trivial | refine And.intro rfl ?_ | refine And.intro (incD (by omega)) ?_)) (by repeat ((conv => whnf); first | exact trivial | refine And.intro rfl ?_ | refine And.intro (incD (by omega)) ?_))
      · rw [if_neg ha] at hgo
        have e3 : cutN most (szGs ks + 1) = most + 1 := by unfold cutN; rw [if_neg (by omega)]
        rw [hgo, e3]
        conv => whnf
        refine And.intro (fun hb => ?_) (fun hb => ?_)
        · conv => whnf
          refine And.intro (fun hb2 => absurd (of_decide_eq_true hb2) (by omega)) (fun hb2 => ?_)
          conv => whnf
          exact weak_of rfl (by repeat ((conv => whnf); first | exact trivial | refine And.intro rfl ?_ | refine And.intro (incD (by omega)) ?_)) (by repeat ((conv => whnf); first | exact trivial | refine And.intro rfl ?_ | refine And.intro (incD (by omega)) ?_))
        · conv => whnf
          exact weak_of rfl (by repeat ((conv => whnf); first | exact trivial | refine And.intro rfl ?_ | refine And.intro (incD (by omega)) ?_)) (by repeat ((conv => whnf); first | exact trivial | refine And.intro rfl ?_ | refine And.intro (incD (by omega)) ?_))
    refine wk_vc txok mixed [] ?_
    have hgo : cutN most (szGs ks + 1) = (if ((szGs ks + 1 : Nat) : Int) ≤ most then ((szGs ks + 1 : Nat) : Int) else most + 1) := rfl
    by_cases ha : ((szGs ks + 1 : Nat) : Int) ≤ most
    · rw [if_pos ha] at hgo
      rw [hgo]
      conv => whnf
      refine And.intro (fun hb => absurd (of_decide_eq_true hb) (by omega)) (fun hb => ?_)
      conv => whnf
      try exact rfl
    · rw [if_neg ha] at hgo
      rw [hgo]
      conv => whnf
      refine And.intro (fun hb => ?_) (fun hb => absurd (of_decide_eq_false hb) (by omega))
      conv => whnf
      rw [Go.Vc.wrap_small (by omega) (by omega)]
end Go.Proofs.YtcjkikadolnfgaaGreat

/- Types without names; what putting is there; sameness is equality there. -/
set_option linter.unusedSimpArgs false
set_option linter.unusedVariables false
namespace Go.Proofs.YtcjkikadolnfgaaGreat

inductive DV where
  | num (n : Int)
  | fre (n : Int)
  | lvl (d : Nat)
inductive DB where
  | mk (k : Int) (v : DV) (ls : List ByteArray) (ks : List DB)
abbrev Rho := Int → Nat → DB
def upd (ρ : Rho) (n : Int) (x : Nat → DB) : Rho := fun z => if z = n then x else ρ z
def leafL (l : Nat) : DB := .mk 6 (.lvl l) [] []
def leafF (z : Int) : DB := .mk 6 (.fre z) [] []
mutual
def ev : Nat → Rho → TG → DB
  | d, ρ, .mk k n ls l => if k = 6 then ρ n d else if bndG k = true then .mk k (.num 0) ls (evs (d + 1) (upd ρ n fun _ => leafL d) l) else .mk k (.num n) ls (evs d ρ l)
def evs : Nat → Rho → List TG → List DB
  | _, _, [] => []
  | d, ρ, t :: r => ev d ρ t :: evs d ρ r
end
theorem evs_map (d : Nat) (ρ : Rho) : ∀ l, evs d ρ l = l.map (ev d ρ)
  | [] => by simp [evs]
  | t :: r => by simp [evs, evs_map d ρ r]
theorem upd_eq (ρ : Rho) (n : Int) (x : Nat → DB) : upd ρ n x n = x := by simp [upd]
theorem upd_ne (ρ : Rho) {n z : Int} (x : Nat → DB) (h : z ≠ n) : upd ρ n x z = ρ z := by simp [upd, h]
theorem ev_congr : ∀ (t : TG) (d : Nat) (ρ σ : Rho), (∀ z ∈ frG t [], ρ z = σ z) → ev d ρ t = ev d σ t := by
  refine TG.ind fun k n ls l ih d ρ σ h => ?_
  rw [ev, ev]
  by_cases h6 : k = 6
  · rw [if_pos h6, if_pos h6, h n ((fv_mk ..).2 (.inl ⟨h6, rfl⟩))]
  rw [if_neg h6, if_neg h6]
  by_cases hb : bndG k = true
  · rw [if_pos hb, if_pos hb, evs_map, evs_map]
    congr 1
    refine List.map_congr_left fun u hu => ih u hu _ _ _ fun z hz => ?_
    by_cases e : z = n
    · subst e; rw [upd_eq, upd_eq]
    · rw [upd_ne _ _ e, upd_ne _ _ e, h z ((fv_mk ..).2 (.inr ⟨fun _ => e, u, hu, hz⟩))]
  · rw [if_neg hb, if_neg hb, evs_map, evs_map]
    congr 1
    exact List.map_congr_left fun u hu => ih u hu _ _ _ fun z hz => h z ((fv_mk ..).2 (.inr ⟨fun e => absurd e hb, u, hu, hz⟩))
theorem ev_var (d : Nat) (ρ : Rho) (m : Int) : ev d ρ (varG m) = ρ m d := by rw [varG, ev, if_pos rfl]
theorem lastI_one (s : List Int) (n : Int) : lastI s n < 0 → lastI s n = -1 := by
  unfold lastI
  split
  · rename_i p h
    have hm := List.mem_of_find?_eq_some h
    unfold prI at hm
    simp only [List.mem_map, List.mem_range] at hm
    obtain ⟨j, hj, rfl⟩ := hm
    intro h; simp only at h; omega
  · intro _; rfl
theorem samGs_ev {n m : Nat} {ρ σ : Rho} {c d : List Int} : ∀ (l l' : List TG), (∀ u ∈ l, ∀ v ∈ l', (samG u v c d = true ↔ ev n ρ u = ev m σ v)) → (samGs l l' c d = true ∧ l.length = l'.length ↔ evs n ρ l = evs m σ l')
  | [], [], _ => by simp [samGs, evs]
  | [], v :: r', _ => by simp [evs]
  | u :: r, [], _ => by simp [evs]
  | u :: r, v :: r', h => by
    have h1 := h u (by simp) v (by simp)
    have h2 := samGs_ev r r' fun w hw x hx => h w (by simp [hw]) x (by simp [hx])
    rw [samGs, evs, evs, Bool.and_eq_true, List.cons.injEq, ← h1, ← h2]
    simp only [List.length_cons, Nat.add_right_cancel_iff]
    constructor
    · rintro ⟨⟨x, y⟩, z⟩; exact ⟨x, y, z⟩
    · rintro ⟨x, y, z⟩; exact ⟨⟨x, y⟩, z⟩
theorem ev_put : ∀ (f : Nat) (t : TG) (x : Int) (y : TG) (fr : List Int), szG t ≤ f → okV t = true → (∀ z, z ∈ fr ↔ z ∈ frG y []) → ∀ (d : Nat) (ρ : Rho), ev d ρ (putF f t x y fr) = ev d (upd ρ x fun d' => ev d' ρ y) t
  | 0, .mk k n ls l, x, y, fr, hf, hv, hfr, d, ρ => by simp [szG] at hf
  | f + 1, .mk k n ls l, x, y, fr, hf, hv, hfr, d, ρ => by
    rw [szG] at hf
    obtain ⟨hv6, hvl⟩ := (okV_mk ..).1 hv
    have hsz : ∀ u ∈ l, szG u ≤ f := fun u hu => by have := szG_mem hu; omega
    rw [putF_mk]
    by_cases h1 : k = 6 ∧ n = x
    · rw [if_pos h1, ev, if_pos h1.1, h1.2, upd_eq]
    rw [if_neg h1]
    by_cases h2 : bndG k = true ∧ n = x
    · rw [if_pos h2, ev, ev, if_neg (bnd_ne6 h2.1), if_neg (bnd_ne6 h2.1), if_pos h2.1, if_pos h2.1]
      have : upd (upd ρ x fun d' => ev d' ρ y) n (fun _ => leafL d) = upd ρ n (fun _ => leafL d) := by
        funext z
        by_cases e : z = n
        · subst e; rw [upd_eq, upd_eq]
        · rw [upd_ne _ _ e, upd_ne _ _ e, upd_ne _ _ (by rw [← h2.2]; exact e)]
      rw [this]
    rw [if_neg h2]
    by_cases h3 : bndG k = true ∧ n ∈ fr ∧ 0 < l.length
    · rw [if_pos h3]
      obtain ⟨f1, f2, f3, f4⟩ := fresh_facts fr l x n
      generalize freshN fr l x n = m at *
      rw [ev, ev, if_neg (bnd_ne6 h3.1), if_neg (bnd_ne6 h3.1), if_pos h3.1, if_pos h3.1, evs_map, evs_map]
      congr 1
      rw [List.map_map, List.map_map]
      refine List.map_congr_left fun u hu => ?_
      have hm1 : ∀ z, z ∈ [m] ↔ z ∈ frG (varG m) [] := fun z => by rw [fv_var]; simp
      have s1 := sz_put f u n (varG m) [m] (by rfl)
      simp only [Function.comp]
      rw [ev_put f _ x y fr (by have := hsz u hu; omega) (okV_put f u n (varG m) [m] (okV_var m) (hvl u hu)) hfr, ev_put f u n (varG m) [m] (hsz u hu) (hvl u hu) hm1]
      refine ev_congr _ _ _ _ fun z hz => ?_
      have hzm : z ≠ m := fun e => f2 u hu (e ▸ hz)
      by_cases e : z = n
      · subst e
        rw [upd_eq, upd_eq]
        funext d'
        rw [ev_var, upd_ne _ _ f3, upd_eq]
      · rw [upd_ne _ _ e, upd_ne _ _ e]
        by_cases ex : z = x
        · subst ex
          rw [upd_eq, upd_eq]
          funext d'
          refine ev_congr _ _ _ _ fun w hw => ?_
          rw [upd_ne]
          rintro rfl
          exact f1 ((hfr w).2 hw)
        · rw [upd_ne _ _ ex, upd_ne _ _ ex, upd_ne _ _ hzm]
    rw [if_neg h3]
    by_cases h6 : k = 6
    · have hn : n ≠ x := fun e => h1 ⟨h6, e⟩
      rw [ev, ev, if_pos h6, if_pos h6, upd_ne _ _ hn]
    rw [ev, ev, if_neg h6, if_neg h6]
    by_cases hb : bndG k = true
    · have hn : n ≠ x := fun e => h2 ⟨hb, e⟩
      rw [if_pos hb, if_pos hb, evs_map, evs_map, List.map_map]
      congr 1
      refine List.map_congr_left fun u hu => ?_
      have hfn : n ∉ fr := fun e => h3 ⟨hb, e, List.length_pos_of_mem hu⟩
      simp only [Function.comp]
      rw [ev_put f u x y fr (hsz u hu) (hvl u hu) hfr]
      refine ev_congr _ _ _ _ fun z hz => ?_
      by_cases e : z = x
      · subst e
        rw [upd_eq, upd_ne _ _ (fun e => hn e.symm), upd_eq]
        funext d'
        refine ev_congr _ _ _ _ fun w hw => ?_
        rw [upd_ne]
        rintro rfl
        exact hfn ((hfr w).2 hw)
      · rw [upd_ne _ _ e]
        by_cases e2 : z = n
        · subst e2; rw [upd_eq, upd_eq]
        · rw [upd_ne _ _ e2, upd_ne _ _ e2, upd_ne _ _ e]
    · rw [if_neg hb, if_neg hb, evs_map, evs_map, List.map_map]
      congr 1
      exact List.map_congr_left fun u hu => ev_put f u x y fr (hsz u hu) (hvl u hu) hfr d ρ
def env (s : List Int) : Rho := fun z _ => if lastI s z ≥ 0 then leafL (lastI s z).toNat else leafF z
theorem env_snoc (s : List Int) (n : Int) : env (s ++ [n]) = upd (env s) n fun _ => leafL s.length := by
  funext z
  unfold env
  by_cases e : z = n
  · subst e
    rw [upd_eq]
    funext d
    rw [lastI_end, if_pos (by omega)]; simp
  · rw [upd_ne _ _ e]
    funext d
    rw [lastI_snoc _ e]
theorem sam_ev : ∀ (a b : TG) (s t : List Int), s.length = t.length → okV a = true → okV b = true → (samG a b s t = true ↔ ev s.length (env s) a = ev t.length (env t) b) := by
  refine TG.ind fun k n ls l ih b s t hst ha hb => ?_
  obtain ⟨k', n', ls', l'⟩ := b
  obtain ⟨ha6, hal⟩ := (okV_mk ..).1 ha
  obtain ⟨hb6, hbl⟩ := (okV_mk ..).1 hb
  have key : ∀ (c d : List Int), c.length = d.length → (samGs l l' c d = true ∧ l.length = l'.length ↔ evs c.length (env c) l = evs d.length (env d) l') := fun c d hcd => samGs_ev l l' fun u hu v hv => ih u hu v c d hcd (hal u hu) (hbl v hv)
  rw [sam_iff, ev, ev]
  by_cases h6 : k = 6
  · subst h6
    obtain ⟨rfl, rfl⟩ := ha6 rfl
    rw [if_pos rfl]
    by_cases h6' : k' = 6
    · subst h6'
      obtain ⟨rfl, rfl⟩ := hb6 rfl
      rw [if_pos rfl]
      have : bndG 6 = false := by decide
      simp only [this, true_and, samGs, and_true]
      unfold env
      have q1 := lastI_one s n
      have q2 := lastI_one t n'
      constructor
      · rintro ⟨h, -, -⟩
        obtain ⟨h1, h2⟩ := h trivial
        rw [h1]
        split
        · rfl
        · rw [h2 (by rw [h1]; omega)]
      · intro h
        refine ⟨fun _ => ?_, by simp, by simp⟩
        split at h <;> split at h
        · simp only [leafL, DB.mk.injEq, DV.lvl.injEq, true_and, and_true] at h
          exact ⟨by omega, fun h' => by omega⟩
        · simp [leafL, leafF] at h
        · simp [leafL, leafF] at h
        · simp only [leafF, DB.mk.injEq, DV.fre.injEq, true_and, and_true] at h
          exact ⟨by omega, fun _ => h⟩
    · rw [if_neg h6']
      refine iff_of_false (fun h => h6' h.1.symm) fun h => ?_
      unfold env at h
      split at h <;> split at h <;> simp [leafL, leafF] at h <;> exact h6' h.1.symm
  rw [if_neg h6]
  by_cases h6' : k' = 6
  · subst h6'
    rw [if_pos rfl]
    refine iff_of_false (fun h => h6 h.1) fun h => ?_
    unfold env at h
    split at h <;> split at h <;> simp [leafL, leafF] at h <;> exact h6 h.1
  rw [if_neg h6']
  by_cases hbk : bndG k = true
  · rw [if_pos hbk]
    by_cases hbk' : bndG k' = true
    · rw [if_pos hbk']
      have h1 := key (s ++ [n]) (t ++ [n']) (by simp [hst])
      rw [env_snoc, env_snoc, List.length_append, List.length_append, List.length_singleton, List.length_singleton] at h1
      rw [DB.mk.injEq, ← h1]
      constructor
      · rintro ⟨a1, a2, a3, a4, a5, a6⟩; exact ⟨a1, rfl, a3, a5 hbk, a2⟩
      · rintro ⟨a1, _, a3, a5, a2⟩; exact ⟨a1, a2, a3, fun e => absurd e h6, fun _ => a5, fun _ e => by rw [hbk] at e; cases e⟩
    · rw [if_neg hbk']
      refine iff_of_false (fun h => hbk' (h.1 ▸ hbk)) fun h => ?_
      rw [DB.mk.injEq] at h
      exact hbk' (h.1 ▸ hbk)
  · rw [if_neg hbk]
    by_cases hbk' : bndG k' = true
    · rw [if_pos hbk']
      refine iff_of_false (fun h => hbk (h.1 ▸ hbk')) fun h => ?_
      rw [DB.mk.injEq] at h
      exact hbk (h.1 ▸ hbk')
    · rw [if_neg hbk']
      have h1 := key s t hst
      rw [DB.mk.injEq, ← h1, DV.num.injEq]
      constructor
      · rintro ⟨a1, a2, a3, a4, a5, a6⟩
        obtain ⟨b1, b2⟩ := a6 h6 (by simpa using hbk)
        exact ⟨a1, b1, a3, b2, a2⟩
      · rintro ⟨a1, b1, a3, b2, a2⟩; exact ⟨a1, a2, a3, fun e => absurd e h6, fun e => absurd e hbk, fun _ _ => ⟨b1, b2⟩⟩
end Go.Proofs.YtcjkikadolnfgaaGreat

/- How often a number stands free; sizes behind putting; both hang on the nameless type alone. -/
set_option linter.unusedSimpArgs false
set_option linter.unusedVariables false
namespace Go.Proofs.YtcjkikadolnfgaaGreat

mutual
def cntG (x : Int) : TG → Nat
  | .mk k n _ l => if k = 6 ∧ n = x then 1 else if bndG k = true ∧ n = x then 0 else cntGs x l
def cntGs (x : Int) : List TG → Nat
  | [] => 0
  | t :: r => cntG x t + cntGs x r
end
theorem cnt_zero : ∀ (t : TG) (x : Int), okV t = true → x ∉ frG t [] → cntG x t = 0 := by
  refine TG.ind fun k n ls l ih x hv hx => ?_
  obtain ⟨_, hvl⟩ := (okV_mk ..).1 hv
  rw [cntG]
  by_cases h1 : k = 6 ∧ n = x
  · exact absurd ((fv_mk ..).2 (.inl ⟨h1.1, h1.2.symm⟩)) hx
  rw [if_neg h1]
  by_cases h2 : bndG k = true ∧ n = x
  · rw [if_pos h2]
  rw [if_neg h2]
  have : ∀ m : List TG, (∀ u ∈ m, u ∈ l) → cntGs x m = 0 := by
    intro m
    induction m with
    | nil => intro _; rfl
    | cons u r ihr =>
      intro hm
      rw [cntGs, ihr fun w hw => hm w (by simp [hw]), ih u (hm u (by simp)) x (hvl u (hm u (by simp)))]
      exact fun h => hx ((fv_mk ..).2 (.inr ⟨fun hb e => h2 ⟨hb, e.symm⟩, u, hm u (by simp), h⟩))
  exact this l fun _ h => h
theorem cnt_le : ∀ (t : TG) (x : Int), cntG x t ≤ szG t := by
  refine TG.ind fun k n ls l ih x => ?_
  rw [cntG, szG]
  have : ∀ m : List TG, (∀ u ∈ m, u ∈ l) → cntGs x m ≤ szGs m := by
    intro m
    induction m with
    | nil => intro _; exact Nat.le_refl _
    | cons u r ihr =>
      intro hm
      have h1 := ihr fun w hw => hm w (by simp [hw])
      have h2 := ih u (hm u (by simp)) x
      rw [cntGs, szGs]; omega
  have := this l fun _ h => h
  split
  · omega
  · split <;> omega
mutual
def szD : DB → Nat
  | .mk _ _ _ l => szDs l + 1
def szDs : List DB → Nat
  | [] => 0
  | t :: r => szD t + szDs r
end
theorem szDs_map {g : TG → DB} {h : TG → Nat} : ∀ {l : List TG}, (∀ t ∈ l, szD (g t) = h t) → szDs (l.map g) = (l.map h).sum
  | [], _ => rfl
  | t :: r, hh => by rw [List.map_cons, szDs, hh t (by simp), szDs_map fun u hu => hh u (by simp [hu])]; simp
theorem szGs_sum : ∀ l : List TG, szGs l = (l.map szG).sum
  | [] => rfl
  | t :: r => by rw [szGs, szGs_sum r]; simp
theorem cntGs_sum (x : Int) : ∀ l : List TG, cntGs x l = (l.map (cntG x)).sum
  | [] => rfl
  | t :: r => by rw [cntGs, cntGs_sum x r]; simp
/-- A type's size where one number stands for so many nodes, and each other one for one. -/
theorem szD_ev : ∀ (t : TG) (x : Int) (c : Nat) (d : Nat) (ρ : Rho), okV t = true → (∀ d, szD (ρ x d) = c) → (∀ z d, z ≠ x → szD (ρ z d) = 1) → szD (ev d ρ t) + cntG x t = szG t + cntG x t * c := by
  refine TG.ind fun k n ls l ih x c d ρ hv hx hz => ?_
  obtain ⟨hv6, hvl⟩ := (okV_mk ..).1 hv
  rw [ev, cntG, szG]
  by_cases h6 : k = 6
  · obtain ⟨rfl, rfl⟩ := hv6 h6
    rw [if_pos h6]
    by_cases e : n = x
    · rw [if_pos ⟨h6, e⟩, e, hx]; simp [szGs]; omega
    · rw [if_neg (fun h => e h.2), hz n d e]
      have hb : bndG k = false := by rw [h6]; decide
      rw [if_neg (by rw [hb]; simp)]
      simp [szGs, cntGs]
  rw [if_neg h6]
  by_cases hb : bndG k = true
  · rw [if_pos hb, szD, evs_map, if_neg (fun h => h6 h.1)]
    by_cases e : n = x
    · rw [if_pos ⟨hb, e⟩]
      have : ∀ m : List TG, (∀ u ∈ m, u ∈ l) → szDs (m.map (ev (d + 1) (upd ρ n fun _ => leafL d))) = szGs m := by
        intro m
        induction m with
        | nil => intro _; rfl
        | cons u r ihr =>
          intro hm
          have h1 := ih u (hm u (by simp)) x 1 (d + 1) (upd ρ n fun _ => leafL d) (hvl u (hm u (by simp))) (fun d' => by rw [← e, upd_eq]; rfl) (fun z d' hzx => by rw [upd_ne _ _ (by rw [e]; exact hzx)]; exact hz z d' hzx)
          rw [List.map_cons, szDs, szGs, ihr fun w hw => hm w (by simp [hw])]
          omega
      rw [this l fun _ h => h]; omega
    · rw [if_neg (fun h => e h.2)]
      have : ∀ m : List TG, (∀ u ∈ m, u ∈ l) → szDs (m.map (ev (d + 1) (upd ρ n fun _ => leafL d))) + cntGs x m = szGs m + cntGs x m * c := by
        intro m
        induction m with
        | nil => intro _; simp [szDs, szGs, cntGs]
        | cons u r ihr =>
          intro hm
          have h1 := ih u (hm u (by simp)) x c (d + 1) (upd ρ n fun _ => leafL d) (hvl u (hm u (by simp))) (fun d' => by rw [upd_ne _ _ (fun h => e h.symm)]; exact hx d') (fun z d' hzx => by
            by_cases e2 : z = n
            · subst e2; rw [upd_eq]; rfl
            · rw [upd_ne _ _ e2]; exact hz z d' hzx)
          have h2 := ihr fun w hw => hm w (by simp [hw])
          rw [List.map_cons, szDs, szGs, cntGs, Nat.add_mul]
          omega
      have := this l fun _ h => h
      omega
  · rw [if_neg hb, szD, evs_map, if_neg (fun h => h6 h.1), if_neg (fun h => hb h.1)]
    have : ∀ m : List TG, (∀ u ∈ m, u ∈ l) → szDs (m.map (ev d ρ)) + cntGs x m = szGs m + cntGs x m * c := by
      intro m
      induction m with
      | nil => intro _; simp [szDs, szGs, cntGs]
      | cons u r ihr =>
        intro hm
        have h1 := ih u (hm u (by simp)) x c d ρ (hvl u (hm u (by simp))) hx hz
        have h2 := ihr fun w hw => hm w (by simp [hw])
        rw [List.map_cons, szDs, szGs, cntGs, Nat.add_mul]
        omega
    have := this l fun _ h => h
    omega
def fre0 : Rho := fun z _ => leafF z
theorem szD_fre (t : TG) (d : Nat) (hv : okV t = true) : szD (ev d fre0 t) = szG t := by
  have := szD_ev t 0 1 d fre0 hv (fun _ => rfl) (fun _ _ _ => rfl)
  omega
theorem sz_putF (f : Nat) (t : TG) (x : Int) (y : TG) (fr : List Int) (hf : szG t ≤ f) (hv : okV t = true) (hy : okV y = true) (hfr : ∀ z, z ∈ fr ↔ z ∈ frG y []) : szG (putF f t x y fr) + cntG x t = szG t + cntG x t * szG y := by
  rw [← szD_fre (putF f t x y fr) 0 (okV_put f t x y fr hy hv), ev_put f t x y fr hf hv hfr]
  exact szD_ev t x (szG y) 0 _ hv (fun d => by rw [upd_eq]; exact szD_fre y d hy) (fun z d h => by rw [upd_ne _ _ h]; rfl)
end Go.Proofs.YtcjkikadolnfgaaGreat

/- The reference's Put: the least spare number. -/
set_option linter.unusedSimpArgs false
set_option linter.unusedVariables false
namespace Go.Proofs.YtcjkikadolnfgaaGreat
open Go.Vx Go.Vc Go.RowKit

theorem lastI_mem (s : List Int) (n : Int) : (decide (lastI s n ≥ 0)) = decide (n ∈ s) := by
  have := lastI_neg s n
  by_cases h : n ∈ s
  · rw [decide_eq_true h, decide_eq_true_eq]; by_cases h2 : lastI s n < 0
    · exact absurd h (this.1 h2)
    · omega
  · rw [decide_eq_false h, decide_eq_false_iff_not]; have := this.2 h; omega
theorem spare_fn (a c : List Int) (x : Int) (hz : a.length + c.length < 1099511627000) : FnR Tryz.prog G0 105 [dI a, dI c, .int .i64 x] (.int .i64 (mex (x :: (a ++ c)) : Nat)) := by
  generalize hL : x :: (a ++ c) = L
  have hlen : L.length = a.length + c.length + 1 := by rw [← hL]; simp
  have hin : ∀ z, z ∈ L ↔ z = x ∨ z ∈ a ∨ z ∈ c := fun z => by rw [← hL]; simp
  refine fnQ_of_vc txok mixed [] Tryz.func105 rfl rfl (by simp) fun b => ?_
  conv => whnf
  refine loopH (fun i : Nat => (∀ j, j < i → ((j : Nat) : Int) ∈ L) ∧ mex L = mexF (L.length + 1 - i) i L) (fun i => L.length + 1 - i) (fun i => [(7, .d (.int .i64 i))]) (fun _ => []) 0 0 ⟨fun j hj => by omega, rfl⟩ (weak_of rfl (by repeat ((conv => whnf); first | exact trivial | refine And.intro rfl ?_ | refine And.intro (incD (by omega)) ?_)) (by repeat ((conv => whnf); first | exact trivial | refine And.intro rfl ?_ | refine And.intro (incD (by omega)) ?_))) ?_
  rintro i ⟨hall, hx⟩
  have hle := all_le hall
  have hA := level_fn a (i : Int) (by omega)
  have hC := level_fn c (i : Int) (by omega)
  have ea := lastI_mem a (i : Int)
  have ec := lastI_mem c (i : Int)
  have hf : L.length + 1 - i = (L.length - i) + 1 := by omega
  rw [hf, mexF] at hx
  have go : (i : Int) ∈ L → (∀ j, j < i + 1 → ((j : Nat) : Int) ∈ L) := by
    intro h j hj
    rcases Nat.lt_or_ge j i with h' | h'
    · exact hall j h'
    · obtain rfl : j = i := by omega
      exact h
  conv => whnf
  refine And.intro (fun h => ?_) (fun h => ?_)
  · have h : ¬ (i : Int) = x := ne_of_beq_false h
    conv => whnf
    refine callF hA gf52 rfl rfl ?_
    conv => whnf
    rw [ea]
    refine And.intro (fun h2 => ?_) (fun h2 => ?_)
    · have h2 := of_decide_eq_false h2
      conv => whnf
      refine callF hC gf52 rfl rfl ?_
      conv => whnf
      rw [ec]
      refine And.intro (fun h3 => ?_) (fun h3 => ?_)
      · have h3 := of_decide_eq_true h3
        have hm : (i : Int) ∈ L := (hin _).2 (.inr (.inr h3))
        have := all_le (go hm)
        rw [if_pos hm] at hx
        conv => whnf
        rw [incD (by omega)]
        exact again (i + 1) (by omega) ⟨go hm, by rw [hx]; congr 1; omega⟩ (weak_of rfl (by repeat ((conv => whnf); first | exact trivial | refine And.intro rfl ?_ | refine And.intro (incD (by omega)) ?_)) (by repeat ((conv => whnf); first | exact trivial | refine And.intro rfl ?_ | refine And.intro (incD (by omega)) ?_)))
      · have h3 := of_decide_eq_false h3
        have hno : ¬ (i : Int) ∈ L := fun hm => ((hin _).1 hm).elim h fun e => e.elim h2 h3
        rw [if_neg hno] at hx
        conv => whnf
        rw [hx]
    · have h2 := of_decide_eq_true h2
      have hm : (i : Int) ∈ L := (hin _).2 (.inr (.inl h2))
      have := all_le (go hm)
      rw [if_pos hm] at hx
      repeat' ((conv => whnf); first | (refine And.intro (fun hf => ?_) (fun hf => ?_) <;> first | exact Bool.noConfusion hf | skip))
      conv => whnf
      rw [incD (by omega)]
      exact again (i + 1) (by omega) ⟨go hm, by rw [hx]; congr 1; omega⟩ (weak_of rfl (by repeat ((conv => whnf); first | exact trivial | refine And.intro rfl ?_ | refine And.intro (incD (by omega)) ?_)) (by repeat ((conv => whnf); first | exact trivial | refine And.intro rfl ?_ | refine And.intro (incD (by omega)) ?_)))
  · have h : (i : Int) = x := eq_of_beq h
    have hm : (i : Int) ∈ L := (hin _).2 (.inl h)
    have := all_le (go hm)
    rw [if_pos hm] at hx
    repeat' ((conv => whnf); first | (refine And.intro (fun hf => ?_) (fun hf => ?_) <;> first | exact Bool.noConfusion hf | skip))
    conv => whnf
    rw [incD (by omega)]
    exact again (i + 1) (by omega) ⟨go hm, by rw [hx]; congr 1; omega⟩ (weak_of rfl (by repeat ((conv => whnf); first | exact trivial | refine And.intro rfl ?_ | refine And.intro (incD (by omega)) ?_)) (by repeat ((conv => whnf); first | exact trivial | refine And.intro rfl ?_ | refine And.intro (incD (by omega)) ?_)))
end Go.Proofs.YtcjkikadolnfgaaGreat

/- The reference's Put. -/
set_option linter.unusedSimpArgs false
set_option linter.unusedVariables false
namespace Go.Proofs.YtcjkikadolnfgaaGreat
open Go.Vx Go.Vc Go.RowKit

def spN (l : List TG) (y : TG) (x : Int) : Int := (mex (x :: (putL [] (frGs l []) ++ freeS y)) : Nat)
def rputF : Nat → TG → Int → TG → TG
  | 0, t, _, _ => t
  | f + 1, t, x, y =>
    if t.k = 6 ∧ t.n = x then y
    else if bndG t.k = true ∧ t.n = x then t
    else if bndG t.k = true ∧ t.n ∈ freeS y then
      .mk t.k (spN t.kids y x) t.ls (t.kids.map fun u => rputF f (rputF f u t.n (varG (spN t.kids y x))) x y)
    else .mk t.k t.n t.ls (t.kids.map fun u => rputF f u x y)
theorem rputF_mk (f : Nat) (k n : Int) (ls : List ByteArray) (l : List TG) (x : Int) (y : TG) : rputF (f + 1) (.mk k n ls l) x y =
    if k = 6 ∧ n = x then y
    else if bndG k = true ∧ n = x then .mk k n ls l
    else if bndG k = true ∧ n ∈ freeS y then
      .mk k (spN l y x) ls (l.map fun u => rputF f (rputF f u n (varG (spN l y x))) x y)
    else .mk k n ls (l.map fun u => rputF f u x y) := rfl
theorem spN_facts (l : List TG) (y : TG) (x : Int) : spN l y x ≠ x ∧ (∀ u ∈ l, spN l y x ∉ frG u []) ∧ spN l y x ∉ freeS y := by
  have h := mex_not (x :: (putL [] (frGs l []) ++ freeS y))
  have h : spN l y x ∉ x :: (putL [] (frGs l []) ++ freeS y) := h
  simp only [List.mem_cons, List.mem_append, not_or] at h
  refine ⟨h.1, fun u hu hm => h.2.1 ?_, h.2.2⟩
  obtain ⟨_, h2, _⟩ := putL_facts (frGs l []) [] List.Pairwise.nil
  exact (h2 _).2 (.inr ((mem_frGs ..).2 ⟨u, hu, hm⟩))
theorem sz_rput : ∀ (f : Nat) (t : TG) (x : Int) (y : TG), szG y = 1 → szG (rputF f t x y) ≤ szG t
  | 0, _, _, _, _ => Nat.le_refl _
  | f + 1, .mk k n ls l, x, y, hy => by
    rw [rputF_mk]
    have := szG_pos (.mk k n ls l)
    split
    · omega
    split
    · exact Nat.le_refl _
    split
    · rw [szG, szG]
      have := szGs_map_le (g := fun u => rputF f (rputF f u n (varG (spN l y x))) x y) (l := l) fun u _ => Nat.le_trans (sz_rput f _ x y hy) (sz_rput f u n _ rfl)
      omega
    · rw [szG, szG]
      have := szGs_map_le (g := fun u => rputF f u x y) (l := l) fun u _ => sz_rput f u x y hy
      omega
theorem okV_rput : ∀ (f : Nat) (t : TG) (x : Int) (y : TG), okV y = true → okV t = true → okV (rputF f t x y) = true
  | 0, _, _, _, _, h => h
  | f + 1, .mk k n ls l, x, y, hy, hv => by
    obtain ⟨hv6, hvl⟩ := (okV_mk ..).1 hv
    rw [rputF_mk]
    split
    · exact hy
    split
    · exact hv
    split
    · rename_i h
      refine (okV_mk ..).2 ⟨fun h6 => absurd h6 (bnd_ne6 h.1), fun u hu => ?_⟩
      obtain ⟨w, hw, rfl⟩ := List.mem_map.1 hu
      exact okV_rput f _ x y hy (okV_rput f w n _ (okV_var _) (hvl w hw))
    · refine (okV_mk ..).2 ⟨fun h6 => by obtain ⟨rfl, rfl⟩ := hv6 h6; exact ⟨rfl, rfl⟩, fun u hu => ?_⟩
      obtain ⟨w, hw, rfl⟩ := List.mem_map.1 hu
      exact okV_rput f w x y hy (hvl w hw)
theorem ev_rput : ∀ (f : Nat) (t : TG) (x : Int) (y : TG), szG t ≤ f → okV t = true → ∀ (d : Nat) (ρ : Rho), ev d ρ (rputF f t x y) = ev d (upd ρ x fun d' => ev d' ρ y) t
  | 0, .mk k n ls l, x, y, hf, hv, d, ρ => by simp [szG] at hf
  | f + 1, .mk k n ls l, x, y, hf, hv, d, ρ => by
    rw [szG] at hf
    obtain ⟨hv6, hvl⟩ := (okV_mk ..).1 hv
    have hsz : ∀ u ∈ l, szG u ≤ f := fun u hu => by have := szG_mem hu; omega
    have hfr : ∀ z, z ∈ freeS y ↔ z ∈ frG y [] := fun z => mem_freeS y z
    rw [rputF_mk]
    by_cases h1 : k = 6 ∧ n = x
    · rw [if_pos h1, ev, if_pos h1.1, h1.2, upd_eq]
    rw [if_neg h1]
    by_cases h2 : bndG k = true ∧ n = x
    · rw [if_pos h2, ev, ev, if_neg (bnd_ne6 h2.1), if_neg (bnd_ne6 h2.1), if_pos h2.1, if_pos h2.1]
      have : upd (upd ρ x fun d' => ev d' ρ y) n (fun _ => leafL d) = upd ρ n (fun _ => leafL d) := by
        funext z
        by_cases e : z = n
        · subst e; rw [upd_eq, upd_eq]
        · rw [upd_ne _ _ e, upd_ne _ _ e, upd_ne _ _ (by rw [← h2.2]; exact e)]
      rw [this]
    rw [if_neg h2]
    by_cases h3 : bndG k = true ∧ n ∈ freeS y
    · rw [if_pos h3]
      obtain ⟨f3, f2, f1⟩ := spN_facts l y x
      generalize spN l y x = m at *
      rw [ev, ev, if_neg (bnd_ne6 h3.1), if_neg (bnd_ne6 h3.1), if_pos h3.1, if_pos h3.1, evs_map, evs_map]
      congr 1
      rw [List.map_map]
      refine List.map_congr_left fun u hu => ?_
      have s1 := sz_rput f u n (varG m) rfl
      simp only [Function.comp]
      rw [ev_rput f _ x y (by have := hsz u hu; omega) (okV_rput f u n (varG m) (okV_var m) (hvl u hu)), ev_rput f u n (varG m) (hsz u hu) (hvl u hu)]
      refine ev_congr _ _ _ _ fun z hz => ?_
      have hzm : z ≠ m := fun e => f2 u hu (e ▸ hz)
      by_cases e : z = n
      · subst e
        rw [upd_eq, upd_eq]
        funext d'
        rw [ev_var, upd_ne _ _ f3, upd_eq]
      · rw [upd_ne _ _ e, upd_ne _ _ e]
        by_cases ex : z = x
        · subst ex
          rw [upd_eq, upd_eq]
          funext d'
          refine ev_congr _ _ _ _ fun w hw => ?_
          rw [upd_ne]
          rintro rfl
          exact f1 ((hfr w).2 hw)
        · rw [upd_ne _ _ ex, upd_ne _ _ ex, upd_ne _ _ hzm]
    rw [if_neg h3]
    by_cases h6 : k = 6
    · have hn : n ≠ x := fun e => h1 ⟨h6, e⟩
      rw [ev, ev, if_pos h6, if_pos h6, upd_ne _ _ hn]
    rw [ev, ev, if_neg h6, if_neg h6]
    by_cases hb : bndG k = true
    · have hn : n ≠ x := fun e => h2 ⟨hb, e⟩
      rw [if_pos hb, if_pos hb, evs_map, evs_map, List.map_map]
      congr 1
      refine List.map_congr_left fun u hu => ?_
      have hfn : n ∉ freeS y := fun e => h3 ⟨hb, e⟩
      simp only [Function.comp]
      rw [ev_rput f u x y (hsz u hu) (hvl u hu)]
      refine ev_congr _ _ _ _ fun z hz => ?_
      by_cases e : z = x
      · subst e
        rw [upd_eq, upd_ne _ _ (fun e => hn e.symm), upd_eq]
        funext d'
        refine ev_congr _ _ _ _ fun w hw => ?_
        rw [upd_ne]
        rintro rfl
        exact hfn ((hfr w).2 hw)
      · rw [upd_ne _ _ e]
        by_cases e2 : z = n
        · subst e2; rw [upd_eq, upd_eq]
        · rw [upd_ne _ _ e2, upd_ne _ _ e2, upd_ne _ _ e]
    · rw [if_neg hb, if_neg hb, evs_map, evs_map, List.map_map]
      congr 1
      exact List.map_congr_left fun u hu => ev_rput f u x y (hsz u hu) (hvl u hu) d ρ
def RPutOk (f : Nat) : Prop := ∀ t : TG, szG t ≤ f → ∀ (x : Int) (y : TG), szG t + szG y < 1099511600000 → FnR Tryz.prog G0 66 [dG t, .int .i64 x, dG y] (dG (rputF f t x y))
set_option maxRecDepth 20000 in
theorem rput_fn : ∀ f, RPutOk f := by
  intro f
  induction f with
  | zero =>
    intro t ht
    have := szG_pos t
    omega
  | succ f ih =>
    intro t ht x y hz
    obtain ⟨k, n, ls, l⟩ := t
    have hsz : szG (.mk k n ls l) = szGs l + 1 := by simp only [szG]
    rw [hsz] at ht hz
    have hyp := szG_pos y
    refine fnQ_sz fun hs => ?_
    have hl := (szOk_G (t := .mk k n ls l) hs.1).1
    simp only [g_kids, LB] at hl
    have hfy := freeS_len y
    have hF := rfreeTypes_fn y (by omega)
    refine fnQ_of_wk (N := 97) txok mixed Tryz.func66 rfl rfl (by simp) fun b => ?_
    refine wk_seq ⟨[(1, .d (.int .i64 x)), (3, .own 0 0), (5, .own 1 0), (6, .own 2 0)], [(0, .blk 28 [.d (.int .i64 k), .d (.int .i64 n), .d (dL ls), .d (dGs l)]), (1, .blk 28 [.d (.int .i64 y.k), .d (.int .i64 y.n), .d (dL y.ls), .d (dGs y.kids)]), (2, .blk 28 [.d (.int .i64 0), .d (.int .i64 0), .nl, .nl])], 3⟩ (wk_vc txok mixed [] ?_) ?_
    · conv => whnf
      exact weak_of rfl (by repeat ((conv => whnf); first | exact trivial | refine And.intro rfl ?_ | refine And.intro (incD (by omega)) ?_)) (by repeat ((conv => whnf); first | exact trivial | refine And.intro rfl ?_ | refine And.intro (incD (by omega)) ?_))
    by_cases h1 : k = 6 ∧ n = x
    · rw [rputF_mk, if_pos h1]
      obtain ⟨rfl, rfl⟩ := h1
      refine wk_seqR (wk_vc txok mixed [] ?_)
      conv => whnf
      refine And.intro (fun h => ?_) (fun h => Bool.noConfusion h)
      conv => whnf
      refine And.intro (fun h => ?_) (fun h => absurd h (by simp))
      conv => whnf
      try exact rfl
    refine wk_seq ⟨[(1, .d (.int .i64 x)), (3, .own 0 0), (5, .own 1 0), (6, .own 2 0)], [(0, .blk 28 [.d (.int .i64 k), .d (.int .i64 n), .d (dL ls), .d (dGs l)]), (1, .blk 28 [.d (.int .i64 y.k), .d (.int .i64 y.n), .d (dL y.ls), .d (dGs y.kids)]), (2, .blk 28 [.d (.int .i64 0), .d (.int .i64 0), .nl, .nl])], 3⟩ (wk_vc txok mixed [] ?_) ?_
    · conv => whnf
      refine And.intro (fun h => ?_) (fun h => ?_)
      · have h : k = 6 := eq_of_beq h
        conv => whnf
        refine And.intro (fun h2 => absurd ⟨h, eq_of_beq h2⟩ h1) (fun h2 => ?_)
        conv => whnf
        exact weak_of rfl (by repeat ((conv => whnf); first | exact trivial | refine And.intro rfl ?_ | refine And.intro (incD (by omega)) ?_)) (by repeat ((conv => whnf); first | exact trivial | refine And.intro rfl ?_ | refine And.intro (incD (by omega)) ?_))
      · conv => whnf
        exact weak_of rfl (by repeat ((conv => whnf); first | exact trivial | refine And.intro rfl ?_ | refine And.intro (incD (by omega)) ?_)) (by repeat ((conv => whnf); first | exact trivial | refine And.intro rfl ?_ | refine And.intro (incD (by omega)) ?_))
    by_cases h2 : bndG k = true ∧ n = x
    · rw [rputF_mk, if_neg h1, if_pos h2]
      have hB := bindsR_fn k
      rw [h2.1] at hB
      refine wk_seqR (wk_vc txok mixed [] ?_)
      conv => whnf
      refine callF hB gf54 rfl rfl ?_
      conv => whnf
      refine And.intro (fun h => ?_) (fun h => Bool.noConfusion h)
      conv => whnf
      refine And.intro (fun h => ?_) (fun h => absurd h2.2 (by simpa using h))
      conv => whnf
      try exact rfl
    refine wk_seq ⟨[(1, .d (.int .i64 x)), (3, .own 0 0), (5, .own 1 0), (6, .own 2 0)], [(0, .blk 28 [.d (.int .i64 k), .d (.int .i64 n), .d (dL ls), .d (dGs l)]), (1, .blk 28 [.d (.int .i64 y.k), .d (.int .i64 y.n), .d (dL y.ls), .d (dGs y.kids)]), (2, .blk 28 [.d (.int .i64 0), .d (.int .i64 0), .nl, .nl])], 3⟩ (wk_vc txok mixed [] ?_) ?_
    · conv => whnf
      refine callF (bindsR_fn k) gf54 rfl rfl ?_
      conv => whnf
      refine And.intro (fun h => ?_) (fun h => ?_)
      · conv => whnf
        refine And.intro (fun h3 => absurd ⟨h, eq_of_beq h3⟩ h2) (fun h3 => ?_)
        conv => whnf
        exact weak_of rfl (by repeat ((conv => whnf); first | exact trivial | refine And.intro rfl ?_ | refine And.intro (incD (by omega)) ?_)) (by repeat ((conv => whnf); first | exact trivial | refine And.intro rfl ?_ | refine And.intro (incD (by omega)) ?_))
      · conv => whnf
        exact weak_of rfl (by repeat ((conv => whnf); first | exact trivial | refine And.intro rfl ?_ | refine And.intro (incD (by omega)) ?_)) (by repeat ((conv => whnf); first | exact trivial | refine And.intro rfl ?_ | refine And.intro (incD (by omega)) ?_))
    refine wk_seq ⟨[(1, .d (.int .i64 x)), (3, .own 0 0), (5, .own 1 0), (6, .own 2 0), (7, .own 3 0)], [(0, .blk 28 [.d (.int .i64 k), .d (.int .i64 n), .d (dL ls), .d (dGs l)]), (1, .blk 28 [.d (.int .i64 y.k), .d (.int .i64 y.n), .d (dL y.ls), .d (dGs y.kids)]), (2, .blk 28 [.d (.int .i64 0), .d (.int .i64 0), .nl, .nl]), (3, .blk 28 [.d (.int .i64 k), .d (.int .i64 n), .d (dL ls), .d (dGs l)])], 4⟩ (wk_vc txok mixed [] ?_) ?_
    · conv => whnf
      exact weak_of rfl (by repeat ((conv => whnf); first | exact trivial | refine And.intro rfl ?_ | refine And.intro (incD (by omega)) ?_)) (by repeat ((conv => whnf); first | exact trivial | refine And.intro rfl ?_ | refine And.intro (incD (by omega)) ?_))
    refine wk_seq ⟨[(1, .d (.int .i64 x)), (3, .own 0 0), (5, .own 1 0), (6, .own 2 0), (7, .own 3 0)], [(0, .blk 28 [.d (.int .i64 k), .d (.int .i64 n), .d (dL ls), .d (dGs l)]), (1, .blk 28 [.d (.int .i64 y.k), .d (.int .i64 y.n), .d (dL y.ls), .d (dGs y.kids)]), (2, .blk 28 [.d (.int .i64 0), .d (.int .i64 0), .nl, .nl]), (3, .blk 28 [.d (.int .i64 k), .d (.int .i64 n), .d (dL ls), .nl])], 4⟩ (wk_vc txok mixed [] ?_) ?_
    · conv => whnf
      exact weak_of rfl (by repeat ((conv => whnf); first | exact trivial | refine And.intro rfl ?_ | refine And.intro (incD (by omega)) ?_)) (by repeat ((conv => whnf); first | exact trivial | refine And.intro rfl ?_ | refine And.intro (incD (by omega)) ?_))
    generalize hturn : (bndG k && decide (n ∈ freeS y)) = turn
    refine wk_seq ⟨[(8, .d (.bool turn)), (1, .d (.int .i64 x)), (3, .own 0 0), (5, .own 1 0), (6, .own 2 0), (7, .own 3 0)], [(0, .blk 28 [.d (.int .i64 k), .d (.int .i64 n), .d (dL ls), .d (dGs l)]), (1, .blk 28 [.d (.int .i64 y.k), .d (.int .i64 y.n), .d (dL y.ls), .d (dGs y.kids)]), (2, .blk 28 [.d (.int .i64 0), .d (.int .i64 0), .nl, .nl]), (3, .blk 28 [.d (.int .i64 k), .d (.int .i64 n), .d (dL ls), .nl])], 4⟩ (wk_vc txok mixed [(7, .pure 0 (.take 1 (.run 2 (.pure 3 (.take 4 (.pure 6 (.take 7 (.run 5 (.fin 8 (.pure 9 (.pure 10 (.pure 11 .done)))))))))))), (21, .pure 0 (.take 1 (.take 2 (.pure 3 (.take 4 (.run 5 (.run 6 (.fin 7 (.pure 8 (.fin 9 .done))))))))))] ?_) ?_
    · conv => whnf
      refine And.intro (by kernel_rfl) ?_
      conv => whnf
      refine callF (bindsR_fn k) gf54 rfl rfl ?_
      conv => whnf
      refine And.intro (fun h => ?_) (fun h => ?_)
      · rw [h, Bool.true_and] at hturn
        have hA := level_fn (freeS y) n (by omega)
        have ea := lastI_mem (freeS y) n
        repeat' ((conv => whnf); first
          | refine callF hF gf36 rfl rfl ?_
          | refine callF hA gf52 rfl rfl ?_
          | refine And.intro ?_ ?_)
        all_goals (conv => whnf)
        all_goals rw [ea, hturn]
        all_goals exact weak_of rfl (by repeat ((conv => whnf); first | exact trivial | refine And.intro rfl ?_ | refine And.intro (incD (by omega)) ?_)) (by repeat ((conv => whnf); first | exact trivial | refine And.intro rfl ?_ | refine And.intro (incD (by omega)) ?_))
      · have h : bndG k = false := h
        rw [h, Bool.false_and] at hturn
        subst hturn
        repeat' ((conv => whnf); first | refine And.intro ?_ ?_)
        all_goals (conv => whnf)
        all_goals refine (weak_kbT 8 false (by exact rfl)).trans (weak_of rfl (by repeat ((conv => whnf); first | exact trivial | refine And.intro rfl ?_ | refine And.intro (incD (by omega)) ?_)) (by repeat ((conv => whnf); first | exact trivial | refine And.intro rfl ?_ | refine And.intro (incD (by omega)) ?_)))
    cases turn
    · have hturn : ¬ (bndG k = true ∧ n ∈ freeS y) := by simpa using hturn
      rw [rputF_mk, if_neg h1, if_neg h2, if_neg hturn]
      refine wk_seq ⟨[(8, .d (.bool false)), (1, .d (.int .i64 x)), (3, .own 0 0), (5, .own 1 0), (6, .own 2 0), (7, .own 3 0)], [(0, .blk 28 [.d (.int .i64 k), .d (.int .i64 n), .d (dL ls), .d (dGs l)]), (1, .blk 28 [.d (.int .i64 y.k), .d (.int .i64 y.n), .d (dL y.ls), .d (dGs y.kids)]), (2, .blk 28 [.d (.int .i64 0), .d (.int .i64 0), .nl, .nl]), (3, .blk 28 [.d (.int .i64 k), .d (.int .i64 n), .d (dL ls), .nl])], 4⟩ (wk_vc txok mixed [] ?_) ?_
      · conv => whnf
        refine And.intro (fun h => Bool.noConfusion h) (fun h => ?_)
        conv => whnf
        exact weak_of rfl (by repeat ((conv => whnf); first | exact trivial | refine And.intro rfl ?_ | refine And.intro (incD (by omega)) ?_)) (by repeat ((conv => whnf); first | exact trivial | refine And.intro rfl ?_ | refine And.intro (incD (by omega)) ?_))
      have hput : ∀ u ∈ l, FnR Tryz.prog G0 66 [dG u, .int .i64 x, dG y] (dG ((fun u => rputF f u x y) u)) := fun u hu => ih u (by have := szG_mem hu; omega) x y (by have := szG_mem hu; omega)
      generalize hg : (fun u => rputF f u x y) = g at *
      refine wk_seq ⟨[(1, .d (.int .i64 x)), (3, .own 0 0), (5, .own 1 0), (6, .own 2 0), (7, .own 3 0)], [(0, .blk 28 [.d (.int .i64 k), .d (.int .i64 n), .d (dL ls), .d (dGs l)]), (1, .blk 28 [.d (.int .i64 y.k), .d (.int .i64 y.n), .d (dL y.ls), .d (dGs y.kids)]), (2, .blk 28 [.d (.int .i64 0), .d (.int .i64 0), .nl, .nl]), (3, .blk 28 [.d (.int .i64 k), .d (.int .i64 n), .d (dL ls), .row 4]), (4, .row 28 64 4 ((l.take l.length).map g).length (encGs ((l.take l.length).map g)))], 5⟩ (wk_vc txok mixed [(7, .pure 0 (.take 1 (.run 2 (.pure 3 (.take 4 (.pure 6 (.take 7 (.run 5 (.fin 8 (.pure 9 (.pure 10 (.pure 11 .done)))))))))))), (21, .pure 0 (.take 1 (.take 2 (.pure 3 (.take 4 (.run 5 (.run 6 (.fin 7 (.pure 8 (.fin 9 .done))))))))))] ?_) ?_
      · conv => whnf
        refine loopH (fun i : Nat => i ≤ l.length) (fun i => l.length - i) (fun i => [(11, .d (.int .i64 i))]) (fun i => [(0, .blk 28 [.d (.int .i64 k), .d (.int .i64 n), .d (dL ls), .d (dGs l)]), (1, .blk 28 [.d (.int .i64 y.k), .d (.int .i64 y.n), .d (dL y.ls), .d (dGs y.kids)]), (2, .blk 28 [.d (.int .i64 0), .d (.int .i64 0), .nl, .nl]), (3, .blk 28 [.d (.int .i64 k), .d (.int .i64 n), .d (dL ls), .row 4]), (4, .row 28 64 4 ((l.take i).map g).length (encGs ((l.take i).map g)))]) 5 0 (by omega) ((weak_nlC 3 3 28 64 4 rfl rfl).trans (weak_of rfl (by repeat ((conv => whnf); first | exact trivial | refine And.intro rfl ?_ | refine And.intro (incD (by omega)) ?_)) (by repeat ((conv => whnf); first | exact trivial | refine And.intro rfl ?_ | refine And.intro (incD (by omega)) ?_)))) ?_
        intro i hi
        have hml : ((l.take i).map g).length = i := by simp; omega
        conv => whnf
        refine And.intro (fun hb => ?_) (fun hb => ?_)
        · have hil : i < l.length := by have := of_decide_eq_true hb; omega
          have htk : (l.take (i + 1)).map g = (l.take i).map g ++ [g l[i]] := by rw [List.take_succ_eq_append_getElem hil, List.map_append]; rfl
          have hP := hput l[i] (List.getElem_mem hil)
          generalize hgl : g l[i] = w at *
          obtain ⟨k1, n1, l1, m1⟩ := w
          conv => whnf
          refine IdxC.encGs i hil rfl ?_
          conv => whnf
          refine And.intro (fun h => Bool.noConfusion h) (fun h => ?_)
          conv => whnf
          refine And.intro (by kernel_rfl) ?_
          conv => whnf
          refine callF hP gf66 rfl rfl ?_
          conv => whnf
          refine appR (i := 4) (sz := 4) (n := ((l.take i).map g).length) (m := 1) (xs := encGs ((l.take i).map g)) (ys := encGs [TG.mk k1 n1 l1 m1]) txok (fun k => Nat.ble 6 k) ((l.take (i + 1)).map g).length (encGs ((l.take (i + 1)).map g)) (by exact rfl) (by exact rfl) (by exact rfl) (by kernel_rfl) (by exact rfl) (encGs_scal _) (by rw [htk]; simp) (by rw [htk, encGs_app]) (by simp only [LB, List.length_map, List.length_take]; omega) ?_
          conv => whnf
          rw [incD (by omega)]
          exact again (i + 1) (by omega) (by omega) (weak_of rfl (by repeat ((conv => whnf); first | exact trivial | refine And.intro rfl ?_ | refine And.intro (incD (by omega)) ?_)) (by repeat ((conv => whnf); first | exact trivial | refine And.intro rfl ?_ | refine And.intro (incD (by omega)) ?_)))
        · have hil : i = l.length := by have := of_decide_eq_false hb; omega
          subst hil
          conv => whnf
          exact weak_of rfl (by repeat ((conv => whnf); first | exact trivial | refine And.intro rfl ?_ | refine And.intro (incD (by omega)) ?_)) (by repeat ((conv => whnf); first | exact trivial | refine And.intro rfl ?_ | refine And.intro (incD (by omega)) ?_))
      rw [List.take_length]
      refine wk_vc txok mixed [] ?_
      conv => whnf
      try exact rfl
    · simp only [Bool.and_eq_true, decide_eq_true_eq] at hturn
      rw [rputF_mk, if_neg h1, if_neg h2, if_pos hturn]
      have hfl := frGs_len l []
      have hpl := putL_len (frGs l []) []
      simp only [List.length_nil] at hpl
      have hS : FnR Tryz.prog G0 105 [dI (putL [] (frGs l [])), dI (freeS y), .int .i64 x] (.int .i64 (spN l y x)) := spare_fn (putL [] (frGs l [])) (freeS y) x (by omega)
      obtain ⟨m1, hm1⟩ : ∃ m, m = spN l y x := ⟨_, rfl⟩
      refine wk_seq ⟨[(8, .d (.bool true)), (1, .d (.int .i64 x)), (3, .own 0 0), (5, .own 1 0), (6, .own 2 0), (7, .own 3 0)], [(0, .blk 28 [.d (.int .i64 k), .d (.int .i64 n), .d (dL ls), .d (dGs l)]), (1, .blk 28 [.d (.int .i64 y.k), .d (.int .i64 y.n), .d (dL y.ls), .d (dGs y.kids)]), (2, .blk 28 [.d (.int .i64 0), .d (.int .i64 0), .nl, .nl]), (3, .blk 28 [.d (.int .i64 k), .d (.int .i64 (spN l y x)), .d (dL ls), .nl])], 4⟩ (wk_vc txok mixed [(7, .pure 0 (.take 1 (.run 2 (.pure 3 (.take 4 (.pure 6 (.take 7 (.run 5 (.fin 8 (.pure 9 (.pure 10 (.pure 11 .done)))))))))))), (21, .pure 0 (.take 1 (.take 2 (.pure 3 (.take 4 (.run 5 (.run 6 (.fin 7 (.pure 8 (.fin 9 .done))))))))))] ?_) ?_
      · conv => whnf
        refine And.intro (fun h => ?_) (fun h => Bool.noConfusion h)
        conv => whnf
        refine loopH (fun i : Nat => i ≤ l.length) (fun i => l.length - i) (fun i => [(10, .d (.int .i64 i)), (9, .d (dI (putL [] (frGs (l.take i) []))))]) (fun i => [(0, .blk 28 [.d (.int .i64 k), .d (.int .i64 n), .d (dL ls), .d (dGs l)]), (1, .blk 28 [.d (.int .i64 y.k), .d (.int .i64 y.n), .d (dL y.ls), .d (dGs y.kids)]), (2, .blk 28 [.d (.int .i64 0), .d (.int .i64 0), .nl, .nl]), (3, .blk 28 [.d (.int .i64 k), .d (.int .i64 n), .d (dL ls), .nl])]) 4 0 (by omega) ((weak_T 9 (.d (dI [])) rfl rfl nl_dI).trans (weak_of rfl (by repeat ((conv => whnf); first | exact trivial | refine And.intro rfl ?_ | refine And.intro (incD (by omega)) ?_)) (by repeat ((conv => whnf); first | exact trivial | refine And.intro rfl ?_ | refine And.intro (incD (by omega)) ?_)))) ?_
        intro i hi
        conv => whnf
        refine And.intro (fun hb => ?_) (fun hb => ?_)
        · have hil : i < l.length := by have := of_decide_eq_true hb; omega
          have hmem := szG_mem (List.getElem_mem hil)
          have hlen := frGs_len (l.take i) []
          have hpl2 := putL_len (frGs (l.take i) []) []
          simp only [List.length_nil] at hpl2
          have htk := szGs_take hil
          have htl := szGs_le l (i + 1)
          have hN := free_fn l[i] [] (putL [] (frGs (l.take i) [])) (by simp only [List.length_nil]; omega) (by omega)
          rw [← putL_app, ← frGs_take hil] at hN
          conv => whnf
          refine IdxC.encGs i hil rfl ?_
          conv => whnf
          refine callF hN gf72 rfl rfl ?_
          conv => whnf
          rw [incD (by omega)]
          exact again (i + 1) (by omega) (by omega) (weak_of rfl (by repeat ((conv => whnf); first | exact trivial | refine And.intro rfl ?_ | refine And.intro (incD (by omega)) ?_)) (by repeat ((conv => whnf); first | exact trivial | refine And.intro rfl ?_ | refine And.intro (incD (by omega)) ?_)))
        · have hil : i = l.length := by have := of_decide_eq_false hb; omega
          subst hil
          rw [List.take_length]
          conv => whnf
          refine callF hF gf36 rfl rfl ?_
          conv => whnf
          refine callF hS gf105 rfl rfl ?_
          conv => whnf
          exact weak_of rfl (by repeat ((conv => whnf); first | exact trivial | refine And.intro rfl ?_ | refine And.intro (incD (by omega)) ?_)) (by repeat ((conv => whnf); first | exact trivial | refine And.intro rfl ?_ | refine And.intro (incD (by omega)) ?_))
      have hput : ∀ u ∈ l, FnR Tryz.prog G0 66 [dG (rputF f u n (varG (spN l y x))), .int .i64 x, dG y] (dG ((fun u => rputF f (rputF f u n (varG (spN l y x))) x y) u)) := fun u hu => ih (rputF f u n (varG (spN l y x))) (by have := szG_mem hu; have := sz_rput f u n (varG (spN l y x)) rfl; omega) x y (by have := szG_mem hu; have := sz_rput f u n (varG (spN l y x)) rfl; omega)
      generalize hg : (fun u => rputF f (rputF f u n (varG (spN l y x))) x y) = g at *
      have hput1 : ∀ u ∈ l, FnR Tryz.prog G0 66 [dG u, .int .i64 n, dG (varG (spN l y x))] (dG (rputF f u n (varG (spN l y x)))) := fun u hu => ih u (by have := szG_mem hu; omega) n _ (by have := szG_mem hu; have : szG (varG (spN l y x)) = 1 := rfl; omega)
      refine wk_seq ⟨[(1, .d (.int .i64 x)), (3, .own 0 0), (5, .own 1 0), (6, .own 2 0), (7, .own 3 0)], [(0, .blk 28 [.d (.int .i64 k), .d (.int .i64 n), .d (dL ls), .d (dGs l)]), (1, .blk 28 [.d (.int .i64 y.k), .d (.int .i64 y.n), .d (dL y.ls), .d (dGs y.kids)]), (2, .blk 28 [.d (.int .i64 0), .d (.int .i64 0), .nl, .nl]), (3, .blk 28 [.d (.int .i64 k), .d (.int .i64 (spN l y x)), .d (dL ls), .row 4]), (4, .row 28 64 4 ((l.take l.length).map g).length (encGs ((l.take l.length).map g)))], 5⟩ (wk_vc txok mixed [(7, .pure 0 (.take 1 (.run 2 (.pure 3 (.take 4 (.pure 6 (.take 7 (.run 5 (.fin 8 (.pure 9 (.pure 10 (.pure 11 .done)))))))))))), (21, .pure 0 (.take 1 (.take 2 (.pure 3 (.take 4 (.run 5 (.run 6 (.fin 7 (.pure 8 (.fin 9 .done))))))))))] ?_) ?_
      · conv => whnf
        refine loopH (fun i : Nat => i ≤ l.length) (fun i => l.length - i) (fun i => [(11, .d (.int .i64 i))]) (fun i => [(0, .blk 28 [.d (.int .i64 k), .d (.int .i64 n), .d (dL ls), .d (dGs l)]), (1, .blk 28 [.d (.int .i64 y.k), .d (.int .i64 y.n), .d (dL y.ls), .d (dGs y.kids)]), (2, .blk 28 [.d (.int .i64 0), .d (.int .i64 0), .nl, .nl]), (3, .blk 28 [.d (.int .i64 k), .d (.int .i64 (spN l y x)), .d (dL ls), .row 4]), (4, .row 28 64 4 ((l.take i).map g).length (encGs ((l.take i).map g)))]) 5 0 (by omega) ((weak_nlC 3 3 28 64 4 rfl rfl).trans (weak_of rfl (by repeat ((conv => whnf); first | exact trivial | refine And.intro rfl ?_ | refine And.intro (incD (by omega)) ?_)) (by repeat ((conv => whnf); first | exact trivial | refine And.intro rfl ?_ | refine And.intro (incD (by omega)) ?_)))) ?_
        intro i hi
        have hml : ((l.take i).map g).length = i := by simp; omega
        conv => whnf
        refine And.intro (fun hb => ?_) (fun hb => ?_)
        · have hil : i < l.length := by have := of_decide_eq_true hb; omega
          have htk : (l.take (i + 1)).map g = (l.take i).map g ++ [g l[i]] := by rw [List.take_succ_eq_append_getElem hil, List.map_append]; rfl
          have hP := hput l[i] (List.getElem_mem hil)
          generalize hgl : g l[i] = w at *
          obtain ⟨k1, n1, l1, m1⟩ := w
          conv => whnf
          refine IdxC.encGs i hil rfl ?_
          conv => whnf
          refine And.intro (fun h => ?_) (fun h => Bool.noConfusion h)
          conv => whnf
          refine callF (hput1 l[i] (List.getElem_mem hil)) gf66 rfl rfl ?_
          conv => whnf
          refine And.intro (by kernel_rfl) ?_
          conv => whnf
          refine callF hP gf66 rfl rfl ?_
          conv => whnf
          refine appR (i := 4) (sz := 4) (n := ((l.take i).map g).length) (m := 1) (xs := encGs ((l.take i).map g)) (ys := encGs [TG.mk k1 n1 l1 m1]) txok (fun k => Nat.ble 6 k) ((l.take (i + 1)).map g).length (encGs ((l.take (i + 1)).map g)) (by exact rfl) (by exact rfl) (by exact rfl) (by kernel_rfl) (by exact rfl) (encGs_scal _) (by rw [htk]; simp) (by rw [htk, encGs_app]) (by simp only [LB, List.length_map, List.length_take]; omega) ?_
          conv => whnf
          rw [incD (by omega)]
          exact again (i + 1) (by omega) (by omega) (weak_of rfl (by repeat ((conv => whnf); first | exact trivial | refine And.intro rfl ?_ | refine And.intro (incD (by omega)) ?_)) (by repeat ((conv => whnf); first | exact trivial | refine And.intro rfl ?_ | refine And.intro (incD (by omega)) ?_)))
        · have hil : i = l.length := by have := of_decide_eq_false hb; omega
          subst hil
          conv => whnf
          exact weak_of rfl (by repeat ((conv => whnf); first | exact trivial | refine And.intro rfl ?_ | refine And.intro (incD (by omega)) ?_)) (by repeat ((conv => whnf); first | exact trivial | refine And.intro rfl ?_ | refine And.intro (incD (by omega)) ?_))
      rw [List.take_length]
      refine wk_vc txok mixed [] ?_
      conv => whnf
      try exact rfl
end Go.Proofs.YtcjkikadolnfgaaGreat

/- The reference's SameType. -/
set_option linter.unusedSimpArgs false
set_option linter.unusedVariables false
namespace Go.Proofs.YtcjkikadolnfgaaGreat
open Go.Vx Go.Vc Go.RowKit

theorem rtexts_fn (l m : List ByteArray) : FnR Tryz.prog G0 51 [dL l, dL m] (.bool (decide (l = m))) := by
  refine fnQ_sz fun hs => ?_
  have hl := (szOk_sl hs.1).1
  simp only [LB] at hl
  refine fnQ_of_vc txok mixed [(6, .pure 0 (.pure 1 (.pure 2 (.take 3 (.pure 4 (.pure 5 (.pure 6 (.take 7 (.pure 8 .done)))))))))] Tryz.func51 rfl rfl (by simp) fun b => ?_
  conv => whnf
  refine And.intro (fun h => ?_) (fun h => ?_)
  · conv => whnf
    refine congrArg D.bool ?_
    rw [eq_comm, decide_eq_false_iff_not]
    rintro rfl
    simp at h
  have h : l.length = m.length := by simp at h; omega
  conv => whnf
  refine loopH (fun i : Nat => i ≤ l.length ∧ (l = m ↔ l.drop i = m.drop i)) (fun i => l.length - i) (fun i => [(5, .d (.int .i64 i))]) (fun _ => []) 0 0 ⟨by omega, by simp⟩ (weak_of rfl (by repeat ((conv => whnf); first | exact trivial | refine And.intro rfl ?_ | refine And.intro (incD (by omega)) ?_)) (by repeat ((conv => whnf); first | exact trivial | refine And.intro rfl ?_ | refine And.intro (incD (by omega)) ?_))) ?_
  rintro i ⟨hi, hx⟩
  conv => whnf
  refine And.intro (fun hb => ?_) (fun hb => ?_)
  · have hil : i < l.length := by have := of_decide_eq_true hb; omega
    have him : i < m.length := by omega
    rw [eqS_drop hil him] at hx
    conv => whnf
    refine And.intro (by kernel_rfl) ?_
    conv => whnf
    refine IdxC.encS i hil rfl ?_
    conv => whnf
    refine IdxC.encS i him rfl ?_
    conv => whnf
    rw [beqB']
    refine And.intro (fun he => ?_) (fun he => ?_)
    · conv => whnf
      refine congrArg D.bool ?_
      rw [eq_comm, decide_eq_false_iff_not, hx]
      simp at he
      exact fun h' => he h'.1
    · conv => whnf
      simp at he
      rw [incD (by omega)]
      exact again (i + 1) (by omega) ⟨by omega, by rw [hx]; simp [he]⟩ (weak_of rfl (by repeat ((conv => whnf); first | exact trivial | refine And.intro rfl ?_ | refine And.intro (incD (by omega)) ?_)) (by repeat ((conv => whnf); first | exact trivial | refine And.intro rfl ?_ | refine And.intro (incD (by omega)) ?_)))
  · have hb : ¬ i < l.length := by have := of_decide_eq_false hb; omega
    conv => whnf
    refine congrArg D.bool ?_
    rw [eq_comm, decide_eq_true_eq, hx, List.drop_of_length_le (by omega), List.drop_of_length_le (by omega)]
theorem rsameAll_fn (l m : List TG) (s t : List Int) (hlm : l.length = m.length) (ih : ∀ u ∈ l, ∀ v, FnR Tryz.prog G0 21 [dG u, dG v, dI s, dI t] (.bool (samG u v s t))) : FnR Tryz.prog G0 53 [dGs l, dGs m, dI s, dI t] (.bool (samGs l m s t)) := by
  refine fnQ_sz fun hs => ?_
  have hl := (szOk_sl hs.1).1
  simp only [LB] at hl
  refine fnQ_of_vc txok mixed [(4, .pure 0 (.pure 1 (.pure 2 (.take 3 (.pure 4 (.pure 5 (.pure 6 (.take 7 (.pure 8 (.pure 9 (.fin 10 (.pure 11 .done))))))))))))] Tryz.func53 rfl rfl (by simp) fun b => ?_
  conv => whnf
  refine loopH (fun i : Nat => i ≤ l.length ∧ samGs l m s t = samGs (l.drop i) (m.drop i) s t) (fun i => l.length - i) (fun i => [(9, .d (.int .i64 i))]) (fun _ => []) 0 0 ⟨by omega, by simp⟩ (weak_of rfl (by repeat ((conv => whnf); first | exact trivial | refine And.intro rfl ?_ | refine And.intro (incD (by omega)) ?_)) (by repeat ((conv => whnf); first | exact trivial | refine And.intro rfl ?_ | refine And.intro (incD (by omega)) ?_))) ?_
  rintro i ⟨hi, hx⟩
  conv => whnf
  refine And.intro (fun hb => ?_) (fun hb => ?_)
  · have hil : i < l.length := by have := of_decide_eq_true hb; omega
    have him : i < m.length := by omega
    rw [samGs_drop hil him] at hx
    conv => whnf
    refine And.intro (by kernel_rfl) ?_
    conv => whnf
    refine IdxC.encGs i hil rfl ?_
    conv => whnf
    refine IdxC.encGs i him rfl ?_
    conv => whnf
    refine callF (ih l[i] (List.getElem_mem hil) m[i]) gf21 rfl rfl ?_
    conv => whnf
    refine And.intro (fun he => ?_) (fun he => ?_)
    · have he : samG l[i] m[i] s t = false := by simpa using he
      rw [he, Bool.false_and] at hx
      conv => whnf
      rw [hx]
    · have he : samG l[i] m[i] s t = true := by simpa using he
      rw [he, Bool.true_and] at hx
      conv => whnf
      rw [incD (by omega)]
      exact again (i + 1) (by omega) ⟨by omega, hx⟩ (weak_of rfl (by repeat ((conv => whnf); first | exact trivial | refine And.intro rfl ?_ | refine And.intro (incD (by omega)) ?_)) (by repeat ((conv => whnf); first | exact trivial | refine And.intro rfl ?_ | refine And.intro (incD (by omega)) ?_)))
  · have hb : ¬ i < l.length := by have := of_decide_eq_false hb; omega
    conv => whnf
    rw [hx, List.drop_of_length_le (by omega), samGs_nil]
set_option maxRecDepth 20000 in
theorem rsame_fn : ∀ (a u : TG) (s t : List Int), s.length + szG a < 1099511627776 → t.length + szG a < 1099511627776 → FnR Tryz.prog G0 21 [dG a, dG u, dI s, dI t] (.bool (samG a u s t)) := by
  refine TG.ind fun k n ls ks ih u s t hss htt => ?_
  obtain ⟨k', n', ls', ks'⟩ := u
  have hsz : szG (.mk k n ls ks) = szGs ks + 1 := by simp only [szG]
  rw [hsz] at hss htt
  have hih : ∀ s' t' : List Int, s'.length ≤ s.length + 1 → t'.length ≤ t.length + 1 → ∀ u ∈ ks, ∀ v, FnR Tryz.prog G0 21 [dG u, dG v, dI s', dI t'] (.bool (samG u v s' t')) := fun s' t' h1 h2 u hu v => ih u hu v s' t' (by have := szG_mem hu; omega) (by have := szG_mem hu; omega)
  have hsm := samG_mk k n ls ks k' n' ls' ks' s t
  by_cases hlen : ks.length = ks'.length
  · have hA := rsameAll_fn ks ks' s t hlen (hih s t (by omega) (by omega))
    have hB := rsameAll_fn ks ks' (s ++ [n]) (t ++ [n']) hlen (hih _ _ (by simp) (by simp))
    have hbk := bindsR_fn k
    have hL1 := level_fn s n (by omega)
    have hL2 := level_fn t n' (by omega)
    have hW1 := rwith_fn s n (by omega)
    have hW2 := rwith_fn t n' (by omega)
    generalize samGs ks ks' s t = r1 at *
    generalize samGs ks ks' (s ++ [n]) (t ++ [n']) = r2 at *
    generalize samG (.mk k n ls ks) (.mk k' n' ls' ks') s t = r at *
    refine fnQ_of_vc txok mixed [(7, .pure 0 (.take 1 (.pure 2 (.take 3 (.pure 4 (.pure 5 (.take 6 (.pure 8 (.pure 9 (.take 10 (.run 7 (.run 11 (.fin 12 (.pure 13 .done))))))))))))))] Tryz.func21 rfl rfl (by simp) fun b => ?_
    conv => whnf
    simp only [g_k, g_n, g_ls, g_kids]
    repeat' ((conv => whnf); first
      | refine And.intro (by kernel_rfl) ?_
      | refine And.intro (fun h => ?_) (fun h => ?_)
      | refine callF (rtexts_fn ls ls') gf51 rfl rfl ?_
      | refine callF hL1 gf52 rfl rfl ?_
      | refine callF hL2 gf52 rfl rfl ?_
      | refine callF hbk gf54 rfl rfl ?_
      | refine callF hW1 gf55 rfl rfl ?_
      | refine callF hW2 gf55 rfl rfl ?_
      | refine callF hA gf53 rfl rfl ?_
      | refine callF hB gf53 rfl rfl ?_)
    all_goals try (conv => whnf)
    all_goals refine congrArg D.bool ?_
    all_goals rw [hsm]
    all_goals clear hA hB hbk hL1 hL2 hW1 hW2 hsm hih ih hsz hss htt
    all_goals simp only [hlen, decide_true, Bool.and_true]
    all_goals first
      | (simp_all; done)
      | (simp_all; omega)
      | trace_state
  · refine fnQ_of_vc txok mixed [(7, .pure 0 (.take 1 (.pure 2 (.take 3 (.pure 4 (.pure 5 (.take 6 (.pure 8 (.pure 9 (.take 10 (.run 7 (.run 11 (.fin 12 (.pure 13 .done))))))))))))))] Tryz.func21 rfl rfl (by simp) fun b => ?_
    conv => whnf
    simp only [g_k, g_n, g_ls, g_kids]
    have hne : ((ks.length : Int) != (ks'.length : Int)) = true := by
      rw [bne_iff_ne]; omega
    have hf : samG (.mk k n ls ks) (.mk k' n' ls' ks') s t = false := by
      rw [hsm, decide_eq_false hlen]; simp
    rw [hf]
    repeat' ((conv => whnf); first
      | (refine And.intro (fun h => ?_) (fun h => ?_) <;> first | exact Bool.noConfusion h | (rw [hne] at h; exact Bool.noConfusion h) | skip))
    all_goals try (conv => whnf)
    all_goals try exact rfl
end Go.Proofs.YtcjkikadolnfgaaGreat

/- Plain laws: what the program and the document tell of right types is the same. -/
set_option linter.unusedSimpArgs false
set_option linter.unusedVariables false
namespace Go.Proofs.YtcjkikadolnfgaaGreat
open Go.Vx Go.Vc Go.RowKit

theorem depGs_any (n : Nat) : ∀ l : List TG, (l.any fun t => decide (depG t > n)) = decide (depGs l > n)
  | [] => by simp [depGs]
  | t :: r => by
    rw [List.any_cons, depGs_any n r, depGs, Bool.eq_iff_iff]
    simp only [Bool.or_eq_true, decide_eq_true_eq]
    omega
theorem deepR_dep : ∀ (n : Nat) (t : TG), deepR n t = decide (depG t > n)
  | 0, t => by
    obtain ⟨k, n, ls, l⟩ := t
    simp [deepR, depG]
  | n + 1, t => by
    obtain ⟨k, m, ls, l⟩ := t
    have : deepR (n + 1) (.mk k m ls l) = l.any (deepR n) := rfl
    rw [this, show (deepR n) = fun t => decide (depG t > n) from funext (deepR_dep n), depGs_any, depG, Bool.eq_iff_iff]
    simp only [decide_eq_true_eq]
    omega
theorem shp_shR (k n : Int) (ls : List ByteArray) (l : List TG) : shpG (.mk k n ls l) = shR k n ls l.length := by
  have hS : shpG (.mk k n ls l) = (if k = 1 ∨ k = 2 ∨ k = 3 then n == 0 && (ls.length : Int) == 0 && (l.length : Int) == 0
    else if k = 4 ∨ k = 5 then n == 0 && (ls.length : Int) == 0 && (l.length : Int) == 2
    else if k = 6 then (ls.length : Int) == 0 && (l.length : Int) == 0
    else if k = 7 then n == 0 && ordS ls && (ls.length : Int) == (l.length : Int)
    else if k = 8 then n == 0 && (ls.length : Int) == 0
    else if k = 9 ∨ k = 10 ∨ k = 11 then (ls.length : Int) == 0 && (l.length : Int) == 1
    else false) := rfl
  rw [hS]
  clear hS
  unfold shR shA shB shC
  have hL : decide ((ls.length : Int) > 0) = !((ls.length : Int) == 0) := by
    cases ls.length with
    | zero => rfl
    | succ m => rw [Bool.eq_iff_iff]; simp; omega
  rw [hL]
  by_cases hk : k < 1 ∨ 11 < k
  · have e : kidN k = -2 := by unfold kidN; rw [if_neg (by omega), if_neg (by omega), if_neg (by omega), if_neg (by omega)]
    conv => lhs; rw [if_neg (by omega), if_neg (by omega), if_neg (by omega), if_neg (by omega), if_neg (by omega), if_neg (by omega)]
    rw [e]
    rfl
  have hk' : k = 1 ∨ k = 2 ∨ k = 3 ∨ k = 4 ∨ k = 5 ∨ k = 6 ∨ k = 7 ∨ k = 8 ∨ k = 9 ∨ k = 10 ∨ k = 11 := by omega
  simp only [bne]
  rcases hk' with rfl | rfl | rfl | rfl | rfl | rfl | rfl | rfl | rfl | rfl | rfl
  · conv => lhs; rw [if_pos (by decide)]
    rw [show kidN 1 = 0 from by decide]
    conv => rhs; rw [if_neg (by decide)]
    generalize (n == 0) = A, (((ls.length : Nat) : Int) == 0) = B, (((l.length : Nat) : Int) == 0) = C
    cases A <;> cases B <;> cases C <;> rfl
  · conv => lhs; rw [if_pos (by decide)]
    rw [show kidN 2 = 0 from by decide]
    conv => rhs; rw [if_neg (by decide)]
    generalize (n == 0) = A, (((ls.length : Nat) : Int) == 0) = B, (((l.length : Nat) : Int) == 0) = C
    cases A <;> cases B <;> cases C <;> rfl
  · conv => lhs; rw [if_pos (by decide)]
    rw [show kidN 3 = 0 from by decide]
    conv => rhs; rw [if_neg (by decide)]
    generalize (n == 0) = A, (((ls.length : Nat) : Int) == 0) = B, (((l.length : Nat) : Int) == 0) = C
    cases A <;> cases B <;> cases C <;> rfl
  · conv => lhs; rw [if_neg (by decide), if_pos (by decide)]
    rw [show kidN 4 = 2 from by decide]
    conv => rhs; rw [if_neg (by decide)]
    generalize (n == 0) = A, (((ls.length : Nat) : Int) == 0) = B, (((l.length : Nat) : Int) == 2) = C
    cases A <;> cases B <;> cases C <;> rfl
  · conv => lhs; rw [if_neg (by decide), if_pos (by decide)]
    rw [show kidN 5 = 2 from by decide]
    conv => rhs; rw [if_neg (by decide)]
    generalize (n == 0) = A, (((ls.length : Nat) : Int) == 0) = B, (((l.length : Nat) : Int) == 2) = C
    cases A <;> cases B <;> cases C <;> rfl
  · conv => lhs; rw [if_neg (by decide), if_neg (by decide), if_pos (by decide)]
    rw [show kidN 6 = 0 from by decide]
    conv => rhs; rw [if_neg (by decide)]
    generalize (n == 0) = A, (((ls.length : Nat) : Int) == 0) = B, (((l.length : Nat) : Int) == 0) = C
    cases A <;> cases B <;> cases C <;> rfl
  · conv => lhs; rw [if_neg (by decide), if_neg (by decide), if_neg (by decide), if_pos (by decide)]
    rw [show kidN 7 = -1 from by decide]
    conv => rhs; rw [if_pos (by decide)]
    generalize (n == 0) = A, (((ls.length : Nat) : Int) == ((l.length : Nat) : Int)) = C, ordS ls = D, (((l.length : Nat) : Int) == -1) = E
    cases A <;> cases C <;> cases D <;> cases E <;> rfl
  · conv => lhs; rw [if_neg (by decide), if_neg (by decide), if_neg (by decide), if_neg (by decide), if_pos (by decide)]
    rw [show kidN 8 = -1 from by decide]
    conv => rhs; rw [if_neg (by decide)]
    generalize (n == 0) = A, (((ls.length : Nat) : Int) == 0) = B, (((l.length : Nat) : Int) == -1) = C
    cases A <;> cases B <;> cases C <;> rfl
  · conv => lhs; rw [if_neg (by decide), if_neg (by decide), if_neg (by decide), if_neg (by decide), if_neg (by decide), if_pos (by decide)]
    rw [show kidN 9 = 1 from by decide]
    conv => rhs; rw [if_neg (by decide)]
    generalize (n == 0) = A, (((ls.length : Nat) : Int) == 0) = B, (((l.length : Nat) : Int) == 1) = C
    cases A <;> cases B <;> cases C <;> rfl
  · conv => lhs; rw [if_neg (by decide), if_neg (by decide), if_neg (by decide), if_neg (by decide), if_neg (by decide), if_pos (by decide)]
    rw [show kidN 10 = 1 from by decide]
    conv => rhs; rw [if_neg (by decide)]
    generalize (n == 0) = A, (((ls.length : Nat) : Int) == 0) = B, (((l.length : Nat) : Int) == 1) = C
    cases A <;> cases B <;> cases C <;> rfl
  · conv => lhs; rw [if_neg (by decide), if_neg (by decide), if_neg (by decide), if_neg (by decide), if_neg (by decide), if_pos (by decide)]
    rw [show kidN 11 = 1 from by decide]
    conv => rhs; rw [if_neg (by decide)]
    generalize (n == 0) = A, (((ls.length : Nat) : Int) == 0) = B, (((l.length : Nat) : Int) == 1) = C
    cases A <;> cases B <;> cases C <;> rfl
theorem all_right : ∀ t : TG, rightR t = allG t := by
  refine TG.ind fun k n ls l ih => ?_
  have : ∀ m : List TG, (∀ t ∈ m, rightR t = allG t) → rightRs m = allGs m := by
    intro m
    induction m with
    | nil => intro _; rfl
    | cons t r ihr =>
      intro h
      rw [rightRs, allGs, h t (by simp), ihr fun u hu => h u (by simp [hu])]
  rw [rightR, allG, this l ih, shp_shR]
theorem rtR_right (t : TG) : rtR t = rightG t := by
  unfold rtR rightG
  rw [deepR_dep, all_right]
  simp only [decide_eq_true_eq]
end Go.Proofs.YtcjkikadolnfgaaGreat

/- InScope, of both. -/
set_option linter.unusedSimpArgs false
set_option linter.unusedVariables false
namespace Go.Proofs.YtcjkikadolnfgaaGreat
open Go.Vx Go.Vc Go.RowKit

def idxP (p : Int → Bool) : List Int → Int → Int
  | [], _ => -1
  | x :: r, i => if p x = true then i else idxP p r (i + 1)
theorem idxP_nonneg (p : Int → Bool) : ∀ (l : List Int) (i : Int), 0 ≤ i → (0 ≤ idxP p l i ↔ l.any p = true)
  | [], i, h => by simp [idxP]
  | x :: r, i, h => by
    rw [idxP, List.any_cons]
    cases hp : p x
    · simp only [Bool.false_eq_true, if_false, Bool.false_or]
      exact idxP_nonneg p r (i + 1) (by omega)
    · simp [h]
theorem indexP_fn (f : FuncId) (c : D) (p : Int → Bool) (l : List Int) (hg : Goes Tryz.prog f) (ih : ∀ n, FnR Tryz.prog G0 f [.int .i64 n, c] (.bool (p n))) : FnR Tryz.prog G0 67 [dI l, .fn f [] [c]] (.int .i64 (idxP p l 0)) := by
  refine fnQ_sz fun hs => ?_
  have hl := (szOk_sl hs.1).1
  simp only [LB] at hl
  refine fnQ_of_vc txok mixed [] Tryz.func67 rfl rfl (by simp) fun b => ?_
  conv => whnf
  refine loopH (fun i : Nat => i ≤ l.length ∧ idxP p l 0 = idxP p (l.drop i) i) (fun i => l.length - i) (fun i => [(8, .d (.int .i64 i))]) (fun _ => []) 0 0 ⟨by omega, rfl⟩ (weak_of rfl (by repeat ((conv => whnf); first | exact trivial | refine And.intro rfl ?_ | refine And.intro (incD (by omega)) ?_)) (by repeat ((conv => whnf); first | exact trivial | refine And.intro rfl ?_ | refine And.intro (incD (by omega)) ?_))) ?_
  rintro i ⟨hi, hx⟩
  conv => whnf
  refine And.intro (fun hb => ?_) (fun hb => ?_)
  · have hb := of_decide_eq_true hb
    have hil : i < l.length := by omega
    rw [List.drop_eq_getElem_cons hil, idxP] at hx
    conv => whnf
    refine IdxC.encI i hil rfl ?_
    conv => whnf
    refine callF (ih l[i]) hg rfl rfl ?_
    conv => whnf
    refine And.intro (fun he => ?_) (fun he => ?_)
    · conv => whnf
      rw [hx, if_pos he]
    · conv => whnf
      rw [if_neg (by simp [he])] at hx
      exact again (i + 1) (by omega) ⟨by omega, by rw [hx]; rfl⟩ (weak_of rfl (by repeat ((conv => whnf); first | exact trivial | refine And.intro rfl ?_ | refine And.intro (incD (by omega)) ?_)) (by repeat ((conv => whnf); first | exact trivial | refine And.intro rfl ?_ | refine And.intro (incD (by omega)) ?_)))
  · have hb := of_decide_eq_false hb
    conv => whnf
    rw [hx, List.drop_eq_nil_of_le (by omega)]; rfl
theorem containsP_fn (f : FuncId) (c : D) (p : Int → Bool) (l : List Int) (hg : Goes Tryz.prog f) (ih : ∀ n, FnR Tryz.prog G0 f [.int .i64 n, c] (.bool (p n))) : FnR Tryz.prog G0 32 [dI l, .fn f [] [c]] (.bool (l.any p)) := by
  refine fnQ_of_vc txok mixed [] Tryz.func32 rfl rfl (by simp) fun b => ?_
  conv => whnf
  refine callF (indexP_fn f c p l hg ih) gf67 rfl rfl ?_
  conv => whnf
  refine congrArg D.bool ?_
  rw [Bool.eq_iff_iff, decide_eq_true_iff]
  exact idxP_nonneg p l 0 (by omega)
def insG (t : TG) (vars : List Int) : Bool := (rightG t == 0) && !((freeS t).any fun n => !decide (n ∈ vars))
theorem insc_fn (vars : List Int) (n : Int) : FnR Tryz.prog G0 34 [.int .i64 n, .ptr [dI vars] 0] (.bool (!decide (n ∈ vars))) := by
  refine fnQ_of_vc txok mixed [] Tryz.func34 rfl rfl (by simp) fun b => ?_
  conv => whnf
  refine callF (contains_fn vars n) gf35 rfl rfl ?_
  conv => whnf
  try exact rfl
theorem inScope_fn (t : TG) (vars : List Int) (hz : szG t < 1099511627776) : FnR Tryz.prog G0 14 [dG t, dI vars] (.bool (insG t vars)) := by
  refine fnQ_of_vc txok mixed [] Tryz.func14 rfl rfl (by simp) fun b => ?_
  conv => whnf
  refine callF (rightType_fn t) gf26 rfl rfl ?_
  conv => whnf
  refine And.intro (fun h => ?_) (fun h => ?_)
  · conv => whnf
    refine congrArg D.bool ?_
    unfold insG
    rw [show (rightG t == 0) = false from by simpa using h]; rfl
  · conv => whnf
    refine callF (freeT_fn t hz) gf33 rfl rfl ?_
    conv => whnf
    refine pubC (fun i => Nat.beq i 1) ?_
    conv => whnf
    refine callF (containsP_fn 34 (.ptr [dI vars] 0) (fun n => !decide (n ∈ vars)) (freeS t) gf34 (insc_fn vars)) gf32 rfl rfl ?_
    conv => whnf
    refine congrArg D.bool ?_
    unfold insG
    rw [show (rightG t == 0) = true from by simpa using h, Bool.true_and]
theorem rin_fn (l : List Int) (n : Int) : FnR Tryz.prog G0 37 [dI l, .int .i64 n] (.bool (decide (n ∈ l))) := by
  refine fnQ_sz fun hs => ?_
  have hl := (szOk_sl hs.1).1
  simp only [LB] at hl
  refine fnQ_of_vc txok mixed [] Tryz.func37 rfl rfl (by simp) fun b => ?_
  conv => whnf
  refine loopH (fun i : Nat => i ≤ l.length ∧ n ∉ l.take i) (fun i => l.length - i) (fun i => [(5, .d (.int .i64 i))]) (fun _ => []) 0 0 ⟨by omega, by simp⟩ (weak_of rfl (by repeat ((conv => whnf); first | exact trivial | refine And.intro rfl ?_ | refine And.intro (incD (by omega)) ?_)) (by repeat ((conv => whnf); first | exact trivial | refine And.intro rfl ?_ | refine And.intro (incD (by omega)) ?_))) ?_
  rintro i ⟨hi, hx⟩
  conv => whnf
  refine And.intro (fun hb => ?_) (fun hb => ?_)
  · have hil : i < l.length := by have := of_decide_eq_true hb; omega
    conv => whnf
    refine IdxC.encI i hil rfl ?_
    conv => whnf
    refine And.intro (fun he => ?_) (fun he => ?_)
    · have he : l[i] = n := eq_of_beq he
      conv => whnf
      refine congrArg D.bool ?_
      rw [eq_comm, decide_eq_true_eq, ← he]; exact List.getElem_mem hil
    · have he : l[i] ≠ n := by simpa using he
      conv => whnf
      rw [incD (by omega)]
      exact again (i + 1) (by omega) ⟨by omega, by rw [List.take_succ_eq_append_getElem hil, List.mem_append, List.mem_singleton, not_or]; exact ⟨hx, fun e => he e.symm⟩⟩ (weak_of rfl (by repeat ((conv => whnf); first | exact trivial | refine And.intro rfl ?_ | refine And.intro (incD (by omega)) ?_)) (by repeat ((conv => whnf); first | exact trivial | refine And.intro rfl ?_ | refine And.intro (incD (by omega)) ?_)))
  · have hb : ¬ i < l.length := by have := of_decide_eq_false hb; omega
    rw [List.take_of_length_le (by omega)] at hx
    conv => whnf
    refine congrArg D.bool ?_
    rw [eq_comm, decide_eq_false_iff_not]; exact hx
theorem rinScope_fn (t : TG) (vars : List Int) (hz : szG t < 1099511627776) : FnR Tryz.prog G0 15 [dG t, dI vars] (.bool (insG t vars)) := by
  have hR := rtR_fn t
  rw [rtR_right] at hR
  have hF := freeS_len t
  refine fnQ_of_vc txok mixed [] Tryz.func15 rfl rfl (by simp) fun b => ?_
  conv => whnf
  refine callF hR gf30 rfl rfl ?_
  conv => whnf
  refine And.intro (fun h => ?_) (fun h => ?_)
  · conv => whnf
    refine congrArg D.bool ?_
    unfold insG
    rw [show (rightG t == 0) = false from by simpa using h]; rfl
  · have e : insG t vars = !((freeS t).any fun n => !decide (n ∈ vars)) := by unfold insG; rw [show (rightG t == 0) = true from by simpa using h, Bool.true_and]
    rw [e]
    conv => whnf
    refine callF (rfreeTypes_fn t hz) gf36 rfl rfl ?_
    conv => whnf
    generalize freeS t = l at *
    refine loopH (fun i : Nat => i ≤ l.length ∧ (l.take i).any (fun n => !decide (n ∈ vars)) = false) (fun i => l.length - i) (fun i => [(6, .d (.int .i64 i))]) (fun _ => [(0, .blk 28 [.d (.int .i64 t.k), .d (.int .i64 t.n), .d (dL t.ls), .d (dGs t.kids)])]) 1 0 ⟨by omega, by simp⟩ (weak_of rfl (by repeat ((conv => whnf); first | exact trivial | refine And.intro rfl ?_ | refine And.intro (incD (by omega)) ?_)) (by repeat ((conv => whnf); first | exact trivial | refine And.intro rfl ?_ | refine And.intro (incD (by omega)) ?_))) ?_
    rintro i ⟨hi, hx⟩
    conv => whnf
    refine And.intro (fun hb => ?_) (fun hb => ?_)
    · have hil : i < l.length := by have := of_decide_eq_true hb; omega
      conv => whnf
      refine IdxC.encI i hil rfl ?_
      conv => whnf
      refine callF (rin_fn vars l[i]) gf37 rfl rfl ?_
      conv => whnf
      refine And.intro (fun he => ?_) (fun he => ?_)
      · conv => whnf
        refine congrArg D.bool ?_
        rw [eq_comm, Bool.not_eq_false', List.any_eq_true]
        exact ⟨l[i], List.getElem_mem hil, he⟩
      · conv => whnf
        rw [incD (by omega)]
        exact again (i + 1) (by omega) ⟨by omega, by rw [List.take_succ_eq_append_getElem hil, List.any_append, hx, Bool.false_or]; simpa using he⟩ (weak_of rfl (by repeat ((conv => whnf); first | exact trivial | refine And.intro rfl ?_ | refine And.intro (incD (by omega)) ?_)) (by repeat ((conv => whnf); first | exact trivial | refine And.intro rfl ?_ | refine And.intro (incD (by omega)) ?_)))
    · have hb : ¬ i < l.length := by have := of_decide_eq_false hb; omega
      rw [List.take_of_length_le (by omega)] at hx
      conv => whnf
      refine congrArg D.bool ?_
      rw [hx]; rfl
theorem sameTop_fn (a u : TG) (hz : szG a < 1099511627776) : FnR Tryz.prog G0 19 [dG a, dG u] (.bool (samG a u [] [])) := by
  have h := sameType_fn a u [] [] (by simpa using hz) (by simpa using hz)
  refine fnQ_of_vc txok mixed [] Tryz.func19 rfl rfl (by simp) fun b => ?_
  conv => whnf
  refine callF h gf47 rfl rfl ?_
  conv => whnf
  try exact rfl
theorem rsameTop_fn (a u : TG) (hz : szG a < 1099511627776) : FnR Tryz.prog G0 10 [dG a, dG u] (.bool (samG a u [] [])) := by
  have h := rsame_fn a u [] [] (by simpa using hz) (by simpa using hz)
  refine fnQ_of_vc txok mixed [] Tryz.func10 rfl rfl (by simp) fun b => ?_
  conv => whnf
  refine callF h gf21 rfl rfl ?_
  conv => whnf
  try exact rfl
end Go.Proofs.YtcjkikadolnfgaaGreat

/- The kernel's putSize: how great a type is with another one put in. -/
set_option linter.unusedSimpArgs false
set_option linter.unusedVariables false
namespace Go.Proofs.YtcjkikadolnfgaaGreat
open Go.Vx Go.Vc Go.RowKit

mutual
/-- Nodes, each occurrence of one number counting as so many. -/
def wG (x : Int) (c : Nat) : TG → Nat
  | .mk k n ls l => if k = 6 ∧ n = x then c else if bndG k = true ∧ n = x then szG (.mk k n ls l) else wGs x c l + 1
def wGs (x : Int) (c : Nat) : List TG → Nat
  | [] => 0
  | t :: r => wG x c t + wGs x c r
end
theorem wG_mk (x : Int) (c : Nat) (k n : Int) (ls : List ByteArray) (l : List TG) : wG x c (.mk k n ls l) = if k = 6 ∧ n = x then c else if bndG k = true ∧ n = x then szG (.mk k n ls l) else wGs x c l + 1 := by rw [wG]
theorem wGs_app (x : Int) (c : Nat) : ∀ l m : List TG, wGs x c (l ++ m) = wGs x c l + wGs x c m
  | [], m => by simp [wGs]
  | t :: r, m => by rw [List.cons_append, wGs, wGs, wGs_app x c r m]; omega
theorem wGs_take {l : List TG} {i : Nat} (h : i < l.length) (x : Int) (c : Nat) : wGs x c (l.take (i + 1)) = wGs x c (l.take i) + wG x c l[i] := by
  rw [List.take_succ_eq_append_getElem h, wGs_app]; simp [wGs]
theorem wGs_le (l : List TG) (i : Nat) (x : Int) (c : Nat) : wGs x c (l.take i) ≤ wGs x c l := by
  conv => rhs; rw [← List.take_append_drop i l, wGs_app]
  omega
theorem wG_cnt : ∀ (t : TG) (x : Int) (c : Nat), okV t = true → wG x c t + cntG x t = szG t + cntG x t * c := by
  refine TG.ind fun k n ls l ih x c hv => ?_
  obtain ⟨hv6, hvl⟩ := (okV_mk ..).1 hv
  rw [wG_mk, cntG]
  by_cases h1 : k = 6 ∧ n = x
  · obtain ⟨rfl, rfl⟩ := hv6 h1.1
    rw [if_pos h1, if_pos h1]; simp [szG, szGs]; omega
  rw [if_neg h1, if_neg h1]
  by_cases h2 : bndG k = true ∧ n = x
  · rw [if_pos h2, if_pos h2]; omega
  rw [if_neg h2, if_neg h2, szG]
  have : ∀ m : List TG, (∀ u ∈ m, u ∈ l) → wGs x c m + cntGs x m = szGs m + cntGs x m * c := by
    intro m
    induction m with
    | nil => intro _; simp [wGs, szGs, cntGs]
    | cons u r ihr =>
      intro hm
      have h1 := ih u (hm u (by simp)) x c (hvl u (hm u (by simp)))
      have h2 := ihr fun w hw => hm w (by simp [hw])
      rw [wGs, szGs, cntGs, Nat.add_mul]
      omega
  have := this l fun _ h => h
  omega
theorem tri_kb {P : Program} {G : Glob} {f : FuncId} {n q : Nat} {args : List Go.Vx.SV} {H : Hp} {c : Bool} {R : Hp → Prop} (h : Tri P G f n q args H (fun o H' => (o = .ret (.d (.bool c)) ∨ o = .ret (.kb c)) ∧ R H')) : Tri P G f n q args H (fun o H' => o = .ret (.d (.bool c)) ∧ R H') := by
  intro e w vs hlen hargs hH hG
  refine (h e w vs hlen hargs hH hG).mono ?_
  rintro en w' ⟨o, H', e', ⟨h1, h2⟩, h3, h4⟩
  refine ⟨.ret (.d (.bool c)), H', e', ⟨rfl, h2⟩, ?_, h4⟩
  rcases h1 with rfl | rfl
  · exact h3
  · obtain ⟨v, rfl, hv⟩ := h3
    exact ⟨v, rfl, by simpa only [RepSV, RepD] using hv⟩
abbrev wH (x : Int) (c tot : Nat) : Hp := [(0, .blk 3 [.d (.int .i64 x)]), (1, .blk 3 [.d (.int .i64 tot)]), (2, .blk 3 [.d (.int .i64 c)]), (3, .blk 82 [.fn 101 [] [.own 0 0, .own 1 0, .own 2 0, .own 3 0]])]
set_option maxRecDepth 20000 in
theorem walk_tri : ∀ (t : TG) (x : Int) (c tot : Nat), okV t = true → szG t < 1099511627776 → 1 ≤ c → c ≤ 1048577 → tot ≤ 1048576 → Tri Tryz.prog G0 101 4 0 [.d (dG t), .own 0 0, .own 1 0, .own 2 0, .own 3 0] (wH x c tot) (fun o H' => o = .ret (.d (.bool (decide (tot + wG x c t ≤ 1048576)))) ∧ ∃ tot', H' = wH x c tot' ∧ (tot + wG x c t ≤ 1048576 → tot' = tot + wG x c t)) := by
  refine TG.ind fun k n ls l ih x c tot hv hz hc1 hc ht => ?_
  refine tri_sz fun hs => ?_
  have hl := (szOk_G (t := .mk k n ls l) (hs (.d (dG (.mk k n ls l))) (by simp))).1
  simp only [g_kids, LB] at hl
  obtain ⟨hv6, hvl⟩ := (okV_mk ..).1 hv
  refine tri_kb (R := fun H' => ∃ tot', H' = wH x c tot' ∧ (tot + wG x c (.mk k n ls l) ≤ 1048576 → tot' = tot + wG x c (.mk k n ls l))) ?_
  refine tri_of_wk (N := 63) txok mixed [] Tryz.func101 rfl rfl (by simp) fun b => ?_
  refine wk_seq ⟨[(1, .own 0 0), (2, .own 1 0), (3, .own 2 0), (4, .own 3 0), (5, .own 4 0)], wH x c tot ++ [(4, .blk 28 [.d (.int .i64 k), .d (.int .i64 n), .d (dL ls), .d (dGs l)])], 5⟩ (wk_vc txok mixed [] ?_) ?_
  · conv => whnf
    exact weak_of rfl (by repeat ((conv => whnf); first | exact trivial | refine And.intro rfl ?_ | refine And.intro (incD (by omega)) ?_)) (by repeat ((conv => whnf); first | exact trivial | refine And.intro rfl ?_ | refine And.intro (incD (by omega)) ?_))
  have hst : ∃ tot1 : Nat, (tot1 = if k = 6 ∧ n = x then tot + c else tot + 1) := ⟨_, rfl⟩
  obtain ⟨tot1, hst⟩ := hst
  refine wk_seq ⟨[(1, .own 0 0), (2, .own 1 0), (3, .own 2 0), (4, .own 3 0), (5, .own 4 0)], wH x c tot1 ++ [(4, .blk 28 [.d (.int .i64 k), .d (.int .i64 n), .d (dL ls), .d (dGs l)])], 5⟩ (wk_vc txok mixed [] ?_) ?_
  · conv => whnf
    refine And.intro (fun h => ?_) (fun h => ?_)
    · have h : k = 6 := eq_of_beq h
      conv => whnf
      refine And.intro (fun h2 => ?_) (fun h2 => ?_)
      · rw [if_pos ⟨h, eq_of_beq h2⟩] at hst
        conv => whnf
        rw [Go.Vc.wrap_small (a := (tot : Int) + (c : Int)) (by omega) (by omega), show (tot : Int) + (c : Int) = (tot1 : Int) by omega]
        exact weak_of rfl (by repeat ((conv => whnf); first | exact trivial | refine And.intro rfl ?_ | refine And.intro (incD (by omega)) ?_)) (by repeat ((conv => whnf); first | exact trivial | refine And.intro rfl ?_ | refine And.intro (incD (by omega)) ?_))
      · rw [if_neg (fun h3 => by rw [h3.2] at h2; simp at h2)] at hst
        conv => whnf
        rw [Go.Vc.wrap_small (a := (tot : Int) + 1) (by omega) (by omega), show (tot : Int) + 1 = (tot1 : Int) by omega]
        exact weak_of rfl (by repeat ((conv => whnf); first | exact trivial | refine And.intro rfl ?_ | refine And.intro (incD (by omega)) ?_)) (by repeat ((conv => whnf); first | exact trivial | refine And.intro rfl ?_ | refine And.intro (incD (by omega)) ?_))
    · have h : k ≠ 6 := by simpa using h
      rw [if_neg (fun h3 => h h3.1)] at hst
      conv => whnf
      rw [Go.Vc.wrap_small (a := (tot : Int) + 1) (by omega) (by omega), show (tot : Int) + 1 = (tot1 : Int) by omega]
      exact weak_of rfl (by repeat ((conv => whnf); first | exact trivial | refine And.intro rfl ?_ | refine And.intro (incD (by omega)) ?_)) (by repeat ((conv => whnf); first | exact trivial | refine And.intro rfl ?_ | refine And.intro (incD (by omega)) ?_))
  have hW1 : tot1 ≤ tot + wG x c (.mk k n ls l) := by
    rw [hst, wG_mk]
    by_cases h1 : k = 6 ∧ n = x
    · rw [if_pos h1, if_pos h1]; exact Nat.le_refl _
    · rw [if_neg h1, if_neg h1]
      split
      · have := szG_pos (.mk k n ls l); omega
      · omega
  have ht1 : tot1 ≤ 2097153 := by rw [hst]; split <;> omega
  by_cases hbig : 1048576 < tot1
  · refine wk_seqR (wk_vc txok mixed [] ?_)
    conv => whnf
    refine And.intro (fun h => ?_) (fun h => absurd (of_decide_eq_false h) (by omega))
    conv => whnf
    refine ⟨.inr ?_, _, rfl, fun h => by omega⟩
    rw [decide_eq_false (by omega)]
  refine wk_seq ⟨[(1, .own 0 0), (2, .own 1 0), (3, .own 2 0), (4, .own 3 0), (5, .own 4 0)], wH x c tot1 ++ [(4, .blk 28 [.d (.int .i64 k), .d (.int .i64 n), .d (dL ls), .d (dGs l)])], 5⟩ (wk_vc txok mixed [] ?_) ?_
  · conv => whnf
    refine And.intro (fun h => absurd (of_decide_eq_true h) (by omega)) (fun h => ?_)
    conv => whnf
    exact weak_of rfl (by repeat ((conv => whnf); first | exact trivial | refine And.intro rfl ?_ | refine And.intro (incD (by omega)) ?_)) (by repeat ((conv => whnf); first | exact trivial | refine And.intro rfl ?_ | refine And.intro (incD (by omega)) ?_))
  by_cases h2 : bndG k = true ∧ n = x
  · have h6 : ¬ (k = 6 ∧ n = x) := fun h => bnd_ne6 h2.1 h.1
    rw [if_neg h6] at hst
    have hW : wG x c (.mk k n ls l) = szG (.mk k n ls l) := by rw [wG_mk, if_neg h6, if_pos h2]
    rw [hW]
    have hS := size_fn (.mk k n ls l) 1048576 (by omega) (by decide)
    have hp := szG_pos (.mk k n ls l)
    have hsG : sizeG (.mk k n ls l) 1048576 = (if (szG (.mk k n ls l) : Int) ≤ 1048576 then (szG (.mk k n ls l) : Int) else 1048577) := by unfold sizeG; rw [if_neg (by decide)]; rfl
    generalize szG (.mk k n ls l) = z at *
    generalize sizeG (.mk k n ls l) 1048576 = q at *
    have hq : 1 ≤ q ∧ q ≤ 1048577 ∧ ((z : Int) ≤ 1048576 → q = z) ∧ (¬ (z : Int) ≤ 1048576 → q = 1048577) := by
      rw [hsG]; split <;> omega
    have e1 : IntKind.i64.wrap ((tot1 : Int) + IntKind.i64.wrap (q - 1)) = (tot1 : Int) + (q - 1) := by
      rw [Go.Vc.wrap_small (a := q - 1) (by omega) (by omega), Go.Vc.wrap_small (by omega) (by omega)]
    obtain ⟨tot2, ht2⟩ : ∃ m : Nat, (m : Int) = (tot1 : Int) + (q - 1) := ⟨(tot1 + (q - 1)).toNat, by omega⟩
    rw [← ht2] at e1
    have hk : k = 9 ∨ k = 10 ∨ k = 11 := by
      have := h2.1; unfold bndG at this
      simp only [Bool.or_eq_true, beq_iff_eq] at this; omega
    have h9 : (n == x) = true := by rw [h2.2]; simp
    refine wk_seqR ?_
    refine wk_seq ⟨[(43, .d (.bool true)), (1, .own 0 0), (2, .own 1 0), (3, .own 2 0), (4, .own 3 0), (5, .own 4 0)], wH x c tot1 ++ [(4, .blk 28 [.d (.int .i64 k), .d (.int .i64 n), .d (dL ls), .d (dGs l)])], 5⟩ (wk_vc txok mixed [] ?_) ?_
    · rcases hk with rfl | rfl | rfl
      all_goals
        repeat' ((conv => whnf); first
          | (refine And.intro (fun hf => ?_) (fun hf => ?_) <;> first | exact Bool.noConfusion hf | (rw [h9] at hf; exact Bool.noConfusion hf) | skip))
        (conv => whnf)
        first
          | (refine (weak_kbT 43 true (by exact rfl)).trans (weak_of rfl (by repeat ((conv => whnf); first | exact trivial | refine And.intro rfl ?_ | refine And.intro (incD (by omega)) ?_)) (by repeat ((conv => whnf); first | exact trivial | refine And.intro rfl ?_ | refine And.intro (incD (by omega)) ?_))))
          | (rw [h9]; exact weak_of rfl (by repeat ((conv => whnf); first | exact trivial | refine And.intro rfl ?_ | refine And.intro (incD (by omega)) ?_)) (by repeat ((conv => whnf); first | exact trivial | refine And.intro rfl ?_ | refine And.intro (incD (by omega)) ?_)))
    refine wk_true rfl ?_
    refine wk_seq ⟨[(1, .own 0 0), (2, .own 1 0), (3, .own 2 0), (4, .own 3 0), (5, .own 4 0)], wH x c tot2 ++ [(4, .blk 28 [.d (.int .i64 k), .d (.int .i64 n), .d (dL ls), .d (dGs l)])], 5⟩ (wk_vc txok mixed [(7, .take 0 (.take 1 (.run 2 (.pure 3 (.pure 4 (.fin 5 .done))))))] ?_) ?_
    · conv => whnf
      refine And.intro (by kernel_rfl) ?_
      repeat' ((conv => whnf); first
        | refine And.intro ?_ ?_
        | refine callF hS gf100 rfl rfl ?_)
      all_goals (conv => whnf)
      all_goals rw [e1]
      all_goals exact weak_of rfl (by repeat ((conv => whnf); first | exact trivial | refine And.intro rfl ?_ | refine And.intro (incD (by omega)) ?_)) (by repeat ((conv => whnf); first | exact trivial | refine And.intro rfl ?_ | refine And.intro (incD (by omega)) ?_))
    refine wk_vc txok mixed [] ?_
    conv => whnf
    refine ⟨.inl (congrArg (fun z => Go.Vx.Out.ret (.d (.bool z))) ?_), tot2, rfl, fun h => by omega⟩
    rw [decide_eq_decide]; omega
  have hW : tot + wG x c (.mk k n ls l) = tot1 + wGs x c l := by
    rw [hst, wG_mk]
    by_cases h1 : k = 6 ∧ n = x
    · obtain ⟨rfl, rfl⟩ := hv6 h1.1
      rw [if_pos h1, if_pos h1]; simp [wGs]
    · rw [if_neg h1, if_neg h1, if_neg h2]; omega
  rw [hW]
  clear hst hW hW1
  refine wk_seq ⟨[(1, .own 0 0), (2, .own 1 0), (3, .own 2 0), (4, .own 3 0), (5, .own 4 0)], wH x c tot1 ++ [(4, .blk 28 [.d (.int .i64 k), .d (.int .i64 n), .d (dL ls), .d (dGs l)])], 5⟩ (wk_vc txok mixed [] ?_) ?_
  · repeat' ((conv => whnf); first
      | (refine And.intro (fun hf => ?_) (fun hf => ?_)))
    all_goals (conv => whnf)
    all_goals first
      | exact weak_of rfl (by repeat ((conv => whnf); first | exact trivial | refine And.intro rfl ?_ | refine And.intro (incD (by omega)) ?_)) (by repeat ((conv => whnf); first | exact trivial | refine And.intro rfl ?_ | refine And.intro (incD (by omega)) ?_))
      | (exfalso; simp_all [bndG]; done)
  refine wk_vc txok mixed [] ?_
  conv => whnf
  refine loopH (fun i : Nat => i ≤ l.length ∧ tot1 + wGs x c (l.take i) ≤ 1048576) (fun i => l.length - i) (fun i => [(54, .d (.int .i64 i))]) (fun i => wH x c (tot1 + wGs x c (l.take i)) ++ [(4, .blk 28 [.d (.int .i64 k), .d (.int .i64 n), .d (dL ls), .d (dGs l)])]) 5 0 ⟨by omega, by simp [wGs]; omega⟩ ?_ ?_
  · rw [show tot1 + wGs x c (l.take 0) = tot1 from by simp [wGs]]
    exact weak_of rfl (by repeat ((conv => whnf); first | exact trivial | refine And.intro rfl ?_ | refine And.intro (incD (by omega)) ?_)) (by repeat ((conv => whnf); first | exact trivial | refine And.intro rfl ?_ | refine And.intro (incD (by omega)) ?_))
  rintro i ⟨hi, hti⟩
  conv => whnf
  refine And.intro (fun hb => ?_) (fun hb => ?_)
  · have hil : i < l.length := by have := of_decide_eq_true hb; omega
    have hmem := szG_mem (List.getElem_mem hil)
    have hsz : szG (.mk k n ls l) = szGs l + 1 := by simp only [szG]
    have htk := wGs_take hil x c
    have hle := wGs_le l (i + 1) x c
    conv => whnf
    refine IdxC.encGs i hil rfl ?_
    conv => whnf
    refine callT [0, 1, 2, 3] (ih l[i] (List.getElem_mem hil) x c (tot1 + wGs x c (l.take i)) (hvl _ (List.getElem_mem hil)) (by omega) hc1 hc hti) gf101 rfl rfl ⟨rfl, rfl, rfl, rfl, trivial⟩ rfl ?_
    rintro o' H' ⟨rfl, tot', rfl, htt⟩
    conv => whnf
    refine And.intro (fun he => ?_) (fun he => ?_)
    · have he : ¬ (tot1 + wGs x c (l.take i) + wG x c l[i] ≤ 1048576) := by simpa using he
      conv => whnf
      refine ⟨.inr ?_, _, rfl, fun h => by omega⟩
      rw [decide_eq_false (by omega)]
    · have he : tot1 + wGs x c (l.take i) + wG x c l[i] ≤ 1048576 := by simpa using he
      obtain rfl := htt he
      rw [show tot1 + wGs x c (l.take i) + wG x c l[i] = tot1 + wGs x c (l.take (i + 1)) by omega]
      conv => whnf
      rw [incD (by omega)]
      exact again (i + 1) (by omega) ⟨by omega, by omega⟩ (weak_of rfl (by repeat ((conv => whnf); first | exact trivial | refine And.intro rfl ?_ | refine And.intro (incD (by omega)) ?_)) (by repeat ((conv => whnf); first | exact trivial | refine And.intro rfl ?_ | refine And.intro (incD (by omega)) ?_)))
  · have hil : i = l.length := by have := of_decide_eq_false hb; omega
    subst hil
    rw [List.take_length] at hti ⊢
    conv => whnf
    refine ⟨.inr ?_, _, rfl, fun _ => rfl⟩
    rw [decide_eq_true hti]
end Go.Proofs.YtcjkikadolnfgaaGreat

/- The kernel: putSize, put, fit, ask, same, node; what gives up. -/
set_option linter.unusedSimpArgs false
set_option linter.unusedVariables false
namespace Go.Proofs.YtcjkikadolnfgaaGreat
open Go.Vx Go.Vc Go.RowKit

/-- An error on its way up. -/
def badW (e : Int) : D := .ifc 83 (.int .i64 e)
def resO : Except Int TG → DOut
  | .ok t => .ret (dG t)
  | .error e => .pan (badW e)
def fitR (t : TG) : Except Int TG := if szG t ≤ 1048576 then .ok t else .error 3
/-- A type put in, that must fit. -/
def putR (t : TG) (n : Int) (y : TG) : Except Int TG := if szG t + cntG n t * (szG y - 1) ≤ 1048576 then .ok (putF (szG t) t n y (freeS y)) else .error 3
def askO (c : Bool) : DOut := if c = true then .ret (.tup []) else .pan (badW 30)
theorem fit_fn (t : TG) (hz : szG t < 4611686018427387904) : FnQ Tryz.prog G0 82 [dG t] (fun o => o = resO (fitR t)) := by
  have hS := size_fn t 1048576 hz (by decide)
  have hsG : sizeG t 1048576 = (if (szG t : Int) ≤ 1048576 then (szG t : Int) else 1048577) := by unfold sizeG; rw [if_neg (by decide)]; rfl
  refine fnQ_of_vc txok mixed [] Tryz.func82 rfl rfl (by simp) fun b => ?_
  conv => whnf
  refine callF hS gf100 rfl rfl ?_
  conv => whnf
  unfold fitR
  by_cases h : szG t ≤ 1048576
  · rw [if_pos h]
    refine And.intro (fun h2 => ?_) (fun h2 => ?_)
    · exfalso
      have := of_decide_eq_true h2
      rw [hsG] at this
      split at this <;> omega
    · conv => whnf
      try exact rfl
  · rw [if_neg h]
    refine And.intro (fun h2 => ?_) (fun h2 => ?_)
    · conv => whnf
      try exact rfl
    · exfalso
      have := of_decide_eq_false h2
      rw [hsG] at this
      split at this <;> omega
theorem ask_fn (c : Bool) : FnQ Tryz.prog G0 167 [.bool c] (fun o => o = askO c) := by
  cases c
  · refine fnQ_of_vc txok mixed [] Tryz.func167 rfl rfl (by simp) fun b => ?_
    conv => whnf
    refine And.intro (fun _ => ?_) (fun h => by cases h)
    conv => whnf
    try exact rfl
  · refine fnQ_of_vc txok mixed [] Tryz.func167 rfl rfl (by simp) fun b => ?_
    conv => whnf
    refine And.intro (fun h => by cases h) (fun _ => ?_)
    conv => whnf
    try exact rfl
theorem same_fn (a u : TG) (hz : szG a < 1099511627776) : FnQ Tryz.prog G0 170 [dG a, dG u] (fun o => o = askO (samG a u [] [])) := by
  refine fnQ_of_vc txok mixed [] Tryz.func170 rfl rfl (by simp) fun b => ?_
  conv => whnf
  refine callF (sameTop_fn a u hz) gf19 rfl rfl ?_
  conv => whnf
  refine callQ rfl rfl gf167 (ask_fn (samG a u [] [])) ?_
  rintro o rfl
  unfold askO
  cases samG a u [] []
  · conv => whnf
    try exact rfl
  · conv => whnf
    try exact rfl
theorem node_fn (k : Int) (l : List TG) : FnR Tryz.prog G0 165 [.int .i64 k, dGs l] (dG (.mk k 0 [] l)) := by
  refine fnQ_of_vc txok mixed [] Tryz.func165 rfl rfl (by simp) fun b => ?_
  conv => whnf
  rfl
theorem putSize_fn (t : TG) (n : Int) (y : TG) (hv : okV t = true) (hz : szG t < 1099511627776) (hy : szG y < 4611686018427387904) : FnR Tryz.prog G0 60 [dG t, .int .i64 n, dG y] (.int .i64 (if szG t + cntG n t * (szG y - 1) ≤ 1048576 then ((szG t + cntG n t * (szG y - 1) : Nat) : Int) else 1048577)) := by
  have hS := size_fn y 1048576 hy (by decide)
  have hyp := szG_pos y
  have hsG : sizeG y 1048576 = (if (szG y : Int) ≤ 1048576 then (szG y : Int) else 1048577) := by unfold sizeG; rw [if_neg (by decide)]; rfl
  obtain ⟨c, hc⟩ : ∃ c : Nat, (c : Int) = sizeG y 1048576 := ⟨(sizeG y 1048576).toNat, by rw [hsG]; split <;> omega⟩
  have hc1 : 1 ≤ c ∧ c ≤ 1048577 := by rw [hsG] at hc; split at hc <;> omega
  have hw := wG_cnt t n c hv
  have hcl := cnt_le t n
  have htp := szG_pos t
  have hcond : (0 + wG n c t ≤ 1048576 ↔ szG t + cntG n t * (szG y - 1) ≤ 1048576) ∧ (0 + wG n c t ≤ 1048576 → 0 + wG n c t = szG t + cntG n t * (szG y - 1)) := by
    have hm : cntG n t * (szG y - 1) + cntG n t = cntG n t * szG y := by
      conv => lhs; rw [← Nat.mul_succ]
      congr 1; omega
    by_cases hle : szG y ≤ 1048576
    · have e : c = szG y := by rw [hsG, if_pos (by omega)] at hc; omega
      subst e
      omega
    · have e : c = 1048577 := by rw [hsG, if_neg (by omega)] at hc; omega
      subst e
      rcases Nat.eq_zero_or_pos (cntG n t) with h0 | h0
      · rw [h0] at hw hm ⊢; omega
      · have h1 : 1048577 ≤ cntG n t * 1048577 := Nat.le_mul_of_pos_left _ h0
        have h2 : szG y ≤ cntG n t * szG y := Nat.le_mul_of_pos_left _ h0
        have h3 : cntG n t * 1048576 + cntG n t = cntG n t * 1048577 := by omega
        have h4 : 1048576 ≤ cntG n t * 1048576 := Nat.le_mul_of_pos_left _ h0
        have h5 : 1048576 ≤ cntG n t * (szG y - 1) := Nat.le_trans (by omega) (Nat.le_mul_of_pos_left _ h0)
        omega
  rw [← hc] at hS
  refine fnQ_of_vc txok mixed [] Tryz.func60 rfl rfl (by simp) fun b => ?_
  conv => whnf
  refine callF hS gf100 rfl rfl ?_
  conv => whnf
  refine callT [1, 4, 3, 5] (walk_tri t n c 0 hv hz hc1.1 hc1.2 (by omega)) gf101 rfl rfl ⟨rfl, rfl, rfl, rfl, trivial⟩ rfl ?_
  rintro o' H' ⟨rfl, tot', rfl, htt⟩
  conv => whnf
  refine And.intro (fun he => ?_) (fun he => ?_)
  · have he : ¬ (0 + wG n c t ≤ 1048576) := by simpa using he
    conv => whnf
    rw [if_neg (fun h => he (hcond.1.2 h))]
  · have he : 0 + wG n c t ≤ 1048576 := by simpa using he
    rw [if_pos (hcond.1.1 he), htt he, hcond.2 he]
    conv => whnf
    try exact rfl
theorem kput_fn (t : TG) (n : Int) (y : TG) (hv : okV t = true) (hz : szG t < 1099511627776) (hy : szG y < 1099511627776) : FnQ Tryz.prog G0 29 [dG t, .int .i64 n, dG y] (fun o => o = resO (putR t n y)) := by
  have hS := putSize_fn t n y hv hz (by omega)
  have hP := putTop_fn t hz n y hy
  unfold putR
  by_cases h : szG t + cntG n t * (szG y - 1) ≤ 1048576
  · rw [if_pos h] at hS ⊢
    refine fnQ_of_vc txok mixed [] Tryz.func29 rfl rfl (by simp) fun b => ?_
    conv => whnf
    refine callF hS gf60 rfl rfl ?_
    conv => whnf
    refine And.intro (fun he => absurd (of_decide_eq_true he) (by omega)) (fun he => ?_)
    conv => whnf
    refine callF hP gf61 rfl rfl ?_
    conv => whnf
    try exact rfl
  · rw [if_neg h] at hS ⊢
    refine fnQ_of_vc txok mixed [] Tryz.func29 rfl rfl (by simp) fun b => ?_
    conv => whnf
    refine callF hS gf60 rfl rfl ?_
    conv => whnf
    refine And.intro (fun he => ?_) (fun he => absurd (of_decide_eq_false he) (by decide))
    conv => whnf
    try exact rfl
end Go.Proofs.YtcjkikadolnfgaaGreat

/- Target terms as data; scopes. -/
set_option linter.unusedSimpArgs false
set_option linter.unusedVariables false
namespace Go.Proofs.YtcjkikadolnfgaaGreat
open Go.Vx Go.Vc Go.RowKit

inductive MG where
  | mk (k n i : Int) (nm : ByteArray) (ls : List ByteArray) (ts : List TG) (ks : List MG)
def MG.k : MG → Int | .mk k _ _ _ _ _ _ => k
def MG.n : MG → Int | .mk _ n _ _ _ _ _ => n
def MG.i : MG → Int | .mk _ _ i _ _ _ _ => i
def MG.nm : MG → ByteArray | .mk _ _ _ m _ _ _ => m
def MG.ls : MG → List ByteArray | .mk _ _ _ _ l _ _ => l
def MG.ts : MG → List TG | .mk _ _ _ _ _ t _ => t
def MG.ks : MG → List MG | .mk _ _ _ _ _ _ l => l
mutual
def encM0 : MG → List D
  | .mk k n i nm ls ts ks => [.int .i64 k, .int .i64 n, .int .i64 i, .str nm, slD 16 ls.length (encS ls), slD 64 ts.length (encGs ts), slD 112 ks.length (encMs ks)]
def encMs : List MG → List D
  | [] => []
  | m :: r => encM0 m ++ encMs r
end
/-- A target term's cells. -/
def encM (m : MG) : List D := [.int .i64 m.k, .int .i64 m.n, .int .i64 m.i, .str m.nm, slD 16 m.ls.length (encS m.ls), slD 64 m.ts.length (encGs m.ts), slD 112 m.ks.length (encMs m.ks)]
theorem encM0_eq (m : MG) : encM0 m = encM m := by cases m; rfl
theorem encMs_eq : ∀ l : List MG, encMs l = fl encM l
  | [] => rfl
  | t :: r => by simp only [encMs, fl, encMs_eq r, encM0_eq]
theorem encM_len (m : MG) : (encM m).length = 7 := rfl
theorem encMs_len (l : List MG) : (encMs l).length = l.length * 7 := by rw [encMs_eq, fl_len encM_len]
theorem encMs_at (l : List MG) (i : Nat) (hi : i < l.length) : ((encMs l).drop (i * 7)).take 7 = encM l[i] := by rw [encMs_eq]; exact fl_at encM_len l i hi
theorem IdxC.encMs {l : List MG} {j : Int} {K : Go.Vx.SV → Prop} (i : Nat) (hi : i < l.length) (hj : j = (i : Int)) (hk : K (.d (.ptr (encM l[i]) 0))) : IdxC l.length 7 (Go.Proofs.YtcjkikadolnfgaaGreat.encMs l) j K :=
  ⟨i, hj, hi, _, encMs_at l i hi, hk⟩
abbrev dM (m : MG) : D := .agg (encM m)
abbrev dMs (l : List MG) : D := slD 112 l.length (encMs l)
theorem szOk_M {m : MG} (h : szOk (dM m)) : m.ks.length * 112 ≤ LB ∧ szOks (encMs m.ks) ∧ m.ts.length * 64 ≤ LB ∧ m.ls.length * 16 ≤ LB := by
  simp only [dM, encM, szOk, szOks] at h
  have h1 := szOk_sl h.2.2.2.2.2.2.1
  exact ⟨h1.1, h1.2, (szOk_sl h.2.2.2.2.2.1).1, (szOk_sl h.2.2.2.2.1).1⟩
theorem MG.ind {P : MG → Prop} (h : ∀ k n i nm ls ts ks, (∀ m ∈ ks, P m) → P (.mk k n i nm ls ts ks)) : ∀ m, P m
  | .mk k n i nm ls ts ks => h k n i nm ls ts ks (MG.indL h ks)
where MG.indL {P : MG → Prop} (h : ∀ k n i nm ls ts ks, (∀ m ∈ ks, P m) → P (.mk k n i nm ls ts ks)) : ∀ l : List MG, ∀ m ∈ l, P m
  | [], _, ht => by cases ht
  | x :: r, t, ht => by
    rcases List.mem_cons.1 ht with e | ht
    · rw [e]; exact MG.ind h x
    · exact MG.indL h r t ht
mutual
/-- How many nodes, with those of the types. -/
def szM : MG → Nat
  | .mk _ _ _ _ _ ts ks => szMs ks + szGs ts + 1
def szMs : List MG → Nat
  | [] => 0
  | t :: r => szM t + szMs r
end
theorem szM_mem {l : List MG} {t : MG} (h : t ∈ l) : szM t ≤ szMs l := by
  induction l with
  | nil => cases h
  | cons x r ih =>
    simp only [szMs]
    rcases List.mem_cons.1 h with rfl | h
    · omega
    · have := ih h; omega
theorem szM_eq (m : MG) : szM m = szMs m.ks + szGs m.ts + 1 := by cases m; simp only [szM, MG.ks, MG.ts]
/-! ### Names and their types -/
abbrev Bd := ByteArray × TG
def encB1 (x : Bd) : List D := .str x.1 :: encG x.2
def encBds : List Bd → List D := fl encB1
theorem encB1_len (x : Bd) : (encB1 x).length = 5 := rfl
theorem encBds_len (l : List Bd) : (encBds l).length = l.length * 5 := fl_len encB1_len l
theorem encBds_at (l : List Bd) (i : Nat) (hi : i < l.length) : ((encBds l).drop (i * 5)).take 5 = encB1 l[i] := fl_at encB1_len l i hi
theorem encBds_app (l m : List Bd) : encBds (l ++ m) = encBds l ++ encBds m := fl_app l m
theorem encB1_scal (t : Bd) : ∀ d ∈ encB1 t, scalD d = true := by
  intro d hd
  simp only [encB1, List.mem_cons] at hd
  rcases hd with rfl | hd
  · rfl
  · exact encG_scal t.2 d hd
theorem encBds_scal (l : List Bd) : ∀ d ∈ encBds l, scalD d = true := by
  intro d hd
  obtain ⟨t, _, h⟩ := fl_mem hd
  exact encB1_scal t d h
theorem IdxC.encBds {l : List Bd} {j : Int} {K : Go.Vx.SV → Prop} (i : Nat) (hi : i < l.length) (hj : j = (i : Int)) (hk : K (.d (.ptr (encB1 l[i]) 0))) : IdxC l.length 5 (Go.Proofs.YtcjkikadolnfgaaGreat.encBds l) j K :=
  ⟨i, hj, hi, _, encBds_at l i hi, hk⟩
abbrev dBs (l : List Bd) : D := slD 80 l.length (encBds l)
abbrev dSc (vars : List Int) (l : List Bd) : D := .agg [dI vars, dBs l]
end Go.Proofs.YtcjkikadolnfgaaGreat

/- slices.Backward over names with their types. -/
set_option linter.unusedSimpArgs false
set_option linter.unusedVariables false
namespace Go.Proofs.YtcjkikadolnfgaaGreat
open Go.Proofs Go.RowKit Go.Shelf

attribute [local go_sem] Oper.semAt_some

def elN (cl : Nat → Nat → Value) (j : Nat) : Value := .agg #[cl j 0, cl j 1, cl j 2, cl j 3, cl j 4]
def encN (cl : Nat → Nat → Value) (x : Nat) : Array Value := #[.int .i64 (x : Int), .agg #[cl x 0, cl x 1, cl x 2, cl x 3, cl x 4]]
def prN (n : Nat) : List Nat := (List.range n).map fun j => n - 1 - j
theorem prN_take {n k : Nat} (h : k < n) : (prN n).take (k + 1) = (prN n).take k ++ [n - 1 - k] := by
  have hl : k < (prN n).length := by simp [prN, h]
  rw [List.take_succ_eq_append_getElem hl]
  simp [prN]
theorem kpCell {S : Nat → Prop} {A B : World} (h : Go.Vx.KpP S A B) {p : Addr} (hp : S p.block) : B.cell? p = A.cell? p := by
  unfold World.cell?
  rw [h.2 _ hp]
theorem kpTrans {S : Nat → Prop} {A B C : World} (h : Go.Vx.KpP S A B) (h' : Go.Vx.KpP S B C) : Go.Vx.KpP S A C := ⟨Nat.le_trans h.1 h'.1, fun k hk => (h'.2 k hk).trans (h.2 k hk)⟩
set_option maxRecDepth 100000 in
set_option maxHeartbeats 2000000 in
theorem backB_in (F : Fence) (n : Nat) (h70 : F.fn 183) (hro : F.round = none) (hn : 1 ≤ n) (l Bs so b off cap : Nat) (N : Nat) (cl : Nat → Nat → Value) (hreach : N * 80 ≤ 140737488355328) (Sx : Nat → Prop) (hb : Sx b) (hBl : Sx Bs) (J Jx : List Nat → World → Prop) (W : World) (hJ : AbidesFrom W.heap.size J)
    (hY : ∀ pre x W, J pre W → x < N → pre.length < N → YieldAt F (n - 1) Tryz.prog l (encN cl x) W fun e W' =>
      (e = .returned (.bool true) ∧ J (pre ++ [x]) W' ∧ Go.Vx.KpP Sx W W') ∨ (e = .returned (.bool false) ∧ Jx (pre ++ [x]) W'))
    (hBs : W.cell? ⟨Bs, so, none⟩ = some (.slice (some ⟨b, off, none⟩) N cap))
    (hc : ∀ j, j < N → ∀ i, i < 5 → W.cell? ⟨b, off + j * 5 + i, none⟩ = some (cl j i)) (h0 : J [] W) :
    CallsIn F n Tryz.prog 183 #[.func (.yield l) #[] #[], .pointer (some ⟨Bs, so, none⟩)] W fun e W' => (∃ v, e = .returned v) ∧
      ((∃ ys, ys = prN N ∧ J ys W') ∨ (∃ pre, (∃ k, k ≤ N ∧ pre = (prN N).take k) ∧ Jx pre W')) := by
  refine callsIn_of_wp Tryz.func183 rfl h70 ?_ hro
  simp only [Tryz.ntmps183, List.size_toArray, List.length_cons, List.length_nil, Nat.reduceAdd, Nat.reduceSub, Array.replicate_succ, Array.replicate_zero, List.push_toArray, List.append_toArray, List.nil_append, List.cons_append]
  gi_wp2
  gi_loopw [3] (fun i wr => ∃ k : Nat, k ≤ N ∧ i = .int .i64 ((N : Int) - 1 - k) ∧ J ((prN N).take k) wr ∧ Go.Vx.KpP Sx W wr)
    (fun i _ => (intOf i + 1).toNat)
  case atStart => exact ⟨0, Nat.zero_le _, by simp, h0, ⟨Nat.le_refl _, fun _ _ => rfl⟩⟩
  case round =>
    obtain ⟨k, hk, rfl, hJs, hnx⟩ := hrel
    by_cases hlt : k < N
    · have e : (N : Int) - 1 - (k : Int) = ((N - 1 - k : Nat) : Int) := by omega
      have hc0 := (kpCell hnx (p := ⟨b, off + (N - 1 - k) * 5 + 0, none⟩) hb).trans (hc (N - 1 - k) (by omega) 0 (by omega))
      have hc1 := (kpCell hnx (p := ⟨b, off + (N - 1 - k) * 5 + 1, none⟩) hb).trans (hc (N - 1 - k) (by omega) 1 (by omega))
      have hc2 := (kpCell hnx (p := ⟨b, off + (N - 1 - k) * 5 + 2, none⟩) hb).trans (hc (N - 1 - k) (by omega) 2 (by omega))
      have hc3 := (kpCell hnx (p := ⟨b, off + (N - 1 - k) * 5 + 3, none⟩) hb).trans (hc (N - 1 - k) (by omega) 3 (by omega))
      have hc4 := (kpCell hnx (p := ⟨b, off + (N - 1 - k) * 5 + 4, none⟩) hb).trans (hc (N - 1 - k) (by omega) 4 (by omega))
      have hBs1 := (kpCell hnx (p := ⟨Bs, so, none⟩) hBl).trans hBs
      have htk := prN_take hlt
      rw [e]
      generalize hq : N - 1 - k = q at *
      rw [Nat.add_zero] at hc0
      obtain ⟨fn, tmps, assign, body, hy, hR⟩ := hY ((prN N).take k) q wr hJs (by omega) (by simp [prN]; omega)
      unfold encN at hy
      gi_wp2
      refine hR.mono ?_
      rintro e W3 (⟨rfl, hJ3, hk3⟩ | ⟨rfl, hJx3⟩)
      · gi_wp2
        go_roundw
        case rel => exact ⟨k + 1, by omega, by congr 1; omega, by rw [htk]; exact hJ3, kpTrans hnx hk3⟩
        case measure => simp [intOf]
      · gi_wp2
        refine bodyPost_ret (results_none rfl _ _ _) rfl ?_
        exact ⟨⟨_, rfl⟩, .inr ⟨_, ⟨k + 1, by omega, htk.symm⟩, hJx3⟩⟩
    · obtain rfl : k = N := by omega
      gi_wp2
      go_end0
      exact ⟨⟨_, rfl⟩, .inl ⟨_, rfl, by rw [List.take_of_length_le (by simp [prN])] at hJs; exact hJs⟩⟩
end Go.Proofs.YtcjkikadolnfgaaGreat

/- slices.Backward over names with their types: what it is promised. -/
set_option linter.unusedSimpArgs false
set_option linter.unusedVariables false
namespace Go.Proofs.YtcjkikadolnfgaaGreat
open Go.Proofs Go.RowKit Go.Shelf

attribute [local go_sem] Oper.semAt_some

set_option maxRecDepth 100000 in
set_option maxHeartbeats 1000000 in
theorem backB_nil_in (F : Fence) (n : Nat) (h70 : F.fn 183) (hro : F.round = none) (l Bs so c : Nat) (A : Option Addr) (J : List Nat → World → Prop) (W : World) (hBs : W.cell? ⟨Bs, so, none⟩ = some (.slice A 0 c)) (h0 : J [] W) :
    CallsIn F n Tryz.prog 183 #[.func (.yield l) #[] #[], .pointer (some ⟨Bs, so, none⟩)] W fun e W' => (∃ v, e = .returned v) ∧ J [] W' := by
  refine callsIn_of_wp Tryz.func183 rfl h70 ?_ hro
  simp only [Tryz.ntmps183, List.size_toArray, List.length_cons, List.length_nil, Nat.reduceAdd, Nat.reduceSub, Array.replicate_succ, Array.replicate_zero, List.push_toArray, List.append_toArray, List.nil_append, List.cons_append]
  gi_wp2
  gi_loopw [3] (fun i wr => i = .int .i64 (-1) ∧ J [] wr) (fun _ _ => 0)
  case atStart => exact ⟨rfl, h0⟩
  case round =>
    obtain ⟨rfl, hJs⟩ := hrel
    gi_wp2
    go_end0
    exact ⟨⟨_, rfl⟩, hJs⟩
theorem spotNone {w : World} {ad : Addr} {v : Value} (h : w.cell? ad = some v) : ad.spot = none := by
  unfold World.cell? at h
  split at h
  · cases hs : ad.spot with
    | none => rfl
    | some s => simp [hs] at h
  · cases h

theorem repDs5 {S : Nat → Prop} {w : World} {a0 a1 a2 a3 a4 : Go.Vx.D} {vs : List Value} (h : Go.Vx.RepDs S w [a0, a1, a2, a3, a4] vs) : ∃ v0 v1 v2 v3 v4, vs = [v0, v1, v2, v3, v4] := by
  simp only [Go.Vx.RepDs] at h
  obtain ⟨v0, s0, rfl, _, v1, s1, rfl, _, v2, s2, rfl, _, v3, s3, rfl, _, v4, s4, rfl, _, rfl⟩ := h
  exact ⟨v0, v1, v2, v3, v4, rfl⟩
theorem backB_of {S : Nat → Prop} {w : World} {l : List Bd} (hl : l.length * 80 ≤ 140737488355328) {ad : Addr} (hr : Go.Vx.RepC S w [dBs l] (some ad) 0) (hlt : ∀ k, S k → k < w.heap.size) :
    ∃ cl : Nat → Nat → Value, (∀ j (h : j < l.length), Go.Vx.RepDs S w (encB1 l[j]) [cl j 0, cl j 1, cl j 2, cl j 3, cl j 4]) ∧
    SeqStopsK Fence.wide 9 Tryz.prog 183 #[.pointer (some ad)] (fun j : Fin l.length => encN cl j.val) (Go.Vx.KpP S) (fun ys => ys.map (·.val) = prN l.length) (fun pre => ∃ k, k ≤ l.length ∧ pre.map (·.val) = (prN l.length).take k) l.length w := by
  simp only [Go.Vx.RepC] at hr
  obtain ⟨⟨ad', v, e, h1, h2, h3⟩, _⟩ := hr
  injection e with e; subst e
  rw [show ad.add 0 = ad from rfl] at h2
  have hs := spotNone h2
  obtain ⟨Bs, so, sp⟩ := ad
  simp only at hs; subst hs
  simp only [Go.Vx.slD, Go.Vx.RepD] at h3
  obtain ⟨A, c, rfl, g1, g2, g3, g4⟩ := h3
  rcases Nat.eq_zero_or_pos l.length with hz | hz
  · have hl0 : l = [] := List.length_eq_zero_iff.1 hz
    subst hl0
    refine ⟨fun _ _ => undef, And.intro (fun j (h : j < 0) => absurd h (Nat.not_lt_zero j)) ?_⟩
    intro q J Jx W hW hJ _ hY h0
    have h2' : W.cell? ⟨Bs, so, none⟩ = some (.slice A 0 c) := (hW.cell (p := ⟨Bs, so, none⟩) (hlt _ h1)).trans h2
    exact (backB_nil_in Fence.wide 9 trivial rfl q Bs so c A (fun p W => p = [] ∧ J [] W) W h2' ⟨rfl, h0⟩).mono fun e W' ⟨he, hj⟩ => ⟨he, .inl ⟨[], rfl, hj.2⟩⟩
  · obtain ⟨ad2, rfl⟩ := g3 (by omega)
    obtain ⟨vs, k1, k2⟩ := g4.cells
    have hvl : vs.length = l.length * 5 := by rw [k1.len, encBds_len]
    have k3 : ∀ j, j < l.length → ∀ i, i < 5 → S ad2.block ∧ w.cell? (ad2.add (j * 5 + i)) = some (vs.getD (j * 5 + i) undef) := by
      intro j hj i hi
      have := k2 (j * 5 + i) (vs.getD (j * 5 + i) undef) (by rw [List.getD_eq_getElem?_getD, List.getElem?_eq_getElem (by omega)]; rfl)
      simpa using this
    have hs2 := spotNone (k3 0 hz 0 (by omega)).2
    obtain ⟨bk, off, sp⟩ := ad2
    have hs2 : sp = none := hs2
    subst hs2
    refine ⟨fun j i => vs.getD (j * 5 + i) undef, fun j h => ?_, ?_⟩
    · have hd := (k1.drop (j * 5)).take 5
      rw [encBds_at l j h] at hd
      obtain ⟨v0, v1, v2, v3, v4, he⟩ := repDs5 (show Go.Vx.RepDs S w [_, _, _, _, _] _ from hd)
      have gt : ∀ i, i < 5 → vs.getD (j * 5 + i) undef = ([v0, v1, v2, v3, v4] : List Value).getD i undef := by
        intro i hi
        rw [← he, List.getD_eq_getElem?_getD, List.getD_eq_getElem?_getD, List.getElem?_take_of_lt hi, List.getElem?_drop]
      rw [he] at hd
      show Go.Vx.RepDs S w (encB1 l[j]) [vs.getD (j * 5 + 0) undef, vs.getD (j * 5 + 1) undef, vs.getD (j * 5 + 2) undef, vs.getD (j * 5 + 3) undef, vs.getD (j * 5 + 4) undef]
      rw [gt 0 (by omega), gt 1 (by omega), gt 2 (by omega), gt 3 (by omega), gt 4 (by omega)]
      exact hd
    · intro q J Jx W hW hJ hJx hY h0
      have h2' : W.cell? ⟨Bs, so, none⟩ = some (.slice (some ⟨bk, off, none⟩) l.length c) := (hW.cell (p := ⟨Bs, so, none⟩) (hlt _ h1)).trans h2
      refine (backB_in Fence.wide 9 trivial rfl (by omega) q Bs so bk off c l.length (fun j i => vs.getD (j * 5 + i) undef) hl S (k3 0 hz 0 (by omega)).1 h1 (fun p W => ∃ p' : List (Fin l.length), p'.map (·.val) = p ∧ J p' W) (fun p W => ∃ p' : List (Fin l.length), p'.map (·.val) = p ∧ Jx p' W) W ?_ ?_ h2' (fun j hj i hi => ?_) ⟨[], rfl, h0⟩).mono ?_
      · rintro s X Y row ⟨p', e, hp⟩ hg hr
        exact ⟨p', e, hJ p' X Y row hp hg hr⟩
      · rintro pre x W1 ⟨p', rfl, hp⟩ hx hpl
        obtain ⟨fn, tmps, assign, body, hy, hR⟩ := hY p' ⟨x, hx⟩ W1 hp (by simpa using hpl)
        refine ⟨fn, tmps, assign, body, hy, hR.mono ?_⟩
        rintro e W' (⟨h1, h2, h3⟩ | ⟨h1, h2⟩)
        · exact .inl ⟨h1, ⟨p' ++ [⟨x, hx⟩], by simp, h2⟩, h3⟩
        · exact .inr ⟨h1, p' ++ [⟨x, hx⟩], by simp, h2⟩
      · have := (k3 j hj i hi).2
        rw [Go.Vc.add_own] at this
        rw [Nat.add_assoc]
        exact (hW.cell (p := ⟨bk, off + (j * 5 + i), none⟩) (hlt _ (k3 0 hz 0 (by omega)).1)).trans this
      · rintro e W' ⟨hv, ⟨ys, rfl, p', e1, hj⟩ | ⟨pre, ⟨k, hk, rfl⟩, p', e1, hj⟩⟩
        · exact ⟨hv, .inl ⟨p', e1, hj⟩⟩
        · exact ⟨hv, .inr ⟨p', ⟨k, hk, e1⟩, hj⟩⟩
end Go.Proofs.YtcjkikadolnfgaaGreat

/- The rule of names. -/
set_option linter.unusedSimpArgs false
set_option linter.unusedVariables false
namespace Go.Proofs.YtcjkikadolnfgaaGreat
open Go.Vx Go.Vc Go.RowKit

theorem backwardB_fn (l : List Bd) : FnR Tryz.prog G0 166 [dBs l] (.fn 183 [] [.ptr [dBs l] 0]) := by
  refine fnQ_of_vc txok mixed [] Tryz.func166 rfl rfl (by simp) fun b => ?_
  conv => whnf
  try exact rfl
/-- A name's type: that which came last. -/
def lookR (l : List Bd) (nm : ByteArray) : Except Int TG := match l.reverse.find? (fun b => decide (b.1 = nm)) with
  | some b => .ok b.2
  | none => .error 30
theorem rev_prN (l : List Bd) : l.reverse = (prN l.length).map fun j => l.getD j (ByteArray.empty, .mk 0 0 [] []) := by
  unfold prN
  rw [List.map_map]
  apply List.ext_getElem?
  intro i
  rcases Nat.lt_or_ge i l.length with hi | hi
  · rw [List.getElem?_reverse (by simpa using hi), List.getElem?_map, List.getElem?_range (by omega)]
    simp only [Option.map_some, Function.comp_apply]
    rw [List.getD_eq_getElem?_getD, List.getElem?_eq_getElem (by omega)]
    rfl
  · rw [List.getElem?_eq_none (by simpa using hi), List.getElem?_eq_none (by simpa using hi)]
theorem getD_fin (l : List Bd) (j : Fin l.length) (d : Bd) : l.getD j.val d = l[j.val] := by
  rw [List.getD_eq_getElem?_getD, List.getElem?_eq_getElem j.isLt]; rfl
theorem look_none (l : List Bd) (nm : ByteArray) (xs : List (Fin l.length)) (h : xs.map (·.val) = prN l.length) (hn : ∀ i ∈ xs, l[i.val].1 ≠ nm) : lookR l nm = .error 30 := by
  unfold lookR
  have : l.reverse.find? (fun b => decide (b.1 = nm)) = none := by
    rw [List.find?_eq_none]
    intro x hx
    rw [rev_prN, ← h, List.map_map] at hx
    obtain ⟨i, hi, rfl⟩ := List.mem_map.1 hx
    have := hn i hi
    simp only [Function.comp_apply]
    intro he
    have he := of_decide_eq_true he
    rw [getD_fin] at he
    exact this he
  rw [this]
theorem look_some (l : List Bd) (nm : ByteArray) (p : List (Fin l.length)) (j : Fin l.length) (h : ∃ k, k ≤ l.length ∧ (p ++ [j]).map (·.val) = (prN l.length).take k) (hn : ∀ i ∈ p, l[i.val].1 ≠ nm) (hj : l[j.val].1 = nm) : lookR l nm = .ok l[j.val].2 := by
  unfold lookR
  obtain ⟨k, hk, h⟩ := h
  have h2 : prN l.length = (p ++ [j]).map (·.val) ++ (prN l.length).drop k := by rw [h, List.take_append_drop]
  have : l.reverse.find? (fun b => decide (b.1 = nm)) = some l[j.val] := by
    rw [rev_prN, h2, List.map_append, List.map_append, List.map_append, List.find?_append, List.find?_append]
    have h3 : (List.map (fun j => l.getD j (ByteArray.empty, .mk 0 0 [] [])) (List.map (·.val) p)).find? (fun b => decide (b.1 = nm)) = none := by
      rw [List.find?_eq_none]
      intro x hx
      rw [List.map_map] at hx
      obtain ⟨i, hi, rfl⟩ := List.mem_map.1 hx
      have := hn i hi
      simp only [Function.comp_apply]
      intro he
      have he := of_decide_eq_true he
      rw [getD_fin] at he
      exact this he
    rw [h3]
    simp only [List.map_cons, List.map_nil, Option.none_or]
    rw [getD_fin, List.find?_cons_of_pos (by simpa using hj)]
    rfl
  rw [this]
abbrev mcS (m : MG) : List Vx.SV := [.d (.int .i64 m.k), .d (.int .i64 m.n), .d (.int .i64 m.i), .d (.str m.nm), .d (slD 16 m.ls.length (encS m.ls)), .d (slD 64 m.ts.length (encGs m.ts)), .d (slD 112 m.ks.length (encMs m.ks))]
abbrev tcS (t : TG) : List Vx.SV := [.d (.int .i64 t.k), .d (.int .i64 t.n), .d (slD 16 t.ls.length (encS t.ls)), .d (slD 64 t.kids.length (encGs t.kids))]
abbrev nmH0 (vars : List Int) (l : List Bd) (m : MG) (r : List Vx.SV) : Hp := [(0, .blk 71 [.d (dI vars), .d (dBs l)]), (1, .blk 26 (mcS m)), (2, .blk 28 r)]
abbrev zS : List Vx.SV := [.d (.int .i64 0), .d (.int .i64 0), .nl, .nl]
def nmR (l : List Bd) (pre : List (Fin l.length)) : List Vx.SV := match pre.getLast? with | some j => tcS l[j.val].2 | none => zS
theorem nmR_snoc (l : List Bd) (pre : List (Fin l.length)) (j : Fin l.length) : nmR l (pre ++ [j]) = tcS l[j.val].2 := by simp only [nmR, List.getLast?_concat]
abbrev nmHX (vars : List Int) (l : List Bd) (m : MG) (pre : List (Fin l.length)) : Hp := nmH0 vars l m (nmR l pre)
abbrev nmHA (vars : List Int) (l : List Bd) (m : MG) (x : Bd) : Hp := [(0, .blk 71 [.d (dI vars), .d (dBs l)]), (1, .blk 26 (mcS m)), (2, .blk 28 zS), (3, .blk 66 (.d (.str x.1) :: tcS x.2))]
theorem nmH0_plain (vars : List Int) (l : List Bd) (m : MG) (r : List Vx.SV) : plainH (nmH0 vars l m r) := by
  intro i o h φ
  simp only [lk] at h
  repeat' (split at h)
  all_goals first | (injection h with h; subst h; nofun) | cases h
theorem nmHA_plain (vars : List Int) (l : List Bd) (m : MG) (x : Bd) : plainH (nmHA vars l m x) := by
  intro i o h φ
  simp only [lk] at h
  repeat' (split at h)
  all_goals first | (injection h with h; subst h; nofun) | cases h
set_option maxRecDepth 100000 in
theorem name_fn (vars : List Int) (l : List Bd) (m : MG) : FnQ Tryz.prog G0 117 [dSc vars l, dM m] (fun o => o = resO (lookR l m.nm)) := by
  refine fnQ_sz fun hs => ?_
  have hl : l.length * 80 ≤ 140737488355328 := by
    have := hs.1
    simp only [dSc, szOk, szOks] at this
    have := (szOk_sl this.2.1).1
    simp only [LB] at this
    omega
  refine fnQ_of_tri fun e w vs hlen hargs hH hG => ?_
  have ok0 := tri_start (G := G0) (fn := Tryz.f117) (N := 21) (args := [.d (dSc vars l), .d (dM m)]) (f := 0) rfl (by simp) hlen hargs hH hG
  refine (callsIn_wide (n := 12)).1 (callsIn_of_wp_marks Tryz.func117 rfl trivial ?_ rfl)
  refine wpIn_wide.2 ?_
  refine wp_seq (vc_piece (plans := []) txok mixed ⟨[(2, .own 0 0), (3, .own 1 0), (4, .own 2 0)], nmH0 vars l m zS, 3⟩ ok0 ?_ fun e1 a1 w1 ok1 => ?_)
  · conv => whnf
    exact weak_of rfl (by repeat ((conv => whnf); first | exact trivial | refine And.intro rfl ?_ | refine And.intro (incD (by omega)) ?_)) (by repeat ((conv => whnf); first | exact trivial | refine And.intro rfl ?_ | refine And.intro (incD (by omega)) ?_))
  simp only [Exit.then]
  refine wp_seq (wp_seq (vc_piece (plans := []) txok mixed ⟨[(9, .d (.fn 183 [] [.ptr [dBs l] 0])), (2, .own 0 0), (3, .own 1 0), (4, .own 2 0)], nmH0 vars l m zS, 3⟩ ok1 ?_ fun e2 a2 w2 ok2 => ?_))
  · conv => whnf
    refine callF (backwardB_fn l) gf166 rfl rfl ?_
    conv => whnf
    exact weak_of rfl (by repeat ((conv => whnf); first | exact trivial | refine And.intro rfl ?_ | refine And.intro (incD (by omega)) ?_)) (by repeat ((conv => whnf); first | exact trivial | refine And.intro rfl ?_ | refine And.intro (incD (by omega)) ?_))
  simp only [Exit.then]
  have hdf := ok2.df
  simp only at hdf
  have tg := ok2.tm 9 _ rfl
  simp only [RepSV, RepD, RepDs] at tg
  obtain ⟨a', b', tg, ha', ⟨v2, s2, hb', ⟨ad, rfl, hcap⟩, rfl⟩⟩ := tg
  have ha' : a' = #[] := by apply Array.ext'; simpa using ha'
  subst ha'
  have hb' : b' = #[.pointer (some ad)] := by apply Array.ext'; rw [hb']; rfl
  subst hb'
  have hsz2 := ok2.sz
  obtain ⟨cl, hcl, hseq⟩ := backB_of hl hcap ok2.hp.pubLt
  refine wp_block ?_
  refine range_okC (encs := fun j : Fin l.length => encN cl j.val) (fun _ _ => trivial) (fun _ _ => trivial) (nmH0 vars l m zS) (nmHX vars l m) (fun pre => ∃ p j, pre = p ++ [j] ∧ l[j.val].1 = m.nm ∧ ∀ i ∈ p, l[i.val].1 ≠ m.nm) (fun pre => ∀ i ∈ pre, l[i.val].1 ≠ m.nm) (by simp) (nmH0_plain _ _ _ _) (fun _ => nmH0_plain _ _ _ _) ok2 (by simpa [Act.eval] using tg) gf183
    hseq (fun _ => rfl)
    (fun x => { tmps := ((a2.tmps.setIfInBounds 10 (.int .i64 (x.val : Int))).setIfInBounds 11 (.agg #[cl x.val 0, cl x.val 1, cl x.val 2, cl x.val 3, cl x.val 4])), defers := [] }) (fun x => by simp [encN]) (fun x => by simp [hsz2])
    (fun x => [(11, .d (.agg (encB1 l[x.val])))]) ?tx ?t rfl
    (fun x => [(6, .own 3 0), (3, .own 1 0), (4, .own 2 0)]) (fun x => nmHA vars l m l[x.val]) 4 (fun _ => nmHA_plain _ _ _ _) ?assign ?body (fun _ => weak_of rfl (by repeat ((conv => whnf); first | exact trivial | refine And.intro rfl ?_ | refine And.intro (incD (by omega)) ?_)) (by repeat ((conv => whnf); first | exact trivial | refine And.intro rfl ?_ | refine And.intro (incD (by omega)) ?_))) (fun _ pre => by unfold nmHX nmR; cases pre.getLast? <;> exact weak_of rfl (by repeat ((conv => whnf); first | exact trivial | refine And.intro rfl ?_ | refine And.intro (incD (by omega)) ?_)) (by repeat ((conv => whnf); first | exact trivial | refine And.intro rfl ?_ | refine And.intro (incD (by omega)) ?_))) ?done ?stop
  case tx =>
    intro x m S' W hS hW hle t sv ht
    simp only [lk] at ht
    split at ht
    · rename_i h; obtain rfl := nbeq.1 h
      injection ht with ht; subst ht
      have := (hcl x.val x.isLt).to hW fun k hk _ => hS k hk
      simp only [RepSV, RepD]
      exact ⟨_, by simp [hsz2], this⟩
    · cases ht
  case t =>
    intro x t sv ht hn
    simp only [lk] at ht
    repeat' (split at ht)
    all_goals first | (rename_i h; obtain rfl := nbeq.1 h; simp [Array.getElem?_setIfInBounds]; done) | (cases ht; done)
  case assign =>
    intro q b' x e' W
    refine wki_region txok (by rfl) ?_ e' _ W
    show Vx.vcSeq _ _ _ _ _ _ ⟨[(11, .d (.agg (encB1 l[x.val]))), (9, .d (.fn 183 [] [.ptr [dBs l] 0])), (2, .own 0 0), (3, .own 1 0), (4, .own 2 0)], nmH0 vars l m zS, 3⟩ _
    conv => whnf
    exact ⟨weak_of rfl (by repeat ((conv => whnf); first | exact trivial | refine And.intro rfl ?_ | refine And.intro (incD (by omega)) ?_)) (by repeat ((conv => whnf); first | exact trivial | refine And.intro rfl ?_ | refine And.intro (incD (by omega)) ?_)), weak_of rfl (by repeat ((conv => whnf); first | exact trivial | refine And.intro rfl ?_ | refine And.intro (incD (by omega)) ?_)) (by repeat ((conv => whnf); first | exact trivial | refine And.intro rfl ?_ | refine And.intro (incD (by omega)) ?_))⟩
  case body =>
    intro q b' pre x e' a' W hM hR hOk
    revert hOk
    by_cases h : l[x.val].1 = m.nm
    · refine wki_block (by rintro j s h; exact h) (wki_seq ⟨[(16, .d (.bool true)), (6, .own 3 0), (3, .own 1 0), (4, .own 2 0)], nmHA vars l m l[x.val], 4⟩ (wki_region txok (by rfl) ?_) (wki_true rfl (wki_seq ⟨[], nmH0 vars l m (tcS l[x.val].2) ++ [(3, .blk 66 (.d (.str l[x.val].1) :: tcS l[x.val].2))], 4⟩ (wki_region txok (by rfl) ?_) (wki_ret ?_)))) e' a' W
      · conv => whnf
        rw [beqB', decide_eq_true h]
        exact weak_of rfl (by repeat ((conv => whnf); first | exact trivial | refine And.intro rfl ?_ | refine And.intro (incD (by omega)) ?_)) (by repeat ((conv => whnf); first | exact trivial | refine And.intro rfl ?_ | refine And.intro (incD (by omega)) ?_))
      · conv => whnf
        exact weak_of rfl (by repeat ((conv => whnf); first | exact trivial | refine And.intro rfl ?_ | refine And.intro (incD (by omega)) ?_)) (by repeat ((conv => whnf); first | exact trivial | refine And.intro rfl ?_ | refine And.intro (incD (by omega)) ?_))
      · refine ⟨⟨pre, x, rfl, h, hR⟩, ?_⟩
        unfold nmHX
        rw [nmR_snoc]
        exact weak_of rfl (by repeat ((conv => whnf); first | exact trivial | refine And.intro rfl ?_ | refine And.intro (incD (by omega)) ?_)) (by repeat ((conv => whnf); first | exact trivial | refine And.intro rfl ?_ | refine And.intro (incD (by omega)) ?_))
    · refine wki_block (by rintro j s h; exact h) (wki_seq ⟨[(16, .d (.bool false)), (6, .own 3 0), (3, .own 1 0), (4, .own 2 0)], nmHA vars l m l[x.val], 4⟩ (wki_region txok (by rfl) ?_) (wki_false rfl (wki_skip ?_))) e' a' W
      · conv => whnf
        rw [beqB', decide_eq_false h]
        exact weak_of rfl (by repeat ((conv => whnf); first | exact trivial | refine And.intro rfl ?_ | refine And.intro (incD (by omega)) ?_)) (by repeat ((conv => whnf); first | exact trivial | refine And.intro rfl ?_ | refine And.intro (incD (by omega)) ?_))
      · refine ⟨fun i hi => ?_, weak_of rfl (by repeat ((conv => whnf); first | exact trivial | refine And.intro rfl ?_ | refine And.intro (incD (by omega)) ?_)) (by repeat ((conv => whnf); first | exact trivial | refine And.intro rfl ?_ | refine And.intro (incD (by omega)) ?_))⟩
        rcases List.mem_append.1 hi with hi | hi
        · exact hR i hi
        · rw [List.mem_singleton.1 hi]; exact h
  case done =>
    rintro D xs e' W hx hR okD hD hK hp
    have hlt2 : w.heap.size ≤ w2.heap.size := ok2.below.size
    have okE := ok2.rebase okD
    simp only [Exit.inBlock, Exit.then]
    rw [hdf] at okE ⊢
    refine marks_end (fn := Tryz.f117) (kp := []) (plans := []) txok mixed (fun _ _ => trivial) hlen okE (nmH0_plain _ _ _ _) hK (Nat.le_trans hlt2 hD) hp fun b => ?_
    rw [look_none l m.nm xs hx hR]
    conv => whnf
    refine callQ rfl rfl gf167 (ask_fn false) ?_
    rintro o rfl
    conv => whnf
    try exact rfl
  case stop =>
    rintro D xs e' W hx ⟨p, j, rfl, hj, hR⟩ okD hD hK hp
    have hlt2 : w.heap.size ≤ w2.heap.size := ok2.below.size
    have okE := ok2.rebase okD
    simp only [Exit.inBlock, Exit.then]
    rw [hdf] at okE ⊢
    rw [look_some l m.nm p j hx hR hj]
    have hm := Nat.le_trans hlt2 hD
    refine marks_fin (fn := Tryz.f117) (kp := []) txok (fun _ _ => trivial) hlen okE hK hm hp ?_ ?_
    · intro i hi hf
      obtain ⟨o, h1, h2⟩ := foot_cells okE.hp (nmH0_plain _ _ _ _) hi hf
      rw [hK] at h1; injection h1 with h1; subst h1; cases h2
    · unfold nmHX
      rw [nmR_snoc]
      conv => whnf
      try exact rfl
end Go.Proofs.YtcjkikadolnfgaaGreat

/- Scopes: here, with, open. -/
set_option linter.unusedSimpArgs false
set_option linter.unusedVariables false
namespace Go.Proofs.YtcjkikadolnfgaaGreat
open Go.Vx Go.Vc Go.RowKit

def hereR (t : TG) (vars : List Int) : Except Int TG := if insG t vars = true then .ok t else .error 30
theorem here_fn (vars : List Int) (l : List Bd) (t : TG) (hz : szG t < 1099511627776) : FnQ Tryz.prog G0 168 [dSc vars l, dG t] (fun o => o = resO (hereR t vars)) := by
  have hI := inScope_fn t vars hz
  refine fnQ_of_vc txok mixed [] Tryz.func168 rfl rfl (by simp) fun b => ?_
  conv => whnf
  refine callF hI gf14 rfl rfl ?_
  conv => whnf
  refine callQ rfl rfl gf167 (ask_fn (insG t vars)) ?_
  rintro o rfl
  unfold askO hereR
  cases insG t vars
  · conv => whnf
    try exact rfl
  · conv => whnf
    try exact rfl
theorem clipB_fn (l : List Bd) : FnR Tryz.prog G0 184 [dBs l] (.csl (ebn 80 l.length) l.length (encBds l)) := by
  refine fnQ_of_vc txok mixed [] Tryz.func184 rfl rfl (by simp) fun b => ?_
  conv => whnf
  refine clipC (el := 66) txok rfl rfl rfl rfl rfl rfl rfl ?_
  conv => whnf
  try exact rfl
theorem encBds_snoc (s : List Bd) (x : Bd) : encBds s ++ encB1 x = encBds (s ++ [x]) := by
  rw [encBds_app]; rfl
theorem snocB {n0 N : Nat} {b : Bs G0 n0} {kp : Bool} {o : Oper} {st : Go.Vx.St} {K : SExit → Go.Vx.St → Prop} {y : Go.Vx.SV} {eb' : Nat} (s : List Bd) (x : Bd) (ho : appOf st.T o.op = some (.d (.csl eb' s.length (encBds s)), y, 62)) (hy : slOf st.H y = some (1, encB1 x)) (hlen : s.length < 1099511627776)
    (hk : match st with
      | ⟨T, H, q⟩ => Go.Vx.putK N o.dst (.row q) ⟨T, (q, .row 66 80 5 (s ++ [x]).length (encBds (s ++ [x]))) :: H, q + 1⟩ (K .normal)) : OpC Tryz.prog b N kp o st K :=
  appC (el := 66) (eb := 80) (sz := 5) txok (s ++ [x]).length (encBds (s ++ [x])) ho hy (by kernel_rfl) (by decide) (by rw [encBds_len]) (encBds_scal s) rfl (encB1_scal x) (by simp only [LB]; omega) (by simp) (encBds_snoc s x) hk
theorem with_fn (vars : List Int) (l : List Bd) (nm : ByteArray) (t : TG) (hl : l.length < 1099511627776) : FnR Tryz.prog G0 169 [dSc vars l, .str nm, dG t] (dSc vars (l ++ [(nm, t)])) := by
  refine fnQ_of_vc txok mixed [(1, .pure 0 (.take 1 (.pure 3 (.take 4 (.pure 5 (.two 2 6 (.run 6 (.fin 7 (.pure 8 (.fin 9 .done)))) (.run 2 (.fin 7 (.pure 8 (.fin 9 .done))))))))))] Tryz.func169 rfl rfl (by simp) fun b => ?_
  conv => whnf
  refine And.intro (by kernel_rfl) ?_
  repeat' ((conv => whnf); first
    | refine And.intro ?_ ?_
    | refine callF (clipB_fn l) gf184 rfl rfl ?_
    | refine snocB l (nm, t) rfl rfl hl ?_)
  all_goals (conv => whnf)
  all_goals
    refine pubC (fun i => Nat.ble 1 i) ?_
    (conv => whnf)
    try exact rfl
theorem open_fn (vars : List Int) (l : List Bd) (n : Int) (hl : vars.length < 1099511627776) : FnQ Tryz.prog G0 173 [dSc vars l, .int .i64 n] (fun o => o = (if n ∈ vars then .pan (badW 30) else .ret (dSc (vars ++ [n]) l))) := by
  refine fnQ_of_vc txok mixed [] Tryz.func173 rfl rfl (by simp) fun b => ?_
  conv => whnf
  refine callF (contains_fn vars n) gf35 rfl rfl ?_
  conv => whnf
  refine callQ rfl rfl gf167 (ask_fn (!decide (n ∈ vars))) ?_
  rintro o rfl
  unfold askO
  by_cases h : n ∈ vars
  · rw [if_pos h, decide_eq_true h]
    conv => whnf
    try exact rfl
  · rw [if_neg h, decide_eq_false h]
    conv => whnf
    refine callF (clip_fn vars) gf86 rfl rfl ?_
    conv => whnf
    refine snocI vars n rfl rfl (by omega) ?_
    conv => whnf
    all_goals (try exact rfl)
end Go.Proofs.YtcjkikadolnfgaaGreat

/- The reference: count. -/
set_option linter.unusedSimpArgs false
set_option linter.unusedVariables false
namespace Go.Proofs.YtcjkikadolnfgaaGreat
open Go.Vx Go.Vc Go.RowKit

mutual
def rcnt (x : Int) (most : Nat) : TG → Nat
  | .mk k n _ l => if k = 6 ∧ n = x then 1 else if bndG k = true ∧ n = x then 0 else rcnts x most 0 l
def rcnts (x : Int) (most : Nat) : Nat → List TG → Nat
  | a, [] => a
  | a, t :: r => if a ≤ most then rcnts x most (a + rcnt x most t) r else a
end
theorem rcnts_big (x : Int) (most : Nat) : ∀ (l : List TG) (a : Nat), most < a → rcnts x most a l = a
  | [], a, _ => by rw [rcnts]
  | t :: r, a, h => by rw [rcnts, if_neg (by omega)]
theorem rcnts_facts (x : Int) (most : Nat) : ∀ (l : List TG), (∀ u ∈ l, rcnt x most u ≤ cntG x u ∧ (cntG x u ≤ most → rcnt x most u = cntG x u) ∧ (most < cntG x u → most < rcnt x most u)) → ∀ a, rcnts x most a l ≤ a + cntGs x l ∧ (a + cntGs x l ≤ most → rcnts x most a l = a + cntGs x l) ∧ (most < a + cntGs x l → most < rcnts x most a l)
  | [], _, a => by simp [rcnts, cntGs]
  | t :: r, ih, a => by
    obtain ⟨h1, h2, h3⟩ := ih t (by simp)
    have hr := rcnts_facts x most r (fun u hu => ih u (by simp [hu])) (a + rcnt x most t)
    rw [rcnts, cntGs]
    by_cases ha : a ≤ most
    · rw [if_pos ha]
      refine ⟨by omega, fun h => by rw [hr.2.1 (by omega), h2 (by omega)]; omega, fun h => ?_⟩
      by_cases hc : cntG x t ≤ most
      · have := h2 hc
        exact hr.2.2 (by omega)
      · exact hr.2.2 (by have := h3 (by omega); omega)
    · rw [if_neg ha]; omega
theorem rcnt_facts (x : Int) (most : Nat) (h1 : 1 ≤ most) : ∀ t : TG, rcnt x most t ≤ cntG x t ∧ (cntG x t ≤ most → rcnt x most t = cntG x t) ∧ (most < cntG x t → most < rcnt x most t) := by
  refine TG.ind fun k n ls l ih => ?_
  have := rcnts_facts x most l ih 0
  rw [rcnt, cntG]
  split
  · omega
  split
  · omega
  · omega
theorem rcount_fn (x : Int) (most : Nat) (h1 : 1 ≤ most) (hm : most < 1099511627776) : ∀ (t : TG), szG t < 1099511627776 → FnR Tryz.prog G0 65 [dG t, .int .i64 x, .int .i64 (most : Int)] (.int .i64 (rcnt x most t : Int)) := by
  refine TG.ind fun k n ls l ih hz => ?_
  refine fnQ_sz fun hs => ?_
  have hl := (szOk_G (t := .mk k n ls l) hs.1).1
  simp only [g_kids, LB] at hl
  have hsz : szG (.mk k n ls l) = szGs l + 1 := by simp only [szG]
  rw [hsz] at hz
  refine fnQ_of_wk (N := 60) txok mixed Tryz.func65 rfl rfl (by simp) fun b => ?_
  refine wk_seq ⟨[(1, .d (.int .i64 x)), (2, .d (.int .i64 (most : Int))), (3, .own 0 0)], [(0, .blk 28 [.d (.int .i64 k), .d (.int .i64 n), .d (dL ls), .d (dGs l)])], 1⟩ (wk_vc txok mixed [] ?_) ?_
  · conv => whnf
    exact weak_of rfl (by repeat ((conv => whnf); first | exact trivial | refine And.intro rfl ?_ | refine And.intro (incD (by omega)) ?_)) (by repeat ((conv => whnf); first | exact trivial | refine And.intro rfl ?_ | refine And.intro (incD (by omega)) ?_))
  by_cases h1 : k = 6 ∧ n = x
  · rw [rcnt, if_pos h1]
    obtain ⟨rfl, rfl⟩ := h1
    refine wk_seqR (wk_vc txok mixed [] ?_)
    conv => whnf
    refine And.intro (fun h => ?_) (fun h => Bool.noConfusion h)
    conv => whnf
    refine And.intro (fun h => ?_) (fun h => absurd h (by simp))
    conv => whnf
    try exact rfl
  refine wk_seq ⟨[(1, .d (.int .i64 x)), (2, .d (.int .i64 (most : Int))), (3, .own 0 0)], [(0, .blk 28 [.d (.int .i64 k), .d (.int .i64 n), .d (dL ls), .d (dGs l)])], 1⟩ (wk_vc txok mixed [] ?_) ?_
  · conv => whnf
    refine And.intro (fun h => ?_) (fun h => ?_)
    · have h : k = 6 := eq_of_beq h
      conv => whnf
      refine And.intro (fun h2 => absurd ⟨h, eq_of_beq h2⟩ h1) (fun h2 => ?_)
      conv => whnf
      exact weak_of rfl (by repeat ((conv => whnf); first | exact trivial | refine And.intro rfl ?_ | refine And.intro (incD (by omega)) ?_)) (by repeat ((conv => whnf); first | exact trivial | refine And.intro rfl ?_ | refine And.intro (incD (by omega)) ?_))
    · conv => whnf
      exact weak_of rfl (by repeat ((conv => whnf); first | exact trivial | refine And.intro rfl ?_ | refine And.intro (incD (by omega)) ?_)) (by repeat ((conv => whnf); first | exact trivial | refine And.intro rfl ?_ | refine And.intro (incD (by omega)) ?_))
  by_cases h2 : bndG k = true ∧ n = x
  · rw [rcnt, if_neg h1, if_pos h2]
    obtain ⟨h2, rfl⟩ := h2
    refine wk_seqR (wk_vc txok mixed [] ?_)
    repeat' ((conv => whnf); first | refine And.intro (fun _ => ?_) (fun _ => ?_))
    all_goals (try (conv => whnf))
    all_goals first | exact rfl | (simp_all [bndG]; done)
  refine wk_seq ⟨[(1, .d (.int .i64 x)), (2, .d (.int .i64 (most : Int))), (3, .own 0 0)], [(0, .blk 28 [.d (.int .i64 k), .d (.int .i64 n), .d (dL ls), .d (dGs l)])], 1⟩ (wk_vc txok mixed [] ?_) ?_
  · repeat' ((conv => whnf); first | refine And.intro (fun _ => ?_) (fun _ => ?_))
    all_goals (try (conv => whnf))
    all_goals first | (exact weak_of rfl (by repeat ((conv => whnf); first | exact trivial | refine And.intro rfl ?_ | refine And.intro (incD (by omega)) ?_)) (by repeat ((conv => whnf); first | exact trivial | refine And.intro rfl ?_ | refine And.intro (incD (by omega)) ?_))) | (exfalso; simp_all [bndG]; done)
  rw [rcnt, if_neg h1, if_neg h2]
  refine wk_vc txok mixed [] ?_
  conv => whnf
  refine loopH (fun p : Nat × Nat => p.1 ≤ l.length ∧ p.2 ≤ szGs (l.take p.1) ∧ rcnts x most 0 l = rcnts x most p.2 (l.drop p.1)) (fun p => l.length - p.1) (fun p => [(8, .d (.int .i64 (p.1 : Int))), (7, .d (.int .i64 (p.2 : Int)))]) (fun _ => [(0, .blk 28 [.d (.int .i64 k), .d (.int .i64 n), .d (dL ls), .d (dGs l)])]) 1 (0, 0) ⟨by simp, by simp, rfl⟩ (weak_of rfl (by repeat ((conv => whnf); first | exact trivial | refine And.intro rfl ?_ | refine And.intro (incD (by omega)) ?_)) (by repeat ((conv => whnf); first | exact trivial | refine And.intro rfl ?_ | refine And.intro (incD (by omega)) ?_))) ?_
  rintro ⟨i, a⟩ ⟨hi, ha, hx⟩
  simp only at hi ha hx
  have htl := szGs_le l i
  conv => whnf
  refine And.intro (fun hb => ?_) (fun hb => ?_)
  · have hil : i < l.length := by have := of_decide_eq_true hb; simp only at this; omega
    rw [List.drop_eq_getElem_cons hil, rcnts] at hx
    have hmem := szG_mem (List.getElem_mem hil)
    have htk := szGs_take hil
    have htl2 := szGs_le l (i + 1)
    have hc := (rcnt_facts x most (by omega) l[i]).1
    have hc2 := cnt_le l[i] x
    have hN := ih l[i] (by simp) (by omega)
    have e2 : IntKind.i64.wrap ((a : Int) + (rcnt x most l[i] : Int)) = ((a + rcnt x most l[i] : Nat) : Int) := by rw [Go.Vc.wrap_small (by omega) (by omega)]; omega
    conv => whnf
    refine And.intro (fun hb2 => ?_) (fun hb2 => ?_)
    · have hb2 : a ≤ most := by have := of_decide_eq_true hb2; simp only at this; omega
      rw [if_pos hb2] at hx
      conv => whnf
      refine IdxC.encGs i hil rfl ?_
      conv => whnf
      refine callF hN gf65 rfl rfl ?_
      conv => whnf
      rw [e2, incD (by omega)]
      exact again (i + 1, a + rcnt x most l[i]) (by simp only; omega) ⟨by simp only; omega, by simp only; omega, hx⟩ (weak_of rfl (by repeat ((conv => whnf); first | exact trivial | refine And.intro rfl ?_ | refine And.intro (incD (by omega)) ?_)) (by repeat ((conv => whnf); first | exact trivial | refine And.intro rfl ?_ | refine And.intro (incD (by omega)) ?_)))
    · have hb2 : ¬ a ≤ most := by have := of_decide_eq_false hb2; simp only at this; omega
      rw [if_neg hb2] at hx
      conv => whnf
      rw [hx]
  · have hil : i = l.length := by have := of_decide_eq_false hb; simp only at this; omega
    subst hil
    rw [List.drop_length, rcnts] at hx
    conv => whnf
    rw [hx]
end Go.Proofs.YtcjkikadolnfgaaGreat

/- kernel.caught: what something makes, or the error that it gives up with. -/
set_option linter.unusedSimpArgs false
set_option linter.unusedVariables false
namespace Go.Proofs.YtcjkikadolnfgaaGreat
open Go.Vx Go.Vc Go.RowKit

abbrev caughtH (er : Int) : Hp := [(0, .blk 28 [.d (.int .i64 0), .d (.int .i64 0), .nl, .nl]), (1, .blk 29 [.d (.int .i64 er)])]
abbrev caughtH0 : Hp := [(1, .blk 29 [.d (.int .i64 0)]), (0, .blk 28 [.d (.int .i64 0), .d (.int .i64 0), .nl, .nl])]
set_option maxRecDepth 100000 in
/-- The deferred closure, where the error is one of these. -/
theorem caughtCatch (er : Int) (e : Env) (w : World) (hlen : e.m.length = 2) (g0 g1 : Nat) (hp : e.m[0]? = some (.pointer (some ⟨g0, 0, none⟩))) (hq : e.m[1]? = some (.pointer (some ⟨g1, 0, none⟩))) (hH : HpOk e w caughtH0) :
    CallsD Tryz.prog 59 #[.pointer (some ⟨g0, 0, none⟩), .pointer (some ⟨g1, 0, none⟩)] (.panicking [{ v := .iface 83 (.int .i64 er), recovered := false }]) w fun en u' w' => en = .returned (.tuple #[]) ∧ u' = .panicking [{ v := .iface 83 (.int .i64 er), recovered := true }] ∧
      ∃ e', Vx.Left G0 0 e w caughtH0 e' w' (caughtH er) := by
  refine callsD_of_wpS Tryz.func59 rfl fun c₀ cs hu => ?_
  apply wpS_seq
  apply wpS_region
  simp [wpOpsS, go_sem, recoverD, hu, Tryz.ntmps59, Exit.thenS]
  apply wpS_seq
  apply wpS_region
  simp [wpOpsS, go_sem, Exit.thenS]
  refine wpS_cond (t := true) (by simp [Act.eval, Array.replicate]) ?_
  simp only [if_true]
  refine wpS_of_wp ?_
  let b : Bs G0 2 := ⟨w, e.pub, feet e caughtH0, e.m, hlen, []⟩
  refine wp_mono (vcCode_sound (b := b) (N := 18) (plans := []) txok mixed _ e ⟨[(0, .own 0 0), (1, .own 1 0), (2, .ifc 83 (.d (.int .i64 er)))], caughtH0, 2⟩ (fun x st => match x with
    | .normal => match st with
      | ⟨T, H, n⟩ => leftK 2 [] H [0, 1] fun H' => H' = caughtH er
    | _ => False) _ _ ⟨?_, ?_, hlen, ?_, hH, Only.refl _ _, trivial, fun i k hi hk => .inl ⟨i, hi, hk⟩, fun k hk => .inl hk, ⟨fun i v h _ => h, Nat.le_refl _, fun k hk => hk⟩, trivial⟩ ?_) ?_
  · simp
  · rfl
  · intro t sv ht
    simp only [lk] at ht
    split at ht
    · rename_i h; obtain rfl := nbeq.1 h
      injection ht with ht; subst ht
      simp only [RepSV]
      exact ⟨g0, hp, by simp [Array.replicate]⟩
    split at ht
    · rename_i h; obtain rfl := nbeq.1 h
      injection ht with ht; subst ht
      simp only [RepSV]
      exact ⟨g1, hq, by simp [Array.replicate]⟩
    split at ht
    · rename_i h; obtain rfl := nbeq.1 h
      injection ht with ht; subst ht
      simp only [RepSV, RepD]
      exact ⟨_, by simp [Array.replicate], rfl⟩
    · cases ht
  · conv => whnf
    refine tassC rfl rfl Tryz.underlying83 (by intro m h; cases h) ?_
    conv => whnf
    try exact rfl
  · intro ex a w' hq'
    cases ex with
    | normal =>
      obtain ⟨e', ⟨T, H, n⟩, h1, h2⟩ := hq'
      simp only at h2
      obtain ⟨H', rfl, k2⟩ := leftK_get _ _ h2
      obtain ⟨e2, _, f2⟩ := left_of h1 hlen rfl hlen k2
      refine ⟨h1.df, _, rfl, .tuple #[], ?_, rfl, ?_, e2, f2⟩
      · simp [results, Tryz.results59, go_sem]
      · rfl
    | panic c => obtain ⟨_, _, _, _, _, _, _, h⟩ := hq'; exact h.elim
    | outgrown => exact hq'.elim
    | ret => obtain ⟨_, _, _, h⟩ := hq'; exact h.elim
    | exit id => obtain ⟨_, _, _, h⟩ := hq'; exact h.elim
    | goto l => obtain ⟨_, _, _, h⟩ := hq'; exact h.elim

def caughtOut : DOut → D
  | .ret x => .tup [x, .int .i64 0]
  | .pan (.ifc _ (.int _ er)) => .tup [dG (.mk 0 0 [] []), .int .i64 er]
  | .pan _ => .tup []
set_option maxRecDepth 100000 in
theorem caught_out {g : FuncId} {caps : List D} {o0 : DOut} (hgo : Goes Tryz.prog g) (hf : FnQ Tryz.prog G0 g caps (fun o => o = o0)) (h0 : (∃ t : TG, o0 = .ret (dG t)) ∨ ∃ er, o0 = .pan (.ifc 83 (.int .i64 er))) :
    FnR Tryz.prog G0 27 [.fn g [] caps] (caughtOut o0) := by
  refine fnQ_of_tri fun e w vs hlen hargs hH hG => ?_
  have ok0 := tri_start (G := G0) (fn := Tryz.f27) (N := 7) (args := [.d (.fn g [] caps)]) (f := 0) rfl (by simp) hlen hargs hH hG
  refine calls_of_wp_defers Tryz.func27 rfl ?_
  refine wp_seq (wp_mono (vcCode_sound (plans := []) txok mixed _ e _ (fun x st => match x with
    | .normal => st = ⟨[(3, .own 1 0), (2, .own 0 0), (0, .d (.fn g [] caps))], [(1, .blk 29 [.d (.int .i64 0)]), (0, .blk 28 [.d (.int .i64 0), .d (.int .i64 0), .nl, .nl])], 2⟩
    | _ => False) _ _ ok0 ?_) ?_)
  · conv => whnf
    try exact rfl
  rintro ex a1 w1 hq
  cases ex with
  | panic c => obtain ⟨_, _, _, _, _, _, _, h⟩ := hq; exact h.elim
  | outgrown => exact hq.elim
  | ret => obtain ⟨_, _, _, h⟩ := hq; exact h.elim
  | exit id => obtain ⟨_, _, _, h⟩ := hq; exact h.elim
  | goto l => obtain ⟨_, _, _, h⟩ := hq; exact h.elim
  | normal =>
  obtain ⟨e1, st1, ok1, rfl⟩ := hq
  have hz1 := ok1.sz
  have t2 := ok1.tm 2 _ rfl
  have t3 := ok1.tm 3 _ rfl
  simp only [RepSV] at t2 t3
  obtain ⟨g0, m0, t2⟩ := t2
  obtain ⟨g1, m1, t3⟩ := t3
  have ok2 := (ok1.put (d := 4) (sv := .any) (v := .func (.func 59) #[] (#[Operand.tmp 2, Operand.tmp 3].map a1.eval)) (by decide) (by simp only [RepSV])).defers' [{ target := .fn (.func 59) (#[Operand.tmp 2, Operand.tmp 3].map a1.eval), args := #[] }]
  have ev2 : #[Operand.tmp 2, Operand.tmp 3].map a1.eval = #[.pointer (some ⟨g0, 0, none⟩), .pointer (some ⟨g1, 0, none⟩)] := by
    simp only [List.map_toArray, List.map_cons, List.map_nil, Act.eval]
    rw [t2, t3]
  refine wp_seq (wp_defer2 (by rw [hz1]; decide) ?_)
  have df1 := ok1.df
  simp only at df1
  rw [df1]
  simp only [Exit.then]
  generalize hb2 : Bs.mk _ _ _ _ _ _ = b2 at ok2
  generalize ha2 : Act.mk _ _ = a2 at ok2 ⊢
  have hbb : b2 = ⟨w, e.pub, feet e [], e.m, hlen, [{ target := .fn (.func 59) #[.pointer (some ⟨g0, 0, none⟩), .pointer (some ⟨g1, 0, none⟩)], args := #[] }]⟩ := by
    rw [← hb2, ev2]
  clear hb2 ha2
  have tm0 := ok2.tm 0 _ rfl
  refine wp_seq (wp_region_list ?_)
  refine wpList_go (v := a2.tmps.getD 0 undef) (w' := w1) (by rfl) (by simp only [execOp]; rfl) ?_
  have ok3 := ok2.put (d := 5) (sv := .d (.fn g [] caps)) (v := a2.tmps.getD 0 undef) (by decide) tm0
  generalize ha3 : a2.put _ _ = a3 at ok3 ⊢
  obtain ⟨vs2, hvs2, hrun⟩ := callOf_run (o := { dst := some 6, op := .call { callee := .value (.tmp 5), args := #[], argTypes := #[] }, type := 28, pos := "kernel.go:95", after := #[{ on := 0, ground := Ground.data }], guard := none }) ok3.tmok rfl hgo
  refine wpList_call (by rfl) hrun ?_
  refine (hf e1.pub w1 vs2 (dOfs_rep (by simpa [Vx.dL] using dOfs_dL caps) hvs2) ok3.hp.pubLt trivial).mono ?_
  rintro en w2 ⟨o', S', rfl, ho, ⟨hb, hdr⟩, hup, hfr, hlt⟩
  obtain ⟨ok4, kw, _⟩ := ok3.below' hb hdr hup hfr hlt
  rcases h0 with ⟨⟨k, n, l, m⟩, rfl⟩ | ⟨er, rfl⟩
  · obtain ⟨v, rfl, hv⟩ := ho
    simp only
    have hv' : RepSV ⟨e1.m, S'⟩ w2 (.agg [.d (.int .i64 k), .d (.int .i64 n), .d (slD 16 l.length (encS l)), .d (slD 64 m.length (encGs m))]) v := by
      obtain ⟨y, hy, hr⟩ := nrm_eq (e := ⟨e1.m, S'⟩) (svD (dG (.mk k n l m))) (fun y => y = .agg [.d (.int .i64 k), .d (.int .i64 n), .d (slD 16 l.length (encS l)), .d (slD 64 m.length (encGs m))]) (by rfl) (svD_rep hv)
      subst hy; exact hr
    have ok5 := ok4.put (d := 6) (by decide) hv'
    refine wpList_mono ?_ _ _ _ (vcSeq_sound (K := fun x st => match x with
      | .normal => endK tx 0 [] Tryz.f27.results.toList (closeQ (retD (caughtOut (.ret (dG (.mk k n l m)))))) st
      | _ => False) txok _ _ _ _ _ ok5 ?_)
    · rintro ex a5 w5 hq
      cases ex with
      | exit id => obtain ⟨_, _, _, h⟩ := hq; exact h.elim
      | goto l => obtain ⟨_, _, _, h⟩ := hq; exact h.elim
      | ret => obtain ⟨_, _, _, h⟩ := hq; exact h.elim
      | outgrown => exact hq.elim
      | panic c => obtain ⟨_, _, _, _, _, _, _, h⟩ := hq; exact h.elim
      | normal =>
        obtain ⟨e6, st6, ok6, hk⟩ := hq
        simp only [Exit.then]
        refine wp_ret ?_
        obtain ⟨v', hv6, hR⟩ := tri_fin (fn := Tryz.f27) (kp := []) txok hlen hbb ok6 hk
        have df6 := ok6.df
        rw [hbb] at df6
        simp only at df6
        simp only [bodyPostD]
        rw [df6]
        refine leaves_cons (f := 59) (args := #[.pointer (some ⟨g0, 0, none⟩), .pointer (some ⟨g1, 0, none⟩)]) (by simp) (by simp [go_sem]) ?_
        refine (caughtIdle ⟨g0, 0, none⟩ ⟨g1, 0, none⟩ _).mono ?_
        rintro en u' w' ⟨rfl, rfl, rfl⟩
        exact ⟨v', hv6, hR⟩
    · conv => whnf
      try exact rfl
  · obtain ⟨v, rfl, hv⟩ := ho
    simp only [RepD] at hv
    obtain ⟨y, rfl, rfl⟩ := hv
    simp only [Exit.then, bodyPostD]
    have df4 := ok4.df
    rw [hbb] at df4
    simp only at df4
    rw [df4]
    refine leaves_cons (f := 59) (args := #[.pointer (some ⟨g0, 0, none⟩), .pointer (some ⟨g1, 0, none⟩)]) (by simp) (by simp [go_sem]) ?_
    refine (caughtCatch er ⟨e1.m, S'⟩ w2 ok4.len g0 g1 m0 m1 ok4.hp).mono ?_
    rintro en u' w' ⟨rfl, rfl, e5, hl⟩
    have ok5 := Ok.left (st := ⟨[(5, .d (.fn g [] caps)), (4, .any), (3, .own 1 0), (2, .own 0 0), (0, .d (.fn g [] caps))], caughtH0, 2⟩) ok4 hl
    have hk5 : endK tx 0 [] Tryz.f27.results.toList (closeQ (retD (caughtOut (.pan (.ifc 83 (.int .i64 er)))))) ⟨scrubT (fun _ => true) [(5, .d (.fn g [] caps)), (4, .any), (3, .own 1 0), (2, .own 0 0), (0, .d (.fn g [] caps))], caughtH er, 2⟩ := by
      conv => whnf
      try exact rfl
    obtain ⟨v, hv, hR⟩ := tri_fin (fn := Tryz.f27) (kp := []) txok hlen hbb ok5 hk5
    exact ⟨v, hv, hR⟩
end Go.Proofs.YtcjkikadolnfgaaGreat

