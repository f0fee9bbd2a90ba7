/- Texts of mine, joined: Bh Bi Bj Bu Bv Bw Yx Yy Bz Cd Zl Yt Yu. -/
import Derived.Shelf.Sort.Plain
import Derived.Shelf.Slices.In.SortNone
import Derived.Shelf.Slices.CompactI
import Derived.Sort.OwnSortedInts
import Derived.Test.YtcjkikadolnfgaaGreatPaq
import Derived.Test.YtcjkikadolnfgaaGreatPaj
/- The shelf's slices.Sort and slices.Compact at ints, laid at this seat's program: printed by a program of mine out of Lean's print of the kit's laying command. -/
set_option linter.unusedSimpArgs false
set_option linter.unusedVariables false
namespace Go.Proofs.YtcjkikadolnfgaaGreat
open Go.Proofs Go.Shelf Go.RowKit Go.Lib Go.Sort
def sortI_ren : Ren :=
  { f := fun x => match x with | 189 => 69 | 125 => 107 | 257 => 106 | 128 => 159 | 129 => 160 | 294 => 150 | 295 => 151 | 296 => 152 | 297 => 153 | 298 => 154 | 299 => 155 | 216 => 156 | 300 => 157 | 301 => 158 | 328 => 177 | 329 => 178 | 330 => 179 | 331 => 180 | 332 => 181 | 215 => 182 | 343 => 187 | n => n,
    t := fun x => match x with | 28 => 36 | 3 => 3 | 46 => 112 | 0 => 0 | 51 => 141 | 53 => 143 | 4 => 4 | 183 => 133 | 182 => 132 | 131 => 138 | 5 => 5 | 9 => 9 | 218 => 162 | 222 => 166 | 228 => 172 | 229 => 173 | n => n,
    g := fun n => n }
theorem sortI : Lays.n189 Tryz.prog sortI_ren :=
  { mixed := rfl,
    f125 := Tryz.func107.trans (congrArg some rfl),
    f128 := Tryz.func159.trans (congrArg some rfl),
    f129 := Tryz.func160.trans (congrArg some rfl),
    f189 := Tryz.func69.trans (congrArg some rfl),
    f215 := Tryz.func182.trans (congrArg some rfl),
    f216 := Tryz.func156.trans (congrArg some rfl),
    f257 := Tryz.func106.trans (congrArg some rfl),
    f294 := Tryz.func150.trans (congrArg some rfl),
    f295 := Tryz.func151.trans (congrArg some rfl),
    f296 := Tryz.func152.trans (congrArg some rfl),
    f297 := Tryz.func153.trans (congrArg some rfl),
    f298 := Tryz.func154.trans (congrArg some rfl),
    f299 := Tryz.func155.trans (congrArg some rfl),
    f300 := Tryz.func157.trans (congrArg some rfl),
    f301 := Tryz.func158.trans (congrArg some rfl),
    f328 := Tryz.func177.trans (congrArg some rfl),
    f329 := Tryz.func178.trans (congrArg some rfl),
    f330 := Tryz.func179.trans (congrArg some rfl),
    f331 := Tryz.func180.trans (congrArg some rfl),
    f332 := Tryz.func181.trans (congrArg some rfl),
    f343 := Tryz.func187.trans (congrArg some rfl),
    t0 := Tryz.underlying0,
    a0 := Tryz.isAgg0,
    z0 := Tryz.sizeOf0,
    v0 := Tryz.zeroValue0,
    t3 := Tryz.underlying3,
    a3 := Tryz.isAgg3,
    z3 := Tryz.sizeOf3,
    v3 := Tryz.zeroValue3,
    t4 := Tryz.underlying4,
    a4 := Tryz.isAgg4,
    z4 := Tryz.sizeOf4,
    v4 := Tryz.zeroValue4,
    t5 := Tryz.underlying5,
    a5 := Tryz.isAgg5,
    z5 := Tryz.sizeOf5,
    v5 := Tryz.zeroValue5,
    t9 := Tryz.underlying9,
    a9 := Tryz.isAgg9,
    z9 := Tryz.sizeOf9,
    v9 := Tryz.zeroValue9,
    t28 := Tryz.underlying36,
    a28 := Tryz.isAgg36,
    z28 := Tryz.sizeOf36,
    v28 := Tryz.zeroValue36,
    t46 := Tryz.underlying112,
    a46 := Tryz.isAgg112,
    z46 := Tryz.sizeOf112,
    v46 := Tryz.zeroValue112,
    t51 := Tryz.underlying141,
    a51 := Tryz.isAgg141,
    z51 := Tryz.sizeOf141,
    v51 := Tryz.zeroValue141,
    t53 := Tryz.underlying143,
    a53 := Tryz.isAgg143,
    z53 := Tryz.sizeOf143,
    v53 := Tryz.zeroValue143,
    t131 := Tryz.underlying138,
    a131 := Tryz.isAgg138,
    z131 := Tryz.sizeOf138,
    v131 := Tryz.zeroValue138,
    t182 := Tryz.underlying132,
    a182 := Tryz.isAgg132,
    z182 := Tryz.sizeOf132,
    v182 := Tryz.zeroValue132,
    t183 := Tryz.underlying133,
    a183 := Tryz.isAgg133,
    z183 := Tryz.sizeOf133,
    v183 := Tryz.zeroValue133,
    t218 := Tryz.underlying162,
    a218 := Tryz.isAgg162,
    z218 := Tryz.sizeOf162,
    v218 := Tryz.zeroValue162,
    t222 := Tryz.underlying166,
    a222 := Tryz.isAgg166,
    z222 := Tryz.sizeOf166,
    v222 := Tryz.zeroValue166,
    t228 := Tryz.underlying172,
    a228 := Tryz.isAgg172,
    z228 := Tryz.sizeOf172,
    v228 := Tryz.zeroValue172,
    t229 := Tryz.underlying173,
    a229 := Tryz.isAgg173,
    z229 := Tryz.sizeOf173,
    v229 := Tryz.zeroValue173 }
def compI_ren : Ren :=
  { f := fun x => match x with | 20 => 70 | n => n,
    t := fun x => match x with | 22 => 36 | 3 => 3 | 4 => 4 | 0 => 0 | n => n,
    g := fun n => n }
theorem compI : Lays2.n20 Tryz.prog compI_ren :=
  { mixed := rfl,
    f20 := Tryz.func70.trans (congrArg some rfl),
    t0 := Tryz.underlying0,
    a0 := Tryz.isAgg0,
    z0 := Tryz.sizeOf0,
    v0 := Tryz.zeroValue0,
    t3 := Tryz.underlying3,
    a3 := Tryz.isAgg3,
    z3 := Tryz.sizeOf3,
    v3 := Tryz.zeroValue3,
    t4 := Tryz.underlying4,
    a4 := Tryz.isAgg4,
    z4 := Tryz.sizeOf4,
    v4 := Tryz.zeroValue4,
    t22 := Tryz.underlying36,
    a22 := Tryz.isAgg36,
    z22 := Tryz.sizeOf36,
    v22 := Tryz.zeroValue36,
    i3 := by kernel_rfl }
theorem putCells_len (off : Nat) (d : Array Int) (cur : Array Value) : (putCells (Value.int .i64) off d cur).size = cur.size := by simp [putCells]
theorem putCells_cut (off k : Nat) (d : Array Int) (cur : Array Value) (h : off + d.size ≤ cur.size) (hk : k ≤ d.size) : ((putCells (Value.int .i64) off d cur).toList.drop off).take k = (d.toList.take k).map (Value.int .i64) := by
  apply List.ext_getElem?
  intro j
  by_cases hj : j < k
  · rw [List.getElem?_take_of_lt hj, List.getElem?_drop, Array.getElem?_toList]
    have h1 : off + j < cur.size := by omega
    have h2 : j < d.size := by omega
    simp [putCells, h1, hj, h2]
  · rw [List.getElem?_take_eq_none (by omega), List.getElem?_eq_none (by simp; omega)]
theorem holdsI {w : World} {g o : Nat} {cur : Array Value} {e : TypeId} {l : List Int} (hg : w.heap[g]? = some (.cells cur e (0, 0))) (hc : (cur.toList.drop o).take l.length = l.map (Value.int .i64)) : Holds (Value.int .i64) w g o l.toArray := by
  intro j hj
  have hj' : j < l.length := by simpa using hj
  constructor
  · have h1 : ((cur.toList.drop o).take l.length)[j]? = (l.map (Value.int .i64))[j]? := by rw [hc]
    rw [List.getElem?_take_of_lt hj', List.getElem?_drop, Array.getElem?_toList] at h1
    simp only [World.cell?, hg]
    simp [h1, hj']
  · simp [World.frozen?, hg]
theorem heap_putI {w : World} {g n o : Nat} {os : Array Obj} {cur : Array Value} {e : TypeId} {fr : Nat × Nat} (d : Array Int) (hb : w.heap[g]? = some (.cells cur e fr)) :
    (grow (putRow (Value.int .i64) (Sort.ahead w n) g o d) os).heap[g]? = some (.cells (putCells (Value.int .i64) o d cur) e fr) := by
  have hg : g < w.heap.size := (Array.getElem?_eq_some_iff.1 hb).1
  rw [heap_grow_old _ _ (by simpa using hg)]
  simp [putRow, mapBlock, Sort.ahead, Array.getElem?_modify, hb, onCells]
theorem grownBy_putI {w : World} {g n o : Nat} {os : Array Obj} (d : Array Int) : w.grownBy (grow (putRow (Value.int .i64) (Sort.ahead w n) g o d) os) (some g) := by
  refine ⟨rfl, rfl, rfl, by simp, fun k hk hne => ?_⟩
  rw [heap_grow_old _ _ (by simpa using hk)]
  have : g ≠ k := fun e => hne (by rw [e])
  simp [putRow, mapBlock, Sort.ahead, Array.getElem?_modify, this]
theorem repI_of (S : Nat → Prop) (w : World) : ∀ l : List Int, Go.Vx.RepDs S w (Go.Vx.encI l) (l.map (.int .i64))
  | [] => by simp only [Go.Vx.encI, List.map_nil, Go.Vx.RepDs]
  | x :: r => by
    rw [show Go.Vx.encI (x :: r) = .int .i64 x :: Go.Vx.encI r from rfl, List.map_cons]
    simp only [Go.Vx.RepDs, Go.Vx.RepD]
    exact ⟨_, _, rfl, rfl, repI_of S w r⟩
theorem row_left {e : Go.Vx.Env} {w w' : World} {n m g o c : Nat} {cur cur' : Array Value} {l l' : List Int} {xs : List Go.Vx.D} (hlen : e.m.length = 1) (hm : e.m[0]? = some (.slice (some ⟨g, o, none⟩) n c)) (hH : Go.Vx.HpOk e w [(0, .row 3 8 1 n xs)])
    (hg : w.heap[g]? = some (.cells cur 3 (0, 0))) (hgr : w.grownBy w' (some g)) (hg' : w'.heap[g]? = some (.cells cur' 3 (0, 0))) (hsz : cur'.size = cur.size) (hm' : l'.length = m) (hcap : m ≤ c) (hmax : c ≤ maxLen) (hcs : o + c * 1 ≤ cur.size) (hcut : (cur'.toList.drop o).take m = l'.map (.int .i64)) (hlim : m * 8 ≤ Go.Vx.LB) :
    Go.Vx.Left G0 0 e w [(0, .row 3 8 1 n xs)] ⟨[.slice (some ⟨g, o, none⟩) m c], e.pub⟩ w' [(0, .row 3 8 1 m (Go.Vx.encI l'))] := by
  have h0 : ∀ i, Go.Vx.has [(0, Go.Vx.Ob.row 3 8 1 m (Go.Vx.encI l'))] i → i = 0 := by
    intro i hi
    unfold Go.Vx.has at hi
    simp only [Go.Vc.lk] at hi
    split at hi
    · rename_i e1; exact (Go.Vc.nbeq.1 e1).symm
    · cases hi
  have hf : Go.Vx.foot e 0 g := ⟨_, hm, by rfl⟩
  have hft : ∀ k, Go.Vx.foot ⟨[.slice (some ⟨g, o, none⟩) m c], e.pub⟩ 0 k → k = g := by
    rintro k ⟨v, h1, h2⟩
    have h1 : some (Value.slice (some ⟨g, o, none⟩) m c) = some v := h1
    injection h1 with h1; subst h1
    have h2 : some g = some k := h2
    injection h2 with h2; exact h2.symm
  have hpub : ¬ e.pub g := fun hp => hH.npub 0 g (by rfl) hf hp
  refine ⟨⟨fun i ob ho => ?_, fun i j k hi hj hne _ _ => absurd ((h0 i hi).trans (h0 j hj).symm) hne, fun i k hi hk hp => ?_, fun k hk => Nat.lt_of_lt_of_le (hH.pubLt k hk) hgr.size⟩, by simp [hlen], ?_, trivial, fun i v hv hns => ?_, fun k hk => hk, fun k hk => .inl hk, fun i hi => ?_, fun i k hi hk => ?_⟩
  · obtain rfl := h0 i (by simp [Go.Vx.has, ho])
    simp only [Go.Vc.lk, Nat.beq_refl] at ho
    injection ho with ho; subst ho
    exact ⟨some ⟨g, o, none⟩, c, l'.map (.int .i64), rfl, ⟨m, by simp [hm'], .inr ⟨g, o, c, cur', rfl, hg', hcap, hmax, by rw [hsz]; exact hcs, by rw [Nat.mul_one]; exact hcut⟩⟩, repI_of _ _ l', hlim⟩
  · obtain rfl := h0 i hi
    rw [hft k hk] at hp
    exact hpub hp
  · exact ⟨hgr.os, hgr.tape, hgr.output, hgr.size, fun k hk hn => hgr.block k hk (fun e1 => by injection e1 with e1; subst e1; exact hn ⟨0, by rfl, hf⟩)⟩
  · rcases Nat.eq_zero_or_pos i with rfl | hi
    · rw [hm] at hv; injection hv with hv; exact absurd hv.symm (hns _ _ _)
    · have := (List.getElem?_eq_some_iff.1 hv).1; omega
  · obtain rfl := h0 i hi; simp [hlen]
  · obtain rfl := h0 i hi
    rw [hft k hk]
    exact .inl ⟨0, by rfl, hf⟩
def srtI (l : List Int) : List Int := l.mergeSort fun x y => decide (x ≤ y)
theorem sort_tri2 (l : List Int) (hl : l.length * 8 ≤ Go.Vx.LB) : Go.Vx.Tri Tryz.prog G0 69 2 0 [.row 1] [(0, .blk 90 [.row 1, .nl]), (1, .row 3 8 1 l.length (Go.Vx.encI l))] (fun o H' => o = .ret (.tup []) ∧ H' = [(0, .blk 90 [.row 1, .nl]), (1, .row 3 8 1 l.length (Go.Vx.encI (srtI l)))]) := by
  intro e w vs hlen hargs hH hG
  simp only [Go.Vx.RepSVs, Go.Vx.RepSV] at hargs
  obtain ⟨v, s, rfl, ⟨A, n, c, rfl, hm⟩, rfl⟩ := hargs
  obtain ⟨A', c', xs, hm', hrow, hxs, hlb⟩ := hH.ob 1 _ rfl
  obtain ⟨g0, vs0, hm0, hg0, hvs0⟩ := hH.ob 0 _ rfl
  rw [hm] at hm'; injection hm' with hm'; injection hm' with e1 e2 e3
  subst e1; subst e2; subst e3
  have hx := repI_flat hxs
  have hsl : (srtI l).length = l.length := by unfold srtI; simp
  have hasE : ∀ {i : Nat} {ob : Go.Vx.Ob}, Go.Vx.has [(0, .blk 90 [.row 1, .nl]), (1, ob)] i → i = 0 ∨ i = 1 := by
    intro i ob hi
    unfold Go.Vx.has at hi
    simp only [Go.Vc.lk] at hi
    split at hi
    · rename_i e1; exact .inl (Go.Vc.nbeq.1 e1).symm
    · split at hi
      · rename_i e1; exact .inr (Go.Vc.nbeq.1 e1).symm
      · cases hi
  have hasI : ∀ {i : Nat} {ob ob' : Go.Vx.Ob}, Go.Vx.has [(0, .blk 90 [.row 1, .nl]), (1, ob)] i → Go.Vx.has [(0, .blk 90 [.row 1, .nl]), (1, ob')] i := by
    intro i ob ob' hi
    rcases hasE hi with rfl | rfl <;> rfl
  obtain ⟨n', hn, ⟨hv, hz⟩ | ⟨g, o, cap, cur, hv, hg, hc1, hc2, hsz, htk⟩⟩ := hrow
  · simp only at hv hn
    injection hv with h1 h2 h3
    subst h1; subst h3
    have hl0 : l = [] := List.eq_nil_of_length_eq_zero h2
    subst hl0
    refine (Any.slices_Sort_int_none sortI none 0 w).mono ?_
    rintro en w' ⟨rfl, rfl⟩
    refine ⟨.ret (.tup []), _, e, ⟨rfl, rfl⟩, ⟨_, rfl, by simp only [Go.Vx.RepSV, Go.Vx.RepSVs]; exact ⟨_, rfl, rfl⟩⟩, ?_⟩
    exact ⟨by simpa [srtI] using hH, rfl, Go.Vc.Only.refl _ _, trivial, fun _ _ h _ => h, fun _ h => h, fun _ h => .inl h, fun i hi => by
      rcases hasE hi with rfl | rfl <;> omega, fun i k hi hk => .inl ⟨i, hasI hi, hk⟩⟩
  · simp only at hv hg htk hn hsz
    injection hv with h1 h2 h3
    subst h1; subst h3
    have hnl : n' = l.length := h2.symm
    subst hnl
    rw [Nat.mul_one, hx] at htk
    have hlt := (Array.getElem?_eq_some_iff.1 hg).1
    have hl' := hl
    simp only [Go.Vx.LB] at hl'
    have hf1 : Go.Vx.foot e 1 g := ⟨_, hm, rfl⟩
    have hf0 : Go.Vx.foot e 0 g0 := ⟨_, hm0, rfl⟩
    have hne : g0 ≠ g := fun h => hH.sep 0 1 g0 rfl rfl (by decide) hf0 (h ▸ hf1)
    have hlt0 := (Array.getElem?_eq_some_iff.1 hg0).1
    refine (Any.slices_Sort_int sortI g o c l w (holdsI hg htk) hlt (by omega)).mono ?_
    rintro en w' ⟨rfl, q, os, rfl⟩
    have hgr : w.grownBy (grow (putRow (Value.int .i64) (Sort.ahead w q) g o (srtI l).toArray) os) (some g) := grownBy_putI _
    have hcut := putCells_cut o l.length (srtI l).toArray cur (by simp [hsl]; omega) (by simp [hsl])
    rw [List.toList_toArray, ← hsl, List.take_length] at hcut
    refine ⟨.ret (.tup []), _, e, ⟨rfl, rfl⟩, ⟨_, rfl, by simp only [Go.Vx.RepSV, Go.Vx.RepSVs]; exact ⟨_, rfl, rfl⟩⟩, ?_⟩
    refine ⟨⟨fun i ob ho => ?_, fun i j k hi hj => hH.sep i j k (hasI hi) (hasI hj), fun i k hi => hH.npub i k (hasI hi), fun k hk => Nat.lt_of_lt_of_le (hH.pubLt k hk) hgr.size⟩, rfl, ?_, trivial, fun _ _ h _ => h, fun _ h => h, fun _ h => .inl h, fun i hi => ?_, fun i k hi hk => .inl ⟨i, hasI hi, hk⟩⟩
    · rcases hasE (i := i) (by unfold Go.Vx.has; rw [ho]; rfl) with rfl | rfl
      · simp only [Go.Vc.lk, Nat.beq_refl] at ho
        injection ho with ho; subst ho
        exact ⟨g0, vs0, hm0, (hgr.block g0 hlt0 (fun e1 => by injection e1 with e1; exact hne e1)).trans hg0, by simpa only [Go.Vx.RepSVs, Go.Vx.RepSV] using hvs0⟩
      · have ho : some (Go.Vx.Ob.row 3 8 1 l.length (Go.Vx.encI (srtI l))) = some ob := ho
        injection ho with ho; subst ho
        refine ⟨some ⟨g, o, none⟩, c, (srtI l).map (.int .i64), hm, ⟨l.length, by simp [hsl], .inr ⟨g, o, c, _, rfl, heap_putI _ hg, hc1, hc2, by rw [putCells_len]; exact hsz, ?_⟩⟩, repI_of _ _ _, hl⟩
        rw [Nat.mul_one, ← hsl]
        exact hcut
    · exact ⟨hgr.os, hgr.tape, hgr.output, hgr.size, fun k hk hn => hgr.block k hk (fun e1 => by injection e1 with e1; subst e1; exact hn ⟨1, rfl, hf1⟩)⟩
    · rcases hasE hi with rfl | rfl <;> omega
theorem comp_tri (l : List Int) (hl : l.length * 8 ≤ Go.Vx.LB) : Go.Vx.Tri Tryz.prog G0 70 1 0 [.row 0] [(0, .row 3 8 1 l.length (Go.Vx.encI l))] (fun o H' => o = .ret (.row 0) ∧ H' = [(0, .row 3 8 1 (Lib.compact l).length (Go.Vx.encI (Lib.compact l)))]) := by
  intro e w vs hlen hargs hH hG
  simp only [Go.Vx.RepSVs, Go.Vx.RepSV] at hargs
  obtain ⟨v, s, rfl, ⟨A, n, c, rfl, hm⟩, rfl⟩ := hargs
  obtain ⟨A', c', xs, hm', hrow, hxs, hlb⟩ := hH.ob 0 _ rfl
  rw [hm] at hm'; injection hm' with hm'; injection hm' with e1 e2 e3
  subst e1; subst e2; subst e3
  have hx := repI_flat hxs
  have hcl : (Lib.compact l).length ≤ l.length := by
    unfold Lib.compact Lib.compactUpTo
    rw [List.length_map]
    exact Nat.le_trans (List.length_filter_le _ _) (by simp)
  obtain ⟨n', hn, ⟨hv, hz⟩ | ⟨g, o, cap, cur, hv, hg, hc1, hc2, hsz, htk⟩⟩ := hrow
  · simp only at hv hn
    injection hv with h1 h2 h3
    subst h1; subst h3
    have hl0 : l = [] := List.eq_nil_of_length_eq_zero h2
    subst hl0
    refine (Any.slices_Compact_int_empty compI none 0 w).mono ?_
    rintro en w' ⟨rfl, rfl⟩
    refine ⟨.ret (.row 0), _, e, ⟨rfl, rfl⟩, ⟨_, rfl, by simp only [Go.Vx.RepSV]; exact ⟨_, _, _, rfl, hm⟩⟩, ?_⟩
    exact ⟨hH, rfl, Go.Vc.Only.refl _ _, trivial, fun _ _ h _ => h, fun _ h => h, fun _ h => .inl h, fun i hi => by
      have : i = 0 := by
        unfold Go.Vx.has at hi
        simp only [Go.Vc.lk] at hi
        split at hi
        · rename_i e1; exact (Go.Vc.nbeq.1 e1).symm
        · cases hi
      omega, fun i k hi hk => .inl ⟨0, by rfl, by
        have : i = 0 := by
          unfold Go.Vx.has at hi
          simp only [Go.Vc.lk] at hi
          split at hi
          · rename_i e1; exact (Go.Vc.nbeq.1 e1).symm
          · cases hi
        subst this; exact hk⟩⟩
  · simp only at hv hg htk hn hsz
    injection hv with h1 h2 h3
    subst h1; subst h3
    have hnl : n' = l.length := h2.symm
    subst hnl
    rw [Nat.mul_one, hx] at htk
    have hlt := (Array.getElem?_eq_some_iff.1 hg).1
    have hl' := hl
    simp only [Go.Vx.LB] at hl'
    refine (Any.slices_Compact_int compI g o c l w (holdsI hg htk) (by omega) hc1).mono ?_
    rintro en w' ⟨rfl, q, rfl⟩
    have hgrow : ∀ d : Array Int, putRow (Value.int .i64) (Sort.ahead w q) g o d = grow (putRow (Value.int .i64) (Sort.ahead w q) g o d) #[] := fun d => by unfold grow; rw [Array.append_empty]
    rw [hgrow]
    refine ⟨.ret (.row 0), _, _, ⟨rfl, rfl⟩, ⟨_, rfl, by simp only [Go.Vx.RepSV]; exact ⟨_, _, _, rfl, rfl⟩⟩, row_left (l := l) hlen hm hH hg (grownBy_putI _) (heap_putI _ hg) (putCells_len _ _ _) rfl (Nat.le_trans hcl hc1) hc2 hsz ?_ (Nat.le_trans (Nat.mul_le_mul_right _ hcl) hl)⟩
    have := putCells_cut o (Lib.compact l).length (Lib.compact l ++ List.replicate (l.length - (Lib.compact l).length) 0).toArray cur (by simp; omega) (by simp)
    rw [this]
    simp
end Go.Proofs.YtcjkikadolnfgaaGreat
/- FreeTypes. -/
namespace Go.Proofs.YtcjkikadolnfgaaGreat
open Go.Vx Go.Vc Go.RowKit
def freeS (t : TG) : List Int := Go.Lib.compact (srtI (frG t []))
theorem freeS_len (t : TG) : (freeS t).length ≤ szG t := by
  unfold freeS
  have h1 : (Go.Lib.compact (srtI (frG t []))).length ≤ (srtI (frG t [])).length := by
    unfold Go.Lib.compact Go.Lib.compactUpTo
    rw [List.length_map]
    exact Nat.le_trans (List.length_filter_le _ _) (by simp)
  have h2 : (srtI (frG t [])).length = (frG t []).length := by unfold srtI; simp
  have h3 := frG_len t []
  omega
theorem weak_T {N n0 : Nat} {b : Bs G0 n0} {T : Vx.Tl} {H : Hp} {n : Nat} (t : Nat) (y : Vx.SV) {x : Vx.SV} (ht : lk T t = some x) (hl : lowB n y = true) (hxy : ∀ (e : Env) (w : World) (v : Value), RepSV e w x v → RepSV e w y v) : Weak b N ⟨T, H, n⟩ ⟨(t, y) :: T, H, n⟩ := by
  intro e a w h
  refine ⟨e, fun _ h => h, h.sz, h.df, h.len, fun t' z hx => ?_, h.hp, h.below, h.dr, h.mine, h.frm, h.pre, h.gl⟩
  simp only [lk] at hx
  split at hx
  · rename_i e'
    obtain rfl := nbeq.1 e'
    injection hx with hx; subst hx
    exact hxy _ _ _ (h.tm _ _ ht)
  · exact h.tm _ _ hx
theorem nl_dI (e : Env) (w : World) (v : Value) (h : RepSV e w .nl v) : RepSV e w (.d (dI [])) v := by
  simp only [RepSV] at h ⊢
  subst h
  unfold dI slD ebn
  simp only [RepD, Vx.encI, List.length_nil]
  exact ⟨none, 0, rfl, Nat.le_refl _, by simp, fun h => absurd rfl h, by simp [RepC]⟩
theorem wtyp_nl (t : TG) (h1 : ([] : List Int).length + szG t < 1099511627776) (h2 : ([] : List Int).length + szG t < 8796093022208) : Tri Tryz.prog G0 68 2 0 [.own 0 0, .d (dG t), .nl] (wkr .nl []) (wkrPost .nl ([] ++ frG t [])) := by
  intro e w vs hlen hargs hH hG
  refine wtyp_tri t [] [] h1 h2 e w vs hlen ?_ hH hG
  simp only [RepSVs] at hargs ⊢
  obtain ⟨v, s, rfl, a1, v2, s2, rfl, a2, v3, s3, rfl, a3, rfl⟩ := hargs
  exact ⟨v, _, rfl, a1, v2, _, rfl, a2, v3, _, rfl, nl_dI _ _ _ a3, rfl⟩
theorem freeT_fn (t : TG) (h : szG t < 1099511627776) : FnR Tryz.prog G0 33 [dG t] (dI (freeS t)) := by
  have hl := frG_len t []
  have h2 : (srtI (frG t [])).length = (frG t []).length := by unfold srtI; simp
  refine fnQ_of_vc txok mixed [] Tryz.func33 rfl rfl (by simp) fun b => ?_
  conv => whnf
  refine weakC _ (weak_nlC 1 0 3 8 1 rfl rfl) ?_
  refine callT [1, 2] (wtyp_nl t (by simpa using h) (by simp; omega)) gf68 rfl rfl ⟨rfl, rfl, trivial⟩ rfl ?_
  rintro o' H' ⟨rfl, rfl⟩
  conv => whnf
  rw [List.nil_append]
  refine callT [1, 2] (sort_tri2 (frG t []) (by simp only [LB]; omega)) gf69 rfl rfl ⟨rfl, rfl, trivial⟩ rfl ?_
  rintro o' H' ⟨rfl, rfl⟩
  conv => whnf
  rw [← h2]
  refine callT [2] (comp_tri (srtI (frG t [])) (by simp only [LB]; omega)) gf70 rfl rfl ⟨rfl, trivial⟩ rfl ?_
  rintro o' H' ⟨rfl, rfl⟩
  conv => whnf
  try exact rfl
end Go.Proofs.YtcjkikadolnfgaaGreat


/- put, renamed, Put. -/
set_option linter.unusedSimpArgs false
set_option linter.unusedVariables false
namespace Go.Proofs.YtcjkikadolnfgaaGreat
open Go.Vx Go.Vc Go.RowKit
def mixF (g : TG → TG) (l : List TG) (i : Nat) : List TG := (l.take i).map g ++ l.drop i
theorem mixF_len (g : TG → TG) (l : List TG) (i : Nat) : (mixF g l i).length = l.length := by
  simp [mixF]; omega
theorem mixF_get {g : TG → TG} {l : List TG} {i : Nat} (h : i < l.length) (h' : i < (mixF g l i).length) : (mixF g l i)[i] = l[i] := by
  simp only [mixF]
  rw [List.getElem_append_right (by simp; omega)]
  simp [Nat.min_eq_left (Nat.le_of_lt h)]
theorem mixF_set {g : TG → TG} {l : List TG} {i : Nat} (h : i < l.length) : (mixF g l i).set i (g l[i]) = mixF g l (i + 1) := by
  simp only [mixF]
  rw [List.set_append_right _ _ (by simp; omega)]
  simp only [List.length_map, List.length_take, Nat.min_eq_left (Nat.le_of_lt h), Nat.sub_self]
  rw [List.drop_eq_getElem_cons h, List.set_cons_zero, List.take_succ_eq_append_getElem h, List.map_append, List.append_assoc]
  rfl
theorem mixF_zero (g : TG → TG) (l : List TG) : mixF g l 0 = l := by simp [mixF]
theorem mixF_all (g : TG → TG) (l : List TG) : mixF g l l.length = l.map g := by simp [mixF]
theorem encGs_set (l : List TG) (i : Nat) (hi : i < l.length) (x : TG) : ovl (encGs l) (i * 4) (encG x) = encGs (l.set i x) := by
  rw [encGs_eq, encGs_eq]; exact fl_set encG_len l i hi x
def varG (n : Int) : TG := .mk 6 n [] []
def ownS (l : List TG) : List Int := l.flatMap freeS
theorem ownS_take {l : List TG} {i : Nat} (h : i < l.length) : ownS (l.take (i + 1)) = ownS (l.take i) ++ freeS l[i] := by
  unfold ownS
  rw [List.take_succ_eq_append_getElem h, List.flatMap_append]; simp
theorem ownS_len : ∀ l : List TG, (ownS l).length ≤ szGs l
  | [] => by simp [ownS, szGs]
  | t :: r => by
    have h1 := freeS_len t
    have h2 := ownS_len r
    unfold ownS at h2 ⊢
    rw [List.flatMap_cons, List.length_append, szGs]; omega
def freshN (fr : List Int) (l : List TG) (x n : Int) : Int := (mex [fr, ownS l, [x, n]].flatten : Nat)
def putF : Nat → TG → Int → TG → List Int → TG
  | 0, t, _, _, _ => t
  | f + 1, t, x, y, fr =>
    if t.k = 6 ∧ t.n = x then y
    else if bndG t.k = true ∧ t.n = x then t
    else if bndG t.k = true ∧ t.n ∈ fr ∧ 0 < t.kids.length then
      .mk t.k (freshN fr t.kids x t.n) t.ls ((t.kids.map fun u => putF f u t.n (varG (freshN fr t.kids x t.n)) [freshN fr t.kids x t.n]).map fun u => putF f u x y fr)
    else .mk t.k t.n t.ls (t.kids.map fun u => putF f u x y fr)
def renF (f : Nat) (t : TG) (x : Int) (fr : List Int) : TG := .mk t.k (freshN fr t.kids x t.n) t.ls (t.kids.map fun u => putF f u t.n (varG (freshN fr t.kids x t.n)) [freshN fr t.kids x t.n])
theorem szG_eq (t : TG) : szG t = szGs t.kids + 1 := by cases t; simp only [szG, g_kids]
theorem szGs_map_le {g : TG → TG} : ∀ {l : List TG}, (∀ t ∈ l, szG (g t) ≤ szG t) → szGs (l.map g) ≤ szGs l
  | [], _ => Nat.le_refl _
  | t :: r, h => by
    rw [List.map_cons, szGs, szGs]
    exact Nat.add_le_add (h t (by simp)) (szGs_map_le fun u hu => h u (by simp [hu]))
theorem sz_put : ∀ (f : Nat) (t : TG) (x : Int) (y : TG) (fr : List Int), szG y = 1 → szG (putF f t x y fr) ≤ szG t
  | 0, _, _, _, _, _ => Nat.le_refl _
  | f + 1, t, x, y, fr, hy => by
    unfold putF
    have hv : ∀ n, szG (varG n) = 1 := fun n => by simp [varG, szG, szGs]
    have ht := szG_eq t
    repeat' split
    · omega
    · exact Nat.le_refl _
    · rw [szG, ht]
      exact Nat.succ_le_succ (Nat.le_trans (szGs_map_le fun u _ => sz_put f u x y fr hy) (szGs_map_le fun u _ => sz_put f u _ _ _ (hv _)))
    · rw [szG, ht]
      exact Nat.succ_le_succ (szGs_map_le fun u _ => sz_put f u x y fr hy)
theorem freeS_var (n : Int) : freeS (varG n) = [n] := by
  unfold freeS varG
  have h : frG (.mk 6 n [] []) [] = [n] := by
    rw [frG_mk, if_pos ⟨rfl, by show (-1 : Int) < 0; decide⟩]; rfl
  rw [h]
  unfold srtI
  rw [List.mergeSort_singleton]
  rfl
def PutOk (f : Nat) : Prop := ∀ t, szG t ≤ f → ∀ x y fr, FnR Tryz.prog G0 102 [dG t, .int .i64 x, dG y, dI fr] (dG (putF f t x y fr))
theorem putT_fn {f : Nat} (hp : PutOk f) (t : TG) (ht : szG t ≤ f) (x : Int) (y : TG) (hy : szG y < 1099511627776) : FnR Tryz.prog G0 61 [dG t, .int .i64 x, dG y] (dG (putF f t x y (freeS y))) := by
  refine fnQ_of_vc txok mixed [(1, .take 0 (.pure 1 (.take 2 (.take 3 (.run 4 (.fin 5 (.fin 6 .done)))))))] Tryz.func61 rfl rfl (by simp) fun b => ?_
  conv => whnf
  refine And.intro (by kernel_rfl) ?_
  conv => whnf
  refine callF (freeT_fn y hy) gf33 rfl rfl ?_
  conv => whnf
  refine callF (hp t ht x y (freeS y)) gf102 rfl rfl ?_
  conv => whnf
  rfl
theorem ren_fn {f : Nat} (hp : PutOk f) (t : TG) (ht : szGs t.kids ≤ f) (hz : szGs t.kids < 1099511627776) (x : Int) (fr : List Int) : FnR Tryz.prog G0 148 [dG t, .int .i64 x, dI fr] (dG (renF f t x fr)) := by
  obtain ⟨k, n, ls, ks⟩ := t
  simp only [g_kids] at ht hz
  refine fnQ_sz fun hs => ?_
  have hl := (szOk_G (t := .mk k n ls ks) hs.1).1
  have hfr := (szOk_sl hs.2.2.1).1
  simp only [g_kids, LB] at hl hfr
  refine fnQ_of_vc txok mixed [(12, .pure 0 (.take 1 (.pure 2 (.take 3 (.pure 4 (.take 5 (.pure 6 (.pure 7 (.run 8 (.pure 9 (.fin 10 .done)))))))))))] Tryz.func148 rfl rfl (by simp) fun b => ?_
  conv => whnf
  simp only [g_kids]
  have hown : ∀ i, (ownS (ks.take i)).length < 1099511627776 := fun i => by
    have := ownS_len (ks.take i)
    have := szGs_le ks i
    omega
  refine loopH (fun i : Nat => i ≤ ks.length) (fun i => ks.length - i) (fun i => [(16, .d (.int .i64 i)), (7, .row 2)]) (fun i => [(0, .blk 28 [.d (.int .i64 k), .d (.int .i64 n), .d (dL ls), .d (dGs ks)]), (1, .blk 28 [.d (.int .i64 0), .d (.int .i64 0), .nl, .nl]), (2, .row 3 8 1 (ownS (ks.take i)).length (Vx.encI (ownS (ks.take i))))]) 3 0 (by omega) ((weak_nlT 7 3 8 1 rfl).trans (weak_of rfl (by repeat ((conv => whnf); first | exact trivial | refine And.intro rfl ?_ | refine And.intro (incD (by omega)) ?_)) (by repeat ((conv => whnf); first | exact trivial | refine And.intro rfl ?_ | refine And.intro (incD (by omega)) ?_)))) ?_
  intro i hi
  conv => whnf
  refine And.intro (fun hb => ?_) (fun hb => ?_)
  · have hb := of_decide_eq_true hb
    have hil : i < ks.length := by omega
    conv => whnf
    refine IdxC.encGs i hil rfl ?_
    conv => whnf
    have hzi : szG ks[i] < 1099511627776 := by have := szG_mem (List.getElem_mem hil); omega
    refine callF (freeT_fn ks[i] hzi) gf33 rfl rfl ?_
    conv => whnf
    have ho := hown (i + 1)
    rw [ownS_take hil] at ho
    refine appR (i := 2) (sz := 1) (n := (ownS (ks.take i)).length) (m := (freeS ks[i]).length) (xs := Vx.encI (ownS (ks.take i))) (ys := Vx.encI (freeS ks[i])) txok (fun _ => false) (ownS (ks.take (i + 1))).length (Vx.encI (ownS (ks.take (i + 1)))) (by exact rfl) (by exact rfl) (by exact rfl) (by kernel_rfl) (by rw [encI_len, Nat.mul_one]) (encI_scal _) (by rw [ownS_take hil, List.length_append]) (by rw [ownS_take hil]; simp [Vx.encI]) (by rw [ownS_take hil]; simp only [LB]; omega) ?_
    conv => whnf
    exact again (i + 1) (by omega) (by omega) (weak_of rfl (by repeat ((conv => whnf); first | exact trivial | refine And.intro rfl ?_ | refine And.intro (incD (by omega)) ?_)) (by repeat ((conv => whnf); first | exact trivial | refine And.intro rfl ?_ | refine And.intro (incD (by omega)) ?_)))
  · have hb := of_decide_eq_false hb
    have hi : i = ks.length := by omega
    subst hi
    rw [List.take_length]
    conv => whnf
    refine pubC (fun i => Nat.ble 2 i) ?_
    refine effC txok ?_
    conv => whnf
    refine callV (fresh_fn [fr, ownS ks, [x, n]] (by have := hown ks.length; rw [List.take_length] at this; simp; omega)) gf176 rfl rfl rfl rfl ?_
    conv => whnf
    refine callT [] (clone_tri ks) gf149 rfl rfl trivial rfl ?_
    rintro o' H' ⟨rfl, rfl⟩
    conv => whnf
    generalize hm : mex [fr, ownS ks, [x, n]].flatten = m
    have hput : ∀ u ∈ ks, FnR Tryz.prog G0 61 [dG u, .int .i64 n, dG (varG (m : Nat))] (dG (putF f u n (varG (m : Nat)) [(m : Int)])) := fun u hu => by
      have h1 := putT_fn hp u (by have := szG_mem hu; omega) n (varG (m : Nat)) (by simp [varG, szG, szGs])
      rwa [freeS_var] at h1
    have hgo : renF f (.mk k n ls ks) x fr = .mk k (m : Nat) ls (ks.map fun u => putF f u n (varG (m : Nat)) [(m : Int)]) := by
      subst hm; rfl
    rw [hgo]
    generalize hg : (fun u => putF f u n (varG (m : Nat)) [(m : Int)]) = g
    have hput : ∀ u ∈ ks, FnR Tryz.prog G0 61 [dG u, .int .i64 n, dG (varG (m : Nat))] (dG (g u)) := fun u hu => by
      subst hg; exact hput u hu
    refine loopH (fun i : Nat => i ≤ ks.length) (fun i => ks.length - i) (fun i => [(40, .d (.int .i64 i))]) (fun i => [(0, .blk 28 [.d (.int .i64 k), .d (.int .i64 n), .d (dL ls), .row 5]), (1, .blk 28 [.d (.int .i64 0), .d (.int .i64 0), .nl, .nl]), (5, .row 28 64 4 ks.length (encGs (mixF g ks i)))]) 6 0 (by omega) ?_ ?_
    · rw [mixF_zero]
      exact weak_of rfl (by repeat ((conv => whnf); first | exact trivial | refine And.intro rfl ?_ | refine And.intro (incD (by omega)) ?_)) (by repeat ((conv => whnf); first | exact trivial | refine And.intro rfl ?_ | refine And.intro (incD (by omega)) ?_))
    intro i hi
    conv => whnf
    refine And.intro (fun hb => ?_) (fun hb => ?_)
    · have hb := of_decide_eq_true hb
      have hil : i < ks.length := by omega
      have hml := mixF_len g ks i
      conv => whnf
      refine ⟨i, rfl, hil, ?_⟩
      conv => whnf
      refine ⟨encG ks[i], by rw [← mixF_get (g := g) hil (by omega)]; exact encGs_at _ i (by omega), rfl, ?_⟩
      conv => whnf
      refine And.intro (by kernel_rfl) ?_
      conv => whnf
      refine callF (hput ks[i] (by simp)) gf61 rfl rfl ?_
      conv => whnf
      refine ⟨i, rfl, hil, ?_⟩
      conv => whnf
      refine ⟨encGs (mixF g ks (i + 1)), ?_, ?_, ?_⟩
      · show i * 4 + 4 ≤ (encGs (mixF g ks i)).length
        rw [encGs_len, hml]; omega
      · rw [← mixF_set hil]; exact encGs_set _ i (by omega) _
      conv => whnf
      exact again (i + 1) (by omega) (by omega) (weak_of rfl (by repeat ((conv => whnf); first | exact trivial | refine And.intro rfl ?_ | refine And.intro (incD (by omega)) ?_)) (by repeat ((conv => whnf); first | exact trivial | refine And.intro rfl ?_ | refine And.intro (incD (by omega)) ?_)))
    · have hb := of_decide_eq_false hb
      have hi : i = ks.length := by omega
      subst hi
      rw [mixF_all]
      conv => whnf
      simp only [dG, encG, g_k, g_n, g_ls, g_kids, List.length_map]
end Go.Proofs.YtcjkikadolnfgaaGreat


/- put, Put. -/
set_option linter.unusedSimpArgs false
set_option linter.unusedVariables false
namespace Go.Proofs.YtcjkikadolnfgaaGreat
open Go.Vx Go.Vc Go.RowKit
theorem putF_mk (f : Nat) (k n : Int) (ls : List ByteArray) (l : List TG) (x : Int) (y : TG) (fr : List Int) : putF (f + 1) (.mk k n ls l) x y fr =
    if k = 6 ∧ n = x then y
    else if bndG k = true ∧ n = x then .mk k n ls l
    else if bndG k = true ∧ n ∈ fr ∧ 0 < l.length then
      .mk k (freshN fr l x n) ls ((l.map fun u => putF f u n (varG (freshN fr l x n)) [freshN fr l x n]).map fun u => putF f u x y fr)
    else .mk k n ls (l.map fun u => putF f u x y fr) := rfl
abbrev pH (t y : TG) : Hp := [(0, .blk 28 [.d (.int .i64 t.k), .d (.int .i64 t.n), .d (dL t.ls), .d (dGs t.kids)]), (1, .blk 28 [.d (.int .i64 y.k), .d (.int .i64 y.n), .d (dL y.ls), .d (dGs y.kids)]), (2, .blk 28 [.d (.int .i64 0), .d (.int .i64 0), .nl, .nl])]
theorem put_fn : ∀ f, f < 1099511627776 → PutOk f := by
  intro f
  induction f with
  | zero =>
    intro _ t ht
    have := szG_pos t
    omega
  | succ f ih =>
    intro hf t ht x y fr
    have ih := ih (by omega)
    obtain ⟨k, n, ls, ks⟩ := t
    have ht : szGs ks ≤ f := by simp only [szG] at ht; omega
    refine fnQ_sz fun hs => ?_
    have hl := (szOk_G (t := .mk k n ls ks) hs.1).1
    simp only [g_kids, LB] at hl
    refine fnQ_of_vc txok mixed ((100003, .done) :: (100008, .done) :: [(12, .pure 0 (.take 1 (.pure 2 (.take 3 (.pure 4 (.take 5 (.pure 6 (.run 7 (.pure 8 (.fin 9 .done))))))))))]) Tryz.func102 rfl rfl (by simp) fun b => ?_
    conv => whnf
    refine CutC.mk (fun st => ¬ (k = 6 ∧ n = x) ∧ st = ⟨[(1, .d (.int .i64 x)), (3, .d (dI fr)), (4, .own 0 0), (6, .own 1 0), (8, .own 2 0)], pH (.mk k n ls ks) y, 3⟩) ?_ ?_
    · conv => whnf
      simp only [g_k, g_n]
      refine And.intro (fun h1 => ?_) (fun h1 => ?_)
      · have h1 : k = 6 := eq_of_beq h1
        conv => whnf
        refine And.intro (fun h2 => ?_) (fun h2 => ?_)
        · have h2 : n = x := eq_of_beq h2
          conv => whnf
          rw [putF_mk, if_pos ⟨h1, h2⟩]
          rfl
        · have h2 : n ≠ x := by simpa using h2
          conv => whnf
          exact ⟨_, ⟨fun h => h2 h.2, rfl⟩, weak_of rfl (by repeat ((conv => whnf); first | exact trivial | refine And.intro rfl ?_ | refine And.intro (incD (by omega)) ?_)) (by repeat ((conv => whnf); first | exact trivial | refine And.intro rfl ?_ | refine And.intro (incD (by omega)) ?_))⟩
      · have h1 : k ≠ 6 := by simpa using h1
        conv => whnf
        exact ⟨_, ⟨fun h => h1 h.1, rfl⟩, weak_of rfl (by repeat ((conv => whnf); first | exact trivial | refine And.intro rfl ?_ | refine And.intro (incD (by omega)) ?_)) (by repeat ((conv => whnf); first | exact trivial | refine And.intro rfl ?_ | refine And.intro (incD (by omega)) ?_))⟩
    rintro st' ⟨hno, rfl⟩
    conv => whnf
    refine CutC.mk (fun st => ∃ n' l', l'.length = ks.length ∧ szGs l' ≤ f ∧ putF (f + 1) (.mk k n ls ks) x y fr = .mk k n' ls (l'.map fun u => putF f u x y fr) ∧ st = ⟨[(1, .d (.int .i64 x)), (3, .d (dI fr)), (4, .own 0 0), (6, .own 1 0), (8, .own 2 0)], pH (.mk k n' ls l') y, 3⟩) ?_ ?_
    · conv => whnf
      refine callF (binder_fn (.mk k n ls ks)) gf85 rfl rfl ?_
      simp only [g_k, g_n, g_ls, g_kids]
      conv => whnf
      refine And.intro (fun h1 => ?_) (fun h1 => ?_)
      · conv => whnf
        refine And.intro (fun h2 => ?_) (fun h2 => ?_)
        · have h2 : n = x := eq_of_beq h2
          conv => whnf
          rw [putF_mk, if_neg hno, if_pos ⟨h1, h2⟩]
          rfl
        · have h2 : n ≠ x := by simpa only [g_n, beq_eq_false_iff_ne, ne_eq] using h2
          conv => whnf
          refine callF (contains_fn fr n) gf35 rfl rfl ?_
          conv => whnf
          refine And.intro (fun h3 => ?_) (fun h3 => ?_)
          · have h3 : n ∈ fr := of_decide_eq_true h3
            conv => whnf
            refine And.intro (fun h4 => ?_) (fun h4 => ?_)
            · have h4 := of_decide_eq_true h4; simp only [g_kids] at h4
              conv => whnf
              refine callF (ren_fn ih (.mk k n ls ks) ht (by rw [g_kids]; omega) x fr) gf148 rfl rfl ?_
              conv => whnf
              refine ⟨_, ⟨freshN fr ks x n, ks.map fun u => putF f u n (varG (freshN fr ks x n)) [freshN fr ks x n], by simp, ?_, ?_, rfl⟩, weak_of rfl (by repeat ((conv => whnf); first | exact trivial | refine And.intro rfl ?_ | refine And.intro (incD (by omega)) ?_)) (by repeat ((conv => whnf); first | exact trivial | refine And.intro rfl ?_ | refine And.intro (incD (by omega)) ?_))⟩
              · exact Nat.le_trans (szGs_map_le fun u _ => sz_put f u _ _ _ (by simp [varG, szG, szGs])) ht
              · rw [putF_mk, if_neg hno, if_neg (fun h => h2 h.2), if_pos ⟨h1, h3, by omega⟩]
            · have h4 := of_decide_eq_false h4; simp only [g_kids] at h4
              conv => whnf
              refine ⟨_, ⟨n, ks, rfl, ht, ?_, rfl⟩, weak_of rfl (by repeat ((conv => whnf); first | exact trivial | refine And.intro rfl ?_ | refine And.intro (incD (by omega)) ?_)) (by repeat ((conv => whnf); first | exact trivial | refine And.intro rfl ?_ | refine And.intro (incD (by omega)) ?_))⟩
              rw [putF_mk, if_neg hno, if_neg (fun h => h2 h.2), if_neg (fun h => by have := h.2.2; omega)]
          · have h3 : n ∉ fr := of_decide_eq_false h3
            conv => whnf
            refine ⟨_, ⟨n, ks, rfl, ht, ?_, rfl⟩, weak_of rfl (by repeat ((conv => whnf); first | exact trivial | refine And.intro rfl ?_ | refine And.intro (incD (by omega)) ?_)) (by repeat ((conv => whnf); first | exact trivial | refine And.intro rfl ?_ | refine And.intro (incD (by omega)) ?_))⟩
            rw [putF_mk, if_neg hno, if_neg (fun h => h2 h.2), if_neg (fun h => h3 h.2.1)]
      · conv => whnf
        refine ⟨_, ⟨n, ks, rfl, ht, ?_, rfl⟩, weak_of rfl (by repeat ((conv => whnf); first | exact trivial | refine And.intro rfl ?_ | refine And.intro (incD (by omega)) ?_)) (by repeat ((conv => whnf); first | exact trivial | refine And.intro rfl ?_ | refine And.intro (incD (by omega)) ?_))⟩
        rw [putF_mk, if_neg hno, if_neg (fun h => by rw [h.1] at h1; cases h1), if_neg (fun h => by rw [h.1] at h1; cases h1)]
    rintro st' ⟨n', l', hl', hlf, hres, rfl⟩
    rw [hres]
    clear hres hno
    conv => whnf
    simp only [g_k, g_n, g_ls, g_kids]
    refine callT [] (clone_tri l') gf149 rfl rfl trivial rfl ?_
    rintro o' H' ⟨rfl, rfl⟩
    conv => whnf
    have hput : ∀ u ∈ l', FnR Tryz.prog G0 102 [dG u, .int .i64 x, dG y, dI fr] (dG (putF f u x y fr)) := fun u hu => ih u (by have := szG_mem hu; omega) x y fr
    generalize hg : (fun u => putF f u x y fr) = g
    have hput : ∀ u ∈ l', FnR Tryz.prog G0 102 [dG u, .int .i64 x, dG y, dI fr] (dG (g u)) := fun u hu => by
      subst hg; exact hput u hu
    refine loopH (fun i : Nat => i ≤ l'.length) (fun i => l'.length - i) (fun i => [(49, .d (.int .i64 i))]) (fun i => [(0, .blk 28 [.d (.int .i64 k), .d (.int .i64 n'), .d (dL ls), .row 3]), (1, .blk 28 [.d (.int .i64 y.k), .d (.int .i64 y.n), .d (dL y.ls), .d (dGs y.kids)]), (2, .blk 28 [.d (.int .i64 0), .d (.int .i64 0), .nl, .nl]), (3, .row 28 64 4 l'.length (encGs (mixF g l' i)))]) 4 0 (by omega) ?_ ?_
    · rw [mixF_zero]
      exact weak_of rfl (by repeat ((conv => whnf); first | exact trivial | refine And.intro rfl ?_ | refine And.intro (incD (by omega)) ?_)) (by repeat ((conv => whnf); first | exact trivial | refine And.intro rfl ?_ | refine And.intro (incD (by omega)) ?_))
    intro i hi
    conv => whnf
    refine And.intro (fun hb => ?_) (fun hb => ?_)
    · have hb := of_decide_eq_true hb
      have hil : i < l'.length := by omega
      have hml := mixF_len g l' i
      conv => whnf
      refine ⟨i, rfl, hil, ?_⟩
      conv => whnf
      refine ⟨encG l'[i], by rw [← mixF_get (g := g) hil (by omega)]; exact encGs_at _ i (by omega), rfl, ?_⟩
      conv => whnf
      refine And.intro (by kernel_rfl) ?_
      conv => whnf
      refine callF (hput l'[i] (by simp)) gf102 rfl rfl ?_
      conv => whnf
      refine ⟨i, rfl, hil, ?_⟩
      conv => whnf
      refine ⟨encGs (mixF g l' (i + 1)), ?_, ?_, ?_⟩
      · show i * 4 + 4 ≤ (encGs (mixF g l' i)).length
        rw [encGs_len, hml]; omega
      · rw [← mixF_set hil]; exact encGs_set _ i (by omega) _
      conv => whnf
      exact again (i + 1) (by omega) (by omega) (weak_of rfl (by repeat ((conv => whnf); first | exact trivial | refine And.intro rfl ?_ | refine And.intro (incD (by omega)) ?_)) (by repeat ((conv => whnf); first | exact trivial | refine And.intro rfl ?_ | refine And.intro (incD (by omega)) ?_)))
    · have hb := of_decide_eq_false hb
      have hi : i = l'.length := by omega
      subst hi
      rw [mixF_all]
      conv => whnf
      simp only [dG, encG, g_k, g_n, g_ls, g_kids, List.length_map]
theorem putTop_fn (t : TG) (ht : szG t < 1099511627776) (x : Int) (y : TG) (hy : szG y < 1099511627776) : FnR Tryz.prog G0 61 [dG t, .int .i64 x, dG y] (dG (putF (szG t) t x y (freeS y))) :=
  putT_fn (put_fn _ ht) t (Nat.le_refl _) x y hy
end Go.Proofs.YtcjkikadolnfgaaGreat


/- What stands free, and what putting does to it. -/
set_option linter.unusedSimpArgs false
set_option linter.unusedVariables false
namespace Go.Proofs.YtcjkikadolnfgaaGreat
theorem lastI_neg (s : List Int) (n : Int) : lastI s n < 0 ↔ n ∉ s := by
  unfold lastI
  constructor
  · intro h hn
    obtain ⟨i, hi, rfl⟩ := List.getElem_of_mem hn
    have hmem : (((i : Nat) : Int), s[i]) ∈ prI s := by
      unfold prI
      rw [List.mem_map]
      refine ⟨s.length - 1 - i, by rw [List.mem_range]; omega, ?_⟩
      have h1 : s.length - 1 - (s.length - 1 - i) = i := by omega
      rw [h1]
      simp [ixI, List.getD, hi]
    have h2 : ((prI s).find? fun p => p.2 == s[i]).isSome = true := by
      rw [List.find?_isSome]
      exact ⟨_, hmem, by simp⟩
    obtain ⟨p, hp⟩ := Option.isSome_iff_exists.1 h2
    rw [hp] at h
    have := List.mem_of_find?_eq_some hp
    unfold prI at this
    rw [List.mem_map] at this
    obtain ⟨j, _, rfl⟩ := this
    simp at h
    omega
  · intro hn
    have h2 : (prI s).find? (fun p => p.2 == n) = none := by
      rw [List.find?_eq_none]
      intro p hp
      unfold prI at hp
      rw [List.mem_map] at hp
      obtain ⟨j, hj, rfl⟩ := hp
      rw [List.mem_range] at hj
      have h3 : s.length - 1 - j < s.length := by omega
      simp only [ixI, List.getD, List.getElem?_eq_getElem h3, Option.getD_some, beq_iff_eq]
      intro e
      exact hn (e ▸ List.getElem_mem h3)
    rw [h2]
    decide
theorem lastI_end (s : List Int) (n : Int) : lastI (s ++ [n]) n = s.length := by
  unfold lastI prI
  have h1 : (s ++ [n]).length = s.length + 1 := by simp
  rw [h1, List.range_succ_eq_map, List.map_cons, List.find?_cons]
  have h2 : ixI (s ++ [n]) (s.length + 1 - 1 - 0) = n := by simp [ixI, List.getD]
  rw [h2]
  simp
theorem lastI_snoc (s : List Int) {n z : Int} (h : z ≠ n) : lastI (s ++ [n]) z = lastI s z := by
  unfold lastI prI
  have h1 : (s ++ [n]).length = s.length + 1 := by simp
  rw [h1, List.range_succ_eq_map, List.map_cons, List.find?_cons]
  have h2 : ixI (s ++ [n]) (s.length + 1 - 1 - 0) = n := by simp [ixI, List.getD]
  rw [h2]
  have h3 : (n == z) = false := by simpa using Ne.symm h
  simp only [h3]
  rw [List.map_map]
  have h4 : (List.range s.length).map ((fun j => (((s.length + 1 - 1 - j : Nat) : Int), ixI (s ++ [n]) (s.length + 1 - 1 - j))) ∘ Nat.succ) = (List.range s.length).map fun j => (((s.length - 1 - j : Nat) : Int), ixI s (s.length - 1 - j)) := by
    refine List.map_congr_left fun j hj => ?_
    rw [List.mem_range] at hj
    have e : s.length + 1 - 1 - Nat.succ j = s.length - 1 - j := by omega
    simp only [Function.comp, e]
    congr 1
    simp only [ixI, List.getD]
    rw [List.getElem?_append_left (by omega)]
  rw [h4]
theorem mem_compactTo (d : Array Int) (x : Int) : ∀ m, x ∈ Go.Lib.compactUpTo d m ↔ ∃ j, j < m ∧ d[j]! = x
  | 0 => by simp [Go.Lib.compactUpTo]
  | m + 1 => by
    rw [Go.Lib.compactUpTo_succ, List.mem_append, mem_compactTo d x m]
    constructor
    · rintro (⟨j, hj, h⟩ | h)
      · exact ⟨j, by omega, h⟩
      · split at h
        · simp at h; exact ⟨m, by omega, h.symm⟩
        · cases h
    · rintro ⟨j, hj, h⟩
      by_cases hjm : j < m
      · exact .inl ⟨j, hjm, h⟩
      · obtain rfl : j = m := by omega
        by_cases hk : Go.Lib.keeps d j = true
        · right; rw [if_pos hk]; simp [h]
        · left
          have hj0 : 0 < j := by
            rcases Nat.eq_zero_or_pos j with h0 | h0
            · subst h0; exact absurd (Go.Lib.keeps_lt_one d 0 (by omega)) hk
            · exact h0
          have he : d[j]! = d[j - 1]! := by
            by_cases he : d[j]! = d[j - 1]!
            · exact he
            · exact absurd (Go.Lib.keeps_pos he) hk
          exact ⟨j - 1, by omega, by rw [← he]; exact h⟩
theorem mem_compact (l : List Int) (x : Int) : x ∈ Go.Lib.compact l ↔ x ∈ l := by
  unfold Go.Lib.compact
  rw [mem_compactTo]
  constructor
  · rintro ⟨j, hj, rfl⟩
    simp only [List.getElem!_toArray]
    rw [getElem!_pos l j hj]
    exact List.getElem_mem hj
  · intro h
    obtain ⟨i, hi, rfl⟩ := List.getElem_of_mem h
    refine ⟨i, hi, ?_⟩
    simp only [List.getElem!_toArray]
    rw [getElem!_pos l i hi]
theorem mem_freeS (t : TG) (x : Int) : x ∈ freeS t ↔ x ∈ frG t [] := by
  unfold freeS srtI
  rw [mem_compact, List.mem_mergeSort]
theorem mem_ownS (l : List TG) (x : Int) : x ∈ ownS l ↔ ∃ u ∈ l, x ∈ frG u [] := by
  unfold ownS
  rw [List.mem_flatMap]
  simp only [mem_freeS]
theorem mem_frGs (l : List TG) (s : List Int) (n : Int) : n ∈ frGs l s ↔ ∃ u ∈ l, n ∈ frG u s := by
  induction l with
  | nil => simp [frGs]
  | cons t r ih => rw [frGs, List.mem_append, ih]; simp
theorem mem_snocB (k p n : Int) (s : List Int) : n ∉ (if bndG k = true then s ++ [p] else s) ↔ n ∉ s ∧ (bndG k = true → n ≠ p) := by
  split <;> simp_all
theorem mem_frG : ∀ (t : TG) (s : List Int) (n : Int), n ∈ frG t s ↔ n ∈ frG t [] ∧ n ∉ s := by
  refine TG.ind fun k p ls l ih s n => ?_
  have key : ∀ s, n ∈ frG (.mk k p ls l) s ↔ n ∉ s ∧ ((k = 6 ∧ n = p) ∨ ((bndG k = true → n ≠ p) ∧ ∃ u ∈ l, n ∈ frG u [])) := by
    intro s
    rw [frG_mk, List.mem_append, mem_frGs]
    have h1 : (∃ u ∈ l, n ∈ frG u (if bndG k = true then s ++ [p] else s)) ↔ n ∉ s ∧ (bndG k = true → n ≠ p) ∧ ∃ u ∈ l, n ∈ frG u [] := by
      constructor
      · rintro ⟨u, hu, h⟩
        have h := (ih u hu _ n).1 h
        have h2 := (mem_snocB k p n s).1 h.2
        exact ⟨h2.1, h2.2, u, hu, h.1⟩
      · rintro ⟨h2, h3, u, hu, h⟩
        exact ⟨u, hu, (ih u hu _ n).2 ⟨h, (mem_snocB k p n s).2 ⟨h2, h3⟩⟩⟩
    rw [h1]
    have hl := lastI_neg s p
    by_cases h6 : k = 6 ∧ lastI s p < 0
    · rw [if_pos h6]
      have h6 : k = 6 ∧ p ∉ s := ⟨h6.1, hl.1 h6.2⟩
      simp only [List.mem_singleton]
      constructor
      · rintro (rfl | ⟨h2, h3, h4⟩)
        · exact ⟨h6.2, .inl ⟨h6.1, rfl⟩⟩
        · exact ⟨h2, .inr ⟨h3, h4⟩⟩
      · rintro ⟨h2, ⟨_, h3⟩ | ⟨h3, h4⟩⟩
        · exact .inl h3
        · exact .inr ⟨h2, h3, h4⟩
    · rw [if_neg h6]
      constructor
      · rintro (h | ⟨h2, h3, h4⟩)
        · cases h
        · exact ⟨h2, .inr ⟨h3, h4⟩⟩
      · rintro ⟨h2, ⟨h3, rfl⟩ | ⟨h3, h4⟩⟩
        · exact absurd ⟨h3, hl.2 h2⟩ h6
        · exact .inr ⟨h2, h3, h4⟩
  rw [key s, key []]
  simp only [List.not_mem_nil, not_false_eq_true, true_and]
  exact And.comm
theorem fv_mk (k p : Int) (ls : List ByteArray) (l : List TG) (n : Int) : n ∈ frG (.mk k p ls l) [] ↔ (k = 6 ∧ n = p) ∨ ((bndG k = true → n ≠ p) ∧ ∃ u ∈ l, n ∈ frG u []) := by
  rw [frG_mk, List.mem_append, mem_frGs]
  have h1 : (∃ u ∈ l, n ∈ frG u (if bndG k = true then [] ++ [p] else [])) ↔ (bndG k = true → n ≠ p) ∧ ∃ u ∈ l, n ∈ frG u [] := by
    constructor
    · rintro ⟨u, hu, h⟩
      have h := (mem_frG u _ n).1 h
      have h2 := (mem_snocB k p n []).1 h.2
      exact ⟨h2.2, u, hu, h.1⟩
    · rintro ⟨h3, u, hu, h⟩
      exact ⟨u, hu, (mem_frG u _ n).2 ⟨h, (mem_snocB k p n []).2 ⟨by simp, h3⟩⟩⟩
  rw [h1]
  have hl : lastI [] p < 0 := (lastI_neg [] p).2 (by simp)
  simp [hl]
mutual
def okV : TG → Bool
  | .mk k _ ls l => (decide (k ≠ 6) || (l.isEmpty && ls.isEmpty)) && okVs l
def okVs : List TG → Bool
  | [] => true
  | t :: r => okV t && okVs r
end
theorem okVs_iff (l : List TG) : okVs l = true ↔ ∀ u ∈ l, okV u = true := by
  induction l with
  | nil => simp [okVs]
  | cons t r ih => simp [okVs, ih]
theorem okV_mk (k n : Int) (ls : List ByteArray) (l : List TG) : okV (.mk k n ls l) = true ↔ (k = 6 → l = [] ∧ ls = []) ∧ ∀ u ∈ l, okV u = true := by
  rw [okV, Bool.and_eq_true, okVs_iff, Bool.or_eq_true, decide_eq_true_eq, Bool.and_eq_true, List.isEmpty_iff, List.isEmpty_iff]
  by_cases h : k = 6 <;> simp [h]
theorem okV_var (m : Int) : okV (varG m) = true := rfl
theorem okV_put : ∀ (f : Nat) (t : TG) (x : Int) (y : TG) (fr : List Int), okV y = true → okV t = true → okV (putF f t x y fr) = true
  | 0, t, _, _, _, _, h => h
  | f + 1, .mk k n ls l, x, y, fr, hy, h => by
    rw [putF_mk]
    obtain ⟨h1, h2⟩ := (okV_mk k n ls l).1 h
    split
    · exact hy
    · split
      · exact h
      · split
        · refine (okV_mk _ _ _ _).2 ⟨fun h6 => by rw [(h1 h6).1]; exact ⟨rfl, (h1 h6).2⟩, fun u hu => ?_⟩
          rw [List.mem_map] at hu
          obtain ⟨v, hv, rfl⟩ := hu
          rw [List.mem_map] at hv
          obtain ⟨w, hw, rfl⟩ := hv
          exact okV_put f _ x y fr hy (okV_put f w _ _ _ (okV_var _) (h2 w hw))
        · refine (okV_mk _ _ _ _).2 ⟨fun h6 => by rw [(h1 h6).1]; exact ⟨rfl, (h1 h6).2⟩, fun u hu => ?_⟩
          rw [List.mem_map] at hu
          obtain ⟨v, hv, rfl⟩ := hu
          exact okV_put f v x y fr hy (h2 v hv)
theorem fv_var (m z : Int) : z ∈ frG (varG m) [] ↔ z = m := by
  unfold varG
  rw [fv_mk]
  simp
end Go.Proofs.YtcjkikadolnfgaaGreat


/- Putting: what stands free behind it; the same type, where the number does not stand free. -/
set_option linter.unusedSimpArgs false
set_option linter.unusedVariables false
namespace Go.Proofs.YtcjkikadolnfgaaGreat
theorem fresh_facts (fr : List Int) (l : List TG) (x n : Int) : freshN fr l x n ∉ fr ∧ (∀ u ∈ l, freshN fr l x n ∉ frG u []) ∧ freshN fr l x n ≠ x ∧ freshN fr l x n ≠ n := by
  have h := mex_not [fr, ownS l, [x, n]].flatten
  have h : freshN fr l x n ∉ [fr, ownS l, [x, n]].flatten := h
  simp only [List.flatten_cons, List.flatten_nil, List.append_nil, List.mem_append, List.mem_cons, List.not_mem_nil, or_false, not_or] at h
  obtain ⟨h1, h2, h3, h4⟩ := h
  exact ⟨h1, fun u hu hf => h2 ((mem_ownS l _).2 ⟨u, hu, hf⟩), h3, h4⟩
theorem fv_put : ∀ (f : Nat) (t : TG) (x : Int) (y : TG) (fr : List Int), szG t ≤ f → okV t = true → (∀ z, z ∈ fr ↔ z ∈ frG y []) → ∀ z, z ∈ frG (putF f t x y fr) [] ↔ (z ∈ frG t [] ∧ z ≠ x) ∨ (x ∈ frG t [] ∧ z ∈ frG y [])
  | 0, t, _, _, _, h, _, _, _ => by have := szG_pos t; omega
  | f + 1, .mk k n ls l, x, y, fr, h, hv, hfr, z => by
    have hl : ∀ u ∈ l, szG u ≤ f := fun u hu => by have := szG_mem hu; simp only [szG] at h; omega
    obtain ⟨h1, h2⟩ := (okV_mk k n ls l).1 hv
    have ih : ∀ u ∈ l, ∀ z, z ∈ frG (putF f u x y fr) [] ↔ (z ∈ frG u [] ∧ z ≠ x) ∨ (x ∈ frG u [] ∧ z ∈ frG y []) := fun u hu => fv_put f u x y fr (hl u hu) (h2 u hu) hfr
    rw [putF_mk]
    by_cases c1 : k = 6 ∧ n = x
    · rw [if_pos c1]
      obtain ⟨rfl, rfl⟩ := c1
      rw [(h1 rfl).1]
      simp only [fv_mk]
      simp
    rw [if_neg c1]
    by_cases c2 : bndG k = true ∧ n = x
    · rw [if_pos c2]
      obtain ⟨hb, rfl⟩ := c2
      simp only [fv_mk]
      have h6 : k ≠ 6 := by rintro rfl; exact absurd hb (by decide)
      simp [h6, hb]
      intro hz _ _ _; exact hz
    rw [if_neg c2]
    by_cases c3 : bndG k = true ∧ n ∈ fr ∧ 0 < l.length
    · rw [if_pos c3]
      obtain ⟨hb, hn, _⟩ := c3
      have h6 : k ≠ 6 := by rintro rfl; exact absurd hb (by decide)
      have hnx : n ≠ x := fun e => c2 ⟨hb, e⟩
      obtain ⟨m1, m2, m3, m4⟩ := fresh_facts fr l x n
      generalize freshN fr l x n = m at m1 m2 m3 m4 ⊢
      have m1 : m ∉ frG y [] := fun h => m1 ((hfr m).2 h)
      have ihn : ∀ u ∈ l, ∀ z, z ∈ frG (putF f u n (varG m) [m]) [] ↔ (z ∈ frG u [] ∧ z ≠ n) ∨ (n ∈ frG u [] ∧ z = m) := fun u hu z => by
        rw [fv_put f u n (varG m) [m] (hl u hu) (h2 u hu) (fun z => by rw [fv_var]; simp) z, fv_var]
      have ih2 : ∀ u ∈ l, ∀ z, z ∈ frG (putF f (putF f u n (varG m) [m]) x y fr) [] ↔ (((z ∈ frG u [] ∧ z ≠ n) ∨ (n ∈ frG u [] ∧ z = m)) ∧ z ≠ x) ∨ (((x ∈ frG u [] ∧ x ≠ n) ∨ (n ∈ frG u [] ∧ x = m)) ∧ z ∈ frG y []) := fun u hu z => by
        rw [fv_put f _ x y fr (Nat.le_trans (sz_put f u n (varG m) [m] (by simp [varG, szG, szGs])) (hl u hu)) (okV_put f u n _ _ (okV_var m) (h2 u hu)) hfr z, ihn u hu, ihn u hu]
      simp only [fv_mk, List.mem_map, List.map_map]
      constructor
      · rintro (⟨h, _⟩ | ⟨hz, u', ⟨u, hu, rfl⟩, h⟩)
        · exact absurd h h6
        · have hz := hz hb
          rcases (ih2 u hu z).1 h with ⟨⟨a, b⟩ | ⟨_, b⟩, c⟩ | ⟨⟨a, b⟩ | ⟨_, b⟩, c⟩
          · exact .inl ⟨.inr ⟨fun _ => b, u, hu, a⟩, c⟩
          · exact absurd b hz
          · exact .inr ⟨.inr ⟨fun _ => b, u, hu, a⟩, c⟩
          · exact absurd b.symm m3
      · rintro (⟨⟨h, _⟩ | ⟨hz, u, hu, a⟩, c⟩ | ⟨⟨h, _⟩ | ⟨hz, u, hu, a⟩, c⟩)
        · exact absurd h h6
        · exact .inr ⟨fun _ e => m2 u hu (e ▸ a), _, ⟨u, hu, rfl⟩, (ih2 u hu z).2 (.inl ⟨.inl ⟨a, hz hb⟩, c⟩)⟩
        · exact absurd h h6
        · exact .inr ⟨fun _ e => m1 (e ▸ c), _, ⟨u, hu, rfl⟩, (ih2 u hu z).2 (.inr ⟨.inl ⟨a, hz hb⟩, c⟩)⟩
    rw [if_neg c3]
    simp only [fv_mk, List.mem_map]
    have hnb : bndG k = true → l ≠ [] → n ∉ frG y [] := fun hb hl0 h => c3 ⟨hb, (hfr n).2 h, List.length_pos_iff.2 hl0⟩
    constructor
    · rintro (⟨hk, rfl⟩ | ⟨hz, u', ⟨u, hu, rfl⟩, h⟩)
      · exact .inl ⟨.inl ⟨hk, rfl⟩, fun e => c1 ⟨hk, e⟩⟩
      · rcases (ih u hu z).1 h with ⟨a, b⟩ | ⟨a, b⟩
        · exact .inl ⟨.inr ⟨hz, u, hu, a⟩, b⟩
        · exact .inr ⟨.inr ⟨fun hb e => c2 ⟨hb, e.symm⟩, u, hu, a⟩, b⟩
    · rintro (⟨⟨hk, rfl⟩ | ⟨hz, u, hu, a⟩, c⟩ | ⟨⟨hk, e⟩ | ⟨hx, u, hu, a⟩, c⟩)
      · exact .inl ⟨hk, rfl⟩
      · exact .inr ⟨hz, _, ⟨u, hu, rfl⟩, (ih u hu z).2 (.inl ⟨a, c⟩)⟩
      · exact absurd ⟨hk, e.symm⟩ c1
      · exact .inr ⟨fun hb e => hnb hb (fun e0 => by rw [e0] at hu; cases hu) (e ▸ c), _, ⟨u, hu, rfl⟩, (ih u hu z).2 (.inr ⟨a, c⟩)⟩
theorem samGs_map {g h : TG → TG} {s t : List Int} : ∀ (l : List TG), (∀ u ∈ l, samG (g u) (h u) s t = true) → samGs (l.map g) (l.map h) s t = true
  | [], _ => rfl
  | u :: r, hh => by
    rw [List.map_cons, List.map_cons, samGs, hh u (by simp), samGs_map r fun v hv => hh v (by simp [hv])]; rfl
theorem samGs_trans {l m r : List TG} {c d e : List Int} : ∀ (_ : ∀ u ∈ l, ∀ v w, samG u v c d = true → samG v w d e = true → samG u w c e = true), l.length = m.length → m.length = r.length → samGs l m c d = true → samGs m r d e = true → samGs l r c e = true := by
  induction l generalizing m r with
  | nil => intro _ _ _ _ _; exact samGs_nil _ _ _
  | cons u l ih =>
    intro h h1 h2 h3 h4
    match m, r, h1, h2 with
    | v :: m, w :: r, h1, h2 =>
      rw [samGs, Bool.and_eq_true] at h3 h4 ⊢
      exact ⟨h u (by simp) v w h3.1 h4.1, ih (fun u hu => h u (by simp [hu])) (by simpa using h1) (by simpa using h2) h3.2 h4.2⟩
theorem sam_iff (k n : Int) (ls : List ByteArray) (ks : List TG) (k' n' : Int) (ls' : List ByteArray) (ks' : List TG) (s t : List Int) : samG (.mk k n ls ks) (.mk k' n' ls' ks') s t = true ↔
    k = k' ∧ ks.length = ks'.length ∧ ls = ls' ∧ (k = 6 → lastI s n = lastI t n' ∧ (lastI s n < 0 → n = n') ∧ samGs ks ks' s t = true) ∧ (bndG k = true → samGs ks ks' (s ++ [n]) (t ++ [n']) = true) ∧ (k ≠ 6 → bndG k = false → n = n' ∧ samGs ks ks' s t = true) := by
  rw [samG_mk]
  simp only [Bool.and_eq_true, decide_eq_true_eq]
  by_cases h6 : k = 6
  · subst h6
    have hb : bndG 6 = false := rfl
    by_cases hn : lastI s n < 0 <;> simp [hb, hn, and_assoc]
  · by_cases hb : bndG k = true <;> simp [h6, hb, and_assoc]
theorem sam_trans : ∀ (a b g : TG) (c d e : List Int), samG a b c d = true → samG b g d e = true → samG a g c e = true := by
  refine TG.ind fun k n ls ks ih b g c d e h1 h2 => ?_
  obtain ⟨k', n', ls', ks'⟩ := b
  obtain ⟨k2, n2, ls2, ks2⟩ := g
  obtain ⟨rfl, a2, rfl, a4, a5, a6⟩ := (sam_iff ..).1 h1
  obtain ⟨rfl, b2, rfl, b4, b5, b6⟩ := (sam_iff ..).1 h2
  have tr : ∀ c d e, samGs ks ks' c d = true → samGs ks' ks2 d e = true → samGs ks ks2 c e = true := fun c d e => samGs_trans (fun u hu v w => ih u hu v w c d e) a2 b2
  refine (sam_iff ..).2 ⟨rfl, a2.trans b2, rfl, fun h6 => ?_, fun hb => tr _ _ _ (a5 hb) (b5 hb), fun h6 hb => ⟨(a6 h6 hb).1.trans (b6 h6 hb).1, tr _ _ _ (a6 h6 hb).2 (b6 h6 hb).2⟩⟩
  obtain ⟨p1, p2, p3⟩ := a4 h6
  obtain ⟨q1, q2, q3⟩ := b4 h6
  exact ⟨p1.trans q1, fun hn => (p2 hn).trans (q2 (p1 ▸ hn)), tr _ _ _ p3 q3⟩
theorem sam_ctx : ∀ (t : TG) (c d : List Int), c.length = d.length → (∀ z ∈ frG t [], lastI c z = lastI d z) → samG t t c d = true := by
  refine TG.ind fun k n ls l ih c d hcd h => ?_
  have hz : ∀ z, (bndG k = true → z ≠ n) → (∃ u ∈ l, z ∈ frG u []) → lastI c z = lastI d z := fun z h1 h2 => h z ((fv_mk ..).2 (.inr ⟨h1, h2⟩))
  have key : ∀ c' d' : List Int, c'.length = d'.length → (∀ u ∈ l, ∀ z ∈ frG u [], lastI c' z = lastI d' z) → samGs l l c' d' = true := fun c' d' e hh => by
    have := samGs_map (g := id) (h := id) (s := c') (t := d') l fun u hu => ih u hu c' d' e (hh u hu)
    simpa using this
  refine (sam_iff ..).2 ⟨rfl, rfl, rfl, fun h6 => ⟨h n ((fv_mk ..).2 (.inl ⟨h6, rfl⟩)), fun _ => rfl, ?_⟩, fun hb => ?_, fun h6 hb => ⟨rfl, ?_⟩⟩
  · exact key c d hcd fun u hu z hzu => hz z (fun hb => absurd h6 (by rintro rfl; exact absurd hb (by decide))) ⟨u, hu, hzu⟩
  · refine key _ _ (by simp [hcd]) fun u hu z hzu => ?_
    by_cases e : z = n
    · subst e; rw [lastI_end, lastI_end, hcd]
    · rw [lastI_snoc c e, lastI_snoc d e]; exact hz z (fun _ => e) ⟨u, hu, hzu⟩
  · exact key c d hcd fun u hu z hzu => hz z (fun hb' => by rw [hb'] at hb; cases hb) ⟨u, hu, hzu⟩
end Go.Proofs.YtcjkikadolnfgaaGreat


/- Renaming, and putting for a number that does not stand free: the same type. -/
set_option linter.unusedSimpArgs false
set_option linter.unusedVariables false
namespace Go.Proofs.YtcjkikadolnfgaaGreat
theorem bnd_ne6 {k : Int} (h : bndG k = true) : k ≠ 6 := by rintro rfl; exact absurd h (by decide)
end Go.Proofs.YtcjkikadolnfgaaGreat


/- The reference's RightType. -/
set_option linter.unusedSimpArgs false
set_option linter.unusedVariables false
namespace Go.Proofs.YtcjkikadolnfgaaGreat
open Go.Vx Go.Vc Go.RowKit
theorem orderedR_fn (l : List ByteArray) : FnR Tryz.prog G0 104 [dL l] (.bool (ordS l)) := by
  refine fnQ_sz fun hs => ?_
  have hl := (szOk_sl hs.1).1
  simp only [LB] at hl
  refine fnQ_of_vc txok mixed [(4, .pure 0 (.pure 1 (.pure 2 (.pure 3 (.take 4 (.pure 5 (.pure 6 (.pure 7 (.take 8 (.pure 9 .done))))))))))] Tryz.func104 rfl rfl (by simp) fun b => ?_
  conv => whnf
  refine loopH (fun i : Nat => (i ≤ l.length ∨ i = 0) ∧ ordS l = ordS (l.drop i)) (fun i => l.length - i) (fun i => [(3, .d (.int .i64 ((i + 1 : Nat) : Int)))]) (fun _ => []) 0 0 ⟨by omega, rfl⟩ (weak_of rfl (by repeat ((conv => whnf); first | exact trivial | refine And.intro rfl ?_ | refine And.intro (incD (by omega)) ?_)) (by repeat ((conv => whnf); first | exact trivial | refine And.intro rfl ?_ | refine And.intro (incD (by omega)) ?_))) ?_
  rintro i ⟨hi, hx⟩
  conv => whnf
  refine And.intro (fun hb => ?_) (fun hb => ?_)
  · have hb : i + 1 < l.length := by have := of_decide_eq_true hb; omega
    rw [ordS_drop hb] at hx
    conv => whnf
    refine And.intro (by kernel_rfl) ?_
    conv => whnf
    have e1 : IntKind.i64.wrap (((i + 1 : Nat) : Int) - 1) = (i : Int) := (Go.Vc.wrap_small (by omega) (by omega)).trans (by omega)
    rw [e1]
    refine IdxC.encS i (by omega) rfl ?_
    conv => whnf
    refine IdxC.encS (i + 1) hb rfl ?_
    conv => whnf
    refine And.intro (fun he => ?_) (fun he => ?_)
    · conv => whnf
      refine congrArg D.bool ?_
      rw [hx]
      simp only [Bool.not_eq_true'] at he
      rw [he]; rfl
    · conv => whnf
      simp only [Bool.not_eq_false'] at he
      rw [he, Bool.true_and] at hx
      rw [incD (by omega)]
      exact again (i + 1) (by omega) ⟨by omega, hx⟩ (weak_of rfl (by repeat ((conv => whnf); first | exact trivial | refine And.intro rfl ?_ | refine And.intro (incD (by omega)) ?_)) (by repeat ((conv => whnf); first | exact trivial | refine And.intro rfl ?_ | refine And.intro (incD (by omega)) ?_)))
  · have hb : ¬ i + 1 < l.length := by have := of_decide_eq_false hb; omega
    conv => whnf
    refine congrArg D.bool ?_
    rw [hx]
    have : (l.drop i).length ≤ 1 := by simp; omega
    match h : l.drop i, this with
    | [], _ => rfl
    | [_], _ => rfl
def kidN (k : Int) : Int := if k = 1 ∨ k = 2 ∨ k = 3 ∨ k = 6 then 0 else if k = 4 ∨ k = 5 then 2 else if k = 7 ∨ k = 8 then -1 else if k = 9 ∨ k = 10 ∨ k = 11 then 1 else -2
theorem kidsR_fn (k : Int) : FnR Tryz.prog G0 103 [.int .i64 k] (.int .i64 (kidN k)) := by
  refine fnQ_of_vc txok mixed [] Tryz.func103 rfl rfl (by simp) fun b => ?_
  repeat' ((conv => whnf); refine And.intro (fun h => ?_) (fun h => ?_))
  all_goals (conv => whnf)
  all_goals refine congrArg (D.int .i64) ?_
  all_goals simp_all [kidN]
theorem bindsR_fn (k : Int) : FnR Tryz.prog G0 54 [.int .i64 k] (.bool (bndG k)) := by
  refine fnQ_of_vc txok mixed [] Tryz.func54 rfl rfl (by simp) fun b => ?_
  (repeat' ((conv => whnf); first | refine And.intro (fun _ => ?_) (fun _ => ?_))) <;> (conv => whnf)
  all_goals simp_all [bndG, retD]
def shA (k : Int) (len : Nat) : Bool := !(kidN k == -2 || (decide (kidN k ≥ 0) && ((len : Int) != kidN k)))
def shB (k n : Int) : Bool := !((n != 0 && (k != 6)) && !bndG k)
def shC (k : Int) (ls : List ByteArray) (len : Nat) : Bool := if k == 7 then !(((ls.length : Int) != (len : Int)) || !ordS ls) else !(decide ((ls.length : Int) > 0))
def shR (k n : Int) (ls : List ByteArray) (len : Nat) : Bool := shA k len && shB k n && shC k ls len
mutual
def rightR : TG → Bool
  | .mk k n ls l => shR k n ls l.length && rightRs l
def rightRs : List TG → Bool
  | [] => true
  | t :: r => rightR t && rightRs r
end
theorem rightRs_drop {l : List TG} {i : Nat} (h : i < l.length) : rightRs (l.drop i) = (rightR l[i] && rightRs (l.drop (i + 1))) := by
  rw [List.drop_eq_getElem_cons h, rightRs]
theorem rightR_fn : ∀ t : TG, FnR Tryz.prog G0 63 [dG t] (.bool (rightR t)) := by
  refine TG.ind fun k n ls ks ih => ?_
  refine fnQ_sz fun hs => ?_
  have hl := (szOk_G (t := .mk k n ls ks) hs.1).1
  simp only [g_kids, LB] at hl
  refine fnQ_of_vc txok mixed ((100004, .done) :: (100006, .done) :: [(100011, .done)]) Tryz.func63 rfl rfl (by simp) fun b => ?_
  conv => whnf
  refine callF (kidsR_fn k) gf103 rfl rfl ?_
  simp only [g_k]
  conv => whnf
  refine CutC.mk (fun st => shA k ks.length = true ∧ st = ⟨[(1, .own 0 0)], [(0, .blk 28 [.d (.int .i64 k), .d (.int .i64 n), .d (dL ls), .d (dGs ks)])], 1⟩) ?_ ?_
  · try simp only [g_k, g_n, g_ls, g_kids]
    repeat' ((conv => whnf); first
      | refine And.intro (fun h => ?_) (fun h => ?_)
      | refine callF (kidsR_fn k) gf103 rfl rfl ?_
      | refine callF (bindsR_fn k) gf54 rfl rfl ?_
      | refine callF (orderedR_fn ls) gf104 rfl rfl ?_)
    all_goals (conv => whnf)
    all_goals first
      | exact ⟨_, ⟨by simp_all [shA], rfl⟩, weak_of rfl (by repeat ((conv => whnf); first | exact trivial | refine And.intro rfl ?_ | refine And.intro (incD (by omega)) ?_)) (by repeat ((conv => whnf); first | exact trivial | refine And.intro rfl ?_ | refine And.intro (incD (by omega)) ?_))⟩
      | (refine congrArg D.bool ?_; rw [rightR, shR]; simp_all [shA])
  rintro st' ⟨hA, rfl⟩
  conv => whnf
  refine CutC.mk (fun st => shB k n = true ∧ st = ⟨[(1, .own 0 0)], [(0, .blk 28 [.d (.int .i64 k), .d (.int .i64 n), .d (dL ls), .d (dGs ks)])], 1⟩) ?_ ?_
  · try simp only [g_k, g_n, g_ls, g_kids]
    repeat' ((conv => whnf); first
      | refine And.intro (fun h => ?_) (fun h => ?_)
      | refine callF (kidsR_fn k) gf103 rfl rfl ?_
      | refine callF (bindsR_fn k) gf54 rfl rfl ?_
      | refine callF (orderedR_fn ls) gf104 rfl rfl ?_)
    all_goals (conv => whnf)
    all_goals first
      | exact ⟨_, ⟨by simp_all [shB], rfl⟩, weak_of rfl (by repeat ((conv => whnf); first | exact trivial | refine And.intro rfl ?_ | refine And.intro (incD (by omega)) ?_)) (by repeat ((conv => whnf); first | exact trivial | refine And.intro rfl ?_ | refine And.intro (incD (by omega)) ?_))⟩
      | (refine congrArg D.bool ?_; rw [rightR, shR]; simp_all [shB])
  rintro st' ⟨hB, rfl⟩
  conv => whnf
  refine CutC.mk (fun st => shC k ls ks.length = true ∧ st = ⟨[(1, .own 0 0)], [(0, .blk 28 [.d (.int .i64 k), .d (.int .i64 n), .d (dL ls), .d (dGs ks)])], 1⟩) ?_ ?_
  · try simp only [g_k, g_n, g_ls, g_kids]
    repeat' ((conv => whnf); first
      | refine And.intro (fun h => ?_) (fun h => ?_)
      | refine callF (kidsR_fn k) gf103 rfl rfl ?_
      | refine callF (bindsR_fn k) gf54 rfl rfl ?_
      | refine callF (orderedR_fn ls) gf104 rfl rfl ?_)
    all_goals (conv => whnf)
    all_goals first
      | exact ⟨_, ⟨by simp_all [shC], rfl⟩, weak_of rfl (by repeat ((conv => whnf); first | exact trivial | refine And.intro rfl ?_ | refine And.intro (incD (by omega)) ?_)) (by repeat ((conv => whnf); first | exact trivial | refine And.intro rfl ?_ | refine And.intro (incD (by omega)) ?_))⟩
      | (refine congrArg D.bool ?_; rw [rightR, shR]; simp_all [shC])
  rintro st' ⟨hC, rfl⟩
  have hR : rightR (.mk k n ls ks) = rightRs ks := by rw [rightR, shR, hA, hB, hC]; rfl
  rw [hR]
  conv => whnf
  simp only [g_kids]
  refine loopH (fun i : Nat => i ≤ ks.length ∧ rightRs ks = rightRs (ks.drop i)) (fun i => ks.length - i) (fun i => [(4, .d (.int .i64 i))]) (fun _ => [(0, .blk 28 [.d (.int .i64 k), .d (.int .i64 n), .d (dL ls), .d (dGs ks)])]) 1 0 ⟨by omega, rfl⟩ (weak_of rfl (by repeat ((conv => whnf); first | exact trivial | refine And.intro rfl ?_ | refine And.intro (incD (by omega)) ?_)) (by repeat ((conv => whnf); first | exact trivial | refine And.intro rfl ?_ | refine And.intro (incD (by omega)) ?_))) ?_
  rintro i ⟨hi, hx⟩
  conv => whnf
  refine And.intro (fun hb => ?_) (fun hb => ?_)
  · have hil : i < ks.length := by have := of_decide_eq_true hb; omega
    rw [rightRs_drop hil] at hx
    conv => whnf
    refine IdxC.encGs i hil rfl ?_
    conv => whnf
    refine callF (ih ks[i] (by simp)) gf63 rfl rfl ?_
    conv => whnf
    refine And.intro (fun h => ?_) (fun h => ?_)
    · conv => whnf
      refine congrArg D.bool ?_
      rw [hx]; simp_all
    · conv => whnf
      rw [incD (by omega)]
      exact again (i + 1) (by omega) ⟨by omega, by rw [hx]; simp_all⟩ (weak_of rfl (by repeat ((conv => whnf); first | exact trivial | refine And.intro rfl ?_ | refine And.intro (incD (by omega)) ?_)) (by repeat ((conv => whnf); first | exact trivial | refine And.intro rfl ?_ | refine And.intro (incD (by omega)) ?_)))
  · have hi : i = ks.length := by have := of_decide_eq_false hb; omega
    subst hi
    conv => whnf
    refine congrArg D.bool ?_
    rw [hx, List.drop_length]; rfl
end Go.Proofs.YtcjkikadolnfgaaGreat


/- The reference's RightType, Put1, Ints. -/
set_option linter.unusedSimpArgs false
set_option linter.unusedVariables false
namespace Go.Proofs.YtcjkikadolnfgaaGreat
open Go.Vx Go.Vc Go.RowKit
def deepR : Nat → TG → Bool
  | 0, _ => true
  | n + 1, t => t.kids.any (deepR n)
theorem deepR_fn : ∀ (n : Nat) (t : TG), n ≤ 100000 → FnR Tryz.prog G0 62 [dG t, .int .i64 n] (.bool (deepR n t)) := by
  intro n
  induction n with
  | zero =>
    intro t _
    refine fnQ_of_vc txok mixed [] Tryz.func62 rfl rfl (by simp) fun b => ?_
    conv => whnf
    refine And.intro (fun h => ?_) (fun h => by simp at h)
    conv => whnf
    try exact rfl
  | succ q ihn =>
    intro t hq
    obtain ⟨k, n, ls, ks⟩ := t
    refine fnQ_sz fun hs => ?_
    have hl := (szOk_G (t := .mk k n ls ks) hs.1).1
    simp only [g_kids, LB] at hl
    refine fnQ_of_vc txok mixed [] Tryz.func62 rfl rfl (by simp) fun b => ?_
    conv => whnf
    refine And.intro (fun h => by simp at h; omega) (fun h => ?_)
    have hR : deepR (q + 1) (.mk k n ls ks) = ks.any (deepR q) := rfl
    rw [hR]
    conv => whnf
    simp only [g_kids]
    refine loopH (fun i : Nat => i ≤ ks.length ∧ ks.any (deepR q) = (ks.drop i).any (deepR q)) (fun i => ks.length - i) (fun i => [(5, .d (.int .i64 i))]) (fun _ => [(0, .blk 28 [.d (.int .i64 k), .d (.int .i64 n), .d (dL ls), .d (dGs ks)])]) 1 0 ⟨by omega, rfl⟩ (weak_of rfl (by repeat ((conv => whnf); first | exact trivial | refine And.intro rfl ?_ | refine And.intro (incD (by omega)) ?_)) (by repeat ((conv => whnf); first | exact trivial | refine And.intro rfl ?_ | refine And.intro (incD (by omega)) ?_))) ?_
    rintro i ⟨hi, hx⟩
    conv => whnf
    refine And.intro (fun hb => ?_) (fun hb => ?_)
    · have hil : i < ks.length := by have := of_decide_eq_true hb; omega
      rw [List.drop_eq_getElem_cons hil, List.any_cons] at hx
      conv => whnf
      refine IdxC.encGs i hil rfl ?_
      conv => whnf
      rw [show IntKind.i64.wrap (((q + 1 : Nat) : Int) - 1) = (q : Int) from (Go.Vc.wrap_small (by omega) (by omega)).trans (by omega)]
      refine callF (ihn ks[i] (by omega)) gf62 rfl rfl ?_
      conv => whnf
      refine And.intro (fun h => ?_) (fun h => ?_)
      · conv => whnf
        refine congrArg D.bool ?_
        rw [hx, h]; rfl
      · conv => whnf
        rw [incD (by omega)]
        exact again (i + 1) (by omega) ⟨by omega, by rw [hx, h]; rfl⟩ (weak_of rfl (by repeat ((conv => whnf); first | exact trivial | refine And.intro rfl ?_ | refine And.intro (incD (by omega)) ?_)) (by repeat ((conv => whnf); first | exact trivial | refine And.intro rfl ?_ | refine And.intro (incD (by omega)) ?_)))
    · have hi : i = ks.length := by have := of_decide_eq_false hb; omega
      subst hi
      conv => whnf
      refine congrArg D.bool ?_
      rw [hx, List.drop_length]; rfl
def rtR (t : TG) : Int := if deepR 100000 t = true then 4 else if rightR t = true then 0 else 1
theorem rtR_fn (t : TG) : FnR Tryz.prog G0 30 [dG t] (.int .i64 (rtR t)) := by
  refine fnQ_of_vc txok mixed [] Tryz.func30 rfl rfl (by simp) fun b => ?_
  conv => whnf
  refine callF (deepR_fn 100000 t (by omega)) gf62 rfl rfl ?_
  conv => whnf
  refine And.intro (fun h => ?_) (fun h => ?_)
  · conv => whnf
    rw [rtR, if_pos h]
  · conv => whnf
    refine callF (rightR_fn t) gf63 rfl rfl ?_
    conv => whnf
    refine And.intro (fun h2 => ?_) (fun h2 => ?_)
    · conv => whnf
      rw [rtR, if_neg (by simp [h]), if_neg (by simpa using h2)]
    · conv => whnf
      rw [rtR, if_neg (by simp [h]), if_pos (by simpa using h2)]
def insF : List Int → Int → List Int
  | [], x => [x]
  | y :: r, x => if y > x then x :: y :: r else y :: insF r x
def put1 (l : List Int) (x : Int) : List Int := if x ∈ l then l else insF l x
end Go.Proofs.YtcjkikadolnfgaaGreat


/- Put1. -/
set_option linter.unusedSimpArgs false
set_option linter.unusedVariables false
namespace Go.Proofs.YtcjkikadolnfgaaGreat
open Go.Vx Go.Vc Go.RowKit
def restF (d : Bool) (l : List Int) (x : Int) : List Int := match d with
  | true => l
  | false => insF l x
def p1H (o : List Int) : Hp := [(0, .row 3 8 1 o.length (Vx.encI o))]
theorem put1_fn (l : List Int) (x : Int) (hl : l.length < 1099511627776) : FnR Tryz.prog G0 108 [dI l, .int .i64 x] (dI (put1 l x)) := by
  refine fnQ_of_vc txok mixed [] Tryz.func108 rfl rfl (by simp) fun b => ?_
  conv => whnf
  refine loopH (fun y : Nat × Bool × List Int => y.1 ≤ l.length ∧ x ∉ l.take y.1 ∧ insF l x = y.2.2 ++ restF y.2.1 (l.drop y.1) x ∧ y.2.2.length ≤ y.1 + y.2.1.toNat) (fun y => l.length - y.1) (fun y => [(7, .d (.int .i64 y.1)), (6, .d (.bool y.2.1)), (5, .row 0)]) (fun y => p1H y.2.2) 1 (0, false, []) ⟨by simp, by simp, by simp [restF], by simp⟩ (((weak_kbT 6 false rfl).trans (weak_nlT 5 3 8 1 rfl)).trans (weak_of rfl (by repeat ((conv => whnf); first | exact trivial | refine And.intro rfl ?_ | refine And.intro (incD (by omega)) ?_)) (by repeat ((conv => whnf); first | exact trivial | refine And.intro rfl ?_ | refine And.intro (incD (by omega)) ?_)))) ?_
  rintro ⟨i, d, o⟩ ⟨hi, hx, ho, hlen⟩
  simp only at hi hx ho hlen
  have hd1 : d.toNat ≤ 1 := by cases d <;> decide
  conv => whnf
  refine And.intro (fun hb => ?_) (fun hb => ?_)
  · have hil : i < l.length := by have := of_decide_eq_true hb; omega
    have htk : l.take (i + 1) = l.take i ++ [l[i]] := List.take_succ_eq_append_getElem hil
    rw [List.drop_eq_getElem_cons hil] at ho
    conv => whnf
    refine IdxC.encI i hil rfl ?_
    conv => whnf
    refine And.intro (fun he => ?_) (fun he => ?_)
    · have he : l[i] = x := eq_of_beq he
      conv => whnf
      rw [put1, if_pos (he ▸ List.getElem_mem hil)]
    · have he : l[i] ≠ x := by simpa using he
      have hx' : x ∉ l.take (i + 1) := by
        rw [htk, List.mem_append, List.mem_singleton, not_or]
        exact ⟨hx, fun e => he e.symm⟩
      conv => whnf
      refine And.intro (fun h => ?_) (fun h => ?_)
      · have h : d = false := by simpa using h
        subst h
        conv => whnf
        refine IdxC.encI i hil rfl ?_
        conv => whnf
        refine And.intro (fun h2 => ?_) (fun h2 => ?_)
        · have h2 := of_decide_eq_true h2
          rw [restF, insF, if_pos h2] at ho
          conv => whnf
          refine appR (i := 0) (sz := 1) (n := (o).length) (m := 1) (xs := Vx.encI (o)) (ys := [.int .i64 (x)]) txok (fun k => Nat.ble 1 k) (o ++ [x]).length (Vx.encI (o ++ [x])) (by exact rfl) (by exact rfl) (by exact rfl) (by kernel_rfl) (by exact rfl) (scalDs_mem (by exact rfl)) (by simp) (by simp [Vx.encI]) (by simp only [LB, List.length_append, List.length_cons, List.length_nil]; omega) ?_
          conv => whnf
          refine IdxC.encI i hil rfl ?_
          conv => whnf
          refine appR (i := 0) (sz := 1) (n := (o ++ [x]).length) (m := 1) (xs := Vx.encI (o ++ [x])) (ys := [.int .i64 (l[i])]) txok (fun k => Nat.ble 1 k) (o ++ [x] ++ [l[i]]).length (Vx.encI (o ++ [x] ++ [l[i]])) (by exact rfl) (by exact rfl) (by exact rfl) (by kernel_rfl) (by exact rfl) (scalDs_mem (by exact rfl)) (by simp) (by simp [Vx.encI]) (by simp only [LB, List.length_append, List.length_cons, List.length_nil]; omega) ?_
          conv => whnf
          rw [incD (by omega)]
          exact again (i + 1, true, o ++ [x] ++ [l[i]]) (by simp; omega) ⟨by simp; omega, hx', by rw [ho]; simp [restF], by simp at hlen ⊢; omega⟩ ((weak_kbT 6 true rfl).trans (weak_of rfl (by repeat ((conv => whnf); first | exact trivial | refine And.intro rfl ?_ | refine And.intro (incD (by omega)) ?_)) (by repeat ((conv => whnf); first | exact trivial | refine And.intro rfl ?_ | refine And.intro (incD (by omega)) ?_))))
        · have h2 := of_decide_eq_false h2
          rw [restF, insF, if_neg h2] at ho
          conv => whnf
          refine IdxC.encI i hil rfl ?_
          conv => whnf
          refine appR (i := 0) (sz := 1) (n := (o).length) (m := 1) (xs := Vx.encI (o)) (ys := [.int .i64 (l[i])]) txok (fun k => Nat.ble 1 k) (o ++ [l[i]]).length (Vx.encI (o ++ [l[i]])) (by exact rfl) (by exact rfl) (by exact rfl) (by kernel_rfl) (by exact rfl) (scalDs_mem (by exact rfl)) (by simp) (by simp [Vx.encI]) (by simp only [LB, List.length_append, List.length_cons, List.length_nil]; omega) ?_
          conv => whnf
          rw [incD (by omega)]
          exact again (i + 1, false, o ++ [l[i]]) (by simp; omega) ⟨by simp; omega, hx', by rw [ho]; simp [restF], by simp at hlen ⊢; omega⟩ (weak_of rfl (by repeat ((conv => whnf); first | exact trivial | refine And.intro rfl ?_ | refine And.intro (incD (by omega)) ?_)) (by repeat ((conv => whnf); first | exact trivial | refine And.intro rfl ?_ | refine And.intro (incD (by omega)) ?_)))
      · have h : d = true := by simpa using h
        subst h
        rw [restF] at ho
        conv => whnf
        refine IdxC.encI i hil rfl ?_
        conv => whnf
        refine appR (i := 0) (sz := 1) (n := (o).length) (m := 1) (xs := Vx.encI (o)) (ys := [.int .i64 (l[i])]) txok (fun k => Nat.ble 1 k) (o ++ [l[i]]).length (Vx.encI (o ++ [l[i]])) (by exact rfl) (by exact rfl) (by exact rfl) (by kernel_rfl) (by exact rfl) (scalDs_mem (by exact rfl)) (by simp) (by simp [Vx.encI]) (by simp only [LB, List.length_append, List.length_cons, List.length_nil]; omega) ?_
        conv => whnf
        rw [incD (by omega)]
        exact again (i + 1, true, o ++ [l[i]]) (by simp; omega) ⟨by simp; omega, hx', by rw [ho]; simp [restF], by simp at hlen ⊢; omega⟩ (weak_of rfl (by repeat ((conv => whnf); first | exact trivial | refine And.intro rfl ?_ | refine And.intro (incD (by omega)) ?_)) (by repeat ((conv => whnf); first | exact trivial | refine And.intro rfl ?_ | refine And.intro (incD (by omega)) ?_)))
  · have hi : i = l.length := by have := of_decide_eq_false hb; omega
    subst hi
    rw [List.drop_length] at ho
    rw [List.take_length] at hx
    have hp : put1 l x = o ++ restF d [] x := by rw [put1, if_neg hx, ho]
    rw [hp]
    conv => whnf
    refine And.intro (fun h => ?_) (fun h => ?_)
    · have h : d = false := by simpa using h
      subst h
      conv => whnf
      refine appR (i := 0) (sz := 1) (n := o.length) (m := 1) (xs := Vx.encI o) (ys := [.int .i64 x]) txok (fun k => Nat.ble 1 k) (o ++ [x]).length (Vx.encI (o ++ [x])) (by exact rfl) (by exact rfl) (by exact rfl) (by kernel_rfl) (by exact rfl) (scalDs_mem (by exact rfl)) (by simp) (by simp [Vx.encI]) (by simp only [LB, List.length_append, List.length_cons, List.length_nil]; omega) ?_
      conv => whnf
      try exact rfl
    · have h : d = true := by simpa using h
      subst h
      conv => whnf
      rw [restF, List.append_nil]
end Go.Proofs.YtcjkikadolnfgaaGreat


/- Sets of numbers as sorted lists; right types; sizes. -/
set_option linter.unusedSimpArgs false
set_option linter.unusedVariables false
namespace Go.Proofs.YtcjkikadolnfgaaGreat
abbrev Asc (l : List Int) : Prop := l.Pairwise (· < ·)
theorem asc_ext : ∀ (a b : List Int), Asc a → Asc b → (∀ z, z ∈ a ↔ z ∈ b) → a = b
  | [], [], _, _, _ => rfl
  | [], y :: r, _, _, h => by have := (h y).2 (by simp); cases this
  | x :: r, [], _, _, h => by have := (h x).1 (by simp); cases this
  | x :: r, y :: s, ha, hb, h => by
    obtain ⟨a1, a2⟩ := List.pairwise_cons.1 ha
    obtain ⟨b1, b2⟩ := List.pairwise_cons.1 hb
    have e : x = y := by
      have h1 := (h x).1 (by simp)
      have h2 := (h y).2 (by simp)
      rcases List.mem_cons.1 h1 with e | h1
      · exact e
      · rcases List.mem_cons.1 h2 with e | h2
        · exact e.symm
        · have := a1 y h2; have := b1 x h1; omega
    subst e
    congr 1
    refine asc_ext r s a2 b2 fun z => ⟨fun hz => ?_, fun hz => ?_⟩
    · rcases List.mem_cons.1 ((h z).1 (by simp [hz])) with e | h1
      · have := a1 z hz; omega
      · exact h1
    · rcases List.mem_cons.1 ((h z).2 (by simp [hz])) with e | h1
      · have := b1 z hz; omega
      · exact h1
theorem compactTo_asc (d : Array Int) (hd : ∀ i j, i < j → j < d.size → d[i]! ≤ d[j]!) : ∀ m, m ≤ d.size → Asc (Go.Lib.compactUpTo d m)
  | 0, _ => by simp [Go.Lib.compactUpTo, Asc]
  | m + 1, hm => by
    rw [Go.Lib.compactUpTo_succ]
    have ih := compactTo_asc d hd m (by omega)
    by_cases hk : Go.Lib.keeps d m = true
    · rw [if_pos hk]
      refine List.pairwise_append.2 ⟨ih, by simp, fun a ha c hc => ?_⟩
      rw [List.mem_singleton] at hc
      subst hc
      obtain ⟨j, hj, rfl⟩ := (mem_compactTo d a m).1 ha
      have h1 : d[j]! ≤ d[m - 1]! := by
        by_cases e : j = m - 1
        · rw [e]; exact Int.le_refl _
        · exact hd j (m - 1) (by omega) (by omega)
      have h2 : d[m - 1]! ≤ d[m]! := hd (m - 1) m (by omega) (by omega)
      have h3 : d[m]! ≠ d[m - 1]! := fun e => by rw [Go.Lib.keeps_neg (by omega) e] at hk; cases hk
      omega
    · rw [if_neg hk, List.append_nil]; exact ih
theorem freeS_asc (t : TG) : Asc (freeS t) := by
  unfold freeS Go.Lib.compact
  have hs : (srtI (frG t [])).Pairwise (fun a c => decide (a ≤ c) = true) := by
    unfold srtI
    exact List.pairwise_mergeSort (fun a b c h1 h2 => by simp at *; omega) (fun a b => by simp; omega) _
  generalize srtI (frG t []) = l at hs
  refine compactTo_asc _ (fun i j hij hj => ?_) _ (by simp)
  have hj : j < l.length := by simpa using hj
  have := List.pairwise_iff_getElem.1 hs i j (by omega) hj hij
  simp only [List.getElem!_toArray]
  rw [getElem!_pos l i (by omega), getElem!_pos l j hj]
  simpa using this
theorem mem_insF (l : List Int) (x z : Int) : z ∈ insF l x ↔ z = x ∨ z ∈ l := by
  induction l with
  | nil => simp [insF]
  | cons y r ih =>
    rw [insF]
    split
    · simp
    · rw [List.mem_cons, ih, List.mem_cons]
      constructor
      · rintro (h | h | h) <;> simp [h]
      · rintro (h | h | h) <;> simp [h]
theorem insF_asc {l : List Int} {x : Int} (h : Asc l) (hx : x ∉ l) : Asc (insF l x) := by
  induction l with
  | nil => simp [insF, Asc]
  | cons y r ih =>
    obtain ⟨h1, h2⟩ := List.pairwise_cons.1 h
    rw [insF]
    split
    · rename_i hy
      refine List.pairwise_cons.2 ⟨fun z hz => ?_, h⟩
      rcases List.mem_cons.1 hz with rfl | hz
      · exact hy
      · have := h1 z hz; omega
    · rename_i hy
      have hxy : x ≠ y := fun e => hx (by simp [e])
      refine List.pairwise_cons.2 ⟨fun z hz => ?_, ih h2 (fun hr => hx (by simp [hr]))⟩
      rcases (mem_insF r x z).1 hz with rfl | hz
      · omega
      · exact h1 z hz
theorem insF_len (l : List Int) (x : Int) : (insF l x).length = l.length + 1 := by
  induction l with
  | nil => rfl
  | cons y r ih => rw [insF]; split <;> simp [ih]
theorem mem_put1 (l : List Int) (x z : Int) : z ∈ put1 l x ↔ z = x ∨ z ∈ l := by
  unfold put1
  split
  · rename_i h
    constructor
    · exact .inr
    · rintro (rfl | h') <;> assumption
  · exact mem_insF l x z
theorem put1_asc {l : List Int} {x : Int} (h : Asc l) : Asc (put1 l x) := by
  unfold put1
  split
  · exact h
  · rename_i hx; exact insF_asc h hx
theorem put1_len (l : List Int) (x : Int) : (put1 l x).length ≤ l.length + 1 := by
  unfold put1
  split
  · omega
  · rw [insF_len]; omega
def wantL (n : Int) : List Int → List Int → List Int
  | acc, [] => acc
  | acc, f :: r => wantL n (if f = n then acc else put1 acc f) r
def putL : List Int → List Int → List Int
  | acc, [] => acc
  | acc, f :: r => putL (put1 acc f) r
theorem putL_facts : ∀ (l acc : List Int), Asc acc → Asc (putL acc l) ∧ (∀ z, z ∈ putL acc l ↔ z ∈ acc ∨ z ∈ l) ∧ (putL acc l).length ≤ acc.length + l.length
  | [], acc, h => ⟨h, fun z => by simp [putL], by simp [putL]⟩
  | f :: r, acc, h => by
    rw [putL]
    obtain ⟨h1, h2, h3⟩ := putL_facts r (put1 acc f) (put1_asc h)
    have h4 := put1_len acc f
    refine ⟨h1, fun z => ?_, by simp; omega⟩
    rw [h2 z, mem_put1, List.mem_cons]
    constructor
    · rintro ((rfl | a) | a)
      · exact .inr (.inl rfl)
      · exact .inl a
      · exact .inr (.inr a)
    · rintro (a | rfl | a)
      · exact .inl (.inr a)
      · exact .inl (.inl rfl)
      · exact .inr a
theorem okV_right : ∀ t : TG, rightR t = true → okV t = true := by
  refine TG.ind fun k n ls l ih h => ?_
  rw [rightR, Bool.and_eq_true] at h
  obtain ⟨h1, h2⟩ := h
  have hrs : ∀ m : List TG, rightRs m = true → ∀ u ∈ m, rightR u = true := by
    intro m
    induction m with
    | nil => intro _ u hu; cases hu
    | cons v r ihm =>
      intro h u hu
      rw [rightRs, Bool.and_eq_true] at h
      rcases List.mem_cons.1 hu with rfl | hu
      · exact h.1
      · exact ihm h.2 u hu
  refine (okV_mk k n ls l).2 ⟨fun h6 => ?_, fun u hu => ih u hu (hrs l h2 u hu)⟩
  subst h6
  have hk : kidN 6 = 0 := by decide
  have hk7 : ((6 : Int) == 7) = false := by decide
  simp only [shR, shA, shC, hk, hk7, Bool.and_eq_true] at h1
  obtain ⟨⟨ha, _⟩, hc⟩ := h1
  have e1 : l.length = 0 := by
    simp at ha
    simp [ha]
  have e2 : ls.length = 0 := by
    simp at hc
    simp [hc]
  exact ⟨List.eq_nil_of_length_eq_zero e1, List.eq_nil_of_length_eq_zero e2⟩
end Go.Proofs.YtcjkikadolnfgaaGreat


/- The reference: level, with. -/
set_option linter.unusedSimpArgs false
set_option linter.unusedVariables false
namespace Go.Proofs.YtcjkikadolnfgaaGreat
open Go.Vx Go.Vc Go.RowKit
def lvlN (l : List Int) (n : Int) : Nat → Int
  | 0 => -1
  | k + 1 => if l.getD k 0 = n then k else lvlN l n k
theorem rlevel_fn (l : List Int) (n : Int) (hl : l.length < 1099511627776) : FnR Tryz.prog G0 52 [dI l, .int .i64 n] (.int .i64 (lvlN l n l.length)) := by
  refine fnQ_of_vc txok mixed [] Tryz.func52 rfl rfl (by simp) fun b => ?_
  conv => whnf
  refine loopH (fun k : Nat => k ≤ l.length ∧ lvlN l n l.length = lvlN l n k) (fun k => k) (fun k => [(5, .d (.int .i64 ((k : Int) - 1)))]) (fun _ => []) 0 l.length ⟨by omega, rfl⟩ (weak_of rfl (by (conv => whnf); first | done | (refine And.intro (by rw [Go.Vc.wrap_small (by omega) (by omega)]) ?_; first | done | repeat ((conv => whnf); first | exact trivial | refine And.intro rfl ?_ | refine And.intro (incD (by omega)) ?_))) (by repeat ((conv => whnf); first | exact trivial | refine And.intro rfl ?_ | refine And.intro (incD (by omega)) ?_))) ?_
  rintro k ⟨hk, hx⟩
  conv => whnf
  refine And.intro (fun hb => ?_) (fun hb => ?_)
  · have hk0 : 1 ≤ k := by have := of_decide_eq_true hb; omega
    obtain ⟨j, rfl⟩ : ∃ j, k = j + 1 := ⟨k - 1, by omega⟩
    have hjl : j < l.length := by omega
    have hj : (((j + 1 : Nat) : Int) - 1) = (j : Int) := by omega
    rw [hj]
    conv => whnf
    refine IdxC.encI j hjl rfl ?_
    have hg : l.getD j 0 = l[j] := by rw [List.getD_eq_getElem?_getD, List.getElem?_eq_getElem hjl]; rfl
    rw [lvlN, hg] at hx
    conv => whnf
    refine And.intro (fun h => ?_) (fun h => ?_)
    · rw [if_pos (by simpa using h)] at hx
      conv => whnf
      rw [hx]
    · rw [if_neg (by simpa using h)] at hx
      conv => whnf
      refine again j (by omega) ⟨by omega, hx⟩ (weak_of rfl (by (conv => whnf); refine And.intro (by rw [Go.Vc.wrap_small (by omega) (by omega)]) ?_; first | done | repeat ((conv => whnf); first | exact trivial | refine And.intro rfl ?_ | refine And.intro (incD (by omega)) ?_)) (by repeat ((conv => whnf); first | exact trivial | refine And.intro rfl ?_ | refine And.intro (incD (by omega)) ?_)))
  · have hk0 : k = 0 := by have := of_decide_eq_false hb; omega
    subst hk0
    conv => whnf
    rw [hx]
    rfl
theorem rwith_fn (l : List Int) (n : Int) (hl : l.length < 1099511627776) : FnR Tryz.prog G0 55 [dI l, .int .i64 n] (dI (l ++ [n])) := by
  refine fnQ_of_vc txok mixed [] Tryz.func55 rfl rfl (by simp) fun b => ?_
  conv => whnf
  refine appR (i := 0) (sz := 1) (n := 0) (m := l.length) (xs := []) (ys := Vx.encI l) txok (fun _ => false) l.length (Vx.encI l) (by exact rfl) (by exact rfl) (by exact rfl) (by kernel_rfl) (by simp [Vx.encI]) (Vx.encI_scal l) (by simp) (by simp) (by simp only [LB]; omega) ?_
  conv => whnf
  refine appR (i := 0) (sz := 1) (n := l.length) (m := 1) (xs := Vx.encI l) (ys := Vx.encI [n]) txok (fun k => Nat.ble 1 k) (l ++ [n]).length (Vx.encI (l ++ [n])) (by exact rfl) (by exact rfl) (by exact rfl) (by kernel_rfl) (by exact rfl) (Vx.encI_scal _) (by simp) (by simp [Vx.encI]) (by simp only [LB, List.length_append, List.length_cons, List.length_nil]; omega) ?_
  conv => whnf
  try exact rfl
theorem lvlN_app (l m : List Int) (n : Int) : ∀ k, k ≤ l.length → lvlN (l ++ m) n k = lvlN l n k
  | 0, _ => rfl
  | k + 1, h => by
    have e : (l ++ m).getD k 0 = l.getD k 0 := by
      rw [List.getD_eq_getElem?_getD, List.getD_eq_getElem?_getD, List.getElem?_append_left (by omega)]
    rw [lvlN, lvlN, e, lvlN_app l m n k (by omega)]
theorem lvl_last (n : Int) (l : List Int) : lvlN l n l.length = lastI l n := by
  have key : ∀ r : List Int, lvlN r.reverse n r.reverse.length = lastI r.reverse n := by
    intro r
    induction r with
    | nil => rfl
    | cons x r ih =>
      rw [List.reverse_cons, List.length_append, List.length_cons, List.length_nil, lvlN]
      have e : (r.reverse ++ [x]).getD r.reverse.length 0 = x := by
        rw [List.getD_eq_getElem?_getD, List.getElem?_append_right (Nat.le_refl _)]; simp
      rw [e, lvlN_app _ _ _ _ (Nat.le_refl _), ih]
      by_cases h : x = n
      · rw [if_pos h]; subst h; rw [lastI_end]
      · rw [if_neg h, lastI_snoc _ (fun h' => h h'.symm)]
  have := key l.reverse
  rwa [List.reverse_reverse] at this
theorem level_fn (l : List Int) (n : Int) (hl : l.length < 1099511627776) : FnR Tryz.prog G0 52 [dI l, .int .i64 n] (.int .i64 (lastI l n)) := by
  have := rlevel_fn l n hl
  rwa [lvl_last] at this
end Go.Proofs.YtcjkikadolnfgaaGreat


/- The reference: what stands free; sizes. -/
set_option linter.unusedSimpArgs false
set_option linter.unusedVariables false
namespace Go.Proofs.YtcjkikadolnfgaaGreat
open Go.Vx Go.Vc Go.RowKit
theorem putL_app : ∀ (l m acc : List Int), putL acc (l ++ m) = putL (putL acc l) m
  | [], m, acc => by simp [putL]
  | f :: r, m, acc => by rw [List.cons_append, putL, putL, putL_app r m]
theorem putL_len : ∀ (l acc : List Int), (putL acc l).length ≤ acc.length + l.length
  | [], acc => by simp [putL]
  | f :: r, acc => by
    rw [putL]
    have := putL_len r (put1 acc f)
    have := put1_len acc f
    simp only [List.length_cons]; omega
theorem free_fn : ∀ (t : TG) (s got : List Int), s.length + szG t < 1099511627776 → got.length + szG t < 1099511627776 → FnR Tryz.prog G0 72 [dG t, dI s, dI got] (dI (putL got (frG t s))) := by
  refine TG.ind fun k n ls ks ih s got hss hacc => ?_
  refine fnQ_sz fun hs => ?_
  have hl := (szOk_G (t := .mk k n ls ks) hs.1).1
  simp only [g_kids, LB] at hl
  have hsz : szG (.mk k n ls ks) = szGs ks + 1 := by simp only [szG]
  rw [hsz] at hss hacc
  rw [frG_mk, putL_app]
  generalize he : (if k = 6 ∧ lastI s n < 0 then [n] else [] : List Int) = e0
  have he0 : e0.length ≤ 1 := by rw [← he]; split <;> simp
  have hg1 := putL_len e0 got
  refine fnQ_of_wk (N := 45) txok mixed Tryz.func72 rfl rfl (by simp) fun b => ?_
  refine wk_seq ⟨[(1, .d (dI s)), (2, .d (dI got)), (3, .own 0 0)], [(0, .blk 28 [.d (.int .i64 k), .d (.int .i64 n), .d (dL ls), .d (dGs ks)])], 1⟩ (wk_vc txok mixed [] ?_) ?_
  · conv => whnf
    exact weak_of rfl (by repeat ((conv => whnf); first | exact trivial | refine And.intro rfl ?_ | refine And.intro (incD (by omega)) ?_)) (by repeat ((conv => whnf); first | exact trivial | refine And.intro rfl ?_ | refine And.intro (incD (by omega)) ?_))
  refine wk_seq ⟨[(1, .d (dI s)), (2, .d (dI (putL got e0))), (3, .own 0 0)], [(0, .blk 28 [.d (.int .i64 k), .d (.int .i64 n), .d (dL ls), .d (dGs ks)])], 1⟩ (wk_vc txok mixed [] ?_) ?_
  · conv => whnf
    refine And.intro (fun h1 => ?_) (fun h1 => ?_)
    · have h1 : k = 6 := eq_of_beq h1
      conv => whnf
      refine callF (level_fn s n (by omega)) gf52 rfl rfl ?_
      conv => whnf
      refine And.intro (fun h2 => ?_) (fun h2 => ?_)
      · have h2 := of_decide_eq_true h2
        rw [if_pos ⟨h1, h2⟩] at he
        subst he
        conv => whnf
        refine callF (put1_fn got n (by omega)) gf108 rfl rfl ?_
        conv => whnf
        exact weak_of rfl (by repeat ((conv => whnf); first | exact trivial | refine And.intro rfl ?_ | refine And.intro (incD (by omega)) ?_)) (by repeat ((conv => whnf); first | exact trivial | refine And.intro rfl ?_ | refine And.intro (incD (by omega)) ?_))
      · have h2 := of_decide_eq_false h2
        rw [if_neg (fun h => h2 h.2)] at he
        subst he
        conv => whnf
        exact weak_of rfl (by repeat ((conv => whnf); first | exact trivial | refine And.intro rfl ?_ | refine And.intro (incD (by omega)) ?_)) (by repeat ((conv => whnf); first | exact trivial | refine And.intro rfl ?_ | refine And.intro (incD (by omega)) ?_))
    · have h1 : k ≠ 6 := ne_of_beq_false h1
      rw [if_neg (fun h => h1 h.1)] at he
      subst he
      conv => whnf
      exact weak_of rfl (by repeat ((conv => whnf); first | exact trivial | refine And.intro rfl ?_ | refine And.intro (incD (by omega)) ?_)) (by repeat ((conv => whnf); first | exact trivial | refine And.intro rfl ?_ | refine And.intro (incD (by omega)) ?_))
  generalize putL got e0 = g1 at *
  generalize hs' : (if bndG k = true then s ++ [n] else s) = s'
  have hsl : s'.length ≤ s.length + 1 := by rw [← hs']; split <;> simp
  refine wk_seq ⟨[(1, .d (dI s')), (2, .d (dI g1)), (3, .own 0 0)], [(0, .blk 28 [.d (.int .i64 k), .d (.int .i64 n), .d (dL ls), .d (dGs ks)])], 1⟩ (wk_vc txok mixed [] ?_) ?_
  · conv => whnf
    refine callF (bindsR_fn k) gf54 rfl rfl ?_
    conv => whnf
    refine And.intro (fun h5 => ?_) (fun h5 => ?_)
    · rw [if_pos h5] at hs'
      subst hs'
      conv => whnf
      refine callF (rwith_fn s n (by omega)) gf55 rfl rfl ?_
      conv => whnf
      exact weak_of rfl (by repeat ((conv => whnf); first | exact trivial | refine And.intro rfl ?_ | refine And.intro (incD (by omega)) ?_)) (by repeat ((conv => whnf); first | exact trivial | refine And.intro rfl ?_ | refine And.intro (incD (by omega)) ?_))
    · rw [if_neg (by rw [h5]; decide)] at hs'
      subst hs'
      conv => whnf
      exact weak_of rfl (by repeat ((conv => whnf); first | exact trivial | refine And.intro rfl ?_ | refine And.intro (incD (by omega)) ?_)) (by repeat ((conv => whnf); first | exact trivial | refine And.intro rfl ?_ | refine And.intro (incD (by omega)) ?_))
  refine wk_vc txok mixed [] ?_
  conv => whnf
  refine loopH (fun i : Nat => i ≤ ks.length) (fun i => ks.length - i) (fun i => [(7, .d (.int .i64 i)), (2, .d (dI (putL g1 (frGs (ks.take i) s'))))]) (fun i => [(0, .blk 28 [.d (.int .i64 k), .d (.int .i64 n), .d (dL ls), .d (dGs ks)])]) 1 0 (by omega) ?_ ?_
  · rw [show putL g1 (frGs (ks.take 0) s') = g1 from by simp [frGs, putL]]
    exact weak_of rfl (by repeat ((conv => whnf); first | exact trivial | refine And.intro rfl ?_ | refine And.intro (incD (by omega)) ?_)) (by repeat ((conv => whnf); first | exact trivial | refine And.intro rfl ?_ | refine And.intro (incD (by omega)) ?_))
  intro i hi
  conv => whnf
  refine And.intro (fun hb => ?_) (fun hb => ?_)
  · have hil : i < ks.length := by have := of_decide_eq_true hb; omega
    have hmem := szG_mem (List.getElem_mem hil)
    have hlen := frGs_len (ks.take i) s'
    have hpl := putL_len (frGs (ks.take i) s') g1
    have htk := szGs_take hil
    have htl := szGs_le ks (i + 1)
    have hN := ih ks[i] (by simp) s' (putL g1 (frGs (ks.take i) s')) (by omega) (by omega)
    rw [← putL_app, ← frGs_take hil] at hN
    conv => whnf
    refine IdxC.encGs i hil rfl ?_
    conv => whnf
    refine callF hN gf72 rfl rfl ?_
    conv => whnf
    rw [incD (by omega)]
    exact again (i + 1) (by omega) (by omega) (weak_of rfl (by repeat ((conv => whnf); first | exact trivial | refine And.intro rfl ?_ | refine And.intro (incD (by omega)) ?_)) (by repeat ((conv => whnf); first | exact trivial | refine And.intro rfl ?_ | refine And.intro (incD (by omega)) ?_)))
  · have hil : i = ks.length := by have := of_decide_eq_false hb; omega
    subst hil
    rw [List.take_length]
    conv => whnf
    try exact rfl
theorem freeTypes_eq (t : TG) : putL [] (frG t []) = freeS t := by
  obtain ⟨h1, h2, _⟩ := putL_facts (frG t []) [] List.Pairwise.nil
  refine asc_ext _ _ h1 (freeS_asc t) fun z => ?_
  rw [h2 z, mem_freeS]
  simp
theorem rfreeTypes_fn (t : TG) (hz : szG t < 1099511627776) : FnR Tryz.prog G0 36 [dG t] (dI (freeS t)) := by
  have h := free_fn t [] [] (by simpa using hz) (by simpa using hz)
  rw [freeTypes_eq] at h
  refine fnQ_of_vc txok mixed [] Tryz.func36 rfl rfl (by simp) fun b => ?_
  conv => whnf
  refine callF h gf72 rfl rfl ?_
  conv => whnf
  try exact rfl
end Go.Proofs.YtcjkikadolnfgaaGreat


/- The reference: sizes; which types are right. -/
set_option linter.unusedSimpArgs false
set_option linter.unusedVariables false
namespace Go.Proofs.YtcjkikadolnfgaaGreat
open Go.Vx Go.Vc Go.RowKit
def cutN (most : Int) (x : Nat) : Int := if (x : Int) ≤ most then x else most + 1
theorem sizeG_pos {t : TG} {most : Int} (h : 0 ≤ most) : sizeG t most = cutN most (szG t) := by unfold sizeG cutN; rw [if_neg (by omega)]
theorem rsize_fn : ∀ (t : TG) (most : Int), szG t < 4611686018427387904 → -9223372036854775808 ≤ most → most < 9223372036854775808 → FnR Tryz.prog G0 64 [dG t, .int .i64 most] (.int .i64 (sizeG t most)) := by
  refine TG.ind fun k n ls ks ih most hz hm0 hm => ?_
  refine fnQ_sz fun hs => ?_
  have hl := (szOk_G (t := .mk k n ls ks) hs.1).1
  simp only [g_kids, LB] at hl
  have hsz : szG (.mk k n ls ks) = szGs ks + 1 := by simp only [szG]
  by_cases hneg : most < 0
  · have e : sizeG (.mk k n ls ks) most = 0 := by unfold sizeG; rw [if_pos hneg]
    rw [e]
    refine fnQ_of_wk (N := 38) txok mixed Tryz.func64 rfl rfl (by simp) fun b => ?_
    refine wk_seq ⟨[(1, .d (.int .i64 most)), (2, .own 0 0)], [(0, .blk 28 [.d (.int .i64 k), .d (.int .i64 n), .d (dL ls), .d (dGs ks)])], 1⟩ (wk_vc txok mixed [] ?_) ?_
    · conv => whnf
      exact weak_of rfl (by repeat ((conv => whnf); first | exact trivial | refine And.intro rfl ?_ | refine And.intro (incD (by omega)) ?_)) (by repeat ((conv => whnf); first | exact trivial | refine And.intro rfl ?_ | refine And.intro (incD (by omega)) ?_))
    refine wk_seqR (wk_vc txok mixed [] ?_)
    conv => whnf
    refine And.intro (fun h => ?_) (fun h => absurd hneg (of_decide_eq_false h))
    conv => whnf
    try exact rfl
  · rw [sizeG_pos (by omega), hsz]
    rw [hsz] at hz
    refine fnQ_of_wk (N := 38) txok mixed Tryz.func64 rfl rfl (by simp) fun b => ?_
    refine wk_seq ⟨[(1, .d (.int .i64 most)), (2, .own 0 0)], [(0, .blk 28 [.d (.int .i64 k), .d (.int .i64 n), .d (dL ls), .d (dGs ks)])], 1⟩ (wk_vc txok mixed [] ?_) ?_
    · conv => whnf
      exact weak_of rfl (by repeat ((conv => whnf); first | exact trivial | refine And.intro rfl ?_ | refine And.intro (incD (by omega)) ?_)) (by repeat ((conv => whnf); first | exact trivial | refine And.intro rfl ?_ | refine And.intro (incD (by omega)) ?_))
    refine wk_seq ⟨[(1, .d (.int .i64 most)), (2, .own 0 0)], [(0, .blk 28 [.d (.int .i64 k), .d (.int .i64 n), .d (dL ls), .d (dGs ks)])], 1⟩ (wk_vc txok mixed [] ?_) ?_
    · conv => whnf
      refine And.intro (fun h => absurd (of_decide_eq_true h) hneg) (fun h => ?_)
      conv => whnf
      exact weak_of rfl (by repeat ((conv => whnf); first | exact trivial | refine And.intro rfl ?_ | refine And.intro (incD (by omega)) ?_)) (by repeat ((conv => whnf); first | exact trivial | refine And.intro rfl ?_ | refine And.intro (incD (by omega)) ?_))
    refine wk_seq ⟨[(5, .d (.int .i64 1)), (1, .d (.int .i64 most)), (2, .own 0 0)], [(0, .blk 28 [.d (.int .i64 k), .d (.int .i64 n), .d (dL ls), .d (dGs ks)])], 1⟩ (wk_vc txok mixed [] ?_) ?_
    · conv => whnf
      exact weak_of rfl (by repeat ((conv => whnf); first | exact trivial | refine And.intro rfl ?_ | refine And.intro (incD (by omega)) ?_)) (by repeat ((conv => whnf); first | exact trivial | refine And.intro rfl ?_ | refine And.intro (incD (by omega)) ?_))
    refine wk_seq ⟨[(5, .d (.int .i64 (cutN most (szGs ks + 1)))), (1, .d (.int .i64 most)), (2, .own 0 0)], [(0, .blk 28 [.d (.int .i64 k), .d (.int .i64 n), .d (dL ls), .d (dGs ks)])], 1⟩ (wk_vc txok mixed [] ?_) ?_
    · conv => whnf
      refine loopH (fun i : Nat => i ≤ ks.length) (fun i => ks.length - i) (fun i => [(6, .d (.int .i64 i)), (5, .d (.int .i64 (cutN most (szGs (ks.take i) + 1))))]) (fun i => [(0, .blk 28 [.d (.int .i64 k), .d (.int .i64 n), .d (dL ls), .d (dGs ks)])]) 1 0 (by omega) ?_ ?_
      · have e : cutN most (szGs (ks.take 0) + 1) = 1 := by
          simp only [List.take_zero, szGs, cutN]
          split <;> omega
        rw [e]
        exact weak_of rfl (by repeat ((conv => whnf); first | exact trivial | refine And.intro rfl ?_ | refine And.intro (incD (by omega)) ?_)) (by repeat ((conv => whnf); first | exact trivial | refine And.intro rfl ?_ | refine And.intro (incD (by omega)) ?_))
      intro i hi
      have htl := szGs_le ks i
      have hgo : cutN most (szGs (ks.take i) + 1) = (if ((szGs (ks.take i) + 1 : Nat) : Int) ≤ most then ((szGs (ks.take i) + 1 : Nat) : Int) else most + 1) := rfl
      by_cases ha : ((szGs (ks.take i) + 1 : Nat) : Int) ≤ most
      · rw [if_pos ha] at hgo
        rw [hgo]
        conv => whnf
        refine And.intro (fun hb => ?_) (fun hb => ?_)
        · have hil : i < ks.length := by have := of_decide_eq_true hb; omega
          have hmem := szG_mem (List.getElem_mem hil)
          have htk := szGs_take hil
          have htl2 := szGs_le ks (i + 1)
          have hN := ih ks[i] (by simp) (most - ((szGs (ks.take i) + 1 : Nat) : Int)) (by omega) (by omega) (by omega)
          rw [sizeG_pos (by omega)] at hN
          have e1 : IntKind.i64.wrap (most - ((szGs (ks.take i) + 1 : Nat) : Int)) = most - ((szGs (ks.take i) + 1 : Nat) : Int) := Go.Vc.wrap_small (by omega) (by omega)
          have e2 : IntKind.i64.wrap (((szGs (ks.take i) + 1 : Nat) : Int) + cutN (most - ((szGs (ks.take i) + 1 : Nat) : Int)) (szG ks[i])) = cutN most (szGs (ks.take (i + 1)) + 1) := by
            rw [htk]
            unfold cutN
            by_cases h : (szG ks[i] : Int) ≤ most - ((szGs (ks.take i) + 1 : Nat) : Int)
            · rw [if_pos h, if_pos (by omega), Go.Vc.wrap_small (by omega) (by omega)]; omega
            · rw [if_neg h, if_neg (by omega)]
              have : ((szGs (ks.take i) + 1 : Nat) : Int) + (most - ((szGs (ks.take i) + 1 : Nat) : Int) + 1) = most + 1 := by omega
              rw [this]
              exact Go.Vc.wrap_small (by omega) (by omega)
          rw [← e1] at hN
          conv => whnf
          refine And.intro (fun hb2 => ?_) (fun hb2 => absurd ha (of_decide_eq_false hb2))
          conv => whnf
          refine IdxC.encGs i hil rfl ?_
          conv => whnf
          refine callF hN gf64 rfl rfl ?_
          conv => whnf
          rw [e1, e2, incD (by omega)]
          exact again (i + 1) (by omega) (by omega) (weak_of rfl (by repeat ((conv => whnf); first | exact trivial | refine And.intro rfl ?_ | refine And.intro (incD (by omega)) ?_)) (by repeat ((conv => whnf); first | exact trivial | refine And.intro rfl ?_ | refine And.intro (incD (by omega)) ?_)))
        · have hil : i = ks.length := by have := of_decide_eq_false hb; omega
          subst hil
          rw [List.take_length] at hgo ⊢
          conv => whnf
          rw [← hgo]
          exact weak_of rfl (by repeat ((conv => whnf); first | exact trivial | refine And.intro rfl ?_ | refine And.intro (incD (by omega)) ?_)) (by repeat ((conv => whnf); first | exact trivial | refine And.intro rfl ?_ | refine And.intro (incD (by omega)) ?_))
      · rw [if_neg ha] at hgo
        have e3 : cutN most (szGs ks + 1) = most + 1 := by unfold cutN; rw [if_neg (by omega)]
        rw [hgo, e3]
        conv => whnf
        refine And.intro (fun hb => ?_) (fun hb => ?_)
        · conv => whnf
          refine And.intro (fun hb2 => absurd (of_decide_eq_true hb2) (by omega)) (fun hb2 => ?_)
          conv => whnf
          exact weak_of rfl (by repeat ((conv => whnf); first | exact trivial | refine And.intro rfl ?_ | refine And.intro (incD (by omega)) ?_)) (by repeat ((conv => whnf); first | exact trivial | refine And.intro rfl ?_ | refine And.intro (incD (by omega)) ?_))
        · conv => whnf
          exact weak_of rfl (by repeat ((conv => whnf); first | exact trivial | refine And.intro rfl ?_ | refine And.intro (incD (by omega)) ?_)) (by repeat ((conv => whnf); first | exact trivial | refine And.intro rfl ?_ | refine And.intro (incD (by omega)) ?_))
    refine wk_vc txok mixed [] ?_
    have hgo : cutN most (szGs ks + 1) = (if ((szGs ks + 1 : Nat) : Int) ≤ most then ((szGs ks + 1 : Nat) : Int) else most + 1) := rfl
    by_cases ha : ((szGs ks + 1 : Nat) : Int) ≤ most
    · rw [if_pos ha] at hgo
      rw [hgo]
      conv => whnf
      refine And.intro (fun hb => absurd (of_decide_eq_true hb) (by omega)) (fun hb => ?_)
      conv => whnf
      try exact rfl
    · rw [if_neg ha] at hgo
      rw [hgo]
      conv => whnf
      refine And.intro (fun hb => ?_) (fun hb => absurd (of_decide_eq_false hb) (by omega))
      conv => whnf
      rw [Go.Vc.wrap_small (by omega) (by omega)]
end Go.Proofs.YtcjkikadolnfgaaGreat


