/- Texts of mine, joined: Bh Bi Bj Bu Bv Bw Yx Yy Bz Cd Zl Yt Yu Za Zb Zc Zd Ze Yc Zf. -/
import Derived.Shelf.Sort.Plain
import Derived.Shelf.Slices.In.SortNone
import Derived.Shelf.Slices.CompactI
import Derived.Sort.OwnSortedInts
import Derived.Test.YtcjkikadolnfgaaGreatPaq
import Derived.Test.YtcjkikadolnfgaaGreatPaj
/- The shelf's slices.Sort and slices.Compact at ints, laid at this seat's program: printed by a program of mine out of Lean's print of the kit's laying command. -/
set_option linter.unusedSimpArgs false
set_option linter.unusedVariables false
namespace Go.Proofs.YtcjkikadolnfgaaGreat
open Go.Proofs Go.Shelf Go.RowKit Go.Lib Go.Sort
def sortI_ren : Ren :=
  { f := fun x => match x with | 189 => 69 | 125 => 107 | 257 => 106 | 128 => 159 | 129 => 160 | 294 => 150 | 295 => 151 | 296 => 152 | 297 => 153 | 298 => 154 | 299 => 155 | 216 => 156 | 300 => 157 | 301 => 158 | 328 => 177 | 329 => 178 | 330 => 179 | 331 => 180 | 332 => 181 | 215 => 182 | 343 => 187 | n => n,
    t := fun x => match x with | 28 => 36 | 3 => 3 | 46 => 112 | 0 => 0 | 51 => 141 | 53 => 143 | 4 => 4 | 183 => 133 | 182 => 132 | 131 => 138 | 5 => 5 | 9 => 9 | 218 => 162 | 222 => 166 | 228 => 172 | 229 => 173 | n => n,
    g := fun n => n }
theorem sortI : Lays.n189 Tryz.prog sortI_ren :=
  { mixed := rfl,
    f125 := Tryz.func107.trans (congrArg some rfl),
    f128 := Tryz.func159.trans (congrArg some rfl),
    f129 := Tryz.func160.trans (congrArg some rfl),
    f189 := Tryz.func69.trans (congrArg some rfl),
    f215 := Tryz.func182.trans (congrArg some rfl),
    f216 := Tryz.func156.trans (congrArg some rfl),
    f257 := Tryz.func106.trans (congrArg some rfl),
    f294 := Tryz.func150.trans (congrArg some rfl),
    f295 := Tryz.func151.trans (congrArg some rfl),
    f296 := Tryz.func152.trans (congrArg some rfl),
    f297 := Tryz.func153.trans (congrArg some rfl),
    f298 := Tryz.func154.trans (congrArg some rfl),
    f299 := Tryz.func155.trans (congrArg some rfl),
    f300 := Tryz.func157.trans (congrArg some rfl),
    f301 := Tryz.func158.trans (congrArg some rfl),
    f328 := Tryz.func177.trans (congrArg some rfl),
    f329 := Tryz.func178.trans (congrArg some rfl),
    f330 := Tryz.func179.trans (congrArg some rfl),
    f331 := Tryz.func180.trans (congrArg some rfl),
    f332 := Tryz.func181.trans (congrArg some rfl),
    f343 := Tryz.func187.trans (congrArg some rfl),
    t0 := Tryz.underlying0,
    a0 := Tryz.isAgg0,
    z0 := Tryz.sizeOf0,
    v0 := Tryz.zeroValue0,
    t3 := Tryz.underlying3,
    a3 := Tryz.isAgg3,
    z3 := Tryz.sizeOf3,
    v3 := Tryz.zeroValue3,
    t4 := Tryz.underlying4,
    a4 := Tryz.isAgg4,
    z4 := Tryz.sizeOf4,
    v4 := Tryz.zeroValue4,
    t5 := Tryz.underlying5,
    a5 := Tryz.isAgg5,
    z5 := Tryz.sizeOf5,
    v5 := Tryz.zeroValue5,
    t9 := Tryz.underlying9,
    a9 := Tryz.isAgg9,
    z9 := Tryz.sizeOf9,
    v9 := Tryz.zeroValue9,
    t28 := Tryz.underlying36,
    a28 := Tryz.isAgg36,
    z28 := Tryz.sizeOf36,
    v28 := Tryz.zeroValue36,
    t46 := Tryz.underlying112,
    a46 := Tryz.isAgg112,
    z46 := Tryz.sizeOf112,
    v46 := Tryz.zeroValue112,
    t51 := Tryz.underlying141,
    a51 := Tryz.isAgg141,
    z51 := Tryz.sizeOf141,
    v51 := Tryz.zeroValue141,
    t53 := Tryz.underlying143,
    a53 := Tryz.isAgg143,
    z53 := Tryz.sizeOf143,
    v53 := Tryz.zeroValue143,
    t131 := Tryz.underlying138,
    a131 := Tryz.isAgg138,
    z131 := Tryz.sizeOf138,
    v131 := Tryz.zeroValue138,
    t182 := Tryz.underlying132,
    a182 := Tryz.isAgg132,
    z182 := Tryz.sizeOf132,
    v182 := Tryz.zeroValue132,
    t183 := Tryz.underlying133,
    a183 := Tryz.isAgg133,
    z183 := Tryz.sizeOf133,
    v183 := Tryz.zeroValue133,
    t218 := Tryz.underlying162,
    a218 := Tryz.isAgg162,
    z218 := Tryz.sizeOf162,
    v218 := Tryz.zeroValue162,
    t222 := Tryz.underlying166,
    a222 := Tryz.isAgg166,
    z222 := Tryz.sizeOf166,
    v222 := Tryz.zeroValue166,
    t228 := Tryz.underlying172,
    a228 := Tryz.isAgg172,
    z228 := Tryz.sizeOf172,
    v228 := Tryz.zeroValue172,
    t229 := Tryz.underlying173,
    a229 := Tryz.isAgg173,
    z229 := Tryz.sizeOf173,
    v229 := Tryz.zeroValue173 }
def compI_ren : Ren :=
  { f := fun x => match x with | 20 => 70 | n => n,
    t := fun x => match x with | 22 => 36 | 3 => 3 | 4 => 4 | 0 => 0 | n => n,
    g := fun n => n }
theorem compI : Lays2.n20 Tryz.prog compI_ren :=
  { mixed := rfl,
    f20 := Tryz.func70.trans (congrArg some rfl),
    t0 := Tryz.underlying0,
    a0 := Tryz.isAgg0,
    z0 := Tryz.sizeOf0,
    v0 := Tryz.zeroValue0,
    t3 := Tryz.underlying3,
    a3 := Tryz.isAgg3,
    z3 := Tryz.sizeOf3,
    v3 := Tryz.zeroValue3,
    t4 := Tryz.underlying4,
    a4 := Tryz.isAgg4,
    z4 := Tryz.sizeOf4,
    v4 := Tryz.zeroValue4,
    t22 := Tryz.underlying36,
    a22 := Tryz.isAgg36,
    z22 := Tryz.sizeOf36,
    v22 := Tryz.zeroValue36,
    i3 := by kernel_rfl }
theorem putCells_len (off : Nat) (d : Array Int) (cur : Array Value) : (putCells (Value.int .i64) off d cur).size = cur.size := by simp [putCells]
theorem putCells_cut (off k : Nat) (d : Array Int) (cur : Array Value) (h : off + d.size ≤ cur.size) (hk : k ≤ d.size) : ((putCells (Value.int .i64) off d cur).toList.drop off).take k = (d.toList.take k).map (Value.int .i64) := by
  apply List.ext_getElem?
  intro j
  by_cases hj : j < k
  · rw [List.getElem?_take_of_lt hj, List.getElem?_drop, Array.getElem?_toList]
    have h1 : off + j < cur.size := by omega
    have h2 : j < d.size := by omega
    simp [putCells, h1, hj, h2]
  · rw [List.getElem?_take_eq_none (by omega), List.getElem?_eq_none (by simp; omega)]
theorem holdsI {w : World} {g o : Nat} {cur : Array Value} {e : TypeId} {l : List Int} (hg : w.heap[g]? = some (.cells cur e (0, 0))) (hc : (cur.toList.drop o).take l.length = l.map (Value.int .i64)) : Holds (Value.int .i64) w g o l.toArray := by
  intro j hj
  have hj' : j < l.length := by simpa using hj
  constructor
  · have h1 : ((cur.toList.drop o).take l.length)[j]? = (l.map (Value.int .i64))[j]? := by rw [hc]
    rw [List.getElem?_take_of_lt hj', List.getElem?_drop, Array.getElem?_toList] at h1
    simp only [World.cell?, hg]
    simp [h1, hj']
  · simp [World.frozen?, hg]
theorem heap_putI {w : World} {g n o : Nat} {os : Array Obj} {cur : Array Value} {e : TypeId} {fr : Nat × Nat} (d : Array Int) (hb : w.heap[g]? = some (.cells cur e fr)) :
    (grow (putRow (Value.int .i64) (Sort.ahead w n) g o d) os).heap[g]? = some (.cells (putCells (Value.int .i64) o d cur) e fr) := by
  have hg : g < w.heap.size := (Array.getElem?_eq_some_iff.1 hb).1
  rw [heap_grow_old _ _ (by simpa using hg)]
  simp [putRow, mapBlock, Sort.ahead, Array.getElem?_modify, hb, onCells]
theorem grownBy_putI {w : World} {g n o : Nat} {os : Array Obj} (d : Array Int) : w.grownBy (grow (putRow (Value.int .i64) (Sort.ahead w n) g o d) os) (some g) := by
  refine ⟨rfl, rfl, rfl, by simp, fun k hk hne => ?_⟩
  rw [heap_grow_old _ _ (by simpa using hk)]
  have : g ≠ k := fun e => hne (by rw [e])
  simp [putRow, mapBlock, Sort.ahead, Array.getElem?_modify, this]
theorem repI_of (S : Nat → Prop) (w : World) : ∀ l : List Int, Go.Vx.RepDs S w (Go.Vx.encI l) (l.map (.int .i64))
  | [] => by simp only [Go.Vx.encI, List.map_nil, Go.Vx.RepDs]
  | x :: r => by
    rw [show Go.Vx.encI (x :: r) = .int .i64 x :: Go.Vx.encI r from rfl, List.map_cons]
    simp only [Go.Vx.RepDs, Go.Vx.RepD]
    exact ⟨_, _, rfl, rfl, repI_of S w r⟩
theorem row_left {e : Go.Vx.Env} {w w' : World} {n m g o c : Nat} {cur cur' : Array Value} {l l' : List Int} {xs : List Go.Vx.D} (hlen : e.m.length = 1) (hm : e.m[0]? = some (.slice (some ⟨g, o, none⟩) n c)) (hH : Go.Vx.HpOk e w [(0, .row 3 8 1 n xs)])
    (hg : w.heap[g]? = some (.cells cur 3 (0, 0))) (hgr : w.grownBy w' (some g)) (hg' : w'.heap[g]? = some (.cells cur' 3 (0, 0))) (hsz : cur'.size = cur.size) (hm' : l'.length = m) (hcap : m ≤ c) (hmax : c ≤ maxLen) (hcs : o + c * 1 ≤ cur.size) (hcut : (cur'.toList.drop o).take m = l'.map (.int .i64)) (hlim : m * 8 ≤ Go.Vx.LB) :
    Go.Vx.Left G0 0 e w [(0, .row 3 8 1 n xs)] ⟨[.slice (some ⟨g, o, none⟩) m c], e.pub⟩ w' [(0, .row 3 8 1 m (Go.Vx.encI l'))] := by
  have h0 : ∀ i, Go.Vx.has [(0, Go.Vx.Ob.row 3 8 1 m (Go.Vx.encI l'))] i → i = 0 := by
    intro i hi
    unfold Go.Vx.has at hi
    simp only [Go.Vc.lk] at hi
    split at hi
    · rename_i e1; exact (Go.Vc.nbeq.1 e1).symm
    · cases hi
  have hf : Go.Vx.foot e 0 g := ⟨_, hm, by rfl⟩
  have hft : ∀ k, Go.Vx.foot ⟨[.slice (some ⟨g, o, none⟩) m c], e.pub⟩ 0 k → k = g := by
    rintro k ⟨v, h1, h2⟩
    have h1 : some (Value.slice (some ⟨g, o, none⟩) m c) = some v := h1
    injection h1 with h1; subst h1
    have h2 : some g = some k := h2
    injection h2 with h2; exact h2.symm
  have hpub : ¬ e.pub g := fun hp => hH.npub 0 g (by rfl) hf hp
  refine ⟨⟨fun i ob ho => ?_, fun i j k hi hj hne _ _ => absurd ((h0 i hi).trans (h0 j hj).symm) hne, fun i k hi hk hp => ?_, fun k hk => Nat.lt_of_lt_of_le (hH.pubLt k hk) hgr.size⟩, by simp [hlen], ?_, trivial, fun i v hv hns => ?_, fun k hk => hk, fun k hk => .inl hk, fun i hi => ?_, fun i k hi hk => ?_⟩
  · obtain rfl := h0 i (by simp [Go.Vx.has, ho])
    simp only [Go.Vc.lk, Nat.beq_refl] at ho
    injection ho with ho; subst ho
    exact ⟨some ⟨g, o, none⟩, c, l'.map (.int .i64), rfl, ⟨m, by simp [hm'], .inr ⟨g, o, c, cur', rfl, hg', hcap, hmax, by rw [hsz]; exact hcs, by rw [Nat.mul_one]; exact hcut⟩⟩, repI_of _ _ l', hlim⟩
  · obtain rfl := h0 i hi
    rw [hft k hk] at hp
    exact hpub hp
  · exact ⟨hgr.os, hgr.tape, hgr.output, hgr.size, fun k hk hn => hgr.block k hk (fun e1 => by injection e1 with e1; subst e1; exact hn ⟨0, by rfl, hf⟩)⟩
  · rcases Nat.eq_zero_or_pos i with rfl | hi
    · rw [hm] at hv; injection hv with hv; exact absurd hv.symm (hns _ _ _)
    · have := (List.getElem?_eq_some_iff.1 hv).1; omega
  · obtain rfl := h0 i hi; simp [hlen]
  · obtain rfl := h0 i hi
    rw [hft k hk]
    exact .inl ⟨0, by rfl, hf⟩
def srtI (l : List Int) : List Int := l.mergeSort fun x y => decide (x ≤ y)
theorem sort_tri2 (l : List Int) (hl : l.length * 8 ≤ Go.Vx.LB) : Go.Vx.Tri Tryz.prog G0 69 2 0 [.row 1] [(0, .blk 90 [.row 1, .nl]), (1, .row 3 8 1 l.length (Go.Vx.encI l))] (fun o H' => o = .ret (.tup []) ∧ H' = [(0, .blk 90 [.row 1, .nl]), (1, .row 3 8 1 l.length (Go.Vx.encI (srtI l)))]) := by
  intro e w vs hlen hargs hH hG
  simp only [Go.Vx.RepSVs, Go.Vx.RepSV] at hargs
  obtain ⟨v, s, rfl, ⟨A, n, c, rfl, hm⟩, rfl⟩ := hargs
  obtain ⟨A', c', xs, hm', hrow, hxs, hlb⟩ := hH.ob 1 _ rfl
  obtain ⟨g0, vs0, hm0, hg0, hvs0⟩ := hH.ob 0 _ rfl
  rw [hm] at hm'; injection hm' with hm'; injection hm' with e1 e2 e3
  subst e1; subst e2; subst e3
  have hx := repI_flat hxs
  have hsl : (srtI l).length = l.length := by unfold srtI; simp
  have hasE : ∀ {i : Nat} {ob : Go.Vx.Ob}, Go.Vx.has [(0, .blk 90 [.row 1, .nl]), (1, ob)] i → i = 0 ∨ i = 1 := by
    intro i ob hi
    unfold Go.Vx.has at hi
    simp only [Go.Vc.lk] at hi
    split at hi
    · rename_i e1; exact .inl (Go.Vc.nbeq.1 e1).symm
    · split at hi
      · rename_i e1; exact .inr (Go.Vc.nbeq.1 e1).symm
      · cases hi
  have hasI : ∀ {i : Nat} {ob ob' : Go.Vx.Ob}, Go.Vx.has [(0, .blk 90 [.row 1, .nl]), (1, ob)] i → Go.Vx.has [(0, .blk 90 [.row 1, .nl]), (1, ob')] i := by
    intro i ob ob' hi
    rcases hasE hi with rfl | rfl <;> rfl
  obtain ⟨n', hn, ⟨hv, hz⟩ | ⟨g, o, cap, cur, hv, hg, hc1, hc2, hsz, htk⟩⟩ := hrow
  · simp only at hv hn
    injection hv with h1 h2 h3
    subst h1; subst h3
    have hl0 : l = [] := List.eq_nil_of_length_eq_zero h2
    subst hl0
    refine (Any.slices_Sort_int_none sortI none 0 w).mono ?_
    rintro en w' ⟨rfl, rfl⟩
    refine ⟨.ret (.tup []), _, e, ⟨rfl, rfl⟩, ⟨_, rfl, by simp only [Go.Vx.RepSV, Go.Vx.RepSVs]; exact ⟨_, rfl, rfl⟩⟩, ?_⟩
    exact ⟨by simpa [srtI] using hH, rfl, Go.Vc.Only.refl _ _, trivial, fun _ _ h _ => h, fun _ h => h, fun _ h => .inl h, fun i hi => by
      rcases hasE hi with rfl | rfl <;> omega, fun i k hi hk => .inl ⟨i, hasI hi, hk⟩⟩
  · simp only at hv hg htk hn hsz
    injection hv with h1 h2 h3
    subst h1; subst h3
    have hnl : n' = l.length := h2.symm
    subst hnl
    rw [Nat.mul_one, hx] at htk
    have hlt := (Array.getElem?_eq_some_iff.1 hg).1
    have hl' := hl
    simp only [Go.Vx.LB] at hl'
    have hf1 : Go.Vx.foot e 1 g := ⟨_, hm, rfl⟩
    have hf0 : Go.Vx.foot e 0 g0 := ⟨_, hm0, rfl⟩
    have hne : g0 ≠ g := fun h => hH.sep 0 1 g0 rfl rfl (by decide) hf0 (h ▸ hf1)
    have hlt0 := (Array.getElem?_eq_some_iff.1 hg0).1
    refine (Any.slices_Sort_int sortI g o c l w (holdsI hg htk) hlt (by omega)).mono ?_
    rintro en w' ⟨rfl, q, os, rfl⟩
    have hgr : w.grownBy (grow (putRow (Value.int .i64) (Sort.ahead w q) g o (srtI l).toArray) os) (some g) := grownBy_putI _
    have hcut := putCells_cut o l.length (srtI l).toArray cur (by simp [hsl]; omega) (by simp [hsl])
    rw [List.toList_toArray, ← hsl, List.take_length] at hcut
    refine ⟨.ret (.tup []), _, e, ⟨rfl, rfl⟩, ⟨_, rfl, by simp only [Go.Vx.RepSV, Go.Vx.RepSVs]; exact ⟨_, rfl, rfl⟩⟩, ?_⟩
    refine ⟨⟨fun i ob ho => ?_, fun i j k hi hj => hH.sep i j k (hasI hi) (hasI hj), fun i k hi => hH.npub i k (hasI hi), fun k hk => Nat.lt_of_lt_of_le (hH.pubLt k hk) hgr.size⟩, rfl, ?_, trivial, fun _ _ h _ => h, fun _ h => h, fun _ h => .inl h, fun i hi => ?_, fun i k hi hk => .inl ⟨i, hasI hi, hk⟩⟩
    · rcases hasE (i := i) (by unfold Go.Vx.has; rw [ho]; rfl) with rfl | rfl
      · simp only [Go.Vc.lk, Nat.beq_refl] at ho
        injection ho with ho; subst ho
        exact ⟨g0, vs0, hm0, (hgr.block g0 hlt0 (fun e1 => by injection e1 with e1; exact hne e1)).trans hg0, by simpa only [Go.Vx.RepSVs, Go.Vx.RepSV] using hvs0⟩
      · have ho : some (Go.Vx.Ob.row 3 8 1 l.length (Go.Vx.encI (srtI l))) = some ob := ho
        injection ho with ho; subst ho
        refine ⟨some ⟨g, o, none⟩, c, (srtI l).map (.int .i64), hm, ⟨l.length, by simp [hsl], .inr ⟨g, o, c, _, rfl, heap_putI _ hg, hc1, hc2, by rw [putCells_len]; exact hsz, ?_⟩⟩, repI_of _ _ _, hl⟩
        rw [Nat.mul_one, ← hsl]
        exact hcut
    · exact ⟨hgr.os, hgr.tape, hgr.output, hgr.size, fun k hk hn => hgr.block k hk (fun e1 => by injection e1 with e1; subst e1; exact hn ⟨1, rfl, hf1⟩)⟩
    · rcases hasE hi with rfl | rfl <;> omega
theorem comp_tri (l : List Int) (hl : l.length * 8 ≤ Go.Vx.LB) : Go.Vx.Tri Tryz.prog G0 70 1 0 [.row 0] [(0, .row 3 8 1 l.length (Go.Vx.encI l))] (fun o H' => o = .ret (.row 0) ∧ H' = [(0, .row 3 8 1 (Lib.compact l).length (Go.Vx.encI (Lib.compact l)))]) := by
  intro e w vs hlen hargs hH hG
  simp only [Go.Vx.RepSVs, Go.Vx.RepSV] at hargs
  obtain ⟨v, s, rfl, ⟨A, n, c, rfl, hm⟩, rfl⟩ := hargs
  obtain ⟨A', c', xs, hm', hrow, hxs, hlb⟩ := hH.ob 0 _ rfl
  rw [hm] at hm'; injection hm' with hm'; injection hm' with e1 e2 e3
  subst e1; subst e2; subst e3
  have hx := repI_flat hxs
  have hcl : (Lib.compact l).length ≤ l.length := by
    unfold Lib.compact Lib.compactUpTo
    rw [List.length_map]
    exact Nat.le_trans (List.length_filter_le _ _) (by simp)
  obtain ⟨n', hn, ⟨hv, hz⟩ | ⟨g, o, cap, cur, hv, hg, hc1, hc2, hsz, htk⟩⟩ := hrow
  · simp only at hv hn
    injection hv with h1 h2 h3
    subst h1; subst h3
    have hl0 : l = [] := List.eq_nil_of_length_eq_zero h2
    subst hl0
    refine (Any.slices_Compact_int_empty compI none 0 w).mono ?_
    rintro en w' ⟨rfl, rfl⟩
    refine ⟨.ret (.row 0), _, e, ⟨rfl, rfl⟩, ⟨_, rfl, by simp only [Go.Vx.RepSV]; exact ⟨_, _, _, rfl, hm⟩⟩, ?_⟩
    exact ⟨hH, rfl, Go.Vc.Only.refl _ _, trivial, fun _ _ h _ => h, fun _ h => h, fun _ h => .inl h, fun i hi => by
      have : i = 0 := by
        unfold Go.Vx.has at hi
        simp only [Go.Vc.lk] at hi
        split at hi
        · rename_i e1; exact (Go.Vc.nbeq.1 e1).symm
        · cases hi
      omega, fun i k hi hk => .inl ⟨0, by rfl, by
        have : i = 0 := by
          unfold Go.Vx.has at hi
          simp only [Go.Vc.lk] at hi
          split at hi
          · rename_i e1; exact (Go.Vc.nbeq.1 e1).symm
          · cases hi
        subst this; exact hk⟩⟩
  · simp only at hv hg htk hn hsz
    injection hv with h1 h2 h3
    subst h1; subst h3
    have hnl : n' = l.length := h2.symm
    subst hnl
    rw [Nat.mul_one, hx] at htk
    have hlt := (Array.getElem?_eq_some_iff.1 hg).1
    have hl' := hl
    simp only [Go.Vx.LB] at hl'
    refine (Any.slices_Compact_int compI g o c l w (holdsI hg htk) (by omega) hc1).mono ?_
    rintro en w' ⟨rfl, q, rfl⟩
    have hgrow : ∀ d : Array Int, putRow (Value.int .i64) (Sort.ahead w q) g o d = grow (putRow (Value.int .i64) (Sort.ahead w q) g o d) #[] := fun d => by unfold grow; rw [Array.append_empty]
    rw [hgrow]
    refine ⟨.ret (.row 0), _, _, ⟨rfl, rfl⟩, ⟨_, rfl, by simp only [Go.Vx.RepSV]; exact ⟨_, _, _, rfl, rfl⟩⟩, row_left (l := l) hlen hm hH hg (grownBy_putI _) (heap_putI _ hg) (putCells_len _ _ _) rfl (Nat.le_trans hcl hc1) hc2 hsz ?_ (Nat.le_trans (Nat.mul_le_mul_right _ hcl) hl)⟩
    have := putCells_cut o (Lib.compact l).length (Lib.compact l ++ List.replicate (l.length - (Lib.compact l).length) 0).toArray cur (by simp; omega) (by simp)
    rw [this]
    simp
end Go.Proofs.YtcjkikadolnfgaaGreat
/- FreeTypes. -/
namespace Go.Proofs.YtcjkikadolnfgaaGreat
open Go.Vx Go.Vc Go.RowKit
def freeS (t : TG) : List Int := Go.Lib.compact (srtI (frG t []))
theorem freeS_len (t : TG) : (freeS t).length ≤ szG t := by
  unfold freeS
  have h1 : (Go.Lib.compact (srtI (frG t []))).length ≤ (srtI (frG t [])).length := by
    unfold Go.Lib.compact Go.Lib.compactUpTo
    rw [List.length_map]
    exact Nat.le_trans (List.length_filter_le _ _) (by simp)
  have h2 : (srtI (frG t [])).length = (frG t []).length := by unfold srtI; simp
  have h3 := frG_len t []
  omega
theorem nl_dI (e : Env) (w : World) (v : Value) (h : RepSV e w .nl v) : RepSV e w (.d (dI [])) v := by
  simp only [RepSV] at h ⊢
  subst h
  unfold dI slD ebn
  simp only [RepD, Vx.encI, List.length_nil]
  exact ⟨none, 0, rfl, Nat.le_refl _, by simp, fun h => absurd rfl h, by simp [RepC]⟩
theorem wtyp_nl (t : TG) (h1 : ([] : List Int).length + szG t < 1099511627776) (h2 : ([] : List Int).length + szG t < 8796093022208) : Tri Tryz.prog G0 68 2 0 [.own 0 0, .d (dG t), .nl] (wkr .nl []) (wkrPost .nl ([] ++ frG t [])) := by
  intro e w vs hlen hargs hH hG
  refine wtyp_tri t [] [] h1 h2 e w vs hlen ?_ hH hG
  simp only [RepSVs] at hargs ⊢
  obtain ⟨v, s, rfl, a1, v2, s2, rfl, a2, v3, s3, rfl, a3, rfl⟩ := hargs
  exact ⟨v, _, rfl, a1, v2, _, rfl, a2, v3, _, rfl, nl_dI _ _ _ a3, rfl⟩
theorem freeT_fn (t : TG) (h : szG t < 1099511627776) : FnR Tryz.prog G0 33 [dG t] (dI (freeS t)) := by
  have hl := frG_len t []
  have h2 : (srtI (frG t [])).length = (frG t []).length := by unfold srtI; simp
  refine fnQ_of_vc txok mixed [] Tryz.func33 rfl rfl (by simp) fun b => ?_
  conv => whnf
  refine weakC _ (weak_nlC 1 0 3 8 1 rfl rfl) ?_
  refine callT [1, 2] (wtyp_nl t (by simpa using h) (by simp; omega)) gf68 rfl rfl ⟨rfl, rfl, trivial⟩ rfl ?_
  rintro o' H' ⟨rfl, rfl⟩
  conv => whnf
  rw [List.nil_append]
  refine callT [1, 2] (sort_tri2 (frG t []) (by simp only [LB]; omega)) gf69 rfl rfl ⟨rfl, rfl, trivial⟩ rfl ?_
  rintro o' H' ⟨rfl, rfl⟩
  conv => whnf
  rw [← h2]
  refine callT [2] (comp_tri (srtI (frG t [])) (by simp only [LB]; omega)) gf70 rfl rfl ⟨rfl, trivial⟩ rfl ?_
  rintro o' H' ⟨rfl, rfl⟩
  conv => whnf
  try exact rfl
end Go.Proofs.YtcjkikadolnfgaaGreat


/- put, renamed, Put. -/
set_option linter.unusedSimpArgs false
set_option linter.unusedVariables false
namespace Go.Proofs.YtcjkikadolnfgaaGreat
open Go.Vx Go.Vc Go.RowKit
def mixF (g : TG → TG) (l : List TG) (i : Nat) : List TG := (l.take i).map g ++ l.drop i
theorem mixF_len (g : TG → TG) (l : List TG) (i : Nat) : (mixF g l i).length = l.length := by
  simp [mixF]; omega
theorem mixF_get {g : TG → TG} {l : List TG} {i : Nat} (h : i < l.length) (h' : i < (mixF g l i).length) : (mixF g l i)[i] = l[i] := by
  simp only [mixF]
  rw [List.getElem_append_right (by simp; omega)]
  simp [Nat.min_eq_left (Nat.le_of_lt h)]
theorem mixF_set {g : TG → TG} {l : List TG} {i : Nat} (h : i < l.length) : (mixF g l i).set i (g l[i]) = mixF g l (i + 1) := by
  simp only [mixF]
  rw [List.set_append_right _ _ (by simp; omega)]
  simp only [List.length_map, List.length_take, Nat.min_eq_left (Nat.le_of_lt h), Nat.sub_self]
  rw [List.drop_eq_getElem_cons h, List.set_cons_zero, List.take_succ_eq_append_getElem h, List.map_append, List.append_assoc]
  rfl
theorem mixF_zero (g : TG → TG) (l : List TG) : mixF g l 0 = l := by simp [mixF]
theorem mixF_all (g : TG → TG) (l : List TG) : mixF g l l.length = l.map g := by simp [mixF]
theorem encGs_set (l : List TG) (i : Nat) (hi : i < l.length) (x : TG) : ovl (encGs l) (i * 4) (encG x) = encGs (l.set i x) := by
  rw [encGs_eq, encGs_eq]; exact fl_set encG_len l i hi x
def varG (n : Int) : TG := .mk 6 n [] []
def ownS (l : List TG) : List Int := l.flatMap freeS
theorem ownS_take {l : List TG} {i : Nat} (h : i < l.length) : ownS (l.take (i + 1)) = ownS (l.take i) ++ freeS l[i] := by
  unfold ownS
  rw [List.take_succ_eq_append_getElem h, List.flatMap_append]; simp
theorem ownS_len : ∀ l : List TG, (ownS l).length ≤ szGs l
  | [] => by simp [ownS, szGs]
  | t :: r => by
    have h1 := freeS_len t
    have h2 := ownS_len r
    unfold ownS at h2 ⊢
    rw [List.flatMap_cons, List.length_append, szGs]; omega
def freshN (fr : List Int) (l : List TG) (x n : Int) : Int := (mex [fr, ownS l, [x, n]].flatten : Nat)
def putF : Nat → TG → Int → TG → List Int → TG
  | 0, t, _, _, _ => t
  | f + 1, t, x, y, fr =>
    if t.k = 6 ∧ t.n = x then y
    else if bndG t.k = true ∧ t.n = x then t
    else if bndG t.k = true ∧ t.n ∈ fr ∧ 0 < t.kids.length then
      .mk t.k (freshN fr t.kids x t.n) t.ls ((t.kids.map fun u => putF f u t.n (varG (freshN fr t.kids x t.n)) [freshN fr t.kids x t.n]).map fun u => putF f u x y fr)
    else .mk t.k t.n t.ls (t.kids.map fun u => putF f u x y fr)
def renF (f : Nat) (t : TG) (x : Int) (fr : List Int) : TG := .mk t.k (freshN fr t.kids x t.n) t.ls (t.kids.map fun u => putF f u t.n (varG (freshN fr t.kids x t.n)) [freshN fr t.kids x t.n])
theorem szG_eq (t : TG) : szG t = szGs t.kids + 1 := by cases t; simp only [szG, g_kids]
theorem szGs_map_le {g : TG → TG} : ∀ {l : List TG}, (∀ t ∈ l, szG (g t) ≤ szG t) → szGs (l.map g) ≤ szGs l
  | [], _ => Nat.le_refl _
  | t :: r, h => by
    rw [List.map_cons, szGs, szGs]
    exact Nat.add_le_add (h t (by simp)) (szGs_map_le fun u hu => h u (by simp [hu]))
theorem sz_put : ∀ (f : Nat) (t : TG) (x : Int) (y : TG) (fr : List Int), szG y = 1 → szG (putF f t x y fr) ≤ szG t
  | 0, _, _, _, _, _ => Nat.le_refl _
  | f + 1, t, x, y, fr, hy => by
    unfold putF
    have hv : ∀ n, szG (varG n) = 1 := fun n => by simp [varG, szG, szGs]
    have ht := szG_eq t
    repeat' split
    · omega
    · exact Nat.le_refl _
    · rw [szG, ht]
      exact Nat.succ_le_succ (Nat.le_trans (szGs_map_le fun u _ => sz_put f u x y fr hy) (szGs_map_le fun u _ => sz_put f u _ _ _ (hv _)))
    · rw [szG, ht]
      exact Nat.succ_le_succ (szGs_map_le fun u _ => sz_put f u x y fr hy)
theorem freeS_var (n : Int) : freeS (varG n) = [n] := by
  unfold freeS varG
  have h : frG (.mk 6 n [] []) [] = [n] := by
    rw [frG_mk, if_pos ⟨rfl, by show (-1 : Int) < 0; decide⟩]; rfl
  rw [h]
  unfold srtI
  rw [List.mergeSort_singleton]
  rfl
def PutOk (f : Nat) : Prop := ∀ t, szG t ≤ f → ∀ x y fr, FnR Tryz.prog G0 102 [dG t, .int .i64 x, dG y, dI fr] (dG (putF f t x y fr))
theorem putT_fn {f : Nat} (hp : PutOk f) (t : TG) (ht : szG t ≤ f) (x : Int) (y : TG) (hy : szG y < 1099511627776) : FnR Tryz.prog G0 61 [dG t, .int .i64 x, dG y] (dG (putF f t x y (freeS y))) := by
  refine fnQ_of_vc txok mixed [(1, .take 0 (.pure 1 (.take 2 (.take 3 (.run 4 (.fin 5 (.fin 6 .done)))))))] Tryz.func61 rfl rfl (by simp) fun b => ?_
  conv => whnf
  refine And.intro (by kernel_rfl) ?_
  conv => whnf
  refine callF (freeT_fn y hy) gf33 rfl rfl ?_
  conv => whnf
  refine callF (hp t ht x y (freeS y)) gf102 rfl rfl ?_
  conv => whnf
  rfl
theorem ren_fn {f : Nat} (hp : PutOk f) (t : TG) (ht : szGs t.kids ≤ f) (hz : szGs t.kids < 1099511627776) (x : Int) (fr : List Int) : FnR Tryz.prog G0 148 [dG t, .int .i64 x, dI fr] (dG (renF f t x fr)) := by
  obtain ⟨k, n, ls, ks⟩ := t
  simp only [g_kids] at ht hz
  refine fnQ_sz fun hs => ?_
  have hl := (szOk_G (t := .mk k n ls ks) hs.1).1
  have hfr := (szOk_sl hs.2.2.1).1
  simp only [g_kids, LB] at hl hfr
  refine fnQ_of_vc txok mixed [(12, .pure 0 (.take 1 (.pure 2 (.take 3 (.pure 4 (.take 5 (.pure 6 (.pure 7 (.run 8 (.pure 9 (.fin 10 .done)))))))))))] Tryz.func148 rfl rfl (by simp) fun b => ?_
  conv => whnf
  simp only [g_kids]
  have hown : ∀ i, (ownS (ks.take i)).length < 1099511627776 := fun i => by
    have := ownS_len (ks.take i)
    have := szGs_le ks i
    omega
  refine loopH (fun i : Nat => i ≤ ks.length) (fun i => ks.length - i) (fun i => [(16, .d (.int .i64 i)), (7, .row 2)]) (fun i => [(0, .blk 28 [.d (.int .i64 k), .d (.int .i64 n), .d (dL ls), .d (dGs ks)]), (1, .blk 28 [.d (.int .i64 0), .d (.int .i64 0), .nl, .nl]), (2, .row 3 8 1 (ownS (ks.take i)).length (Vx.encI (ownS (ks.take i))))]) 3 0 (by omega) ((weak_nlT 7 3 8 1 rfl).trans (weak_of rfl (by repeat ((conv => whnf); first | exact trivial | refine And.intro rfl ?_ | refine And.intro (incD (by omega)) ?_)) (by repeat ((conv => whnf); first | exact trivial | refine And.intro rfl ?_ | refine And.intro (incD (by omega)) ?_)))) ?_
  intro i hi
  conv => whnf
  refine And.intro (fun hb => ?_) (fun hb => ?_)
  · have hb := of_decide_eq_true hb
    have hil : i < ks.length := by omega
    conv => whnf
    refine IdxC.encGs i hil rfl ?_
    conv => whnf
    have hzi : szG ks[i] < 1099511627776 := by have := szG_mem (List.getElem_mem hil); omega
    refine callF (freeT_fn ks[i] hzi) gf33 rfl rfl ?_
    conv => whnf
    have ho := hown (i + 1)
    rw [ownS_take hil] at ho
    refine appR (i := 2) (sz := 1) (n := (ownS (ks.take i)).length) (m := (freeS ks[i]).length) (xs := Vx.encI (ownS (ks.take i))) (ys := Vx.encI (freeS ks[i])) txok (fun _ => false) (ownS (ks.take (i + 1))).length (Vx.encI (ownS (ks.take (i + 1)))) (by exact rfl) (by exact rfl) (by exact rfl) (by kernel_rfl) (by rw [encI_len, Nat.mul_one]) (encI_scal _) (by rw [ownS_take hil, List.length_append]) (by rw [ownS_take hil]; simp [Vx.encI]) (by rw [ownS_take hil]; simp only [LB]; omega) ?_
    conv => whnf
    exact again (i + 1) (by omega) (by omega) (weak_of rfl (by repeat ((conv => whnf); first | exact trivial | refine And.intro rfl ?_ | refine And.intro (incD (by omega)) ?_)) (by repeat ((conv => whnf); first | exact trivial | refine And.intro rfl ?_ | refine And.intro (incD (by omega)) ?_)))
  · have hb := of_decide_eq_false hb
    have hi : i = ks.length := by omega
    subst hi
    rw [List.take_length]
    conv => whnf
    refine pubC (fun i => Nat.ble 2 i) ?_
    refine effC txok ?_
    conv => whnf
    refine callV (fresh_fn [fr, ownS ks, [x, n]] (by have := hown ks.length; rw [List.take_length] at this; simp; omega)) gf176 rfl rfl rfl rfl ?_
    conv => whnf
    refine callT [] (clone_tri ks) gf149 rfl rfl trivial rfl ?_
    rintro o' H' ⟨rfl, rfl⟩
    conv => whnf
    generalize hm : mex [fr, ownS ks, [x, n]].flatten = m
    have hput : ∀ u ∈ ks, FnR Tryz.prog G0 61 [dG u, .int .i64 n, dG (varG (m : Nat))] (dG (putF f u n (varG (m : Nat)) [(m : Int)])) := fun u hu => by
      have h1 := putT_fn hp u (by have := szG_mem hu; omega) n (varG (m : Nat)) (by simp [varG, szG, szGs])
      rwa [freeS_var] at h1
    have hgo : renF f (.mk k n ls ks) x fr = .mk k (m : Nat) ls (ks.map fun u => putF f u n (varG (m : Nat)) [(m : Int)]) := by
      subst hm; rfl
    rw [hgo]
    generalize hg : (fun u => putF f u n (varG (m : Nat)) [(m : Int)]) = g
    have hput : ∀ u ∈ ks, FnR Tryz.prog G0 61 [dG u, .int .i64 n, dG (varG (m : Nat))] (dG (g u)) := fun u hu => by
      subst hg; exact hput u hu
    refine loopH (fun i : Nat => i ≤ ks.length) (fun i => ks.length - i) (fun i => [(40, .d (.int .i64 i))]) (fun i => [(0, .blk 28 [.d (.int .i64 k), .d (.int .i64 n), .d (dL ls), .row 5]), (1, .blk 28 [.d (.int .i64 0), .d (.int .i64 0), .nl, .nl]), (5, .row 28 64 4 ks.length (encGs (mixF g ks i)))]) 6 0 (by omega) ?_ ?_
    · rw [mixF_zero]
      exact weak_of rfl (by repeat ((conv => whnf); first | exact trivial | refine And.intro rfl ?_ | refine And.intro (incD (by omega)) ?_)) (by repeat ((conv => whnf); first | exact trivial | refine And.intro rfl ?_ | refine And.intro (incD (by omega)) ?_))
    intro i hi
    conv => whnf
    refine And.intro (fun hb => ?_) (fun hb => ?_)
    · have hb := of_decide_eq_true hb
      have hil : i < ks.length := by omega
      have hml := mixF_len g ks i
      conv => whnf
      refine ⟨i, rfl, hil, ?_⟩
      conv => whnf
      refine ⟨encG ks[i], by rw [← mixF_get (g := g) hil (by omega)]; exact encGs_at _ i (by omega), rfl, ?_⟩
      conv => whnf
      refine And.intro (by kernel_rfl) ?_
      conv => whnf
      refine callF (hput ks[i] (by simp)) gf61 rfl rfl ?_
      conv => whnf
      refine ⟨i, rfl, hil, ?_⟩
      conv => whnf
      refine ⟨encGs (mixF g ks (i + 1)), ?_, ?_, ?_⟩
      · show i * 4 + 4 ≤ (encGs (mixF g ks i)).length
        rw [encGs_len, hml]; omega
      · rw [← mixF_set hil]; exact encGs_set _ i (by omega) _
      conv => whnf
      exact again (i + 1) (by omega) (by omega) (weak_of rfl (by repeat ((conv => whnf); first | exact trivial | refine And.intro rfl ?_ | refine And.intro (incD (by omega)) ?_)) (by repeat ((conv => whnf); first | exact trivial | refine And.intro rfl ?_ | refine And.intro (incD (by omega)) ?_)))
    · have hb := of_decide_eq_false hb
      have hi : i = ks.length := by omega
      subst hi
      rw [mixF_all]
      conv => whnf
      simp only [dG, encG, g_k, g_n, g_ls, g_kids, List.length_map]
end Go.Proofs.YtcjkikadolnfgaaGreat


/- put, Put. -/
set_option linter.unusedSimpArgs false
set_option linter.unusedVariables false
namespace Go.Proofs.YtcjkikadolnfgaaGreat
open Go.Vx Go.Vc Go.RowKit
theorem putF_mk (f : Nat) (k n : Int) (ls : List ByteArray) (l : List TG) (x : Int) (y : TG) (fr : List Int) : putF (f + 1) (.mk k n ls l) x y fr =
    if k = 6 ∧ n = x then y
    else if bndG k = true ∧ n = x then .mk k n ls l
    else if bndG k = true ∧ n ∈ fr ∧ 0 < l.length then
      .mk k (freshN fr l x n) ls ((l.map fun u => putF f u n (varG (freshN fr l x n)) [freshN fr l x n]).map fun u => putF f u x y fr)
    else .mk k n ls (l.map fun u => putF f u x y fr) := rfl
abbrev pH (t y : TG) : Hp := [(0, .blk 28 [.d (.int .i64 t.k), .d (.int .i64 t.n), .d (dL t.ls), .d (dGs t.kids)]), (1, .blk 28 [.d (.int .i64 y.k), .d (.int .i64 y.n), .d (dL y.ls), .d (dGs y.kids)]), (2, .blk 28 [.d (.int .i64 0), .d (.int .i64 0), .nl, .nl])]
theorem put_fn : ∀ f, f < 1099511627776 → PutOk f := by
  intro f
  induction f with
  | zero =>
    intro _ t ht
    have := szG_pos t
    omega
  | succ f ih =>
    intro hf t ht x y fr
    have ih := ih (by omega)
    obtain ⟨k, n, ls, ks⟩ := t
    have ht : szGs ks ≤ f := by simp only [szG] at ht; omega
    refine fnQ_sz fun hs => ?_
    have hl := (szOk_G (t := .mk k n ls ks) hs.1).1
    simp only [g_kids, LB] at hl
    refine fnQ_of_vc txok mixed ((100003, .done) :: (100008, .done) :: [(12, .pure 0 (.take 1 (.pure 2 (.take 3 (.pure 4 (.take 5 (.pure 6 (.run 7 (.pure 8 (.fin 9 .done))))))))))]) Tryz.func102 rfl rfl (by simp) fun b => ?_
    conv => whnf
    refine CutC.mk (fun st => ¬ (k = 6 ∧ n = x) ∧ st = ⟨[(1, .d (.int .i64 x)), (3, .d (dI fr)), (4, .own 0 0), (6, .own 1 0), (8, .own 2 0)], pH (.mk k n ls ks) y, 3⟩) ?_ ?_
    · conv => whnf
      simp only [g_k, g_n]
      refine And.intro (fun h1 => ?_) (fun h1 => ?_)
      · have h1 : k = 6 := eq_of_beq h1
        conv => whnf
        refine And.intro (fun h2 => ?_) (fun h2 => ?_)
        · have h2 : n = x := eq_of_beq h2
          conv => whnf
          rw [putF_mk, if_pos ⟨h1, h2⟩]
          rfl
        · have h2 : n ≠ x := by simpa using h2
          conv => whnf
          exact ⟨_, ⟨fun h => h2 h.2, rfl⟩, weak_of rfl (by repeat ((conv => whnf); first | exact trivial | refine And.intro rfl ?_ | refine And.intro (incD (by omega)) ?_)) (by repeat ((conv => whnf); first | exact trivial | refine And.intro rfl ?_ | refine And.intro (incD (by omega)) ?_))⟩
      · have h1 : k ≠ 6 := by simpa using h1
        conv => whnf
        exact ⟨_, ⟨fun h => h1 h.1, rfl⟩, weak_of rfl (by repeat ((conv => whnf); first | exact trivial | refine And.intro rfl ?_ | refine And.intro (incD (by omega)) ?_)) (by repeat ((conv => whnf); first | exact trivial | refine And.intro rfl ?_ | refine And.intro (incD (by omega)) ?_))⟩
    rintro st' ⟨hno, rfl⟩
    conv => whnf
    refine CutC.mk (fun st => ∃ n' l', l'.length = ks.length ∧ szGs l' ≤ f ∧ putF (f + 1) (.mk k n ls ks) x y fr = .mk k n' ls (l'.map fun u => putF f u x y fr) ∧ st = ⟨[(1, .d (.int .i64 x)), (3, .d (dI fr)), (4, .own 0 0), (6, .own 1 0), (8, .own 2 0)], pH (.mk k n' ls l') y, 3⟩) ?_ ?_
    · conv => whnf
      refine callF (binder_fn (.mk k n ls ks)) gf85 rfl rfl ?_
      simp only [g_k, g_n, g_ls, g_kids]
      conv => whnf
      refine And.intro (fun h1 => ?_) (fun h1 => ?_)
      · conv => whnf
        refine And.intro (fun h2 => ?_) (fun h2 => ?_)
        · have h2 : n = x := eq_of_beq h2
          conv => whnf
          rw [putF_mk, if_neg hno, if_pos ⟨h1, h2⟩]
          rfl
        · have h2 : n ≠ x := by simpa only [g_n, beq_eq_false_iff_ne, ne_eq] using h2
          conv => whnf
          refine callF (contains_fn fr n) gf35 rfl rfl ?_
          conv => whnf
          refine And.intro (fun h3 => ?_) (fun h3 => ?_)
          · have h3 : n ∈ fr := of_decide_eq_true h3
            conv => whnf
            refine And.intro (fun h4 => ?_) (fun h4 => ?_)
            · have h4 := of_decide_eq_true h4; simp only [g_kids] at h4
              conv => whnf
              refine callF (ren_fn ih (.mk k n ls ks) ht (by rw [g_kids]; omega) x fr) gf148 rfl rfl ?_
              conv => whnf
              refine ⟨_, ⟨freshN fr ks x n, ks.map fun u => putF f u n (varG (freshN fr ks x n)) [freshN fr ks x n], by simp, ?_, ?_, rfl⟩, weak_of rfl (by repeat ((conv => whnf); first | exact trivial | refine And.intro rfl ?_ | refine And.intro (incD (by omega)) ?_)) (by repeat ((conv => whnf); first | exact trivial | refine And.intro rfl ?_ | refine And.intro (incD (by omega)) ?_))⟩
              · exact Nat.le_trans (szGs_map_le fun u _ => sz_put f u _ _ _ (by simp [varG, szG, szGs])) ht
              · rw [putF_mk, if_neg hno, if_neg (fun h => h2 h.2), if_pos ⟨h1, h3, by omega⟩]
            · have h4 := of_decide_eq_false h4; simp only [g_kids] at h4
              conv => whnf
              refine ⟨_, ⟨n, ks, rfl, ht, ?_, rfl⟩, weak_of rfl (by repeat ((conv => whnf); first | exact trivial | refine And.intro rfl ?_ | refine And.intro (incD (by omega)) ?_)) (by repeat ((conv => whnf); first | exact trivial | refine And.intro rfl ?_ | refine And.intro (incD (by omega)) ?_))⟩
              rw [putF_mk, if_neg hno, if_neg (fun h => h2 h.2), if_neg (fun h => by have := h.2.2; omega)]
          · have h3 : n ∉ fr := of_decide_eq_false h3
            conv => whnf
            refine ⟨_, ⟨n, ks, rfl, ht, ?_, rfl⟩, weak_of rfl (by repeat ((conv => whnf); first | exact trivial | refine And.intro rfl ?_ | refine And.intro (incD (by omega)) ?_)) (by repeat ((conv => whnf); first | exact trivial | refine And.intro rfl ?_ | refine And.intro (incD (by omega)) ?_))⟩
            rw [putF_mk, if_neg hno, if_neg (fun h => h2 h.2), if_neg (fun h => h3 h.2.1)]
      · conv => whnf
        refine ⟨_, ⟨n, ks, rfl, ht, ?_, rfl⟩, weak_of rfl (by repeat ((conv => whnf); first | exact trivial | refine And.intro rfl ?_ | refine And.intro (incD (by omega)) ?_)) (by repeat ((conv => whnf); first | exact trivial | refine And.intro rfl ?_ | refine And.intro (incD (by omega)) ?_))⟩
        rw [putF_mk, if_neg hno, if_neg (fun h => by rw [h.1] at h1; cases h1), if_neg (fun h => by rw [h.1] at h1; cases h1)]
    rintro st' ⟨n', l', hl', hlf, hres, rfl⟩
    rw [hres]
    clear hres hno
    conv => whnf
    simp only [g_k, g_n, g_ls, g_kids]
    refine callT [] (clone_tri l') gf149 rfl rfl trivial rfl ?_
    rintro o' H' ⟨rfl, rfl⟩
    conv => whnf
    have hput : ∀ u ∈ l', FnR Tryz.prog G0 102 [dG u, .int .i64 x, dG y, dI fr] (dG (putF f u x y fr)) := fun u hu => ih u (by have := szG_mem hu; omega) x y fr
    generalize hg : (fun u => putF f u x y fr) = g
    have hput : ∀ u ∈ l', FnR Tryz.prog G0 102 [dG u, .int .i64 x, dG y, dI fr] (dG (g u)) := fun u hu => by
      subst hg; exact hput u hu
    refine loopH (fun i : Nat => i ≤ l'.length) (fun i => l'.length - i) (fun i => [(49, .d (.int .i64 i))]) (fun i => [(0, .blk 28 [.d (.int .i64 k), .d (.int .i64 n'), .d (dL ls), .row 3]), (1, .blk 28 [.d (.int .i64 y.k), .d (.int .i64 y.n), .d (dL y.ls), .d (dGs y.kids)]), (2, .blk 28 [.d (.int .i64 0), .d (.int .i64 0), .nl, .nl]), (3, .row 28 64 4 l'.length (encGs (mixF g l' i)))]) 4 0 (by omega) ?_ ?_
    · rw [mixF_zero]
      exact weak_of rfl (by repeat ((conv => whnf); first | exact trivial | refine And.intro rfl ?_ | refine And.intro (incD (by omega)) ?_)) (by repeat ((conv => whnf); first | exact trivial | refine And.intro rfl ?_ | refine And.intro (incD (by omega)) ?_))
    intro i hi
    conv => whnf
    refine And.intro (fun hb => ?_) (fun hb => ?_)
    · have hb := of_decide_eq_true hb
      have hil : i < l'.length := by omega
      have hml := mixF_len g l' i
      conv => whnf
      refine ⟨i, rfl, hil, ?_⟩
      conv => whnf
      refine ⟨encG l'[i], by rw [← mixF_get (g := g) hil (by omega)]; exact encGs_at _ i (by omega), rfl, ?_⟩
      conv => whnf
      refine And.intro (by kernel_rfl) ?_
      conv => whnf
      refine callF (hput l'[i] (by simp)) gf102 rfl rfl ?_
      conv => whnf
      refine ⟨i, rfl, hil, ?_⟩
      conv => whnf
      refine ⟨encGs (mixF g l' (i + 1)), ?_, ?_, ?_⟩
      · show i * 4 + 4 ≤ (encGs (mixF g l' i)).length
        rw [encGs_len, hml]; omega
      · rw [← mixF_set hil]; exact encGs_set _ i (by omega) _
      conv => whnf
      exact again (i + 1) (by omega) (by omega) (weak_of rfl (by repeat ((conv => whnf); first | exact trivial | refine And.intro rfl ?_ | refine And.intro (incD (by omega)) ?_)) (by repeat ((conv => whnf); first | exact trivial | refine And.intro rfl ?_ | refine And.intro (incD (by omega)) ?_)))
    · have hb := of_decide_eq_false hb
      have hi : i = l'.length := by omega
      subst hi
      rw [mixF_all]
      conv => whnf
      simp only [dG, encG, g_k, g_n, g_ls, g_kids, List.length_map]
theorem putTop_fn (t : TG) (ht : szG t < 1099511627776) (x : Int) (y : TG) (hy : szG y < 1099511627776) : FnR Tryz.prog G0 61 [dG t, .int .i64 x, dG y] (dG (putF (szG t) t x y (freeS y))) :=
  putT_fn (put_fn _ ht) t (Nat.le_refl _) x y hy
end Go.Proofs.YtcjkikadolnfgaaGreat


/- What stands free, and what putting does to it. -/
set_option linter.unusedSimpArgs false
set_option linter.unusedVariables false
namespace Go.Proofs.YtcjkikadolnfgaaGreat
theorem lastI_neg (s : List Int) (n : Int) : lastI s n < 0 ↔ n ∉ s := by
  unfold lastI
  constructor
  · intro h hn
    obtain ⟨i, hi, rfl⟩ := List.getElem_of_mem hn
    have hmem : (((i : Nat) : Int), s[i]) ∈ prI s := by
      unfold prI
      rw [List.mem_map]
      refine ⟨s.length - 1 - i, by rw [List.mem_range]; omega, ?_⟩
      have h1 : s.length - 1 - (s.length - 1 - i) = i := by omega
      rw [h1]
      simp [ixI, List.getD, hi]
    have h2 : ((prI s).find? fun p => p.2 == s[i]).isSome = true := by
      rw [List.find?_isSome]
      exact ⟨_, hmem, by simp⟩
    obtain ⟨p, hp⟩ := Option.isSome_iff_exists.1 h2
    rw [hp] at h
    have := List.mem_of_find?_eq_some hp
    unfold prI at this
    rw [List.mem_map] at this
    obtain ⟨j, _, rfl⟩ := this
    simp at h
    omega
  · intro hn
    have h2 : (prI s).find? (fun p => p.2 == n) = none := by
      rw [List.find?_eq_none]
      intro p hp
      unfold prI at hp
      rw [List.mem_map] at hp
      obtain ⟨j, hj, rfl⟩ := hp
      rw [List.mem_range] at hj
      have h3 : s.length - 1 - j < s.length := by omega
      simp only [ixI, List.getD, List.getElem?_eq_getElem h3, Option.getD_some, beq_iff_eq]
      intro e
      exact hn (e ▸ List.getElem_mem h3)
    rw [h2]
    decide
theorem lastI_end (s : List Int) (n : Int) : lastI (s ++ [n]) n = s.length := by
  unfold lastI prI
  have h1 : (s ++ [n]).length = s.length + 1 := by simp
  rw [h1, List.range_succ_eq_map, List.map_cons, List.find?_cons]
  have h2 : ixI (s ++ [n]) (s.length + 1 - 1 - 0) = n := by simp [ixI, List.getD]
  rw [h2]
  simp
theorem lastI_snoc (s : List Int) {n z : Int} (h : z ≠ n) : lastI (s ++ [n]) z = lastI s z := by
  unfold lastI prI
  have h1 : (s ++ [n]).length = s.length + 1 := by simp
  rw [h1, List.range_succ_eq_map, List.map_cons, List.find?_cons]
  have h2 : ixI (s ++ [n]) (s.length + 1 - 1 - 0) = n := by simp [ixI, List.getD]
  rw [h2]
  have h3 : (n == z) = false := by simpa using Ne.symm h
  simp only [h3]
  rw [List.map_map]
  have h4 : (List.range s.length).map ((fun j => (((s.length + 1 - 1 - j : Nat) : Int), ixI (s ++ [n]) (s.length + 1 - 1 - j))) ∘ Nat.succ) = (List.range s.length).map fun j => (((s.length - 1 - j : Nat) : Int), ixI s (s.length - 1 - j)) := by
    refine List.map_congr_left fun j hj => ?_
    rw [List.mem_range] at hj
    have e : s.length + 1 - 1 - Nat.succ j = s.length - 1 - j := by omega
    simp only [Function.comp, e]
    congr 1
    simp only [ixI, List.getD]
    rw [List.getElem?_append_left (by omega)]
  rw [h4]
theorem mem_compactTo (d : Array Int) (x : Int) : ∀ m, x ∈ Go.Lib.compactUpTo d m ↔ ∃ j, j < m ∧ d[j]! = x
  | 0 => by simp [Go.Lib.compactUpTo]
  | m + 1 => by
    rw [Go.Lib.compactUpTo_succ, List.mem_append, mem_compactTo d x m]
    constructor
    · rintro (⟨j, hj, h⟩ | h)
      · exact ⟨j, by omega, h⟩
      · split at h
        · simp at h; exact ⟨m, by omega, h.symm⟩
        · cases h
    · rintro ⟨j, hj, h⟩
      by_cases hjm : j < m
      · exact .inl ⟨j, hjm, h⟩
      · obtain rfl : j = m := by omega
        by_cases hk : Go.Lib.keeps d j = true
        · right; rw [if_pos hk]; simp [h]
        · left
          have hj0 : 0 < j := by
            rcases Nat.eq_zero_or_pos j with h0 | h0
            · subst h0; exact absurd (Go.Lib.keeps_lt_one d 0 (by omega)) hk
            · exact h0
          have he : d[j]! = d[j - 1]! := by
            by_cases he : d[j]! = d[j - 1]!
            · exact he
            · exact absurd (Go.Lib.keeps_pos he) hk
          exact ⟨j - 1, by omega, by rw [← he]; exact h⟩
theorem mem_compact (l : List Int) (x : Int) : x ∈ Go.Lib.compact l ↔ x ∈ l := by
  unfold Go.Lib.compact
  rw [mem_compactTo]
  constructor
  · rintro ⟨j, hj, rfl⟩
    simp only [List.getElem!_toArray]
    rw [getElem!_pos l j hj]
    exact List.getElem_mem hj
  · intro h
    obtain ⟨i, hi, rfl⟩ := List.getElem_of_mem h
    refine ⟨i, hi, ?_⟩
    simp only [List.getElem!_toArray]
    rw [getElem!_pos l i hi]
theorem mem_freeS (t : TG) (x : Int) : x ∈ freeS t ↔ x ∈ frG t [] := by
  unfold freeS srtI
  rw [mem_compact, List.mem_mergeSort]
theorem mem_ownS (l : List TG) (x : Int) : x ∈ ownS l ↔ ∃ u ∈ l, x ∈ frG u [] := by
  unfold ownS
  rw [List.mem_flatMap]
  simp only [mem_freeS]
theorem mem_frGs (l : List TG) (s : List Int) (n : Int) : n ∈ frGs l s ↔ ∃ u ∈ l, n ∈ frG u s := by
  induction l with
  | nil => simp [frGs]
  | cons t r ih => rw [frGs, List.mem_append, ih]; simp
theorem mem_snocB (k p n : Int) (s : List Int) : n ∉ (if bndG k = true then s ++ [p] else s) ↔ n ∉ s ∧ (bndG k = true → n ≠ p) := by
  split <;> simp_all
theorem mem_frG : ∀ (t : TG) (s : List Int) (n : Int), n ∈ frG t s ↔ n ∈ frG t [] ∧ n ∉ s := by
  refine TG.ind fun k p ls l ih s n => ?_
  have key : ∀ s, n ∈ frG (.mk k p ls l) s ↔ n ∉ s ∧ ((k = 6 ∧ n = p) ∨ ((bndG k = true → n ≠ p) ∧ ∃ u ∈ l, n ∈ frG u [])) := by
    intro s
    rw [frG_mk, List.mem_append, mem_frGs]
    have h1 : (∃ u ∈ l, n ∈ frG u (if bndG k = true then s ++ [p] else s)) ↔ n ∉ s ∧ (bndG k = true → n ≠ p) ∧ ∃ u ∈ l, n ∈ frG u [] := by
      constructor
      · rintro ⟨u, hu, h⟩
        have h := (ih u hu _ n).1 h
        have h2 := (mem_snocB k p n s).1 h.2
        exact ⟨h2.1, h2.2, u, hu, h.1⟩
      · rintro ⟨h2, h3, u, hu, h⟩
        exact ⟨u, hu, (ih u hu _ n).2 ⟨h, (mem_snocB k p n s).2 ⟨h2, h3⟩⟩⟩
    rw [h1]
    have hl := lastI_neg s p
    by_cases h6 : k = 6 ∧ lastI s p < 0
    · rw [if_pos h6]
      have h6 : k = 6 ∧ p ∉ s := ⟨h6.1, hl.1 h6.2⟩
      simp only [List.mem_singleton]
      constructor
      · rintro (rfl | ⟨h2, h3, h4⟩)
        · exact ⟨h6.2, .inl ⟨h6.1, rfl⟩⟩
        · exact ⟨h2, .inr ⟨h3, h4⟩⟩
      · rintro ⟨h2, ⟨_, h3⟩ | ⟨h3, h4⟩⟩
        · exact .inl h3
        · exact .inr ⟨h2, h3, h4⟩
    · rw [if_neg h6]
      constructor
      · rintro (h | ⟨h2, h3, h4⟩)
        · cases h
        · exact ⟨h2, .inr ⟨h3, h4⟩⟩
      · rintro ⟨h2, ⟨h3, rfl⟩ | ⟨h3, h4⟩⟩
        · exact absurd ⟨h3, hl.2 h2⟩ h6
        · exact .inr ⟨h2, h3, h4⟩
  rw [key s, key []]
  simp only [List.not_mem_nil, not_false_eq_true, true_and]
  exact And.comm
theorem fv_mk (k p : Int) (ls : List ByteArray) (l : List TG) (n : Int) : n ∈ frG (.mk k p ls l) [] ↔ (k = 6 ∧ n = p) ∨ ((bndG k = true → n ≠ p) ∧ ∃ u ∈ l, n ∈ frG u []) := by
  rw [frG_mk, List.mem_append, mem_frGs]
  have h1 : (∃ u ∈ l, n ∈ frG u (if bndG k = true then [] ++ [p] else [])) ↔ (bndG k = true → n ≠ p) ∧ ∃ u ∈ l, n ∈ frG u [] := by
    constructor
    · rintro ⟨u, hu, h⟩
      have h := (mem_frG u _ n).1 h
      have h2 := (mem_snocB k p n []).1 h.2
      exact ⟨h2.2, u, hu, h.1⟩
    · rintro ⟨h3, u, hu, h⟩
      exact ⟨u, hu, (mem_frG u _ n).2 ⟨h, (mem_snocB k p n []).2 ⟨by simp, h3⟩⟩⟩
  rw [h1]
  have hl : lastI [] p < 0 := (lastI_neg [] p).2 (by simp)
  simp [hl]
mutual
def okV : TG → Bool
  | .mk k _ ls l => (decide (k ≠ 6) || (l.isEmpty && ls.isEmpty)) && okVs l
def okVs : List TG → Bool
  | [] => true
  | t :: r => okV t && okVs r
end
theorem okVs_iff (l : List TG) : okVs l = true ↔ ∀ u ∈ l, okV u = true := by
  induction l with
  | nil => simp [okVs]
  | cons t r ih => simp [okVs, ih]
theorem okV_mk (k n : Int) (ls : List ByteArray) (l : List TG) : okV (.mk k n ls l) = true ↔ (k = 6 → l = [] ∧ ls = []) ∧ ∀ u ∈ l, okV u = true := by
  rw [okV, Bool.and_eq_true, okVs_iff, Bool.or_eq_true, decide_eq_true_eq, Bool.and_eq_true, List.isEmpty_iff, List.isEmpty_iff]
  by_cases h : k = 6 <;> simp [h]
theorem okV_var (m : Int) : okV (varG m) = true := rfl
theorem okV_put : ∀ (f : Nat) (t : TG) (x : Int) (y : TG) (fr : List Int), okV y = true → okV t = true → okV (putF f t x y fr) = true
  | 0, t, _, _, _, _, h => h
  | f + 1, .mk k n ls l, x, y, fr, hy, h => by
    rw [putF_mk]
    obtain ⟨h1, h2⟩ := (okV_mk k n ls l).1 h
    split
    · exact hy
    · split
      · exact h
      · split
        · refine (okV_mk _ _ _ _).2 ⟨fun h6 => by rw [(h1 h6).1]; exact ⟨rfl, (h1 h6).2⟩, fun u hu => ?_⟩
          rw [List.mem_map] at hu
          obtain ⟨v, hv, rfl⟩ := hu
          rw [List.mem_map] at hv
          obtain ⟨w, hw, rfl⟩ := hv
          exact okV_put f _ x y fr hy (okV_put f w _ _ _ (okV_var _) (h2 w hw))
        · refine (okV_mk _ _ _ _).2 ⟨fun h6 => by rw [(h1 h6).1]; exact ⟨rfl, (h1 h6).2⟩, fun u hu => ?_⟩
          rw [List.mem_map] at hu
          obtain ⟨v, hv, rfl⟩ := hu
          exact okV_put f v x y fr hy (h2 v hv)
theorem fv_var (m z : Int) : z ∈ frG (varG m) [] ↔ z = m := by
  unfold varG
  rw [fv_mk]
  simp
end Go.Proofs.YtcjkikadolnfgaaGreat


/- Putting: what stands free behind it; the same type, where the number does not stand free. -/
set_option linter.unusedSimpArgs false
set_option linter.unusedVariables false
namespace Go.Proofs.YtcjkikadolnfgaaGreat
theorem fresh_facts (fr : List Int) (l : List TG) (x n : Int) : freshN fr l x n ∉ fr ∧ (∀ u ∈ l, freshN fr l x n ∉ frG u []) ∧ freshN fr l x n ≠ x ∧ freshN fr l x n ≠ n := by
  have h := mex_not [fr, ownS l, [x, n]].flatten
  have h : freshN fr l x n ∉ [fr, ownS l, [x, n]].flatten := h
  simp only [List.flatten_cons, List.flatten_nil, List.append_nil, List.mem_append, List.mem_cons, List.not_mem_nil, or_false, not_or] at h
  obtain ⟨h1, h2, h3, h4⟩ := h
  exact ⟨h1, fun u hu hf => h2 ((mem_ownS l _).2 ⟨u, hu, hf⟩), h3, h4⟩
theorem fv_put : ∀ (f : Nat) (t : TG) (x : Int) (y : TG) (fr : List Int), szG t ≤ f → okV t = true → (∀ z, z ∈ fr ↔ z ∈ frG y []) → ∀ z, z ∈ frG (putF f t x y fr) [] ↔ (z ∈ frG t [] ∧ z ≠ x) ∨ (x ∈ frG t [] ∧ z ∈ frG y [])
  | 0, t, _, _, _, h, _, _, _ => by have := szG_pos t; omega
  | f + 1, .mk k n ls l, x, y, fr, h, hv, hfr, z => by
    have hl : ∀ u ∈ l, szG u ≤ f := fun u hu => by have := szG_mem hu; simp only [szG] at h; omega
    obtain ⟨h1, h2⟩ := (okV_mk k n ls l).1 hv
    have ih : ∀ u ∈ l, ∀ z, z ∈ frG (putF f u x y fr) [] ↔ (z ∈ frG u [] ∧ z ≠ x) ∨ (x ∈ frG u [] ∧ z ∈ frG y []) := fun u hu => fv_put f u x y fr (hl u hu) (h2 u hu) hfr
    rw [putF_mk]
    by_cases c1 : k = 6 ∧ n = x
    · rw [if_pos c1]
      obtain ⟨rfl, rfl⟩ := c1
      rw [(h1 rfl).1]
      simp only [fv_mk]
      simp
    rw [if_neg c1]
    by_cases c2 : bndG k = true ∧ n = x
    · rw [if_pos c2]
      obtain ⟨hb, rfl⟩ := c2
      simp only [fv_mk]
      have h6 : k ≠ 6 := by rintro rfl; exact absurd hb (by decide)
      simp [h6, hb]
      intro hz _ _ _; exact hz
    rw [if_neg c2]
    by_cases c3 : bndG k = true ∧ n ∈ fr ∧ 0 < l.length
    · rw [if_pos c3]
      obtain ⟨hb, hn, _⟩ := c3
      have h6 : k ≠ 6 := by rintro rfl; exact absurd hb (by decide)
      have hnx : n ≠ x := fun e => c2 ⟨hb, e⟩
      obtain ⟨m1, m2, m3, m4⟩ := fresh_facts fr l x n
      generalize freshN fr l x n = m at m1 m2 m3 m4 ⊢
      have m1 : m ∉ frG y [] := fun h => m1 ((hfr m).2 h)
      have ihn : ∀ u ∈ l, ∀ z, z ∈ frG (putF f u n (varG m) [m]) [] ↔ (z ∈ frG u [] ∧ z ≠ n) ∨ (n ∈ frG u [] ∧ z = m) := fun u hu z => by
        rw [fv_put f u n (varG m) [m] (hl u hu) (h2 u hu) (fun z => by rw [fv_var]; simp) z, fv_var]
      have ih2 : ∀ u ∈ l, ∀ z, z ∈ frG (putF f (putF f u n (varG m) [m]) x y fr) [] ↔ (((z ∈ frG u [] ∧ z ≠ n) ∨ (n ∈ frG u [] ∧ z = m)) ∧ z ≠ x) ∨ (((x ∈ frG u [] ∧ x ≠ n) ∨ (n ∈ frG u [] ∧ x = m)) ∧ z ∈ frG y []) := fun u hu z => by
        rw [fv_put f _ x y fr (Nat.le_trans (sz_put f u n (varG m) [m] (by simp [varG, szG, szGs])) (hl u hu)) (okV_put f u n _ _ (okV_var m) (h2 u hu)) hfr z, ihn u hu, ihn u hu]
      simp only [fv_mk, List.mem_map, List.map_map]
      constructor
      · rintro (⟨h, _⟩ | ⟨hz, u', ⟨u, hu, rfl⟩, h⟩)
        · exact absurd h h6
        · have hz := hz hb
          rcases (ih2 u hu z).1 h with ⟨⟨a, b⟩ | ⟨_, b⟩, c⟩ | ⟨⟨a, b⟩ | ⟨_, b⟩, c⟩
          · exact .inl ⟨.inr ⟨fun _ => b, u, hu, a⟩, c⟩
          · exact absurd b hz
          · exact .inr ⟨.inr ⟨fun _ => b, u, hu, a⟩, c⟩
          · exact absurd b.symm m3
      · rintro (⟨⟨h, _⟩ | ⟨hz, u, hu, a⟩, c⟩ | ⟨⟨h, _⟩ | ⟨hz, u, hu, a⟩, c⟩)
        · exact absurd h h6
        · exact .inr ⟨fun _ e => m2 u hu (e ▸ a), _, ⟨u, hu, rfl⟩, (ih2 u hu z).2 (.inl ⟨.inl ⟨a, hz hb⟩, c⟩)⟩
        · exact absurd h h6
        · exact .inr ⟨fun _ e => m1 (e ▸ c), _, ⟨u, hu, rfl⟩, (ih2 u hu z).2 (.inr ⟨.inl ⟨a, hz hb⟩, c⟩)⟩
    rw [if_neg c3]
    simp only [fv_mk, List.mem_map]
    have hnb : bndG k = true → l ≠ [] → n ∉ frG y [] := fun hb hl0 h => c3 ⟨hb, (hfr n).2 h, List.length_pos_iff.2 hl0⟩
    constructor
    · rintro (⟨hk, rfl⟩ | ⟨hz, u', ⟨u, hu, rfl⟩, h⟩)
      · exact .inl ⟨.inl ⟨hk, rfl⟩, fun e => c1 ⟨hk, e⟩⟩
      · rcases (ih u hu z).1 h with ⟨a, b⟩ | ⟨a, b⟩
        · exact .inl ⟨.inr ⟨hz, u, hu, a⟩, b⟩
        · exact .inr ⟨.inr ⟨fun hb e => c2 ⟨hb, e.symm⟩, u, hu, a⟩, b⟩
    · rintro (⟨⟨hk, rfl⟩ | ⟨hz, u, hu, a⟩, c⟩ | ⟨⟨hk, e⟩ | ⟨hx, u, hu, a⟩, c⟩)
      · exact .inl ⟨hk, rfl⟩
      · exact .inr ⟨hz, _, ⟨u, hu, rfl⟩, (ih u hu z).2 (.inl ⟨a, c⟩)⟩
      · exact absurd ⟨hk, e.symm⟩ c1
      · exact .inr ⟨fun hb e => hnb hb (fun e0 => by rw [e0] at hu; cases hu) (e ▸ c), _, ⟨u, hu, rfl⟩, (ih u hu z).2 (.inr ⟨a, c⟩)⟩
theorem samGs_map {g h : TG → TG} {s t : List Int} : ∀ (l : List TG), (∀ u ∈ l, samG (g u) (h u) s t = true) → samGs (l.map g) (l.map h) s t = true
  | [], _ => rfl
  | u :: r, hh => by
    rw [List.map_cons, List.map_cons, samGs, hh u (by simp), samGs_map r fun v hv => hh v (by simp [hv])]; rfl
theorem sam_iff (k n : Int) (ls : List ByteArray) (ks : List TG) (k' n' : Int) (ls' : List ByteArray) (ks' : List TG) (s t : List Int) : samG (.mk k n ls ks) (.mk k' n' ls' ks') s t = true ↔
    k = k' ∧ ks.length = ks'.length ∧ ls = ls' ∧ (k = 6 → lastI s n = lastI t n' ∧ (lastI s n < 0 → n = n') ∧ samGs ks ks' s t = true) ∧ (bndG k = true → samGs ks ks' (s ++ [n]) (t ++ [n']) = true) ∧ (k ≠ 6 → bndG k = false → n = n' ∧ samGs ks ks' s t = true) := by
  rw [samG_mk]
  simp only [Bool.and_eq_true, decide_eq_true_eq]
  by_cases h6 : k = 6
  · subst h6
    have hb : bndG 6 = false := rfl
    by_cases hn : lastI s n < 0 <;> simp [hb, hn, and_assoc]
  · by_cases hb : bndG k = true <;> simp [h6, hb, and_assoc]
theorem sam_ctx : ∀ (t : TG) (c d : List Int), c.length = d.length → (∀ z ∈ frG t [], lastI c z = lastI d z) → samG t t c d = true := by
  refine TG.ind fun k n ls l ih c d hcd h => ?_
  have hz : ∀ z, (bndG k = true → z ≠ n) → (∃ u ∈ l, z ∈ frG u []) → lastI c z = lastI d z := fun z h1 h2 => h z ((fv_mk ..).2 (.inr ⟨h1, h2⟩))
  have key : ∀ c' d' : List Int, c'.length = d'.length → (∀ u ∈ l, ∀ z ∈ frG u [], lastI c' z = lastI d' z) → samGs l l c' d' = true := fun c' d' e hh => by
    have := samGs_map (g := id) (h := id) (s := c') (t := d') l fun u hu => ih u hu c' d' e (hh u hu)
    simpa using this
  refine (sam_iff ..).2 ⟨rfl, rfl, rfl, fun h6 => ⟨h n ((fv_mk ..).2 (.inl ⟨h6, rfl⟩)), fun _ => rfl, ?_⟩, fun hb => ?_, fun h6 hb => ⟨rfl, ?_⟩⟩
  · exact key c d hcd fun u hu z hzu => hz z (fun hb => absurd h6 (by rintro rfl; exact absurd hb (by decide))) ⟨u, hu, hzu⟩
  · refine key _ _ (by simp [hcd]) fun u hu z hzu => ?_
    by_cases e : z = n
    · subst e; rw [lastI_end, lastI_end, hcd]
    · rw [lastI_snoc c e, lastI_snoc d e]; exact hz z (fun _ => e) ⟨u, hu, hzu⟩
  · exact key c d hcd fun u hu z hzu => hz z (fun hb' => by rw [hb'] at hb; cases hb) ⟨u, hu, hzu⟩
end Go.Proofs.YtcjkikadolnfgaaGreat


/- Renaming, and putting for a number that does not stand free: the same type. -/
set_option linter.unusedSimpArgs false
set_option linter.unusedVariables false
namespace Go.Proofs.YtcjkikadolnfgaaGreat
theorem bnd_ne6 {k : Int} (h : bndG k = true) : k ≠ 6 := by rintro rfl; exact absurd h (by decide)
end Go.Proofs.YtcjkikadolnfgaaGreat


/- The reference's RightType. -/
set_option linter.unusedSimpArgs false
set_option linter.unusedVariables false
namespace Go.Proofs.YtcjkikadolnfgaaGreat
open Go.Vx Go.Vc Go.RowKit
def kidN (k : Int) : Int := if k = 1 ∨ k = 2 ∨ k = 3 ∨ k = 6 then 0 else if k = 4 ∨ k = 5 then 2 else if k = 7 ∨ k = 8 then -1 else if k = 9 ∨ k = 10 ∨ k = 11 then 1 else -2
theorem bindsR_fn (k : Int) : FnR Tryz.prog G0 54 [.int .i64 k] (.bool (bndG k)) := by
  refine fnQ_of_vc txok mixed [] Tryz.func54 rfl rfl (by simp) fun b => ?_
  (repeat' ((conv => whnf); first | refine And.intro (fun _ => ?_) (fun _ => ?_))) <;> (conv => whnf)
  all_goals simp_all [bndG, retD]
def shA (k : Int) (len : Nat) : Bool := !(kidN k == -2 || (decide (kidN k ≥ 0) && ((len : Int) != kidN k)))
def shB (k n : Int) : Bool := !((n != 0 && (k != 6)) && !bndG k)
def shC (k : Int) (ls : List ByteArray) (len : Nat) : Bool := if k == 7 then !(((ls.length : Int) != (len : Int)) || !ordS ls) else !(decide ((ls.length : Int) > 0))
def shR (k n : Int) (ls : List ByteArray) (len : Nat) : Bool := shA k len && shB k n && shC k ls len
mutual
def rightR : TG → Bool
  | .mk k n ls l => shR k n ls l.length && rightRs l
def rightRs : List TG → Bool
  | [] => true
  | t :: r => rightR t && rightRs r
end
end Go.Proofs.YtcjkikadolnfgaaGreat


/- The reference's RightType, Put1, Ints. -/
set_option linter.unusedSimpArgs false
set_option linter.unusedVariables false
namespace Go.Proofs.YtcjkikadolnfgaaGreat
open Go.Vx Go.Vc Go.RowKit
def deepR : Nat → TG → Bool
  | 0, _ => true
  | n + 1, t => t.kids.any (deepR n)
def rtR (t : TG) : Int := if deepR 100000 t = true then 4 else if rightR t = true then 0 else 1
def insF : List Int → Int → List Int
  | [], x => [x]
  | y :: r, x => if y > x then x :: y :: r else y :: insF r x
def put1 (l : List Int) (x : Int) : List Int := if x ∈ l then l else insF l x
end Go.Proofs.YtcjkikadolnfgaaGreat


/- Put1. -/
set_option linter.unusedSimpArgs false
set_option linter.unusedVariables false
namespace Go.Proofs.YtcjkikadolnfgaaGreat
open Go.Vx Go.Vc Go.RowKit
def restF (d : Bool) (l : List Int) (x : Int) : List Int := match d with
  | true => l
  | false => insF l x
def p1H (o : List Int) : Hp := [(0, .row 3 8 1 o.length (Vx.encI o))]
end Go.Proofs.YtcjkikadolnfgaaGreat


/- Sets of numbers as sorted lists; right types; sizes. -/
set_option linter.unusedSimpArgs false
set_option linter.unusedVariables false
namespace Go.Proofs.YtcjkikadolnfgaaGreat
abbrev Asc (l : List Int) : Prop := l.Pairwise (· < ·)
def wantL (n : Int) : List Int → List Int → List Int
  | acc, [] => acc
  | acc, f :: r => wantL n (if f = n then acc else put1 acc f) r
def putL : List Int → List Int → List Int
  | acc, [] => acc
  | acc, f :: r => putL (put1 acc f) r
theorem okV_right : ∀ t : TG, rightR t = true → okV t = true := by
  refine TG.ind fun k n ls l ih h => ?_
  rw [rightR, Bool.and_eq_true] at h
  obtain ⟨h1, h2⟩ := h
  have hrs : ∀ m : List TG, rightRs m = true → ∀ u ∈ m, rightR u = true := by
    intro m
    induction m with
    | nil => intro _ u hu; cases hu
    | cons v r ihm =>
      intro h u hu
      rw [rightRs, Bool.and_eq_true] at h
      rcases List.mem_cons.1 hu with rfl | hu
      · exact h.1
      · exact ihm h.2 u hu
  refine (okV_mk k n ls l).2 ⟨fun h6 => ?_, fun u hu => ih u hu (hrs l h2 u hu)⟩
  subst h6
  have hk : kidN 6 = 0 := by decide
  have hk7 : ((6 : Int) == 7) = false := by decide
  simp only [shR, shA, shC, hk, hk7, Bool.and_eq_true] at h1
  obtain ⟨⟨ha, _⟩, hc⟩ := h1
  have e1 : l.length = 0 := by
    simp at ha
    simp [ha]
  have e2 : ls.length = 0 := by
    simp at hc
    simp [hc]
  exact ⟨List.eq_nil_of_length_eq_zero e1, List.eq_nil_of_length_eq_zero e2⟩
end Go.Proofs.YtcjkikadolnfgaaGreat


/- The reference: level, with. -/
set_option linter.unusedSimpArgs false
set_option linter.unusedVariables false
namespace Go.Proofs.YtcjkikadolnfgaaGreat
open Go.Vx Go.Vc Go.RowKit
def lvlN (l : List Int) (n : Int) : Nat → Int
  | 0 => -1
  | k + 1 => if l.getD k 0 = n then k else lvlN l n k
theorem rlevel_fn (l : List Int) (n : Int) (hl : l.length < 1099511627776) : FnR Tryz.prog G0 52 [dI l, .int .i64 n] (.int .i64 (lvlN l n l.length)) := by
  refine fnQ_of_vc txok mixed [] Tryz.func52 rfl rfl (by simp) fun b => ?_
  conv => whnf
  refine loopH (fun k : Nat => k ≤ l.length ∧ lvlN l n l.length = lvlN l n k) (fun k => k) (fun k => [(5, .d (.int .i64 ((k : Int) - 1)))]) (fun _ => []) 0 l.length ⟨by omega, rfl⟩ (weak_of rfl (by (conv => whnf); first | done | (refine And.intro (by rw [Go.Vc.wrap_small (by omega) (by omega)]) ?_; first | done | repeat ((conv => whnf); first | exact trivial | refine And.intro rfl ?_ | refine And.intro (incD (by omega)) ?_))) (by repeat ((conv => whnf); first | exact trivial | refine And.intro rfl ?_ | refine And.intro (incD (by omega)) ?_))) ?_
  rintro k ⟨hk, hx⟩
  conv => whnf
  refine And.intro (fun hb => ?_) (fun hb => ?_)
  · have hk0 : 1 ≤ k := by have := of_decide_eq_true hb; omega
    obtain ⟨j, rfl⟩ : ∃ j, k = j + 1 := ⟨k - 1, by omega⟩
    have hjl : j < l.length := by omega
    have hj : (((j + 1 : Nat) : Int) - 1) = (j : Int) := by omega
    rw [hj]
    conv => whnf
    refine IdxC.encI j hjl rfl ?_
    have hg : l.getD j 0 = l[j] := by rw [List.getD_eq_getElem?_getD, List.getElem?_eq_getElem hjl]; rfl
    rw [lvlN, hg] at hx
    conv => whnf
    refine And.intro (fun h => ?_) (fun h => ?_)
    · rw [if_pos (by simpa using h)] at hx
      conv => whnf
      rw [hx]
    · rw [if_neg (by simpa using h)] at hx
      conv => whnf
      refine again j (by omega) ⟨by omega, hx⟩ (weak_of rfl (by (conv => whnf); refine And.intro (by rw [Go.Vc.wrap_small (by omega) (by omega)]) ?_; first | done | repeat ((conv => whnf); first | exact trivial | refine And.intro rfl ?_ | refine And.intro (incD (by omega)) ?_)) (by repeat ((conv => whnf); first | exact trivial | refine And.intro rfl ?_ | refine And.intro (incD (by omega)) ?_)))
  · have hk0 : k = 0 := by have := of_decide_eq_false hb; omega
    subst hk0
    conv => whnf
    rw [hx]
    rfl
theorem rwith_fn (l : List Int) (n : Int) (hl : l.length < 1099511627776) : FnR Tryz.prog G0 55 [dI l, .int .i64 n] (dI (l ++ [n])) := by
  refine fnQ_of_vc txok mixed [] Tryz.func55 rfl rfl (by simp) fun b => ?_
  conv => whnf
  refine appR (i := 0) (sz := 1) (n := 0) (m := l.length) (xs := []) (ys := Vx.encI l) txok (fun _ => false) l.length (Vx.encI l) (by exact rfl) (by exact rfl) (by exact rfl) (by kernel_rfl) (by simp [Vx.encI]) (Vx.encI_scal l) (by simp) (by simp) (by simp only [LB]; omega) ?_
  conv => whnf
  refine appR (i := 0) (sz := 1) (n := l.length) (m := 1) (xs := Vx.encI l) (ys := Vx.encI [n]) txok (fun k => Nat.ble 1 k) (l ++ [n]).length (Vx.encI (l ++ [n])) (by exact rfl) (by exact rfl) (by exact rfl) (by kernel_rfl) (by exact rfl) (Vx.encI_scal _) (by simp) (by simp [Vx.encI]) (by simp only [LB, List.length_append, List.length_cons, List.length_nil]; omega) ?_
  conv => whnf
  try exact rfl
theorem lvlN_app (l m : List Int) (n : Int) : ∀ k, k ≤ l.length → lvlN (l ++ m) n k = lvlN l n k
  | 0, _ => rfl
  | k + 1, h => by
    have e : (l ++ m).getD k 0 = l.getD k 0 := by
      rw [List.getD_eq_getElem?_getD, List.getD_eq_getElem?_getD, List.getElem?_append_left (by omega)]
    rw [lvlN, lvlN, e, lvlN_app l m n k (by omega)]
theorem lvl_last (n : Int) (l : List Int) : lvlN l n l.length = lastI l n := by
  have key : ∀ r : List Int, lvlN r.reverse n r.reverse.length = lastI r.reverse n := by
    intro r
    induction r with
    | nil => rfl
    | cons x r ih =>
      rw [List.reverse_cons, List.length_append, List.length_cons, List.length_nil, lvlN]
      have e : (r.reverse ++ [x]).getD r.reverse.length 0 = x := by
        rw [List.getD_eq_getElem?_getD, List.getElem?_append_right (Nat.le_refl _)]; simp
      rw [e, lvlN_app _ _ _ _ (Nat.le_refl _), ih]
      by_cases h : x = n
      · rw [if_pos h]; subst h; rw [lastI_end]
      · rw [if_neg h, lastI_snoc _ (fun h' => h h'.symm)]
  have := key l.reverse
  rwa [List.reverse_reverse] at this
theorem level_fn (l : List Int) (n : Int) (hl : l.length < 1099511627776) : FnR Tryz.prog G0 52 [dI l, .int .i64 n] (.int .i64 (lastI l n)) := by
  have := rlevel_fn l n hl
  rwa [lvl_last] at this
end Go.Proofs.YtcjkikadolnfgaaGreat


/- The reference: what stands free; sizes. -/
set_option linter.unusedSimpArgs false
set_option linter.unusedVariables false
namespace Go.Proofs.YtcjkikadolnfgaaGreat
open Go.Vx Go.Vc Go.RowKit
end Go.Proofs.YtcjkikadolnfgaaGreat


/- The reference: sizes; which types are right. -/
set_option linter.unusedSimpArgs false
set_option linter.unusedVariables false
namespace Go.Proofs.YtcjkikadolnfgaaGreat
open Go.Vx Go.Vc Go.RowKit
def cutN (most : Int) (x : Nat) : Int := if (x : Int) ≤ most then x else most + 1
end Go.Proofs.YtcjkikadolnfgaaGreat


/- Types without names; what putting is there; sameness is equality there. -/
set_option linter.unusedSimpArgs false
set_option linter.unusedVariables false
namespace Go.Proofs.YtcjkikadolnfgaaGreat
inductive DV where
  | num (n : Int)
  | fre (n : Int)
  | lvl (d : Nat)
inductive DB where
  | mk (k : Int) (v : DV) (ls : List ByteArray) (ks : List DB)
abbrev Rho := Int → Nat → DB
def upd (ρ : Rho) (n : Int) (x : Nat → DB) : Rho := fun z => if z = n then x else ρ z
def leafL (l : Nat) : DB := .mk 6 (.lvl l) [] []
def leafF (z : Int) : DB := .mk 6 (.fre z) [] []
mutual
def ev : Nat → Rho → TG → DB
  | d, ρ, .mk k n ls l => if k = 6 then ρ n d else if bndG k = true then .mk k (.num 0) ls (evs (d + 1) (upd ρ n fun _ => leafL d) l) else .mk k (.num n) ls (evs d ρ l)
def evs : Nat → Rho → List TG → List DB
  | _, _, [] => []
  | d, ρ, t :: r => ev d ρ t :: evs d ρ r
end
theorem evs_map (d : Nat) (ρ : Rho) : ∀ l, evs d ρ l = l.map (ev d ρ)
  | [] => by simp [evs]
  | t :: r => by simp [evs, evs_map d ρ r]
theorem upd_eq (ρ : Rho) (n : Int) (x : Nat → DB) : upd ρ n x n = x := by simp [upd]
theorem upd_ne (ρ : Rho) {n z : Int} (x : Nat → DB) (h : z ≠ n) : upd ρ n x z = ρ z := by simp [upd, h]
theorem ev_congr : ∀ (t : TG) (d : Nat) (ρ σ : Rho), (∀ z ∈ frG t [], ρ z = σ z) → ev d ρ t = ev d σ t := by
  refine TG.ind fun k n ls l ih d ρ σ h => ?_
  rw [ev, ev]
  by_cases h6 : k = 6
  · rw [if_pos h6, if_pos h6, h n ((fv_mk ..).2 (.inl ⟨h6, rfl⟩))]
  rw [if_neg h6, if_neg h6]
  by_cases hb : bndG k = true
  · rw [if_pos hb, if_pos hb, evs_map, evs_map]
    congr 1
    refine List.map_congr_left fun u hu => ih u hu _ _ _ fun z hz => ?_
    by_cases e : z = n
    · subst e; rw [upd_eq, upd_eq]
    · rw [upd_ne _ _ e, upd_ne _ _ e, h z ((fv_mk ..).2 (.inr ⟨fun _ => e, u, hu, hz⟩))]
  · rw [if_neg hb, if_neg hb, evs_map, evs_map]
    congr 1
    exact List.map_congr_left fun u hu => ih u hu _ _ _ fun z hz => h z ((fv_mk ..).2 (.inr ⟨fun e => absurd e hb, u, hu, hz⟩))
theorem ev_var (d : Nat) (ρ : Rho) (m : Int) : ev d ρ (varG m) = ρ m d := by rw [varG, ev, if_pos rfl]
theorem lastI_one (s : List Int) (n : Int) : lastI s n < 0 → lastI s n = -1 := by
  unfold lastI
  split
  · rename_i p h
    have hm := List.mem_of_find?_eq_some h
    unfold prI at hm
    simp only [List.mem_map, List.mem_range] at hm
    obtain ⟨j, hj, rfl⟩ := hm
    intro h; simp only at h; omega
  · intro _; rfl
theorem samGs_ev {n m : Nat} {ρ σ : Rho} {c d : List Int} : ∀ (l l' : List TG), (∀ u ∈ l, ∀ v ∈ l', (samG u v c d = true ↔ ev n ρ u = ev m σ v)) → (samGs l l' c d = true ∧ l.length = l'.length ↔ evs n ρ l = evs m σ l')
  | [], [], _ => by simp [samGs, evs]
  | [], v :: r', _ => by simp [evs]
  | u :: r, [], _ => by simp [evs]
  | u :: r, v :: r', h => by
    have h1 := h u (by simp) v (by simp)
    have h2 := samGs_ev r r' fun w hw x hx => h w (by simp [hw]) x (by simp [hx])
    rw [samGs, evs, evs, Bool.and_eq_true, List.cons.injEq, ← h1, ← h2]
    simp only [List.length_cons, Nat.add_right_cancel_iff]
    constructor
    · rintro ⟨⟨x, y⟩, z⟩; exact ⟨x, y, z⟩
    · rintro ⟨x, y, z⟩; exact ⟨⟨x, y⟩, z⟩
theorem ev_put : ∀ (f : Nat) (t : TG) (x : Int) (y : TG) (fr : List Int), szG t ≤ f → okV t = true → (∀ z, z ∈ fr ↔ z ∈ frG y []) → ∀ (d : Nat) (ρ : Rho), ev d ρ (putF f t x y fr) = ev d (upd ρ x fun d' => ev d' ρ y) t
  | 0, .mk k n ls l, x, y, fr, hf, hv, hfr, d, ρ => by simp [szG] at hf
  | f + 1, .mk k n ls l, x, y, fr, hf, hv, hfr, d, ρ => by
    rw [szG] at hf
    obtain ⟨hv6, hvl⟩ := (okV_mk ..).1 hv
    have hsz : ∀ u ∈ l, szG u ≤ f := fun u hu => by have := szG_mem hu; omega
    rw [putF_mk]
    by_cases h1 : k = 6 ∧ n = x
    · rw [if_pos h1, ev, if_pos h1.1, h1.2, upd_eq]
    rw [if_neg h1]
    by_cases h2 : bndG k = true ∧ n = x
    · rw [if_pos h2, ev, ev, if_neg (bnd_ne6 h2.1), if_neg (bnd_ne6 h2.1), if_pos h2.1, if_pos h2.1]
      have : upd (upd ρ x fun d' => ev d' ρ y) n (fun _ => leafL d) = upd ρ n (fun _ => leafL d) := by
        funext z
        by_cases e : z = n
        · subst e; rw [upd_eq, upd_eq]
        · rw [upd_ne _ _ e, upd_ne _ _ e, upd_ne _ _ (by rw [← h2.2]; exact e)]
      rw [this]
    rw [if_neg h2]
    by_cases h3 : bndG k = true ∧ n ∈ fr ∧ 0 < l.length
    · rw [if_pos h3]
      obtain ⟨f1, f2, f3, f4⟩ := fresh_facts fr l x n
      generalize freshN fr l x n = m at *
      rw [ev, ev, if_neg (bnd_ne6 h3.1), if_neg (bnd_ne6 h3.1), if_pos h3.1, if_pos h3.1, evs_map, evs_map]
      congr 1
      rw [List.map_map, List.map_map]
      refine List.map_congr_left fun u hu => ?_
      have hm1 : ∀ z, z ∈ [m] ↔ z ∈ frG (varG m) [] := fun z => by rw [fv_var]; simp
      have s1 := sz_put f u n (varG m) [m] (by rfl)
      simp only [Function.comp]
      rw [ev_put f _ x y fr (by have := hsz u hu; omega) (okV_put f u n (varG m) [m] (okV_var m) (hvl u hu)) hfr, ev_put f u n (varG m) [m] (hsz u hu) (hvl u hu) hm1]
      refine ev_congr _ _ _ _ fun z hz => ?_
      have hzm : z ≠ m := fun e => f2 u hu (e ▸ hz)
      by_cases e : z = n
      · subst e
        rw [upd_eq, upd_eq]
        funext d'
        rw [ev_var, upd_ne _ _ f3, upd_eq]
      · rw [upd_ne _ _ e, upd_ne _ _ e]
        by_cases ex : z = x
        · subst ex
          rw [upd_eq, upd_eq]
          funext d'
          refine ev_congr _ _ _ _ fun w hw => ?_
          rw [upd_ne]
          rintro rfl
          exact f1 ((hfr w).2 hw)
        · rw [upd_ne _ _ ex, upd_ne _ _ ex, upd_ne _ _ hzm]
    rw [if_neg h3]
    by_cases h6 : k = 6
    · have hn : n ≠ x := fun e => h1 ⟨h6, e⟩
      rw [ev, ev, if_pos h6, if_pos h6, upd_ne _ _ hn]
    rw [ev, ev, if_neg h6, if_neg h6]
    by_cases hb : bndG k = true
    · have hn : n ≠ x := fun e => h2 ⟨hb, e⟩
      rw [if_pos hb, if_pos hb, evs_map, evs_map, List.map_map]
      congr 1
      refine List.map_congr_left fun u hu => ?_
      have hfn : n ∉ fr := fun e => h3 ⟨hb, e, List.length_pos_of_mem hu⟩
      simp only [Function.comp]
      rw [ev_put f u x y fr (hsz u hu) (hvl u hu) hfr]
      refine ev_congr _ _ _ _ fun z hz => ?_
      by_cases e : z = x
      · subst e
        rw [upd_eq, upd_ne _ _ (fun e => hn e.symm), upd_eq]
        funext d'
        refine ev_congr _ _ _ _ fun w hw => ?_
        rw [upd_ne]
        rintro rfl
        exact hfn ((hfr w).2 hw)
      · rw [upd_ne _ _ e]
        by_cases e2 : z = n
        · subst e2; rw [upd_eq, upd_eq]
        · rw [upd_ne _ _ e2, upd_ne _ _ e2, upd_ne _ _ e]
    · rw [if_neg hb, if_neg hb, evs_map, evs_map, List.map_map]
      congr 1
      exact List.map_congr_left fun u hu => ev_put f u x y fr (hsz u hu) (hvl u hu) hfr d ρ
def env (s : List Int) : Rho := fun z _ => if lastI s z ≥ 0 then leafL (lastI s z).toNat else leafF z
theorem env_snoc (s : List Int) (n : Int) : env (s ++ [n]) = upd (env s) n fun _ => leafL s.length := by
  funext z
  unfold env
  by_cases e : z = n
  · subst e
    rw [upd_eq]
    funext d
    rw [lastI_end, if_pos (by omega)]; simp
  · rw [upd_ne _ _ e]
    funext d
    rw [lastI_snoc _ e]
theorem sam_ev : ∀ (a b : TG) (s t : List Int), s.length = t.length → okV a = true → okV b = true → (samG a b s t = true ↔ ev s.length (env s) a = ev t.length (env t) b) := by
  refine TG.ind fun k n ls l ih b s t hst ha hb => ?_
  obtain ⟨k', n', ls', l'⟩ := b
  obtain ⟨ha6, hal⟩ := (okV_mk ..).1 ha
  obtain ⟨hb6, hbl⟩ := (okV_mk ..).1 hb
  have key : ∀ (c d : List Int), c.length = d.length → (samGs l l' c d = true ∧ l.length = l'.length ↔ evs c.length (env c) l = evs d.length (env d) l') := fun c d hcd => samGs_ev l l' fun u hu v hv => ih u hu v c d hcd (hal u hu) (hbl v hv)
  rw [sam_iff, ev, ev]
  by_cases h6 : k = 6
  · subst h6
    obtain ⟨rfl, rfl⟩ := ha6 rfl
    rw [if_pos rfl]
    by_cases h6' : k' = 6
    · subst h6'
      obtain ⟨rfl, rfl⟩ := hb6 rfl
      rw [if_pos rfl]
      have : bndG 6 = false := by decide
      simp only [this, true_and, samGs, and_true]
      unfold env
      have q1 := lastI_one s n
      have q2 := lastI_one t n'
      constructor
      · rintro ⟨h, -, -⟩
        obtain ⟨h1, h2⟩ := h trivial
        rw [h1]
        split
        · rfl
        · rw [h2 (by rw [h1]; omega)]
      · intro h
        refine ⟨fun _ => ?_, by simp, by simp⟩
        split at h <;> split at h
        · simp only [leafL, DB.mk.injEq, DV.lvl.injEq, true_and, and_true] at h
          exact ⟨by omega, fun h' => by omega⟩
        · simp [leafL, leafF] at h
        · simp [leafL, leafF] at h
        · simp only [leafF, DB.mk.injEq, DV.fre.injEq, true_and, and_true] at h
          exact ⟨by omega, fun _ => h⟩
    · rw [if_neg h6']
      refine iff_of_false (fun h => h6' h.1.symm) fun h => ?_
      unfold env at h
      split at h <;> split at h <;> simp [leafL, leafF] at h <;> exact h6' h.1.symm
  rw [if_neg h6]
  by_cases h6' : k' = 6
  · subst h6'
    rw [if_pos rfl]
    refine iff_of_false (fun h => h6 h.1) fun h => ?_
    unfold env at h
    split at h <;> split at h <;> simp [leafL, leafF] at h <;> exact h6 h.1
  rw [if_neg h6']
  by_cases hbk : bndG k = true
  · rw [if_pos hbk]
    by_cases hbk' : bndG k' = true
    · rw [if_pos hbk']
      have h1 := key (s ++ [n]) (t ++ [n']) (by simp [hst])
      rw [env_snoc, env_snoc, List.length_append, List.length_append, List.length_singleton, List.length_singleton] at h1
      rw [DB.mk.injEq, ← h1]
      constructor
      · rintro ⟨a1, a2, a3, a4, a5, a6⟩; exact ⟨a1, rfl, a3, a5 hbk, a2⟩
      · rintro ⟨a1, _, a3, a5, a2⟩; exact ⟨a1, a2, a3, fun e => absurd e h6, fun _ => a5, fun _ e => by rw [hbk] at e; cases e⟩
    · rw [if_neg hbk']
      refine iff_of_false (fun h => hbk' (h.1 ▸ hbk)) fun h => ?_
      rw [DB.mk.injEq] at h
      exact hbk' (h.1 ▸ hbk)
  · rw [if_neg hbk]
    by_cases hbk' : bndG k' = true
    · rw [if_pos hbk']
      refine iff_of_false (fun h => hbk (h.1 ▸ hbk')) fun h => ?_
      rw [DB.mk.injEq] at h
      exact hbk (h.1 ▸ hbk')
    · rw [if_neg hbk']
      have h1 := key s t hst
      rw [DB.mk.injEq, ← h1, DV.num.injEq]
      constructor
      · rintro ⟨a1, a2, a3, a4, a5, a6⟩
        obtain ⟨b1, b2⟩ := a6 h6 (by simpa using hbk)
        exact ⟨a1, b1, a3, b2, a2⟩
      · rintro ⟨a1, b1, a3, b2, a2⟩; exact ⟨a1, a2, a3, fun e => absurd e h6, fun e => absurd e hbk, fun _ _ => ⟨b1, b2⟩⟩
end Go.Proofs.YtcjkikadolnfgaaGreat


/- How often a number stands free; sizes behind putting; both hang on the nameless type alone. -/
set_option linter.unusedSimpArgs false
set_option linter.unusedVariables false
namespace Go.Proofs.YtcjkikadolnfgaaGreat
mutual
def cntG (x : Int) : TG → Nat
  | .mk k n _ l => if k = 6 ∧ n = x then 1 else if bndG k = true ∧ n = x then 0 else cntGs x l
def cntGs (x : Int) : List TG → Nat
  | [] => 0
  | t :: r => cntG x t + cntGs x r
end
theorem cnt_le : ∀ (t : TG) (x : Int), cntG x t ≤ szG t := by
  refine TG.ind fun k n ls l ih x => ?_
  rw [cntG, szG]
  have : ∀ m : List TG, (∀ u ∈ m, u ∈ l) → cntGs x m ≤ szGs m := by
    intro m
    induction m with
    | nil => intro _; exact Nat.le_refl _
    | cons u r ihr =>
      intro hm
      have h1 := ihr fun w hw => hm w (by simp [hw])
      have h2 := ih u (hm u (by simp)) x
      rw [cntGs, szGs]; omega
  have := this l fun _ h => h
  split
  · omega
  · split <;> omega
mutual
def szD : DB → Nat
  | .mk _ _ _ l => szDs l + 1
def szDs : List DB → Nat
  | [] => 0
  | t :: r => szD t + szDs r
end
theorem szD_ev : ∀ (t : TG) (x : Int) (c : Nat) (d : Nat) (ρ : Rho), okV t = true → (∀ d, szD (ρ x d) = c) → (∀ z d, z ≠ x → szD (ρ z d) = 1) → szD (ev d ρ t) + cntG x t = szG t + cntG x t * c := by
  refine TG.ind fun k n ls l ih x c d ρ hv hx hz => ?_
  obtain ⟨hv6, hvl⟩ := (okV_mk ..).1 hv
  rw [ev, cntG, szG]
  by_cases h6 : k = 6
  · obtain ⟨rfl, rfl⟩ := hv6 h6
    rw [if_pos h6]
    by_cases e : n = x
    · rw [if_pos ⟨h6, e⟩, e, hx]; simp [szGs]; omega
    · rw [if_neg (fun h => e h.2), hz n d e]
      have hb : bndG k = false := by rw [h6]; decide
      rw [if_neg (by rw [hb]; simp)]
      simp [szGs, cntGs]
  rw [if_neg h6]
  by_cases hb : bndG k = true
  · rw [if_pos hb, szD, evs_map, if_neg (fun h => h6 h.1)]
    by_cases e : n = x
    · rw [if_pos ⟨hb, e⟩]
      have : ∀ m : List TG, (∀ u ∈ m, u ∈ l) → szDs (m.map (ev (d + 1) (upd ρ n fun _ => leafL d))) = szGs m := by
        intro m
        induction m with
        | nil => intro _; rfl
        | cons u r ihr =>
          intro hm
          have h1 := ih u (hm u (by simp)) x 1 (d + 1) (upd ρ n fun _ => leafL d) (hvl u (hm u (by simp))) (fun d' => by rw [← e, upd_eq]; rfl) (fun z d' hzx => by rw [upd_ne _ _ (by rw [e]; exact hzx)]; exact hz z d' hzx)
          rw [List.map_cons, szDs, szGs, ihr fun w hw => hm w (by simp [hw])]
          omega
      rw [this l fun _ h => h]; omega
    · rw [if_neg (fun h => e h.2)]
      have : ∀ m : List TG, (∀ u ∈ m, u ∈ l) → szDs (m.map (ev (d + 1) (upd ρ n fun _ => leafL d))) + cntGs x m = szGs m + cntGs x m * c := by
        intro m
        induction m with
        | nil => intro _; simp [szDs, szGs, cntGs]
        | cons u r ihr =>
          intro hm
          have h1 := ih u (hm u (by simp)) x c (d + 1) (upd ρ n fun _ => leafL d) (hvl u (hm u (by simp))) (fun d' => by rw [upd_ne _ _ (fun h => e h.symm)]; exact hx d') (fun z d' hzx => by
            by_cases e2 : z = n
            · subst e2; rw [upd_eq]; rfl
            · rw [upd_ne _ _ e2]; exact hz z d' hzx)
          have h2 := ihr fun w hw => hm w (by simp [hw])
          rw [List.map_cons, szDs, szGs, cntGs, Nat.add_mul]
          omega
      have := this l fun _ h => h
      omega
  · rw [if_neg hb, szD, evs_map, if_neg (fun h => h6 h.1), if_neg (fun h => hb h.1)]
    have : ∀ m : List TG, (∀ u ∈ m, u ∈ l) → szDs (m.map (ev d ρ)) + cntGs x m = szGs m + cntGs x m * c := by
      intro m
      induction m with
      | nil => intro _; simp [szDs, szGs, cntGs]
      | cons u r ihr =>
        intro hm
        have h1 := ih u (hm u (by simp)) x c d ρ (hvl u (hm u (by simp))) hx hz
        have h2 := ihr fun w hw => hm w (by simp [hw])
        rw [List.map_cons, szDs, szGs, cntGs, Nat.add_mul]
        omega
    have := this l fun _ h => h
    omega
def fre0 : Rho := fun z _ => leafF z
theorem szD_fre (t : TG) (d : Nat) (hv : okV t = true) : szD (ev d fre0 t) = szG t := by
  have := szD_ev t 0 1 d fre0 hv (fun _ => rfl) (fun _ _ _ => rfl)
  omega
theorem sz_putF (f : Nat) (t : TG) (x : Int) (y : TG) (fr : List Int) (hf : szG t ≤ f) (hv : okV t = true) (hy : okV y = true) (hfr : ∀ z, z ∈ fr ↔ z ∈ frG y []) : szG (putF f t x y fr) + cntG x t = szG t + cntG x t * szG y := by
  rw [← szD_fre (putF f t x y fr) 0 (okV_put f t x y fr hy hv), ev_put f t x y fr hf hv hfr]
  exact szD_ev t x (szG y) 0 _ hv (fun d => by rw [upd_eq]; exact szD_fre y d hy) (fun z d h => by rw [upd_ne _ _ h]; rfl)
end Go.Proofs.YtcjkikadolnfgaaGreat


/- The reference's Put: the least spare number. -/
set_option linter.unusedSimpArgs false
set_option linter.unusedVariables false
namespace Go.Proofs.YtcjkikadolnfgaaGreat
open Go.Vx Go.Vc Go.RowKit
end Go.Proofs.YtcjkikadolnfgaaGreat


/- The reference's Put. -/
set_option linter.unusedSimpArgs false
set_option linter.unusedVariables false
namespace Go.Proofs.YtcjkikadolnfgaaGreat
open Go.Vx Go.Vc Go.RowKit
def spN (l : List TG) (y : TG) (x : Int) : Int := (mex (x :: (putL [] (frGs l []) ++ freeS y)) : Nat)
def rputF : Nat → TG → Int → TG → TG
  | 0, t, _, _ => t
  | f + 1, t, x, y =>
    if t.k = 6 ∧ t.n = x then y
    else if bndG t.k = true ∧ t.n = x then t
    else if bndG t.k = true ∧ t.n ∈ freeS y then
      .mk t.k (spN t.kids y x) t.ls (t.kids.map fun u => rputF f (rputF f u t.n (varG (spN t.kids y x))) x y)
    else .mk t.k t.n t.ls (t.kids.map fun u => rputF f u x y)
def RPutOk (f : Nat) : Prop := ∀ t : TG, szG t ≤ f → ∀ (x : Int) (y : TG), szG t + szG y < 1099511600000 → FnR Tryz.prog G0 66 [dG t, .int .i64 x, dG y] (dG (rputF f t x y))
end Go.Proofs.YtcjkikadolnfgaaGreat


/- The reference's SameType. -/
set_option linter.unusedSimpArgs false
set_option linter.unusedVariables false
namespace Go.Proofs.YtcjkikadolnfgaaGreat
open Go.Vx Go.Vc Go.RowKit
def Zepq0 : List (Nat × Go.Vc.Pl) := [(7, .pure 0 (.take 1 (.pure 2 (.take 3 (.pure 4 (.pure 5 (.take 6 (.pure 8 (.pure 9 (.take 10 (.run 7 (.run 11 (.fin 12 (.pure 13 .done))))))))))))))]
theorem rtexts_fn (l m : List ByteArray) : FnR Tryz.prog G0 51 [dL l, dL m] (.bool (decide (l = m))) := by
  refine fnQ_sz fun hs => ?_
  have hl := (szOk_sl hs.1).1
  simp only [LB] at hl
  refine fnQ_of_vc txok mixed [(6, .pure 0 (.pure 1 (.pure 2 (.take 3 (.pure 4 (.pure 5 (.pure 6 (.take 7 (.pure 8 .done)))))))))] Tryz.func51 rfl rfl (by simp) fun b => ?_
  conv => whnf
  refine And.intro (fun h => ?_) (fun h => ?_)
  · conv => whnf
    refine congrArg D.bool ?_
    rw [eq_comm, decide_eq_false_iff_not]
    rintro rfl
    simp at h
  have h : l.length = m.length := by simp at h; omega
  conv => whnf
  refine loopH (fun i : Nat => i ≤ l.length ∧ (l = m ↔ l.drop i = m.drop i)) (fun i => l.length - i) (fun i => [(5, .d (.int .i64 i))]) (fun _ => []) 0 0 ⟨by omega, by simp⟩ (weak_of rfl (by repeat ((conv => whnf); first | exact trivial | refine And.intro rfl ?_ | refine And.intro (incD (by omega)) ?_)) (by repeat ((conv => whnf); first | exact trivial | refine And.intro rfl ?_ | refine And.intro (incD (by omega)) ?_))) ?_
  rintro i ⟨hi, hx⟩
  conv => whnf
  refine And.intro (fun hb => ?_) (fun hb => ?_)
  · have hil : i < l.length := by have := of_decide_eq_true hb; omega
    have him : i < m.length := by omega
    rw [eqS_drop hil him] at hx
    conv => whnf
    refine And.intro (by kernel_rfl) ?_
    conv => whnf
    refine IdxC.encS i hil rfl ?_
    conv => whnf
    refine IdxC.encS i him rfl ?_
    conv => whnf
    rw [beqB']
    refine And.intro (fun he => ?_) (fun he => ?_)
    · conv => whnf
      refine congrArg D.bool ?_
      rw [eq_comm, decide_eq_false_iff_not, hx]
      simp at he
      exact fun h' => he h'.1
    · conv => whnf
      simp at he
      rw [incD (by omega)]
      exact again (i + 1) (by omega) ⟨by omega, by rw [hx]; simp [he]⟩ (weak_of rfl (by repeat ((conv => whnf); first | exact trivial | refine And.intro rfl ?_ | refine And.intro (incD (by omega)) ?_)) (by repeat ((conv => whnf); first | exact trivial | refine And.intro rfl ?_ | refine And.intro (incD (by omega)) ?_)))
  · have hb : ¬ i < l.length := by have := of_decide_eq_false hb; omega
    conv => whnf
    refine congrArg D.bool ?_
    rw [eq_comm, decide_eq_true_eq, hx, List.drop_of_length_le (by omega), List.drop_of_length_le (by omega)]
theorem rsameAll_fn (l m : List TG) (s t : List Int) (hlm : l.length = m.length) (ih : ∀ u ∈ l, ∀ v, FnR Tryz.prog G0 21 [dG u, dG v, dI s, dI t] (.bool (samG u v s t))) : FnR Tryz.prog G0 53 [dGs l, dGs m, dI s, dI t] (.bool (samGs l m s t)) := by
  refine fnQ_sz fun hs => ?_
  have hl := (szOk_sl hs.1).1
  simp only [LB] at hl
  refine fnQ_of_vc txok mixed [(4, .pure 0 (.pure 1 (.pure 2 (.take 3 (.pure 4 (.pure 5 (.pure 6 (.take 7 (.pure 8 (.pure 9 (.fin 10 (.pure 11 .done))))))))))))] Tryz.func53 rfl rfl (by simp) fun b => ?_
  conv => whnf
  refine loopH (fun i : Nat => i ≤ l.length ∧ samGs l m s t = samGs (l.drop i) (m.drop i) s t) (fun i => l.length - i) (fun i => [(9, .d (.int .i64 i))]) (fun _ => []) 0 0 ⟨by omega, by simp⟩ (weak_of rfl (by repeat ((conv => whnf); first | exact trivial | refine And.intro rfl ?_ | refine And.intro (incD (by omega)) ?_)) (by repeat ((conv => whnf); first | exact trivial | refine And.intro rfl ?_ | refine And.intro (incD (by omega)) ?_))) ?_
  rintro i ⟨hi, hx⟩
  conv => whnf
  refine And.intro (fun hb => ?_) (fun hb => ?_)
  · have hil : i < l.length := by have := of_decide_eq_true hb; omega
    have him : i < m.length := by omega
    rw [samGs_drop hil him] at hx
    conv => whnf
    refine And.intro (by kernel_rfl) ?_
    conv => whnf
    refine IdxC.encGs i hil rfl ?_
    conv => whnf
    refine IdxC.encGs i him rfl ?_
    conv => whnf
    refine callF (ih l[i] (List.getElem_mem hil) m[i]) gf21 rfl rfl ?_
    conv => whnf
    refine And.intro (fun he => ?_) (fun he => ?_)
    · have he : samG l[i] m[i] s t = false := by simpa using he
      rw [he, Bool.false_and] at hx
      conv => whnf
      rw [hx]
    · have he : samG l[i] m[i] s t = true := by simpa using he
      rw [he, Bool.true_and] at hx
      conv => whnf
      rw [incD (by omega)]
      exact again (i + 1) (by omega) ⟨by omega, hx⟩ (weak_of rfl (by repeat ((conv => whnf); first | exact trivial | refine And.intro rfl ?_ | refine And.intro (incD (by omega)) ?_)) (by repeat ((conv => whnf); first | exact trivial | refine And.intro rfl ?_ | refine And.intro (incD (by omega)) ?_)))
  · have hb : ¬ i < l.length := by have := of_decide_eq_false hb; omega
    conv => whnf
    rw [hx, List.drop_of_length_le (by omega), samGs_nil]
set_option maxRecDepth 20000 in
theorem rsame_fn : ∀ (a u : TG) (s t : List Int), s.length + szG a < 1099511627776 → t.length + szG a < 1099511627776 → FnR Tryz.prog G0 21 [dG a, dG u, dI s, dI t] (.bool (samG a u s t)) := by
  refine TG.ind fun k n ls ks ih u s t hss htt => ?_
  obtain ⟨k', n', ls', ks'⟩ := u
  have hsz : szG (.mk k n ls ks) = szGs ks + 1 := by simp only [szG]
  rw [hsz] at hss htt
  have hih : ∀ s' t' : List Int, s'.length ≤ s.length + 1 → t'.length ≤ t.length + 1 → ∀ u ∈ ks, ∀ v, FnR Tryz.prog G0 21 [dG u, dG v, dI s', dI t'] (.bool (samG u v s' t')) := fun s' t' h1 h2 u hu v => ih u hu v s' t' (by have := szG_mem hu; omega) (by have := szG_mem hu; omega)
  have hsm := samG_mk k n ls ks k' n' ls' ks' s t
  by_cases hlen : ks.length = ks'.length
  · have hA := rsameAll_fn ks ks' s t hlen (hih s t (by omega) (by omega))
    have hB := rsameAll_fn ks ks' (s ++ [n]) (t ++ [n']) hlen (hih _ _ (by simp) (by simp))
    have hbk := bindsR_fn k
    have hL1 := level_fn s n (by omega)
    have hL2 := level_fn t n' (by omega)
    have hW1 := rwith_fn s n (by omega)
    have hW2 := rwith_fn t n' (by omega)
    generalize samGs ks ks' s t = r1 at *
    generalize samGs ks ks' (s ++ [n]) (t ++ [n']) = r2 at *
    generalize samG (.mk k n ls ks) (.mk k' n' ls' ks') s t = r at *
    refine fnQ_of_vc txok mixed Zepq0 Tryz.func21 rfl rfl (by simp) fun b => ?_
    conv => whnf
    simp only [g_k, g_n, g_ls, g_kids]
    repeat' ((conv => whnf); first
      | refine And.intro (by kernel_rfl) ?_
      | refine And.intro (fun h => ?_) (fun h => ?_)
      | refine callF (rtexts_fn ls ls') gf51 rfl rfl ?_
      | refine callF hL1 gf52 rfl rfl ?_
      | refine callF hL2 gf52 rfl rfl ?_
      | refine callF hbk gf54 rfl rfl ?_
      | refine callF hW1 gf55 rfl rfl ?_
      | refine callF hW2 gf55 rfl rfl ?_
      | refine callF hA gf53 rfl rfl ?_
      | refine callF hB gf53 rfl rfl ?_)
    all_goals try (conv => whnf)
    all_goals refine congrArg D.bool ?_
    all_goals rw [hsm]
    all_goals clear hA hB hbk hL1 hL2 hW1 hW2 hsm hih ih hsz hss htt
    all_goals simp only [hlen, decide_true, Bool.and_true]
    all_goals first
      | (simp_all; done)
      | (simp_all; omega)
      | trace_state
  · refine fnQ_of_vc txok mixed Zepq0 Tryz.func21 rfl rfl (by simp) fun b => ?_
    conv => whnf
    simp only [g_k, g_n, g_ls, g_kids]
    have hne : ((ks.length : Int) != (ks'.length : Int)) = true := by
      rw [bne_iff_ne]; omega
    have hf : samG (.mk k n ls ks) (.mk k' n' ls' ks') s t = false := by
      rw [hsm, decide_eq_false hlen]; simp
    rw [hf]
    repeat' ((conv => whnf); first
      | (refine And.intro (fun h => ?_) (fun h => ?_) <;> first | exact Bool.noConfusion h | (rw [hne] at h; exact Bool.noConfusion h) | skip))
    all_goals try (conv => whnf)
    all_goals try exact rfl
end Go.Proofs.YtcjkikadolnfgaaGreat


/- Plain laws: what the program and the document tell of right types is the same. -/
set_option linter.unusedSimpArgs false
set_option linter.unusedVariables false
namespace Go.Proofs.YtcjkikadolnfgaaGreat
open Go.Vx Go.Vc Go.RowKit
theorem shp_shR (k n : Int) (ls : List ByteArray) (l : List TG) : shpG (.mk k n ls l) = shR k n ls l.length := by
  have hS : shpG (.mk k n ls l) = (if k = 1 ∨ k = 2 ∨ k = 3 then n == 0 && (ls.length : Int) == 0 && (l.length : Int) == 0
    else if k = 4 ∨ k = 5 then n == 0 && (ls.length : Int) == 0 && (l.length : Int) == 2
    else if k = 6 then (ls.length : Int) == 0 && (l.length : Int) == 0
    else if k = 7 then n == 0 && ordS ls && (ls.length : Int) == (l.length : Int)
    else if k = 8 then n == 0 && (ls.length : Int) == 0
    else if k = 9 ∨ k = 10 ∨ k = 11 then (ls.length : Int) == 0 && (l.length : Int) == 1
    else false) := rfl
  rw [hS]
  clear hS
  unfold shR shA shB shC
  have hL : decide ((ls.length : Int) > 0) = !((ls.length : Int) == 0) := by
    cases ls.length with
    | zero => rfl
    | succ m => rw [Bool.eq_iff_iff]; simp; omega
  rw [hL]
  by_cases hk : k < 1 ∨ 11 < k
  · have e : kidN k = -2 := by unfold kidN; rw [if_neg (by omega), if_neg (by omega), if_neg (by omega), if_neg (by omega)]
    conv => lhs; rw [if_neg (by omega), if_neg (by omega), if_neg (by omega), if_neg (by omega), if_neg (by omega), if_neg (by omega)]
    rw [e]
    rfl
  have hk' : k = 1 ∨ k = 2 ∨ k = 3 ∨ k = 4 ∨ k = 5 ∨ k = 6 ∨ k = 7 ∨ k = 8 ∨ k = 9 ∨ k = 10 ∨ k = 11 := by omega
  simp only [bne]
  rcases hk' with rfl | rfl | rfl | rfl | rfl | rfl | rfl | rfl | rfl | rfl | rfl
  · conv => lhs; rw [if_pos (by decide)]
    rw [show kidN 1 = 0 from by decide]
    conv => rhs; rw [if_neg (by decide)]
    generalize (n == 0) = A, (((ls.length : Nat) : Int) == 0) = B, (((l.length : Nat) : Int) == 0) = C
    cases A <;> cases B <;> cases C <;> rfl
  · conv => lhs; rw [if_pos (by decide)]
    rw [show kidN 2 = 0 from by decide]
    conv => rhs; rw [if_neg (by decide)]
    generalize (n == 0) = A, (((ls.length : Nat) : Int) == 0) = B, (((l.length : Nat) : Int) == 0) = C
    cases A <;> cases B <;> cases C <;> rfl
  · conv => lhs; rw [if_pos (by decide)]
    rw [show kidN 3 = 0 from by decide]
    conv => rhs; rw [if_neg (by decide)]
    generalize (n == 0) = A, (((ls.length : Nat) : Int) == 0) = B, (((l.length : Nat) : Int) == 0) = C
    cases A <;> cases B <;> cases C <;> rfl
  · conv => lhs; rw [if_neg (by decide), if_pos (by decide)]
    rw [show kidN 4 = 2 from by decide]
    conv => rhs; rw [if_neg (by decide)]
    generalize (n == 0) = A, (((ls.length : Nat) : Int) == 0) = B, (((l.length : Nat) : Int) == 2) = C
    cases A <;> cases B <;> cases C <;> rfl
  · conv => lhs; rw [if_neg (by decide), if_pos (by decide)]
    rw [show kidN 5 = 2 from by decide]
    conv => rhs; rw [if_neg (by decide)]
    generalize (n == 0) = A, (((ls.length : Nat) : Int) == 0) = B, (((l.length : Nat) : Int) == 2) = C
    cases A <;> cases B <;> cases C <;> rfl
  · conv => lhs; rw [if_neg (by decide), if_neg (by decide), if_pos (by decide)]
    rw [show kidN 6 = 0 from by decide]
    conv => rhs; rw [if_neg (by decide)]
    generalize (n == 0) = A, (((ls.length : Nat) : Int) == 0) = B, (((l.length : Nat) : Int) == 0) = C
    cases A <;> cases B <;> cases C <;> rfl
  · conv => lhs; rw [if_neg (by decide), if_neg (by decide), if_neg (by decide), if_pos (by decide)]
    rw [show kidN 7 = -1 from by decide]
    conv => rhs; rw [if_pos (by decide)]
    generalize (n == 0) = A, (((ls.length : Nat) : Int) == ((l.length : Nat) : Int)) = C, ordS ls = D, (((l.length : Nat) : Int) == -1) = E
    cases A <;> cases C <;> cases D <;> cases E <;> rfl
  · conv => lhs; rw [if_neg (by decide), if_neg (by decide), if_neg (by decide), if_neg (by decide), if_pos (by decide)]
    rw [show kidN 8 = -1 from by decide]
    conv => rhs; rw [if_neg (by decide)]
    generalize (n == 0) = A, (((ls.length : Nat) : Int) == 0) = B, (((l.length : Nat) : Int) == -1) = C
    cases A <;> cases B <;> cases C <;> rfl
  · conv => lhs; rw [if_neg (by decide), if_neg (by decide), if_neg (by decide), if_neg (by decide), if_neg (by decide), if_pos (by decide)]
    rw [show kidN 9 = 1 from by decide]
    conv => rhs; rw [if_neg (by decide)]
    generalize (n == 0) = A, (((ls.length : Nat) : Int) == 0) = B, (((l.length : Nat) : Int) == 1) = C
    cases A <;> cases B <;> cases C <;> rfl
  · conv => lhs; rw [if_neg (by decide), if_neg (by decide), if_neg (by decide), if_neg (by decide), if_neg (by decide), if_pos (by decide)]
    rw [show kidN 10 = 1 from by decide]
    conv => rhs; rw [if_neg (by decide)]
    generalize (n == 0) = A, (((ls.length : Nat) : Int) == 0) = B, (((l.length : Nat) : Int) == 1) = C
    cases A <;> cases B <;> cases C <;> rfl
  · conv => lhs; rw [if_neg (by decide), if_neg (by decide), if_neg (by decide), if_neg (by decide), if_neg (by decide), if_pos (by decide)]
    rw [show kidN 11 = 1 from by decide]
    conv => rhs; rw [if_neg (by decide)]
    generalize (n == 0) = A, (((ls.length : Nat) : Int) == 0) = B, (((l.length : Nat) : Int) == 1) = C
    cases A <;> cases B <;> cases C <;> rfl
theorem all_right : ∀ t : TG, rightR t = allG t := by
  refine TG.ind fun k n ls l ih => ?_
  have : ∀ m : List TG, (∀ t ∈ m, rightR t = allG t) → rightRs m = allGs m := by
    intro m
    induction m with
    | nil => intro _; rfl
    | cons t r ihr =>
      intro h
      rw [rightRs, allGs, h t (by simp), ihr fun u hu => h u (by simp [hu])]
  rw [rightR, allG, this l ih, shp_shR]
end Go.Proofs.YtcjkikadolnfgaaGreat


/- InScope, of both. -/
set_option linter.unusedSimpArgs false
set_option linter.unusedVariables false
namespace Go.Proofs.YtcjkikadolnfgaaGreat
open Go.Vx Go.Vc Go.RowKit
def idxP (p : Int → Bool) : List Int → Int → Int
  | [], _ => -1
  | x :: r, i => if p x = true then i else idxP p r (i + 1)
theorem idxP_nonneg (p : Int → Bool) : ∀ (l : List Int) (i : Int), 0 ≤ i → (0 ≤ idxP p l i ↔ l.any p = true)
  | [], i, h => by simp [idxP]
  | x :: r, i, h => by
    rw [idxP, List.any_cons]
    cases hp : p x
    · simp only [Bool.false_eq_true, if_false, Bool.false_or]
      exact idxP_nonneg p r (i + 1) (by omega)
    · simp [h]
theorem indexP_fn (f : FuncId) (c : D) (p : Int → Bool) (l : List Int) (hg : Goes Tryz.prog f) (ih : ∀ n, FnR Tryz.prog G0 f [.int .i64 n, c] (.bool (p n))) : FnR Tryz.prog G0 67 [dI l, .fn f [] [c]] (.int .i64 (idxP p l 0)) := by
  refine fnQ_sz fun hs => ?_
  have hl := (szOk_sl hs.1).1
  simp only [LB] at hl
  refine fnQ_of_vc txok mixed [] Tryz.func67 rfl rfl (by simp) fun b => ?_
  conv => whnf
  refine loopH (fun i : Nat => i ≤ l.length ∧ idxP p l 0 = idxP p (l.drop i) i) (fun i => l.length - i) (fun i => [(8, .d (.int .i64 i))]) (fun _ => []) 0 0 ⟨by omega, rfl⟩ (weak_of rfl (by repeat ((conv => whnf); first | exact trivial | refine And.intro rfl ?_ | refine And.intro (incD (by omega)) ?_)) (by repeat ((conv => whnf); first | exact trivial | refine And.intro rfl ?_ | refine And.intro (incD (by omega)) ?_))) ?_
  rintro i ⟨hi, hx⟩
  conv => whnf
  refine And.intro (fun hb => ?_) (fun hb => ?_)
  · have hb := of_decide_eq_true hb
    have hil : i < l.length := by omega
    rw [List.drop_eq_getElem_cons hil, idxP] at hx
    conv => whnf
    refine IdxC.encI i hil rfl ?_
    conv => whnf
    refine callF (ih l[i]) hg rfl rfl ?_
    conv => whnf
    refine And.intro (fun he => ?_) (fun he => ?_)
    · conv => whnf
      rw [hx, if_pos he]
    · conv => whnf
      rw [if_neg (by simp [he])] at hx
      exact again (i + 1) (by omega) ⟨by omega, by rw [hx]; rfl⟩ (weak_of rfl (by repeat ((conv => whnf); first | exact trivial | refine And.intro rfl ?_ | refine And.intro (incD (by omega)) ?_)) (by repeat ((conv => whnf); first | exact trivial | refine And.intro rfl ?_ | refine And.intro (incD (by omega)) ?_)))
  · have hb := of_decide_eq_false hb
    conv => whnf
    rw [hx, List.drop_eq_nil_of_le (by omega)]; rfl
theorem containsP_fn (f : FuncId) (c : D) (p : Int → Bool) (l : List Int) (hg : Goes Tryz.prog f) (ih : ∀ n, FnR Tryz.prog G0 f [.int .i64 n, c] (.bool (p n))) : FnR Tryz.prog G0 32 [dI l, .fn f [] [c]] (.bool (l.any p)) := by
  refine fnQ_of_vc txok mixed [] Tryz.func32 rfl rfl (by simp) fun b => ?_
  conv => whnf
  refine callF (indexP_fn f c p l hg ih) gf67 rfl rfl ?_
  conv => whnf
  refine congrArg D.bool ?_
  rw [Bool.eq_iff_iff, decide_eq_true_iff]
  exact idxP_nonneg p l 0 (by omega)
def insG (t : TG) (vars : List Int) : Bool := (rightG t == 0) && !((freeS t).any fun n => !decide (n ∈ vars))
theorem insc_fn (vars : List Int) (n : Int) : FnR Tryz.prog G0 34 [.int .i64 n, .ptr [dI vars] 0] (.bool (!decide (n ∈ vars))) := by
  refine fnQ_of_vc txok mixed [] Tryz.func34 rfl rfl (by simp) fun b => ?_
  conv => whnf
  refine callF (contains_fn vars n) gf35 rfl rfl ?_
  conv => whnf
  try exact rfl
theorem inScope_fn (t : TG) (vars : List Int) (hz : szG t < 1099511627776) : FnR Tryz.prog G0 14 [dG t, dI vars] (.bool (insG t vars)) := by
  refine fnQ_of_vc txok mixed [] Tryz.func14 rfl rfl (by simp) fun b => ?_
  conv => whnf
  refine callF (rightType_fn t) gf26 rfl rfl ?_
  conv => whnf
  refine And.intro (fun h => ?_) (fun h => ?_)
  · conv => whnf
    refine congrArg D.bool ?_
    unfold insG
    rw [show (rightG t == 0) = false from by simpa using h]; rfl
  · conv => whnf
    refine callF (freeT_fn t hz) gf33 rfl rfl ?_
    conv => whnf
    refine pubC (fun i => Nat.beq i 1) ?_
    conv => whnf
    refine callF (containsP_fn 34 (.ptr [dI vars] 0) (fun n => !decide (n ∈ vars)) (freeS t) gf34 (insc_fn vars)) gf32 rfl rfl ?_
    conv => whnf
    refine congrArg D.bool ?_
    unfold insG
    rw [show (rightG t == 0) = true from by simpa using h, Bool.true_and]
theorem sameTop_fn (a u : TG) (hz : szG a < 1099511627776) : FnR Tryz.prog G0 19 [dG a, dG u] (.bool (samG a u [] [])) := by
  have h := sameType_fn a u [] [] (by simpa using hz) (by simpa using hz)
  refine fnQ_of_vc txok mixed [] Tryz.func19 rfl rfl (by simp) fun b => ?_
  conv => whnf
  refine callF h gf47 rfl rfl ?_
  conv => whnf
  try exact rfl
theorem rsameTop_fn (a u : TG) (hz : szG a < 1099511627776) : FnR Tryz.prog G0 10 [dG a, dG u] (.bool (samG a u [] [])) := by
  have h := rsame_fn a u [] [] (by simpa using hz) (by simpa using hz)
  refine fnQ_of_vc txok mixed [] Tryz.func10 rfl rfl (by simp) fun b => ?_
  conv => whnf
  refine callF h gf21 rfl rfl ?_
  conv => whnf
  try exact rfl
end Go.Proofs.YtcjkikadolnfgaaGreat


