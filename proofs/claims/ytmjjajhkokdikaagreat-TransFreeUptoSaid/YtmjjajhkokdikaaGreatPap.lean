/- Texts of mine, joined: Bh Bi Bj Dc Dd Db De Df Dg Dh Di Dj Dk Dl. -/
import Derived.Shelf.Sort.Plain
import Derived.Shelf.Slices.In.SortNone
import Derived.Shelf.Slices.CompactI
import Derived.Sort.OwnSortedInts
import Derived.Test.YtmjjajhkokdikaaGreatPao
import Derived.Test.YtmjjajhkokdikaaGreatPam
/- The shelf's slices.Sort and slices.Compact at ints, laid at this seat's program: printed by a program of mine out of Lean's print of the kit's laying command. -/
set_option linter.unusedSimpArgs false
set_option linter.unusedVariables false
namespace Go.Proofs.YtmjjajhkokdikaaGreat
open Go.Proofs Go.Shelf Go.RowKit Go.Lib Go.Sort
def sortI_ren : Ren :=
  { f := fun x => match x with | 189 => 59 | 125 => 97 | 257 => 96 | 128 => 145 | 129 => 146 | 294 => 136 | 295 => 137 | 296 => 138 | 297 => 139 | 298 => 140 | 299 => 141 | 216 => 142 | 300 => 143 | 301 => 144 | 328 => 156 | 329 => 157 | 330 => 158 | 331 => 159 | 332 => 160 | 215 => 149 | 343 => 166 | n => n,
    t := fun x => match x with | 28 => 57 | 3 => 3 | 46 => 129 | 0 => 0 | 51 => 171 | 53 => 173 | 4 => 4 | 183 => 165 | 182 => 164 | 131 => 141 | 5 => 5 | 9 => 9 | 218 => 182 | 222 => 186 | 228 => 191 | 229 => 192 | n => n,
    g := fun n => n }
theorem sortI : Lays.n189 Tryz.prog sortI_ren :=
  { mixed := rfl,
    f125 := Tryz.func97.trans (congrArg some rfl),
    f128 := Tryz.func145.trans (congrArg some rfl),
    f129 := Tryz.func146.trans (congrArg some rfl),
    f189 := Tryz.func59.trans (congrArg some rfl),
    f215 := Tryz.func149.trans (congrArg some rfl),
    f216 := Tryz.func142.trans (congrArg some rfl),
    f257 := Tryz.func96.trans (congrArg some rfl),
    f294 := Tryz.func136.trans (congrArg some rfl),
    f295 := Tryz.func137.trans (congrArg some rfl),
    f296 := Tryz.func138.trans (congrArg some rfl),
    f297 := Tryz.func139.trans (congrArg some rfl),
    f298 := Tryz.func140.trans (congrArg some rfl),
    f299 := Tryz.func141.trans (congrArg some rfl),
    f300 := Tryz.func143.trans (congrArg some rfl),
    f301 := Tryz.func144.trans (congrArg some rfl),
    f328 := Tryz.func156.trans (congrArg some rfl),
    f329 := Tryz.func157.trans (congrArg some rfl),
    f330 := Tryz.func158.trans (congrArg some rfl),
    f331 := Tryz.func159.trans (congrArg some rfl),
    f332 := Tryz.func160.trans (congrArg some rfl),
    f343 := Tryz.func166.trans (congrArg some rfl),
    t0 := Tryz.underlying0,
    a0 := Tryz.isAgg0,
    z0 := Tryz.sizeOf0,
    v0 := Tryz.zeroValue0,
    t3 := Tryz.underlying3,
    a3 := Tryz.isAgg3,
    z3 := Tryz.sizeOf3,
    v3 := Tryz.zeroValue3,
    t4 := Tryz.underlying4,
    a4 := Tryz.isAgg4,
    z4 := Tryz.sizeOf4,
    v4 := Tryz.zeroValue4,
    t5 := Tryz.underlying5,
    a5 := Tryz.isAgg5,
    z5 := Tryz.sizeOf5,
    v5 := Tryz.zeroValue5,
    t9 := Tryz.underlying9,
    a9 := Tryz.isAgg9,
    z9 := Tryz.sizeOf9,
    v9 := Tryz.zeroValue9,
    t28 := Tryz.underlying57,
    a28 := Tryz.isAgg57,
    z28 := Tryz.sizeOf57,
    v28 := Tryz.zeroValue57,
    t46 := Tryz.underlying129,
    a46 := Tryz.isAgg129,
    z46 := Tryz.sizeOf129,
    v46 := Tryz.zeroValue129,
    t51 := Tryz.underlying171,
    a51 := Tryz.isAgg171,
    z51 := Tryz.sizeOf171,
    v51 := Tryz.zeroValue171,
    t53 := Tryz.underlying173,
    a53 := Tryz.isAgg173,
    z53 := Tryz.sizeOf173,
    v53 := Tryz.zeroValue173,
    t131 := Tryz.underlying141,
    a131 := Tryz.isAgg141,
    z131 := Tryz.sizeOf141,
    v131 := Tryz.zeroValue141,
    t182 := Tryz.underlying164,
    a182 := Tryz.isAgg164,
    z182 := Tryz.sizeOf164,
    v182 := Tryz.zeroValue164,
    t183 := Tryz.underlying165,
    a183 := Tryz.isAgg165,
    z183 := Tryz.sizeOf165,
    v183 := Tryz.zeroValue165,
    t218 := Tryz.underlying182,
    a218 := Tryz.isAgg182,
    z218 := Tryz.sizeOf182,
    v218 := Tryz.zeroValue182,
    t222 := Tryz.underlying186,
    a222 := Tryz.isAgg186,
    z222 := Tryz.sizeOf186,
    v222 := Tryz.zeroValue186,
    t228 := Tryz.underlying191,
    a228 := Tryz.isAgg191,
    z228 := Tryz.sizeOf191,
    v228 := Tryz.zeroValue191,
    t229 := Tryz.underlying192,
    a229 := Tryz.isAgg192,
    z229 := Tryz.sizeOf192,
    v229 := Tryz.zeroValue192 }
def compI_ren : Ren :=
  { f := fun x => match x with | 20 => 60 | n => n,
    t := fun x => match x with | 22 => 57 | 3 => 3 | 4 => 4 | 0 => 0 | n => n,
    g := fun n => n }
theorem compI : Lays2.n20 Tryz.prog compI_ren :=
  { mixed := rfl,
    f20 := Tryz.func60.trans (congrArg some rfl),
    t0 := Tryz.underlying0,
    a0 := Tryz.isAgg0,
    z0 := Tryz.sizeOf0,
    v0 := Tryz.zeroValue0,
    t3 := Tryz.underlying3,
    a3 := Tryz.isAgg3,
    z3 := Tryz.sizeOf3,
    v3 := Tryz.zeroValue3,
    t4 := Tryz.underlying4,
    a4 := Tryz.isAgg4,
    z4 := Tryz.sizeOf4,
    v4 := Tryz.zeroValue4,
    t22 := Tryz.underlying57,
    a22 := Tryz.isAgg57,
    z22 := Tryz.sizeOf57,
    v22 := Tryz.zeroValue57,
    i3 := by kernel_rfl }
theorem putCells_len (off : Nat) (d : Array Int) (cur : Array Value) : (putCells (Value.int .i64) off d cur).size = cur.size := by simp [putCells]
theorem putCells_cut (off k : Nat) (d : Array Int) (cur : Array Value) (h : off + d.size ≤ cur.size) (hk : k ≤ d.size) : ((putCells (Value.int .i64) off d cur).toList.drop off).take k = (d.toList.take k).map (Value.int .i64) := by
  apply List.ext_getElem?
  intro j
  by_cases hj : j < k
  · rw [List.getElem?_take_of_lt hj, List.getElem?_drop, Array.getElem?_toList]
    have h1 : off + j < cur.size := by omega
    have h2 : j < d.size := by omega
    simp [putCells, h1, hj, h2]
  · rw [List.getElem?_take_eq_none (by omega), List.getElem?_eq_none (by simp; omega)]
theorem holdsI {w : World} {g o : Nat} {cur : Array Value} {e : TypeId} {l : List Int} (hg : w.heap[g]? = some (.cells cur e (0, 0))) (hc : (cur.toList.drop o).take l.length = l.map (Value.int .i64)) : Holds (Value.int .i64) w g o l.toArray := by
  intro j hj
  have hj' : j < l.length := by simpa using hj
  constructor
  · have h1 : ((cur.toList.drop o).take l.length)[j]? = (l.map (Value.int .i64))[j]? := by rw [hc]
    rw [List.getElem?_take_of_lt hj', List.getElem?_drop, Array.getElem?_toList] at h1
    simp only [World.cell?, hg]
    simp [h1, hj']
  · simp [World.frozen?, hg]
theorem heap_putI {w : World} {g n o : Nat} {os : Array Obj} {cur : Array Value} {e : TypeId} {fr : Nat × Nat} (d : Array Int) (hb : w.heap[g]? = some (.cells cur e fr)) :
    (grow (putRow (Value.int .i64) (Sort.ahead w n) g o d) os).heap[g]? = some (.cells (putCells (Value.int .i64) o d cur) e fr) := by
  have hg : g < w.heap.size := (Array.getElem?_eq_some_iff.1 hb).1
  rw [heap_grow_old _ _ (by simpa using hg)]
  simp [putRow, mapBlock, Sort.ahead, Array.getElem?_modify, hb, onCells]
theorem grownBy_putI {w : World} {g n o : Nat} {os : Array Obj} (d : Array Int) : w.grownBy (grow (putRow (Value.int .i64) (Sort.ahead w n) g o d) os) (some g) := by
  refine ⟨rfl, rfl, rfl, by simp, fun k hk hne => ?_⟩
  rw [heap_grow_old _ _ (by simpa using hk)]
  have : g ≠ k := fun e => hne (by rw [e])
  simp [putRow, mapBlock, Sort.ahead, Array.getElem?_modify, this]
theorem repI_of (S : Nat → Prop) (w : World) : ∀ l : List Int, Go.Vx.RepDs S w (Go.Vx.encI l) (l.map (.int .i64))
  | [] => by simp only [Go.Vx.encI, List.map_nil, Go.Vx.RepDs]
  | x :: r => by
    rw [show Go.Vx.encI (x :: r) = .int .i64 x :: Go.Vx.encI r from rfl, List.map_cons]
    simp only [Go.Vx.RepDs, Go.Vx.RepD]
    exact ⟨_, _, rfl, rfl, repI_of S w r⟩
/-- One own row that is handed over, and written in place. -/
theorem row_left {e : Go.Vx.Env} {w w' : World} {n m g o c : Nat} {cur cur' : Array Value} {l l' : List Int} {xs : List Go.Vx.D} (hlen : e.m.length = 1) (hm : e.m[0]? = some (.slice (some ⟨g, o, none⟩) n c)) (hH : Go.Vx.HpOk e w [(0, .row 3 8 1 n xs)])
    (hg : w.heap[g]? = some (.cells cur 3 (0, 0))) (hgr : w.grownBy w' (some g)) (hg' : w'.heap[g]? = some (.cells cur' 3 (0, 0))) (hsz : cur'.size = cur.size) (hm' : l'.length = m) (hcap : m ≤ c) (hmax : c ≤ maxLen) (hcs : o + c * 1 ≤ cur.size) (hcut : (cur'.toList.drop o).take m = l'.map (.int .i64)) (hlim : m * 8 ≤ Go.Vx.LB) :
    Go.Vx.Left G0 0 e w [(0, .row 3 8 1 n xs)] ⟨[.slice (some ⟨g, o, none⟩) m c], e.pub⟩ w' [(0, .row 3 8 1 m (Go.Vx.encI l'))] := by
  have h0 : ∀ i, Go.Vx.has [(0, Go.Vx.Ob.row 3 8 1 m (Go.Vx.encI l'))] i → i = 0 := by
    intro i hi
    unfold Go.Vx.has at hi
    simp only [Go.Vc.lk] at hi
    split at hi
    · rename_i e1; exact (Go.Vc.nbeq.1 e1).symm
    · cases hi
  have hf : Go.Vx.foot e 0 g := ⟨_, hm, by rfl⟩
  have hft : ∀ k, Go.Vx.foot ⟨[.slice (some ⟨g, o, none⟩) m c], e.pub⟩ 0 k → k = g := by
    rintro k ⟨v, h1, h2⟩
    have h1 : some (Value.slice (some ⟨g, o, none⟩) m c) = some v := h1
    injection h1 with h1; subst h1
    have h2 : some g = some k := h2
    injection h2 with h2; exact h2.symm
  have hpub : ¬ e.pub g := fun hp => hH.npub 0 g (by rfl) hf hp
  refine ⟨⟨fun i ob ho => ?_, fun i j k hi hj hne _ _ => absurd ((h0 i hi).trans (h0 j hj).symm) hne, fun i k hi hk hp => ?_, fun k hk => Nat.lt_of_lt_of_le (hH.pubLt k hk) hgr.size⟩, by simp [hlen], ?_, trivial, fun i v hv hns => ?_, fun k hk => hk, fun k hk => .inl hk, fun i hi => ?_, fun i k hi hk => ?_⟩
  · obtain rfl := h0 i (by simp [Go.Vx.has, ho])
    simp only [Go.Vc.lk, Nat.beq_refl] at ho
    injection ho with ho; subst ho
    exact ⟨some ⟨g, o, none⟩, c, l'.map (.int .i64), rfl, ⟨m, by simp [hm'], .inr ⟨g, o, c, cur', rfl, hg', hcap, hmax, by rw [hsz]; exact hcs, by rw [Nat.mul_one]; exact hcut⟩⟩, repI_of _ _ l', hlim⟩
  · obtain rfl := h0 i hi
    rw [hft k hk] at hp
    exact hpub hp
  · exact ⟨hgr.os, hgr.tape, hgr.output, hgr.size, fun k hk hn => hgr.block k hk (fun e1 => by injection e1 with e1; subst e1; exact hn ⟨0, by rfl, hf⟩)⟩
  · rcases Nat.eq_zero_or_pos i with rfl | hi
    · rw [hm] at hv; injection hv with hv; exact absurd hv.symm (hns _ _ _)
    · have := (List.getElem?_eq_some_iff.1 hv).1; omega
  · obtain rfl := h0 i hi; simp [hlen]
  · obtain rfl := h0 i hi
    rw [hft k hk]
    exact .inl ⟨0, by rfl, hf⟩
def srtI (l : List Int) : List Int := l.mergeSort fun x y => decide (x ≤ y)
theorem sort_tri (l : List Int) (hl : l.length * 8 ≤ Go.Vx.LB) : Go.Vx.Tri Tryz.prog G0 59 1 0 [.row 0] [(0, .row 3 8 1 l.length (Go.Vx.encI l))] (fun o H' => o = .ret (.tup []) ∧ H' = [(0, .row 3 8 1 l.length (Go.Vx.encI (srtI l)))]) := by
  intro e w vs hlen hargs hH hG
  simp only [Go.Vx.RepSVs, Go.Vx.RepSV] at hargs
  obtain ⟨v, s, rfl, ⟨A, n, c, rfl, hm⟩, rfl⟩ := hargs
  obtain ⟨A', c', xs, hm', hrow, hxs, hlb⟩ := hH.ob 0 _ rfl
  rw [hm] at hm'; injection hm' with hm'; injection hm' with e1 e2 e3
  subst e1; subst e2; subst e3
  have hx := repI_flat hxs
  have hsl : (srtI l).length = l.length := by unfold srtI; simp
  obtain ⟨n', hn, ⟨hv, hz⟩ | ⟨g, o, cap, cur, hv, hg, hc1, hc2, hsz, htk⟩⟩ := hrow
  · simp only at hv hn
    injection hv with h1 h2 h3
    subst h1; subst h3
    have hl0 : l = [] := List.eq_nil_of_length_eq_zero h2
    subst hl0
    refine (Any.slices_Sort_int_none sortI none 0 w).mono ?_
    rintro en w' ⟨rfl, rfl⟩
    refine ⟨.ret (.tup []), _, e, ⟨rfl, rfl⟩, ⟨_, rfl, by simp only [Go.Vx.RepSV, Go.Vx.RepSVs]; exact ⟨_, rfl, rfl⟩⟩, ?_⟩
    exact ⟨by simpa [srtI] using hH, rfl, Go.Vc.Only.refl _ _, trivial, fun _ _ h _ => h, fun _ h => h, fun _ h => .inl h, fun i hi => by
      have : i = 0 := by
        unfold Go.Vx.has at hi
        simp only [Go.Vc.lk] at hi
        split at hi
        · rename_i e1; exact (Go.Vc.nbeq.1 e1).symm
        · cases hi
      omega, fun i k hi hk => .inl ⟨0, by rfl, by
        have : i = 0 := by
          unfold Go.Vx.has at hi
          simp only [Go.Vc.lk] at hi
          split at hi
          · rename_i e1; exact (Go.Vc.nbeq.1 e1).symm
          · cases hi
        subst this; exact hk⟩⟩
  · simp only at hv hg htk hn hsz
    injection hv with h1 h2 h3
    subst h1; subst h3
    have hnl : n' = l.length := h2.symm
    subst hnl
    rw [Nat.mul_one, hx] at htk
    have hlt := (Array.getElem?_eq_some_iff.1 hg).1
    have hl' := hl
    simp only [Go.Vx.LB] at hl'
    refine (Any.slices_Sort_int sortI g o c l w (holdsI hg htk) hlt (by omega)).mono ?_
    rintro en w' ⟨rfl, q, os, rfl⟩
    refine ⟨.ret (.tup []), _, _, ⟨rfl, rfl⟩, ⟨_, rfl, by simp only [Go.Vx.RepSV, Go.Vx.RepSVs]; exact ⟨_, rfl, rfl⟩⟩, row_left (l := l) hlen hm hH hg (grownBy_putI _) (heap_putI _ hg) (putCells_len _ _ _) hsl hc1 hc2 hsz ?_ hl⟩
    have := putCells_cut o l.length (srtI l).toArray cur (by simp [hsl]; omega) (by simp [hsl])
    rw [List.toList_toArray, ← hsl, List.take_length] at this
    rw [← hsl]
    exact this
/-- The same, while an own block keeps the slice. -/
theorem sort_tri2 (l : List Int) (hl : l.length * 8 ≤ Go.Vx.LB) : Go.Vx.Tri Tryz.prog G0 59 2 0 [.row 1] [(0, .blk 89 [.row 1, .nl]), (1, .row 3 8 1 l.length (Go.Vx.encI l))] (fun o H' => o = .ret (.tup []) ∧ H' = [(0, .blk 89 [.row 1, .nl]), (1, .row 3 8 1 l.length (Go.Vx.encI (srtI l)))]) := by
  intro e w vs hlen hargs hH hG
  simp only [Go.Vx.RepSVs, Go.Vx.RepSV] at hargs
  obtain ⟨v, s, rfl, ⟨A, n, c, rfl, hm⟩, rfl⟩ := hargs
  obtain ⟨A', c', xs, hm', hrow, hxs, hlb⟩ := hH.ob 1 _ rfl
  obtain ⟨g0, vs0, hm0, hg0, hvs0⟩ := hH.ob 0 _ rfl
  rw [hm] at hm'; injection hm' with hm'; injection hm' with e1 e2 e3
  subst e1; subst e2; subst e3
  have hx := repI_flat hxs
  have hsl : (srtI l).length = l.length := by unfold srtI; simp
  have hasE : ∀ {i : Nat} {ob : Go.Vx.Ob}, Go.Vx.has [(0, .blk 89 [.row 1, .nl]), (1, ob)] i → i = 0 ∨ i = 1 := by
    intro i ob hi
    unfold Go.Vx.has at hi
    simp only [Go.Vc.lk] at hi
    split at hi
    · rename_i e1; exact .inl (Go.Vc.nbeq.1 e1).symm
    · split at hi
      · rename_i e1; exact .inr (Go.Vc.nbeq.1 e1).symm
      · cases hi
  have hasI : ∀ {i : Nat} {ob ob' : Go.Vx.Ob}, Go.Vx.has [(0, .blk 89 [.row 1, .nl]), (1, ob)] i → Go.Vx.has [(0, .blk 89 [.row 1, .nl]), (1, ob')] i := by
    intro i ob ob' hi
    rcases hasE hi with rfl | rfl <;> rfl
  obtain ⟨n', hn, ⟨hv, hz⟩ | ⟨g, o, cap, cur, hv, hg, hc1, hc2, hsz, htk⟩⟩ := hrow
  · simp only at hv hn
    injection hv with h1 h2 h3
    subst h1; subst h3
    have hl0 : l = [] := List.eq_nil_of_length_eq_zero h2
    subst hl0
    refine (Any.slices_Sort_int_none sortI none 0 w).mono ?_
    rintro en w' ⟨rfl, rfl⟩
    refine ⟨.ret (.tup []), _, e, ⟨rfl, rfl⟩, ⟨_, rfl, by simp only [Go.Vx.RepSV, Go.Vx.RepSVs]; exact ⟨_, rfl, rfl⟩⟩, ?_⟩
    exact ⟨by simpa [srtI] using hH, rfl, Go.Vc.Only.refl _ _, trivial, fun _ _ h _ => h, fun _ h => h, fun _ h => .inl h, fun i hi => by
      rcases hasE hi with rfl | rfl <;> omega, fun i k hi hk => .inl ⟨i, hasI hi, hk⟩⟩
  · simp only at hv hg htk hn hsz
    injection hv with h1 h2 h3
    subst h1; subst h3
    have hnl : n' = l.length := h2.symm
    subst hnl
    rw [Nat.mul_one, hx] at htk
    have hlt := (Array.getElem?_eq_some_iff.1 hg).1
    have hl' := hl
    simp only [Go.Vx.LB] at hl'
    have hf1 : Go.Vx.foot e 1 g := ⟨_, hm, rfl⟩
    have hf0 : Go.Vx.foot e 0 g0 := ⟨_, hm0, rfl⟩
    have hne : g0 ≠ g := fun h => hH.sep 0 1 g0 rfl rfl (by decide) hf0 (h ▸ hf1)
    have hlt0 := (Array.getElem?_eq_some_iff.1 hg0).1
    refine (Any.slices_Sort_int sortI g o c l w (holdsI hg htk) hlt (by omega)).mono ?_
    rintro en w' ⟨rfl, q, os, rfl⟩
    have hgr : w.grownBy (grow (putRow (Value.int .i64) (Sort.ahead w q) g o (srtI l).toArray) os) (some g) := grownBy_putI _
    have hcut := putCells_cut o l.length (srtI l).toArray cur (by simp [hsl]; omega) (by simp [hsl])
    rw [List.toList_toArray, ← hsl, List.take_length] at hcut
    refine ⟨.ret (.tup []), _, e, ⟨rfl, rfl⟩, ⟨_, rfl, by simp only [Go.Vx.RepSV, Go.Vx.RepSVs]; exact ⟨_, rfl, rfl⟩⟩, ?_⟩
    refine ⟨⟨fun i ob ho => ?_, fun i j k hi hj => hH.sep i j k (hasI hi) (hasI hj), fun i k hi => hH.npub i k (hasI hi), fun k hk => Nat.lt_of_lt_of_le (hH.pubLt k hk) hgr.size⟩, rfl, ?_, trivial, fun _ _ h _ => h, fun _ h => h, fun _ h => .inl h, fun i hi => ?_, fun i k hi hk => .inl ⟨i, hasI hi, hk⟩⟩
    · rcases hasE (i := i) (by unfold Go.Vx.has; rw [ho]; rfl) with rfl | rfl
      · simp only [Go.Vc.lk, Nat.beq_refl] at ho
        injection ho with ho; subst ho
        exact ⟨g0, vs0, hm0, (hgr.block g0 hlt0 (fun e1 => by injection e1 with e1; exact hne e1)).trans hg0, by simpa only [Go.Vx.RepSVs, Go.Vx.RepSV] using hvs0⟩
      · have ho : some (Go.Vx.Ob.row 3 8 1 l.length (Go.Vx.encI (srtI l))) = some ob := ho
        injection ho with ho; subst ho
        refine ⟨some ⟨g, o, none⟩, c, (srtI l).map (.int .i64), hm, ⟨l.length, by simp [hsl], .inr ⟨g, o, c, _, rfl, heap_putI _ hg, hc1, hc2, by rw [putCells_len]; exact hsz, ?_⟩⟩, repI_of _ _ _, hl⟩
        rw [Nat.mul_one, ← hsl]
        exact hcut
    · exact ⟨hgr.os, hgr.tape, hgr.output, hgr.size, fun k hk hn => hgr.block k hk (fun e1 => by injection e1 with e1; subst e1; exact hn ⟨1, rfl, hf1⟩)⟩
    · rcases hasE hi with rfl | rfl <;> omega
theorem comp_tri (l : List Int) (hl : l.length * 8 ≤ Go.Vx.LB) : Go.Vx.Tri Tryz.prog G0 60 1 0 [.row 0] [(0, .row 3 8 1 l.length (Go.Vx.encI l))] (fun o H' => o = .ret (.row 0) ∧ H' = [(0, .row 3 8 1 (Lib.compact l).length (Go.Vx.encI (Lib.compact l)))]) := by
  intro e w vs hlen hargs hH hG
  simp only [Go.Vx.RepSVs, Go.Vx.RepSV] at hargs
  obtain ⟨v, s, rfl, ⟨A, n, c, rfl, hm⟩, rfl⟩ := hargs
  obtain ⟨A', c', xs, hm', hrow, hxs, hlb⟩ := hH.ob 0 _ rfl
  rw [hm] at hm'; injection hm' with hm'; injection hm' with e1 e2 e3
  subst e1; subst e2; subst e3
  have hx := repI_flat hxs
  have hcl : (Lib.compact l).length ≤ l.length := by
    unfold Lib.compact Lib.compactUpTo
    rw [List.length_map]
    exact Nat.le_trans (List.length_filter_le _ _) (by simp)
  obtain ⟨n', hn, ⟨hv, hz⟩ | ⟨g, o, cap, cur, hv, hg, hc1, hc2, hsz, htk⟩⟩ := hrow
  · simp only at hv hn
    injection hv with h1 h2 h3
    subst h1; subst h3
    have hl0 : l = [] := List.eq_nil_of_length_eq_zero h2
    subst hl0
    refine (Any.slices_Compact_int_empty compI none 0 w).mono ?_
    rintro en w' ⟨rfl, rfl⟩
    refine ⟨.ret (.row 0), _, e, ⟨rfl, rfl⟩, ⟨_, rfl, by simp only [Go.Vx.RepSV]; exact ⟨_, _, _, rfl, hm⟩⟩, ?_⟩
    exact ⟨hH, rfl, Go.Vc.Only.refl _ _, trivial, fun _ _ h _ => h, fun _ h => h, fun _ h => .inl h, fun i hi => by
      have : i = 0 := by
        unfold Go.Vx.has at hi
        simp only [Go.Vc.lk] at hi
        split at hi
        · rename_i e1; exact (Go.Vc.nbeq.1 e1).symm
        · cases hi
      omega, fun i k hi hk => .inl ⟨0, by rfl, by
        have : i = 0 := by
          unfold Go.Vx.has at hi
          simp only [Go.Vc.lk] at hi
          split at hi
          · rename_i e1; exact (Go.Vc.nbeq.1 e1).symm
          · cases hi
        subst this; exact hk⟩⟩
  · simp only at hv hg htk hn hsz
    injection hv with h1 h2 h3
    subst h1; subst h3
    have hnl : n' = l.length := h2.symm
    subst hnl
    rw [Nat.mul_one, hx] at htk
    have hlt := (Array.getElem?_eq_some_iff.1 hg).1
    have hl' := hl
    simp only [Go.Vx.LB] at hl'
    refine (Any.slices_Compact_int compI g o c l w (holdsI hg htk) (by omega) hc1).mono ?_
    rintro en w' ⟨rfl, q, rfl⟩
    have hgrow : ∀ d : Array Int, putRow (Value.int .i64) (Sort.ahead w q) g o d = grow (putRow (Value.int .i64) (Sort.ahead w q) g o d) #[] := fun d => by unfold grow; rw [Array.append_empty]
    rw [hgrow]
    refine ⟨.ret (.row 0), _, _, ⟨rfl, rfl⟩, ⟨_, rfl, by simp only [Go.Vx.RepSV]; exact ⟨_, _, _, rfl, rfl⟩⟩, row_left (l := l) hlen hm hH hg (grownBy_putI _) (heap_putI _ hg) (putCells_len _ _ _) rfl (Nat.le_trans hcl hc1) hc2 hsz ?_ (Nat.le_trans (Nat.mul_le_mul_right _ hcl) hl)⟩
    have := putCells_cut o (Lib.compact l).length (Lib.compact l ++ List.replicate (l.length - (Lib.compact l).length) 0).toArray cur (by simp; omega) (by simp)
    rw [this]
    simp
end Go.Proofs.YtmjjajhkokdikaaGreat

/- FreeTypes. -/
namespace Go.Proofs.YtmjjajhkokdikaaGreat
open Go.Vx Go.Vc Go.RowKit

/-- The free numbers, sorted, each once. -/
def freeS (t : TG) : List Int := Go.Lib.compact (srtI (frG t []))
theorem freeS_len (t : TG) : (freeS t).length ≤ szG t := by
  unfold freeS
  have h1 : (Go.Lib.compact (srtI (frG t []))).length ≤ (srtI (frG t [])).length := by
    unfold Go.Lib.compact Go.Lib.compactUpTo
    rw [List.length_map]
    exact Nat.le_trans (List.length_filter_le _ _) (by simp)
  have h2 : (srtI (frG t [])).length = (frG t []).length := by unfold srtI; simp
  have h3 := frG_len t []
  omega
/-- What a temporary holds, said otherwise. -/
theorem weak_T {N n0 : Nat} {b : Bs G0 n0} {T : Vx.Tl} {H : Hp} {n : Nat} (t : Nat) (y : Vx.SV) {x : Vx.SV} (ht : lk T t = some x) (hl : lowB n y = true) (hxy : ∀ (e : Env) (w : World) (v : Value), RepSV e w x v → RepSV e w y v) : Weak b N ⟨T, H, n⟩ ⟨(t, y) :: T, H, n⟩ := by
  intro e a w h
  refine ⟨e, fun _ h => h, h.sz, h.df, h.len, fun t' z hx => ?_, h.hp, h.below, h.dr, h.mine, h.frm, h.pre, h.gl⟩
  simp only [lk] at hx
  split at hx
  · rename_i e'
    obtain rfl := nbeq.1 e'
    injection hx with hx; subst hx
    exact hxy _ _ _ (h.tm _ _ ht)
  · exact h.tm _ _ hx
theorem nl_dI (e : Env) (w : World) (v : Value) (h : RepSV e w .nl v) : RepSV e w (.d (dI [])) v := by
  simp only [RepSV] at h ⊢
  subst h
  unfold dI slD ebn
  simp only [RepD, Vx.encI, List.length_nil]
  exact ⟨none, 0, rfl, Nat.le_refl _, by simp, fun h => absurd rfl h, by simp [RepC]⟩
theorem wtyp_nl (t : TG) (h1 : ([] : List Int).length + szG t < 1099511627776) (h2 : ([] : List Int).length + szG t < 8796093022208) : Tri Tryz.prog G0 58 2 0 [.own 0 0, .d (dG t), .nl] (wkr .nl []) (wkrPost .nl ([] ++ frG t [])) := by
  intro e w vs hlen hargs hH hG
  refine wtyp_tri t [] [] h1 h2 e w vs hlen ?_ hH hG
  simp only [RepSVs] at hargs ⊢
  obtain ⟨v, s, rfl, a1, v2, s2, rfl, a2, v3, s3, rfl, a3, rfl⟩ := hargs
  exact ⟨v, _, rfl, a1, v2, _, rfl, a2, v3, _, rfl, nl_dI _ _ _ a3, rfl⟩
theorem freeT_fn (t : TG) (h : szG t < 1099511627776) : FnR Tryz.prog G0 23 [dG t] (dI (freeS t)) := by
  have hl := frG_len t []
  have h2 : (srtI (frG t [])).length = (frG t []).length := by unfold srtI; simp
  refine fnQ_of_vc txok mixed [] Tryz.func23 rfl rfl (by simp) fun b => ?_
  conv => whnf
  refine weakC _ (weak_nlC 1 0 3 8 1 rfl rfl) ?_
  refine callT [1, 2] (wtyp_nl t (by simpa using h) (by simp; omega)) gf58 rfl rfl ⟨rfl, rfl, trivial⟩ rfl ?_
  rintro o' H' ⟨rfl, rfl⟩
  conv => whnf
  rw [List.nil_append]
  refine callT [1, 2] (sort_tri2 (frG t []) (by simp only [LB]; omega)) gf59 rfl rfl ⟨rfl, rfl, trivial⟩ rfl ?_
  rintro o' H' ⟨rfl, rfl⟩
  conv => whnf
  rw [← h2]
  refine callT [2] (comp_tri (srtI (frG t [])) (by simp only [LB]; omega)) gf60 rfl rfl ⟨rfl, trivial⟩ rfl ?_
  rintro o' H' ⟨rfl, rfl⟩
  conv => whnf
  try exact rfl
end Go.Proofs.YtmjjajhkokdikaaGreat

/- put, renamed, Put. -/
set_option linter.unusedSimpArgs false
set_option linter.unusedVariables false
namespace Go.Proofs.YtmjjajhkokdikaaGreat
open Go.Vx Go.Vc Go.RowKit

/-- A list whose first ones are changed. -/
def mixF (g : TG → TG) (l : List TG) (i : Nat) : List TG := (l.take i).map g ++ l.drop i
theorem mixF_len (g : TG → TG) (l : List TG) (i : Nat) : (mixF g l i).length = l.length := by
  simp [mixF]; omega
theorem mixF_get {g : TG → TG} {l : List TG} {i : Nat} (h : i < l.length) (h' : i < (mixF g l i).length) : (mixF g l i)[i] = l[i] := by
  simp only [mixF]
  rw [List.getElem_append_right (by simp; omega)]
  simp [Nat.min_eq_left (Nat.le_of_lt h)]
theorem mixF_set {g : TG → TG} {l : List TG} {i : Nat} (h : i < l.length) : (mixF g l i).set i (g l[i]) = mixF g l (i + 1) := by
  simp only [mixF]
  rw [List.set_append_right _ _ (by simp; omega)]
  simp only [List.length_map, List.length_take, Nat.min_eq_left (Nat.le_of_lt h), Nat.sub_self]
  rw [List.drop_eq_getElem_cons h, List.set_cons_zero, List.take_succ_eq_append_getElem h, List.map_append, List.append_assoc]
  rfl
theorem mixF_zero (g : TG → TG) (l : List TG) : mixF g l 0 = l := by simp [mixF]
theorem mixF_all (g : TG → TG) (l : List TG) : mixF g l l.length = l.map g := by simp [mixF]
theorem encGs_set (l : List TG) (i : Nat) (hi : i < l.length) (x : TG) : ovl (encGs l) (i * 4) (encG x) = encGs (l.set i x) := by
  rw [encGs_eq, encGs_eq]; exact fl_set encG_len l i hi x

def varG (n : Int) : TG := .mk 6 n [] []
def ownS (l : List TG) : List Int := l.flatMap freeS
theorem ownS_take {l : List TG} {i : Nat} (h : i < l.length) : ownS (l.take (i + 1)) = ownS (l.take i) ++ freeS l[i] := by
  unfold ownS
  rw [List.take_succ_eq_append_getElem h, List.flatMap_append]; simp
theorem ownS_len : ∀ l : List TG, (ownS l).length ≤ szGs l
  | [] => by simp [ownS, szGs]
  | t :: r => by
    have h1 := freeS_len t
    have h2 := ownS_len r
    unfold ownS at h2 ⊢
    rw [List.flatMap_cons, List.length_append, szGs]; omega
def freshN (fr : List Int) (l : List TG) (x n : Int) : Int := (mex [fr, ownS l, [x, n]].flatten : Nat)
/-- A type put for a number: so many levels deep. -/
def putF : Nat → TG → Int → TG → List Int → TG
  | 0, t, _, _, _ => t
  | f + 1, t, x, y, fr =>
    if t.k = 6 ∧ t.n = x then y
    else if bndG t.k = true ∧ t.n = x then t
    else if bndG t.k = true ∧ t.n ∈ fr ∧ 0 < t.kids.length then
      .mk t.k (freshN fr t.kids x t.n) t.ls ((t.kids.map fun u => putF f u t.n (varG (freshN fr t.kids x t.n)) [freshN fr t.kids x t.n]).map fun u => putF f u x y fr)
    else .mk t.k t.n t.ls (t.kids.map fun u => putF f u x y fr)
def renF (f : Nat) (t : TG) (x : Int) (fr : List Int) : TG := .mk t.k (freshN fr t.kids x t.n) t.ls (t.kids.map fun u => putF f u t.n (varG (freshN fr t.kids x t.n)) [freshN fr t.kids x t.n])
theorem szGs_map {g : TG → TG} : ∀ {l : List TG}, (∀ t ∈ l, szG (g t) = szG t) → szGs (l.map g) = szGs l
  | [], _ => rfl
  | t :: r, h => by
    rw [List.map_cons, szGs, szGs, h t (by simp), szGs_map fun u hu => h u (by simp [hu])]
theorem szG_eq (t : TG) : szG t = szGs t.kids + 1 := by cases t; simp only [szG, g_kids]
theorem szGs_map_le {g : TG → TG} : ∀ {l : List TG}, (∀ t ∈ l, szG (g t) ≤ szG t) → szGs (l.map g) ≤ szGs l
  | [], _ => Nat.le_refl _
  | t :: r, h => by
    rw [List.map_cons, szGs, szGs]
    exact Nat.add_le_add (h t (by simp)) (szGs_map_le fun u hu => h u (by simp [hu]))
theorem sz_put : ∀ (f : Nat) (t : TG) (x : Int) (y : TG) (fr : List Int), szG y = 1 → szG (putF f t x y fr) ≤ szG t
  | 0, _, _, _, _, _ => Nat.le_refl _
  | f + 1, t, x, y, fr, hy => by
    unfold putF
    have hv : ∀ n, szG (varG n) = 1 := fun n => by simp [varG, szG, szGs]
    have ht := szG_eq t
    repeat' split
    · omega
    · exact Nat.le_refl _
    · rw [szG, ht]
      exact Nat.succ_le_succ (Nat.le_trans (szGs_map_le fun u _ => sz_put f u x y fr hy) (szGs_map_le fun u _ => sz_put f u _ _ _ (hv _)))
    · rw [szG, ht]
      exact Nat.succ_le_succ (szGs_map_le fun u _ => sz_put f u x y fr hy)
theorem freeS_var (n : Int) : freeS (varG n) = [n] := by
  unfold freeS varG
  have h : frG (.mk 6 n [] []) [] = [n] := by
    rw [frG_mk, if_pos ⟨rfl, by show (-1 : Int) < 0; decide⟩]; rfl
  rw [h]
  unfold srtI
  rw [List.mergeSort_singleton]
  rfl
def PutOk (f : Nat) : Prop := ∀ t, szG t ≤ f → ∀ x y fr, FnR Tryz.prog G0 71 [dG t, .int .i64 x, dG y, dI fr] (dG (putF f t x y fr))
theorem putT_fn {f : Nat} (hp : PutOk f) (t : TG) (ht : szG t ≤ f) (x : Int) (y : TG) (hy : szG y < 1099511627776) : FnR Tryz.prog G0 31 [dG t, .int .i64 x, dG y] (dG (putF f t x y (freeS y))) := by
  refine fnQ_of_vc txok mixed [(1, .take 0 (.pure 1 (.take 2 (.take 3 (.run 4 (.fin 5 (.fin 6 .done)))))))] Tryz.func31 rfl rfl (by simp) fun b => ?_
  conv => whnf
  refine And.intro (by kernel_rfl) ?_
  conv => whnf
  refine callF (freeT_fn y hy) gf23 rfl rfl ?_
  conv => whnf
  refine callF (hp t ht x y (freeS y)) gf71 rfl rfl ?_
  conv => whnf
  rfl
theorem ren_fn {f : Nat} (hp : PutOk f) (t : TG) (ht : szGs t.kids ≤ f) (hz : szGs t.kids < 1099511627776) (x : Int) (fr : List Int) : FnR Tryz.prog G0 113 [dG t, .int .i64 x, dI fr] (dG (renF f t x fr)) := by
  obtain ⟨k, n, ls, ks⟩ := t
  simp only [g_kids] at ht hz
  refine fnQ_sz fun hs => ?_
  have hl := (szOk_G (t := .mk k n ls ks) hs.1).1
  have hfr := (szOk_sl hs.2.2.1).1
  simp only [g_kids, LB] at hl hfr
  refine fnQ_of_vc txok mixed [(12, .pure 0 (.take 1 (.pure 2 (.take 3 (.pure 4 (.take 5 (.pure 6 (.pure 7 (.run 8 (.pure 9 (.fin 10 .done)))))))))))] Tryz.func113 rfl rfl (by simp) fun b => ?_
  conv => whnf
  simp only [g_kids]
  have hown : ∀ i, (ownS (ks.take i)).length < 1099511627776 := fun i => by
    have := ownS_len (ks.take i)
    have := szGs_le ks i
    omega
  refine loopH (fun i : Nat => i ≤ ks.length) (fun i => ks.length - i) (fun i => [(16, .d (.int .i64 i)), (7, .row 2)]) (fun i => [(0, .blk 30 [.d (.int .i64 k), .d (.int .i64 n), .d (dL ls), .d (dGs ks)]), (1, .blk 30 [.d (.int .i64 0), .d (.int .i64 0), .nl, .nl]), (2, .row 3 8 1 (ownS (ks.take i)).length (Vx.encI (ownS (ks.take i))))]) 3 0 (by omega) ((weak_nlT 7 3 8 1 rfl).trans (weak_of rfl (by repeat ((conv => whnf); first | exact trivial | refine And.intro rfl ?_ | refine And.intro (incD (by omega)) ?_)) (by repeat ((conv => whnf); first | exact trivial | refine And.intro rfl ?_ | refine And.intro (incD (by omega)) ?_)))) ?_
  intro i hi
  conv => whnf
  refine And.intro (fun hb => ?_) (fun hb => ?_)
  · have hb := of_decide_eq_true hb
    have hil : i < ks.length := by omega
    conv => whnf
    refine IdxC.encGs i hil rfl ?_
    conv => whnf
    have hzi : szG ks[i] < 1099511627776 := by have := szG_mem (List.getElem_mem hil); omega
    refine callF (freeT_fn ks[i] hzi) gf23 rfl rfl ?_
    conv => whnf
    have ho := hown (i + 1)
    rw [ownS_take hil] at ho
    refine appR (i := 2) (sz := 1) (n := (ownS (ks.take i)).length) (m := (freeS ks[i]).length) (xs := Vx.encI (ownS (ks.take i))) (ys := Vx.encI (freeS ks[i])) txok (fun _ => false) (ownS (ks.take (i + 1))).length (Vx.encI (ownS (ks.take (i + 1)))) (by exact rfl) (by exact rfl) (by exact rfl) (by kernel_rfl) (by rw [encI_len, Nat.mul_one]) (encI_scal _) (by rw [ownS_take hil, List.length_append]) (by rw [ownS_take hil]; simp [Vx.encI]) (by rw [ownS_take hil]; simp only [LB]; omega) ?_
    conv => whnf
    exact again (i + 1) (by omega) (by omega) (weak_of rfl (by repeat ((conv => whnf); first | exact trivial | refine And.intro rfl ?_ | refine And.intro (incD (by omega)) ?_)) (by repeat ((conv => whnf); first | exact trivial | refine And.intro rfl ?_ | refine And.intro (incD (by omega)) ?_)))
  · have hb := of_decide_eq_false hb
    have hi : i = ks.length := by omega
    subst hi
    rw [List.take_length]
    conv => whnf
    refine pubC (fun i => Nat.ble 2 i) ?_
    refine effC txok ?_
    conv => whnf
    refine callV (fresh_fn [fr, ownS ks, [x, n]] (by have := hown ks.length; rw [List.take_length] at this; simp; omega)) gf151 rfl rfl rfl rfl ?_
    conv => whnf
    refine callT [] (clone_tri ks) gf114 rfl rfl trivial rfl ?_
    rintro o' H' ⟨rfl, rfl⟩
    conv => whnf
    generalize hm : mex [fr, ownS ks, [x, n]].flatten = m
    have hput : ∀ u ∈ ks, FnR Tryz.prog G0 31 [dG u, .int .i64 n, dG (varG (m : Nat))] (dG (putF f u n (varG (m : Nat)) [(m : Int)])) := fun u hu => by
      have h1 := putT_fn hp u (by have := szG_mem hu; omega) n (varG (m : Nat)) (by simp [varG, szG, szGs])
      rwa [freeS_var] at h1
    have hgo : renF f (.mk k n ls ks) x fr = .mk k (m : Nat) ls (ks.map fun u => putF f u n (varG (m : Nat)) [(m : Int)]) := by
      subst hm; rfl
    rw [hgo]
    generalize hg : (fun u => putF f u n (varG (m : Nat)) [(m : Int)]) = g
    have hput : ∀ u ∈ ks, FnR Tryz.prog G0 31 [dG u, .int .i64 n, dG (varG (m : Nat))] (dG (g u)) := fun u hu => by
      subst hg; exact hput u hu
    refine loopH (fun i : Nat => i ≤ ks.length) (fun i => ks.length - i) (fun i => [(40, .d (.int .i64 i))]) (fun i => [(0, .blk 30 [.d (.int .i64 k), .d (.int .i64 n), .d (dL ls), .row 5]), (1, .blk 30 [.d (.int .i64 0), .d (.int .i64 0), .nl, .nl]), (5, .row 30 64 4 ks.length (encGs (mixF g ks i)))]) 6 0 (by omega) ?_ ?_
    · rw [mixF_zero]
      exact weak_of rfl (by repeat ((conv => whnf); first | exact trivial | refine And.intro rfl ?_ | refine And.intro (incD (by omega)) ?_)) (by repeat ((conv => whnf); first | exact trivial | refine And.intro rfl ?_ | refine And.intro (incD (by omega)) ?_))
    intro i hi
    conv => whnf
    refine And.intro (fun hb => ?_) (fun hb => ?_)
    · have hb := of_decide_eq_true hb
      have hil : i < ks.length := by omega
      have hml := mixF_len g ks i
      conv => whnf
      refine ⟨i, rfl, hil, ?_⟩
      conv => whnf
      refine ⟨encG ks[i], by rw [← mixF_get (g := g) hil (by omega)]; exact encGs_at _ i (by omega), rfl, ?_⟩
      conv => whnf
      refine And.intro (by kernel_rfl) ?_
      conv => whnf
      refine callF (hput ks[i] (by simp)) gf31 rfl rfl ?_
      conv => whnf
      refine ⟨i, rfl, hil, ?_⟩
      conv => whnf
      refine ⟨encGs (mixF g ks (i + 1)), ?_, ?_, ?_⟩
      · show i * 4 + 4 ≤ (encGs (mixF g ks i)).length
        rw [encGs_len, hml]; omega
      · rw [← mixF_set hil]; exact encGs_set _ i (by omega) _
      conv => whnf
      exact again (i + 1) (by omega) (by omega) (weak_of rfl (by repeat ((conv => whnf); first | exact trivial | refine And.intro rfl ?_ | refine And.intro (incD (by omega)) ?_)) (by repeat ((conv => whnf); first | exact trivial | refine And.intro rfl ?_ | refine And.intro (incD (by omega)) ?_)))
    · have hb := of_decide_eq_false hb
      have hi : i = ks.length := by omega
      subst hi
      rw [mixF_all]
      conv => whnf
      simp only [dG, encG, g_k, g_n, g_ls, g_kids, List.length_map]
end Go.Proofs.YtmjjajhkokdikaaGreat

/- put, Put. -/
set_option linter.unusedSimpArgs false
set_option linter.unusedVariables false
namespace Go.Proofs.YtmjjajhkokdikaaGreat
open Go.Vx Go.Vc Go.RowKit

theorem putF_mk (f : Nat) (k n : Int) (ls : List ByteArray) (l : List TG) (x : Int) (y : TG) (fr : List Int) : putF (f + 1) (.mk k n ls l) x y fr =
    if k = 6 ∧ n = x then y
    else if bndG k = true ∧ n = x then .mk k n ls l
    else if bndG k = true ∧ n ∈ fr ∧ 0 < l.length then
      .mk k (freshN fr l x n) ls ((l.map fun u => putF f u n (varG (freshN fr l x n)) [freshN fr l x n]).map fun u => putF f u x y fr)
    else .mk k n ls (l.map fun u => putF f u x y fr) := rfl
abbrev pH (t y : TG) : Hp := [(0, .blk 30 [.d (.int .i64 t.k), .d (.int .i64 t.n), .d (dL t.ls), .d (dGs t.kids)]), (1, .blk 30 [.d (.int .i64 y.k), .d (.int .i64 y.n), .d (dL y.ls), .d (dGs y.kids)]), (2, .blk 30 [.d (.int .i64 0), .d (.int .i64 0), .nl, .nl])]
theorem put_fn : ∀ f, f < 1099511627776 → PutOk f := by
  intro f
  induction f with
  | zero =>
    intro _ t ht
    have := szG_pos t
    omega
  | succ f ih =>
    intro hf t ht x y fr
    have ih := ih (by omega)
    obtain ⟨k, n, ls, ks⟩ := t
    have ht : szGs ks ≤ f := by simp only [szG] at ht; omega
    refine fnQ_sz fun hs => ?_
    have hl := (szOk_G (t := .mk k n ls ks) hs.1).1
    simp only [g_kids, LB] at hl
    refine fnQ_of_vc txok mixed ((100003, .done) :: (100008, .done) :: [(12, .pure 0 (.take 1 (.pure 2 (.take 3 (.pure 4 (.take 5 (.pure 6 (.run 7 (.pure 8 (.fin 9 .done))))))))))]) Tryz.func71 rfl rfl (by simp) fun b => ?_
    conv => whnf
    refine CutC.mk (fun st => ¬ (k = 6 ∧ n = x) ∧ st = ⟨[(1, .d (.int .i64 x)), (3, .d (dI fr)), (4, .own 0 0), (6, .own 1 0), (8, .own 2 0)], pH (.mk k n ls ks) y, 3⟩) ?_ ?_
    · conv => whnf
      simp only [g_k, g_n]
      refine And.intro (fun h1 => ?_) (fun h1 => ?_)
      · have h1 : k = 6 := eq_of_beq h1
        conv => whnf
        refine And.intro (fun h2 => ?_) (fun h2 => ?_)
        · have h2 : n = x := eq_of_beq h2
          conv => whnf
          rw [putF_mk, if_pos ⟨h1, h2⟩]
          rfl
        · have h2 : n ≠ x := by simpa using h2
          conv => whnf
          exact ⟨_, ⟨fun h => h2 h.2, rfl⟩, weak_of rfl (by repeat ((conv => whnf); first | exact trivial | refine And.intro rfl ?_ | refine And.intro (incD (by omega)) ?_)) (by repeat ((conv => whnf); first | exact trivial | refine And.intro rfl ?_ | refine And.intro (incD (by omega)) ?_))⟩
      · have h1 : k ≠ 6 := by simpa using h1
        conv => whnf
        exact ⟨_, ⟨fun h => h1 h.1, rfl⟩, weak_of rfl (by repeat ((conv => whnf); first | exact trivial | refine And.intro rfl ?_ | refine And.intro (incD (by omega)) ?_)) (by repeat ((conv => whnf); first | exact trivial | refine And.intro rfl ?_ | refine And.intro (incD (by omega)) ?_))⟩
    rintro st' ⟨hno, rfl⟩
    conv => whnf
    refine CutC.mk (fun st => ∃ n' l', l'.length = ks.length ∧ szGs l' ≤ f ∧ putF (f + 1) (.mk k n ls ks) x y fr = .mk k n' ls (l'.map fun u => putF f u x y fr) ∧ st = ⟨[(1, .d (.int .i64 x)), (3, .d (dI fr)), (4, .own 0 0), (6, .own 1 0), (8, .own 2 0)], pH (.mk k n' ls l') y, 3⟩) ?_ ?_
    · conv => whnf
      refine callF (binder_fn (.mk k n ls ks)) gf94 rfl rfl ?_
      simp only [g_k, g_n, g_ls, g_kids]
      conv => whnf
      refine And.intro (fun h1 => ?_) (fun h1 => ?_)
      · conv => whnf
        refine And.intro (fun h2 => ?_) (fun h2 => ?_)
        · have h2 : n = x := eq_of_beq h2
          conv => whnf
          rw [putF_mk, if_neg hno, if_pos ⟨h1, h2⟩]
          rfl
        · have h2 : n ≠ x := by simpa only [g_n, beq_eq_false_iff_ne, ne_eq] using h2
          conv => whnf
          refine callF (contains_fn fr n) gf112 rfl rfl ?_
          conv => whnf
          refine And.intro (fun h3 => ?_) (fun h3 => ?_)
          · have h3 : n ∈ fr := of_decide_eq_true h3
            conv => whnf
            refine And.intro (fun h4 => ?_) (fun h4 => ?_)
            · have h4 := of_decide_eq_true h4; simp only [g_kids] at h4
              conv => whnf
              refine callF (ren_fn ih (.mk k n ls ks) ht (by rw [g_kids]; omega) x fr) gf113 rfl rfl ?_
              conv => whnf
              refine ⟨_, ⟨freshN fr ks x n, ks.map fun u => putF f u n (varG (freshN fr ks x n)) [freshN fr ks x n], by simp, ?_, ?_, rfl⟩, weak_of rfl (by repeat ((conv => whnf); first | exact trivial | refine And.intro rfl ?_ | refine And.intro (incD (by omega)) ?_)) (by repeat ((conv => whnf); first | exact trivial | refine And.intro rfl ?_ | refine And.intro (incD (by omega)) ?_))⟩
              · exact Nat.le_trans (szGs_map_le fun u _ => sz_put f u _ _ _ (by simp [varG, szG, szGs])) ht
              · rw [putF_mk, if_neg hno, if_neg (fun h => h2 h.2), if_pos ⟨h1, h3, by omega⟩]
            · have h4 := of_decide_eq_false h4; simp only [g_kids] at h4
              conv => whnf
              refine ⟨_, ⟨n, ks, rfl, ht, ?_, rfl⟩, weak_of rfl (by repeat ((conv => whnf); first | exact trivial | refine And.intro rfl ?_ | refine And.intro (incD (by omega)) ?_)) (by repeat ((conv => whnf); first | exact trivial | refine And.intro rfl ?_ | refine And.intro (incD (by omega)) ?_))⟩
              rw [putF_mk, if_neg hno, if_neg (fun h => h2 h.2), if_neg (fun h => by have := h.2.2; omega)]
          · have h3 : n ∉ fr := of_decide_eq_false h3
            conv => whnf
            refine ⟨_, ⟨n, ks, rfl, ht, ?_, rfl⟩, weak_of rfl (by repeat ((conv => whnf); first | exact trivial | refine And.intro rfl ?_ | refine And.intro (incD (by omega)) ?_)) (by repeat ((conv => whnf); first | exact trivial | refine And.intro rfl ?_ | refine And.intro (incD (by omega)) ?_))⟩
            rw [putF_mk, if_neg hno, if_neg (fun h => h2 h.2), if_neg (fun h => h3 h.2.1)]
      · conv => whnf
        refine ⟨_, ⟨n, ks, rfl, ht, ?_, rfl⟩, weak_of rfl (by repeat ((conv => whnf); first | exact trivial | refine And.intro rfl ?_ | refine And.intro (incD (by omega)) ?_)) (by repeat ((conv => whnf); first | exact trivial | refine And.intro rfl ?_ | refine And.intro (incD (by omega)) ?_))⟩
        rw [putF_mk, if_neg hno, if_neg (fun h => by rw [h.1] at h1; cases h1), if_neg (fun h => by rw [h.1] at h1; cases h1)]
    rintro st' ⟨n', l', hl', hlf, hres, rfl⟩
    rw [hres]
    clear hres hno
    conv => whnf
    simp only [g_k, g_n, g_ls, g_kids]
    refine callT [] (clone_tri l') gf114 rfl rfl trivial rfl ?_
    rintro o' H' ⟨rfl, rfl⟩
    conv => whnf
    have hput : ∀ u ∈ l', FnR Tryz.prog G0 71 [dG u, .int .i64 x, dG y, dI fr] (dG (putF f u x y fr)) := fun u hu => ih u (by have := szG_mem hu; omega) x y fr
    generalize hg : (fun u => putF f u x y fr) = g
    have hput : ∀ u ∈ l', FnR Tryz.prog G0 71 [dG u, .int .i64 x, dG y, dI fr] (dG (g u)) := fun u hu => by
      subst hg; exact hput u hu
    refine loopH (fun i : Nat => i ≤ l'.length) (fun i => l'.length - i) (fun i => [(49, .d (.int .i64 i))]) (fun i => [(0, .blk 30 [.d (.int .i64 k), .d (.int .i64 n'), .d (dL ls), .row 3]), (1, .blk 30 [.d (.int .i64 y.k), .d (.int .i64 y.n), .d (dL y.ls), .d (dGs y.kids)]), (2, .blk 30 [.d (.int .i64 0), .d (.int .i64 0), .nl, .nl]), (3, .row 30 64 4 l'.length (encGs (mixF g l' i)))]) 4 0 (by omega) ?_ ?_
    · rw [mixF_zero]
      exact weak_of rfl (by repeat ((conv => whnf); first | exact trivial | refine And.intro rfl ?_ | refine And.intro (incD (by omega)) ?_)) (by repeat ((conv => whnf); first | exact trivial | refine And.intro rfl ?_ | refine And.intro (incD (by omega)) ?_))
    intro i hi
    conv => whnf
    refine And.intro (fun hb => ?_) (fun hb => ?_)
    · have hb := of_decide_eq_true hb
      have hil : i < l'.length := by omega
      have hml := mixF_len g l' i
      conv => whnf
      refine ⟨i, rfl, hil, ?_⟩
      conv => whnf
      refine ⟨encG l'[i], by rw [← mixF_get (g := g) hil (by omega)]; exact encGs_at _ i (by omega), rfl, ?_⟩
      conv => whnf
      refine And.intro (by kernel_rfl) ?_
      conv => whnf
      refine callF (hput l'[i] (by simp)) gf71 rfl rfl ?_
      conv => whnf
      refine ⟨i, rfl, hil, ?_⟩
      conv => whnf
      refine ⟨encGs (mixF g l' (i + 1)), ?_, ?_, ?_⟩
      · show i * 4 + 4 ≤ (encGs (mixF g l' i)).length
        rw [encGs_len, hml]; omega
      · rw [← mixF_set hil]; exact encGs_set _ i (by omega) _
      conv => whnf
      exact again (i + 1) (by omega) (by omega) (weak_of rfl (by repeat ((conv => whnf); first | exact trivial | refine And.intro rfl ?_ | refine And.intro (incD (by omega)) ?_)) (by repeat ((conv => whnf); first | exact trivial | refine And.intro rfl ?_ | refine And.intro (incD (by omega)) ?_)))
    · have hb := of_decide_eq_false hb
      have hi : i = l'.length := by omega
      subst hi
      rw [mixF_all]
      conv => whnf
      simp only [dG, encG, g_k, g_n, g_ls, g_kids, List.length_map]
theorem putTop_fn (t : TG) (ht : szG t < 1099511627776) (x : Int) (y : TG) (hy : szG y < 1099511627776) : FnR Tryz.prog G0 31 [dG t, .int .i64 x, dG y] (dG (putF (szG t) t x y (freeS y))) :=
  putT_fn (put_fn _ ht) t (Nat.le_refl _) x y hy
end Go.Proofs.YtmjjajhkokdikaaGreat

/- must, ask, variable, node. -/
set_option linter.unusedSimpArgs false
set_option linter.unusedVariables false
namespace Go.Proofs.YtmjjajhkokdikaaGreat
open Go.Vx Go.Vc Go.RowKit

/-- An error on its way up. -/
def badD (e : Int) : D := .ifc 105 (.int .i64 e)
theorem must_pan (e : Int) (he : e ≠ 0) : FnQ Tryz.prog G0 84 [.int .i64 e] (fun o => o = .pan (badD e)) := by
  refine fnQ_of_vc txok mixed [] Tryz.func84 rfl rfl (by simp) fun b => ?_
  conv => whnf
  refine And.intro (fun _ => ?_) (fun h => absurd h (by simp [he]))
  conv => whnf
  try exact rfl
theorem ask_fn (e : Int) : FnR Tryz.prog G0 51 [.bool true, .int .i64 e] (.tup []) := by
  refine fnQ_of_vc txok mixed [] Tryz.func51 rfl rfl (by simp) fun b => ?_
  conv => whnf
  refine And.intro (fun h => by cases h) (fun _ => ?_)
  conv => whnf
  try exact rfl
theorem ask_pan (e : Int) (he : e ≠ 0) : FnQ Tryz.prog G0 51 [.bool false, .int .i64 e] (fun o => o = .pan (badD e)) := by
  refine fnQ_of_vc txok mixed [] Tryz.func51 rfl rfl (by simp) fun b => ?_
  conv => whnf
  refine And.intro (fun _ => ?_) (fun h => by cases h)
  conv => whnf
  refine callQ rfl rfl gf84 (must_pan e he) ?_
  rintro o rfl
  try exact rfl
theorem variable_fn (n : Int) : FnR Tryz.prog G0 86 [.int .i64 n] (dG (varG n)) := by
  refine fnQ_of_vc txok mixed [] Tryz.func86 rfl rfl (by simp) fun b => ?_
  conv => whnf
  rfl
theorem node_fn (k : Int) (l : List TG) : FnR Tryz.prog G0 82 [.int .i64 k, dGs l] (dG (.mk k 0 [] l)) := by
  refine fnQ_of_vc txok mixed [] Tryz.func82 rfl rfl (by simp) fun b => ?_
  conv => whnf
  rfl
end Go.Proofs.YtmjjajhkokdikaaGreat

/- turn. -/
set_option linter.unusedSimpArgs false
set_option linter.unusedVariables false
namespace Go.Proofs.YtmjjajhkokdikaaGreat
open Go.Vx Go.Vc Go.RowKit

mutual
/-- A type as a target type; type variables are numbered from f on. -/
def turnG (f : Int) : Tp → TG
  | .mk k n ks => if k = 1 ∨ k = 2 ∨ k = 3 then .mk k 0 [] [] else if k = 6 then varG n else if k = 8 then varG (IntKind.i64.wrap (f + n)) else .mk (if k = 5 then 5 else 4) 0 [] (turnGs f ks)
def turnGs (f : Int) : List Tp → List TG
  | [] => []
  | t :: r => turnG f t :: turnGs f r
end
mutual
/-- No node is a meta variable. -/
def nom : Tp → Bool
  | .mk k _ ks => decide (k ≠ 7) && noms ks
def noms : List Tp → Bool
  | [] => true
  | t :: r => nom t && noms r
end
theorem turn_fn (f : Int) : ∀ t : Tp, nom t = true → right t = true → FnR Tryz.prog G0 76 [dT t, .int .i64 f] (dG (turnG f t)) := by
  refine Tp.ind fun k n ks ih h7 hr => ?_
  rw [nom, Bool.and_eq_true, decide_eq_true_eq] at h7
  have two : ¬ (k = 1 ∨ k = 2 ∨ k = 3) → k ≠ 6 → k ≠ 8 → ∃ t u, ks = [t, u] ∧ FnR Tryz.prog G0 76 [dT t, .int .i64 f] (dG (turnG f t)) ∧ FnR Tryz.prog G0 76 [dT u, .int .i64 f] (dG (turnG f u)) := by
    intro a1 a6 a8
    have b1 : (k == 1 || (k == 2 || k == 3)) = false := by
      simp only [not_or] at a1
      simp [a1]
    have b6 : (k == 6 || (k == 7 || k == 8)) = false := by simp [a6, a8, h7.1]
    rw [right, b1, b6] at hr
    cases b4 : (k == 4 || k == 5) with
    | false => rw [b4] at hr; simp at hr
    | true =>
      rw [b4] at hr
      simp only [Bool.and_eq_true] at hr
      obtain ⟨_, hl, hrs⟩ := hr
      have hl : ks.length = 2 := by have := eq_of_beq hl; omega
      match ks, hl with
      | [t, u], _ =>
        simp only [noms, Bool.and_eq_true, and_true] at h7
        simp only [rights, Bool.and_eq_true, and_true] at hrs
        exact ⟨t, u, rfl, ih t (by simp) h7.2.1 hrs.1, ih u (by simp) h7.2.2 hrs.2⟩
  refine fnQ_of_vc txok mixed [(15, .pure 0 (.pure 1 (.take 2 (.pure 3 (.take 4 (.pure 5 (.pure 7 (.take 8 (.pure 9 (.take 10 (.pure 11 (.run 6 (.fin 12 (.fin 13 (.fin 14 (.fin 15 .done))))))))))))))))] Tryz.func76 rfl rfl (by simp) fun b => ?_
  conv => whnf
  simp only [mk_k]
  repeat' ((conv => whnf); first
    | refine And.intro (fun h => ?_) (fun h => ?_)
    | refine callF (node_fn 1 []) gf82 rfl rfl ?_
    | refine callF (node_fn 2 []) gf82 rfl rfl ?_
    | refine callF (node_fn 3 []) gf82 rfl rfl ?_
    | refine callF (variable_fn _) gf86 rfl rfl ?_)
  all_goals try (conv => whnf)
  iterate 5
    rotate_left
  all_goals simp only [mk_k, beq_iff_eq, beq_eq_false_iff_ne, ne_eq] at *
  rotate_right 5
  all_goals first
    | (rw [turnG, if_pos (by simp [*])]; simp only [*]; rfl)
    | (rw [turnG, if_neg (by simp [*]), if_pos (by assumption)]; rfl)
    | (rw [turnG, if_neg (by simp [*]), if_neg (by assumption), if_pos (by assumption)]; rfl)
    | skip
  all_goals
    obtain ⟨t, u, rfl, ht, hu⟩ := two (by simp [*]) (by assumption) (by assumption)
    have hres : turnG f (.mk k n [t, u]) = .mk (if k = 5 then 5 else 4) 0 [] [turnG f t, turnG f u] := by
      rw [turnG, if_neg (by simp [*]), if_neg (by assumption), if_neg (by assumption)]; rfl
    rw [hres]
    clear hres
    generalize turnG f t = ta at ht ⊢
    generalize turnG f u = ua at hu ⊢
    obtain ⟨k1, n1, l1, m1⟩ := ta
    obtain ⟨k2, n2, l2, m2⟩ := ua
    refine And.intro (by kernel_rfl) ?_
    repeat' ((conv => whnf); first
      | refine And.intro ?_ ?_
      | refine IdxC.encK (l := [t, u]) 0 (by show 0 < 2; decide) rfl ?_
      | refine IdxC.encK (l := [t, u]) 1 (by show 1 < 2; decide) rfl ?_
      | refine callF ht gf76 rfl rfl ?_
      | refine callF hu gf76 rfl rfl ?_)
    all_goals (conv => whnf)
    refine pubC (fun i => Nat.beq i 2) ?_
    (conv => whnf)
    first
      | refine callF (node_fn 5 [.mk k1 n1 l1 m1, .mk k2 n2 l2 m2]) gf82 rfl rfl ?_
      | refine callF (node_fn 4 [.mk k1 n1 l1 m1, .mk k2 n2 l2 m2]) gf82 rfl rfl ?_
    (conv => whnf)
    first
      | (rw [if_pos (by assumption)]; rfl)
      | (rw [if_neg (by assumption)]; rfl)
end Go.Proofs.YtmjjajhkokdikaaGreat


/- The functions of package types: the texts Ga to Gk, joined. -/
/- types.Right. -/
set_option linter.unusedSimpArgs false
set_option linter.unusedVariables false
namespace Go.Proofs.YtmjjajhkokdikaaGreat.Ty
open Go.Vx Go.Vc Go.RowKit


theorem right_fn : ∀ t : Tp, FnR Tryz.prog G0 73 [dT t] (.bool (right t)) := by
  refine Tp.ind fun k n ks ih => ?_
  refine fnQ_of_vc txok mixed [] Tryz.func73 rfl rfl (by simp) fun b => ?_
  (repeat' ((conv => whnf); first | refine And.intro (fun _ => ?_) (fun _ => ?_))) <;> (conv => whnf)
  all_goals simp only [mk_k, mk_n, mk_kids, Bool.not_true] at *
  all_goals try (refine congrArg D.bool ?_; first | (simp only [right, *, Bool.or_self, Bool.true_or, Bool.or_true, Bool.false_or, Bool.or_false, Bool.false_and, Bool.and_false, Bool.true_and, Bool.and_true, Bool.and_self, Bool.not_true, Bool.not_false]; done) | (simp_all [right]; done) | (simp_all [right]; omega))
  all_goals
    have h2 : ks.length = 2 := by rename_i h2; have := eq_of_beq h2; omega
    obtain ⟨t, u, rfl⟩ : ∃ t u, ks = [t, u] := by
      match ks, h2 with
      | [t, u], _ => exact ⟨t, u, rfl⟩
    refine IdxC.encK 0 (by simp) rfl ?_
    conv => whnf
    refine callF (ih t (by simp)) gf73 rfl rfl ?_
    (repeat' ((conv => whnf); first | refine And.intro (fun _ => ?_) (fun _ => ?_))) <;> (conv => whnf)
  all_goals try (refine congrArg D.bool ?_; first | (simp only [right, rights, *, Bool.or_self, Bool.true_or, Bool.or_true, Bool.false_or, Bool.or_false, Bool.false_and, Bool.and_false, Bool.true_and, Bool.and_true, Bool.and_self, Bool.not_true, Bool.not_false]; done) | (simp_all [right, rights]; done) | (simp_all [right, rights]; omega))
  all_goals
    refine IdxC.encK 1 (by simp) rfl ?_
    conv => whnf
    refine callF (ih u (by simp)) gf73 rfl rfl ?_
    conv => whnf
    refine congrArg D.bool ?_; first | (simp only [right, rights, *, Bool.or_self, Bool.true_or, Bool.or_true, Bool.false_or, Bool.or_false, Bool.false_and, Bool.and_false, Bool.true_and, Bool.and_true, Bool.and_self, Bool.not_true, Bool.not_false]; done) | (simp_all [right, rights]; done) | (simp_all [right, rights]; omega)
end Go.Proofs.YtmjjajhkokdikaaGreat.Ty

/- slices.Index, Contains. -/
namespace Go.Proofs.YtmjjajhkokdikaaGreat.Ty
open Go.Vx Go.Vc Go.RowKit

theorem index_fn (l : List Int) (x : Int) : FnR Tryz.prog G0 108 [dI l, .int .i64 x] (.int .i64 (idxFrom l x 0)) := by
  refine fnQ_sz fun hs => ?_
  have hl := (szOk_sl hs.1).1
  simp only [LB] at hl
  refine fnQ_of_vc txok mixed [] Tryz.func108 rfl rfl (by simp) fun b => ?_
  conv => whnf
  refine loopH (fun i : Nat => i ≤ l.length ∧ idxFrom l x 0 = idxFrom (l.drop i) x i) (fun i => l.length - i) (fun i => [(8, .d (.int .i64 i))]) (fun _ => []) 0 0 ⟨by omega, rfl⟩ (weak_of rfl (by repeat ((conv => whnf); first | exact trivial | refine And.intro rfl ?_ | refine And.intro (incD (by omega)) ?_)) (by repeat ((conv => whnf); first | exact trivial | refine And.intro rfl ?_ | refine And.intro (incD (by omega)) ?_))) ?_
  rintro i ⟨hi, hx⟩
  conv => whnf
  refine And.intro (fun hb => ?_) (fun hb => ?_)
  · have hb := of_decide_eq_true hb
    have hil : i < l.length := by omega
    rw [List.drop_eq_getElem_cons hil, idxFrom] at hx
    conv => whnf
    refine IdxC.encI i hil rfl ?_
    conv => whnf
    refine And.intro (fun he => ?_) (fun he => ?_)
    · conv => whnf
      rw [hx, if_pos (eq_of_beq he)]
    · conv => whnf
      rw [if_neg (by simpa using he)] at hx
      exact again (i + 1) (by omega) ⟨by omega, by rw [hx]; rfl⟩ (weak_of rfl (by repeat ((conv => whnf); first | exact trivial | refine And.intro rfl ?_ | refine And.intro (incD (by omega)) ?_)) (by repeat ((conv => whnf); first | exact trivial | refine And.intro rfl ?_ | refine And.intro (incD (by omega)) ?_)))
  · have hb := of_decide_eq_false hb
    conv => whnf
    rw [hx, List.drop_eq_nil_of_le (by omega)]; rfl
end Go.Proofs.YtmjjajhkokdikaaGreat.Ty

/- The order of types. -/
namespace Go.Proofs.YtmjjajhkokdikaaGreat.Ty
open Go.Vx Go.Vc Go.RowKit

theorem isNaN_fn (a : Int) : FnR Tryz.prog G0 149 [.int .i64 a] (.bool false) := by
  refine fnQ_of_vc txok mixed [] Tryz.func149 rfl rfl (by simp) fun b => ?_
  conv => whnf
  simp
theorem compare_fn (a c : Int) : FnR Tryz.prog G0 103 [.int .i64 a, .int .i64 c] (.int .i64 (cmpI a c)) := by
  refine fnQ_of_vc txok mixed [] Tryz.func103 rfl rfl (by simp) fun b => ?_
  conv => whnf
  refine callF (isNaN_fn a) gf149 rfl rfl ?_
  conv => whnf
  refine callF (isNaN_fn c) gf149 rfl rfl ?_
  (repeat' ((conv => whnf); first | refine And.intro (fun _ => ?_) (fun _ => ?_))) <;> (conv => whnf)
  all_goals try contradiction
  all_goals refine congrArg (D.int .i64) ?_
  all_goals simp_all [cmpI]
  all_goals omega
theorem contains_fn (l : List Int) (x : Int) : FnR Tryz.prog G0 112 [dI l, .int .i64 x] (.bool (decide (idxFrom l x 0 ≥ 0))) := by
  refine fnQ_of_vc txok mixed [] Tryz.func112 rfl rfl (by simp) fun b => ?_
  conv => whnf
  exact callF (index_fn l x) gf108 rfl rfl rfl
theorem or_fn (l : List Int) : FnR Tryz.prog G0 102 [dI l] (.int .i64 (orL l)) := by
  refine fnQ_sz fun hs => ?_
  have hl := (szOk_sl hs.1).1
  simp only [LB] at hl
  refine fnQ_of_vc txok mixed [] Tryz.func102 rfl rfl (by simp) fun b => ?_
  conv => whnf
  refine loopH (fun i : Nat => i ≤ l.length ∧ orL l = orL (l.drop i)) (fun i => l.length - i) (fun i => [(8, .d (.int .i64 i))]) (fun _ => []) 0 0 ⟨by omega, rfl⟩ (weak_of rfl (by repeat ((conv => whnf); first | exact trivial | refine And.intro rfl ?_ | refine And.intro (incD (by omega)) ?_)) (by repeat ((conv => whnf); first | exact trivial | refine And.intro rfl ?_ | refine And.intro (incD (by omega)) ?_))) ?_
  rintro i ⟨hi, hx⟩
  conv => whnf
  refine And.intro (fun hb => ?_) (fun hb => ?_)
  · have hb := of_decide_eq_true hb
    have hil : i < l.length := by omega
    rw [List.drop_eq_getElem_cons hil, orL] at hx
    conv => whnf
    refine IdxC.encI i hil rfl ?_
    conv => whnf
    refine And.intro (fun he => ?_) (fun he => ?_)
    · conv => whnf
      rw [hx, if_pos (by simpa using he)]
    · conv => whnf
      rw [if_neg (by simpa using he)] at hx
      exact again (i + 1) (by omega) ⟨by omega, hx⟩ (weak_of rfl (by repeat ((conv => whnf); first | exact trivial | refine And.intro rfl ?_ | refine And.intro (incD (by omega)) ?_)) (by repeat ((conv => whnf); first | exact trivial | refine And.intro rfl ?_ | refine And.intro (incD (by omega)) ?_)))
  · have hb := of_decide_eq_false hb
    conv => whnf
    rw [hx, List.drop_eq_nil_of_le (by omega)]; rfl

def CmpOk (f : FuncId) (t : Tp) : Prop := ∀ u : Tp, FnR Tryz.prog G0 f [dT t, dT u] (.int .i64 (cmpT t u))
theorem compareFunc_fn (l m : List Tp) (ih : ∀ t ∈ l, CmpOk 65 t) : FnR Tryz.prog G0 104 [dK l, dK m, .fn 65 [] []] (.int .i64 (cmpL l m)) := by
  refine fnQ_sz fun hs => ?_
  have hl := (szOk_sl hs.1).1
  simp only [LB] at hl
  refine fnQ_of_vc txok mixed [] Tryz.func104 rfl rfl (by simp) fun b => ?_
  conv => whnf
  refine loopH (fun i : Nat => i ≤ l.length ∧ i ≤ m.length ∧ cmpL l m = cmpL (l.drop i) (m.drop i)) (fun i => l.length - i) (fun i => [(13, .d (.int .i64 i))]) (fun _ => []) 0 0 ⟨by omega, by omega, rfl⟩ (weak_of rfl (by repeat ((conv => whnf); first | exact trivial | refine And.intro rfl ?_ | refine And.intro (incD (by omega)) ?_)) (by repeat ((conv => whnf); first | exact trivial | refine And.intro rfl ?_ | refine And.intro (incD (by omega)) ?_))) ?_
  rintro i ⟨hi, him, hx⟩
  conv => whnf
  refine And.intro (fun hb => ?_) (fun hb => ?_)
  · have hb := of_decide_eq_true hb
    have hil : i < l.length := by omega
    conv => whnf
    refine IdxC.encK i hil rfl ?_
    conv => whnf
    refine And.intro (fun hc => ?_) (fun hc => ?_)
    · have hc := of_decide_eq_true hc
      conv => whnf
      rw [hx, List.drop_eq_getElem_cons hil, List.drop_eq_nil_of_le (show m.length ≤ i by omega)]
      rfl
    · have hc := of_decide_eq_false hc
      have him' : i < m.length := by omega
      conv => whnf
      refine IdxC.encK i him' rfl ?_
      conv => whnf
      refine callF (ih l[i] (by simp) m[i]) gf65 rfl rfl ?_
      conv => whnf
      refine And.intro (fun he => ?_) (fun he => ?_)
      · conv => whnf
        rw [hx, cmpL_drop hil him', if_pos (by simpa using he)]
      · conv => whnf
        rw [cmpL_drop hil him', if_neg (by simpa using he)] at hx
        exact again (i + 1) (by omega) ⟨by omega, by omega, hx⟩ (weak_of rfl (by repeat ((conv => whnf); first | exact trivial | refine And.intro rfl ?_ | refine And.intro (incD (by omega)) ?_)) (by repeat ((conv => whnf); first | exact trivial | refine And.intro rfl ?_ | refine And.intro (incD (by omega)) ?_)))
  · have hb := of_decide_eq_false hb
    rw [List.drop_eq_nil_of_le (show l.length ≤ i by omega)] at hx
    conv => whnf
    refine And.intro (fun hc => ?_) (fun hc => ?_)
    · have hc := of_decide_eq_true hc
      conv => whnf
      rw [hx, List.drop_eq_getElem_cons (show i < m.length by omega)]
      rfl
    · have hc := of_decide_eq_false hc
      conv => whnf
      rw [hx, List.drop_eq_nil_of_le (show m.length ≤ i by omega)]
      rfl
theorem cmp_fn : ∀ t, CmpOk 65 t := by
  refine Tp.ind fun k n ks ih u => ?_
  obtain ⟨k', n', ks'⟩ := u
  refine fnQ_of_vc txok mixed [(1, .pure 0 (.take 1 (.pure 2 (.take 3 (.pure 5 (.take 6 (.pure 7 (.take 8 (.pure 10 (.take 11 (.pure 12 (.pure 13 (.take 14 (.pure 15 (.pure 17 (.take 18 (.pure 19 (.take 20 (.run 4 (.run 9 (.run 16 (.fin 21 (.fin 22 (.fin 23 (.pure 24 .done)))))))))))))))))))))))))] Tryz.func65 rfl rfl (by simp) fun b => ?_
  conv => whnf
  refine And.intro (by kernel_rfl) ?_
  conv => whnf
  refine callF (compare_fn k k') gf103 rfl rfl ?_
  conv => whnf
  refine callF (compare_fn n n') gf103 rfl rfl ?_
  conv => whnf
  refine callF (compare_fn ks.length ks'.length) gf103 rfl rfl ?_
  conv => whnf
  refine callF (compareFunc_fn ks ks' ih) gf104 rfl rfl ?_
  conv => whnf
  refine callV (or_fn [cmpI k k', cmpI n n', cmpI ks.length ks'.length, cmpL ks ks']) gf102 rfl rfl rfl rfl ?_
  conv => whnf
  simp only [cmpT]
theorem same_fn (t u : Tp) : FnR Tryz.prog G0 28 [dT t, dT u] (.bool (cmpT t u == 0)) := by
  refine fnQ_of_vc txok mixed [] Tryz.func28 rfl rfl (by simp) fun b => ?_
  conv => whnf
  exact callF (cmp_fn t u) gf65 rfl rfl rfl
end Go.Proofs.YtmjjajhkokdikaaGreat.Ty

/- What stands in a type: see, walk, found. -/
namespace Go.Proofs.YtmjjajhkokdikaaGreat.Ty
open Go.Vx Go.Vc Go.RowKit

/-- The finder and its row. -/
def fdr (kind : Int) (acc : List Int) : Hp := [(0, .blk 132 [.d (.int .i64 kind), .row 1]), (1, .row 3 8 1 acc.length (Vx.encI acc))]
def see1 (kind : Int) (t : Tp) (acc : List Int) : List Int := if t.k = kind ∧ t.n ∉ acc then acc ++ [t.n] else acc
def fdrPost (kind : Int) (acc : List Int) : Out → Hp → Prop := fun o H' => o = .ret (.tup []) ∧ H' = fdr kind acc

theorem see_tri (kind : Int) (t : Tp) (acc : List Int) (hl : (see1 kind t acc).length * 8 ≤ LB) : Tri Tryz.prog G0 99 2 0 [.own 0 0, .d (dT t)] (fdr kind acc) (fdrPost kind (see1 kind t acc)) := by
  refine tri_of_vc txok mixed [] [(1, .pure 0 (.take 1 (.pure 2 (.pure 3 (.pure 4 (.take 5 (.pure 6 (.pure 7 (.pure 8 (.pure 9 (.pure 10 (.take 11 (.pure 12 (.take 13 (.fin 14 (.pure 15 (.pure 16 .done))))))))))))))))), (2, .pure 0 (.pure 1 (.pure 2 (.pure 3 (.take 4 (.pure 5 (.take 6 (.run 7 (.fin 8 (.pure 9 (.pure 10 (.fin 11 .done))))))))))))] Tryz.func99 rfl rfl (by simp) fun b => ?_
  conv => whnf
  refine And.intro (by kernel_rfl) ?_
  conv => whnf
  refine And.intro (fun hk => ?_) (fun hk => ?_)
  · have hk := eq_of_beq hk
    conv => whnf
    refine callV (contains_fn acc t.n) gf112 rfl rfl rfl rfl ?_
    conv => whnf
    refine And.intro (fun hc => ?_) (fun hc => ?_)
    · have hc : t.n ∉ acc := by
        have := of_decide_eq_false (by simpa using hc : decide (idxFrom acc t.n 0 ≥ 0) = false)
        rwa [ge_iff_le, idxFrom_nonneg acc t.n 0 (by omega)] at this
      have hs : see1 kind t acc = acc ++ [t.n] := by rw [see1, if_pos ⟨hk, hc⟩]
      rw [hs] at hl ⊢
      conv => whnf
      refine And.intro (by kernel_rfl) ?_
      conv => whnf
      refine appR (i := 1) (sz := 1) (n := acc.length) (m := 1) (xs := Vx.encI acc) (ys := [.int .i64 t.n]) txok (fun k => Nat.beq k 3) (acc ++ [t.n]).length (Vx.encI (acc ++ [t.n])) (by exact rfl) (by exact rfl) (by exact rfl) (by kernel_rfl) (by exact rfl) (scalDs_mem (by exact rfl)) (by simp) (by simp [Vx.encI]) hl ?_
      conv => whnf
      exact ⟨rfl, rfl⟩
    · have hc : t.n ∈ acc := by
        have := of_decide_eq_true (by simpa using hc : decide (idxFrom acc t.n 0 ≥ 0) = true)
        rwa [ge_iff_le, idxFrom_nonneg acc t.n 0 (by omega)] at this
      have hs : see1 kind t acc = acc := by rw [see1, if_neg (fun h => h.2 hc)]
      rw [hs]
      conv => whnf
      exact ⟨rfl, rfl⟩
  · have hk : t.k ≠ kind := by simpa using hk
    have hs : see1 kind t acc = acc := by rw [see1, if_neg (fun h => hk h.1)]
    rw [hs]
    conv => whnf
    exact ⟨rfl, rfl⟩

theorem fnd_eq (kind : Int) (t : Tp) (acc : List Int) : fnd kind t acc = fndL kind t.kids (see1 kind t acc) := by
  cases t; rfl
theorem walk_tri (kind : Int) : ∀ (t : Tp) (acc : List Int), (fnd kind t acc).length * 8 ≤ LB → Tri Tryz.prog G0 98 2 0 [.d (dT t), .fn 99 [.own 0 0] []] (fdr kind acc) (fdrPost kind (fnd kind t acc)) := by
  refine Tp.ind fun k n ks ih acc hl => ?_
  have hl1 : (see1 kind (.mk k n ks) acc).length * 8 ≤ LB := Nat.le_trans (Nat.mul_le_mul_right _ (fndL_len kind ks _)) (by rw [fnd_eq] at hl; exact hl)
  rw [fnd_eq] at hl ⊢
  simp only [mk_kids] at hl ⊢
  generalize hg : see1 kind (.mk k n ks) acc = acc1 at *
  refine tri_sz fun hs => ?_
  have hkl := (szOk_T (t := .mk k n ks) (hs (.d (dT (.mk k n ks))) (by simp))).1
  simp only [mk_kids, LB] at hkl
  refine tri_of_vc txok mixed [] [] Tryz.func98 rfl rfl (by simp) fun b => ?_
  conv => whnf
  refine callT [0, 1] (see_tri kind (.mk k n ks) acc (by rw [hg]; exact hl1)) gf99 rfl rfl ⟨rfl, rfl, trivial⟩ rfl ?_
  rintro o' H' ⟨rfl, rfl⟩
  rw [hg]
  conv => whnf
  refine loopH (fun x : Nat × List Int => x.1 ≤ ks.length ∧ fndL kind ks acc1 = fndL kind (ks.drop x.1) x.2) (fun x => ks.length - x.1) (fun x => [(12, .d (.int .i64 x.1))]) (fun x => fdr kind x.2 ++ [(2, .blk 24 [.d (.int .i64 k), .d (.int .i64 n), .d (dK ks)])]) 3 (0, acc1) ⟨by simp, rfl⟩ (weak_of rfl (by repeat ((conv => whnf); first | exact trivial | refine And.intro rfl ?_ | refine And.intro (incD (by omega)) ?_)) (by repeat ((conv => whnf); first | exact trivial | refine And.intro rfl ?_ | refine And.intro (incD (by omega)) ?_))) ?_
  rintro ⟨i, acc'⟩ ⟨hi, hx⟩
  simp only at hi hx
  conv => whnf
  simp only [mk_kids]
  refine And.intro (fun hb => ?_) (fun hb => ?_)
  · have hb := of_decide_eq_true hb
    have hil : i < ks.length := by omega
    rw [fndL_drop hil] at hx
    conv => whnf
    refine IdxC.encK i hil rfl ?_
    conv => whnf
    refine callT [0, 1] (ih ks[i] (by simp) acc' (Nat.le_trans (Nat.mul_le_mul_right _ (fndL_len kind _ _)) (by rw [← hx]; exact hl))) gf98 rfl rfl ⟨rfl, rfl, trivial⟩ rfl ?_
    rintro o' H' ⟨rfl, rfl⟩
    conv => whnf
    exact again (i + 1, fnd kind ks[i] acc') (by simp; omega) ⟨by simp; omega, hx⟩ (weak_of rfl (by repeat ((conv => whnf); first | exact trivial | refine And.intro rfl ?_ | refine And.intro (incD (by omega)) ?_)) (by repeat ((conv => whnf); first | exact trivial | refine And.intro rfl ?_ | refine And.intro (incD (by omega)) ?_)))
  · have hb := of_decide_eq_false hb
    conv => whnf
    rw [hx, List.drop_eq_nil_of_le (by omega)]
    exact ⟨rfl, rfl⟩
end Go.Proofs.YtmjjajhkokdikaaGreat.Ty

/- What a type holds: found, Stamps, Metas, Gens, Closed. -/
namespace Go.Proofs.YtmjjajhkokdikaaGreat.Ty
open Go.Vx Go.Vc Go.RowKit

theorem found_fn (kind : Int) (t : Tp) (hl : (fnd kind t []).length * 8 ≤ LB) : FnR Tryz.prog G0 61 [dT t, .int .i64 kind] (dI (fnd kind t [])) := by
  refine fnQ_of_vc txok mixed [] Tryz.func61 rfl rfl (by simp) fun b => ?_
  conv => whnf
  refine weakC _ (weak_nlC 1 1 3 8 1 rfl rfl) ?_
  refine callT [1, 2] (walk_tri kind t [] hl) gf98 rfl rfl ⟨rfl, rfl, trivial⟩ rfl ?_
  rintro o' H' ⟨rfl, rfl⟩
  conv => whnf

theorem stamps_fn (t : Tp) (hl : (fnd 6 t []).length * 8 ≤ LB) : FnR Tryz.prog G0 24 [dT t] (dI (fnd 6 t [])) := by
  refine fnQ_of_vc txok mixed [] Tryz.func24 rfl rfl (by simp) fun b => ?_
  conv => whnf
  exact callF (found_fn 6 t hl) gf61 rfl rfl rfl
theorem metas_fn (t : Tp) (hl : (fnd 7 t []).length * 8 ≤ LB) : FnR Tryz.prog G0 80 [dT t] (dI (fnd 7 t [])) := by
  refine fnQ_of_vc txok mixed [] Tryz.func80 rfl rfl (by simp) fun b => ?_
  conv => whnf
  exact callF (found_fn 7 t hl) gf61 rfl rfl rfl
theorem gens_fn (t : Tp) (hl : (fnd 8 t []).length * 8 ≤ LB) : FnR Tryz.prog G0 115 [dT t] (dI (fnd 8 t [])) := by
  refine fnQ_of_vc txok mixed [] Tryz.func115 rfl rfl (by simp) fun b => ?_
  conv => whnf
  exact callF (found_fn 8 t hl) gf61 rfl rfl rfl
end Go.Proofs.YtmjjajhkokdikaaGreat.Ty

/- Small numbers in decimal digits. -/
namespace Go.Proofs.YtmjjajhkokdikaaGreat.Ty
open Go.Vx Go.Vc Go.RowKit

end Go.Proofs.YtmjjajhkokdikaaGreat.Ty

/- The text of a type. -/
namespace Go.Proofs.YtmjjajhkokdikaaGreat.Ty
open Go.Vx Go.Vc Go.RowKit

mutual
/-- The numbers of a type, in its text. -/
def numsT (p : Int → Prop) : Tp → Prop
  | .mk k n ks => (k = 6 → p n) ∧ (k = 7 → p n) ∧ (k = 8 → 26 ≤ n → p (IntKind.i64.wrap (n.tdiv 26))) ∧ numsL p ks
def numsL (p : Int → Prop) : List Tp → Prop
  | [] => True
  | t :: r => numsT p t ∧ numsL p r
end
end Go.Proofs.YtmjjajhkokdikaaGreat.Ty

/- How many nodes a type has. -/
namespace Go.Proofs.YtmjjajhkokdikaaGreat.Ty
open Go.Vx Go.Vc Go.RowKit

def cntD (n most : Nat) : D := .tup [.int .i64 (cutN n most), .bool (decide (n ≤ most))]
theorem count_fn : ∀ (t : Tp) (most : Nat), most ≤ 1000000 → FnR Tryz.prog G0 109 [dT t, .int .i64 most] (cntD (szT t) most) := by
  refine Tp.ind fun k n ks ih most hm => ?_
  refine fnQ_sz fun hs => ?_
  have hl := (szOk_T (t := .mk k n ks) hs.1).1
  simp only [mk_kids, LB] at hl
  have hsz : szT (.mk k n ks) = szL ks + 1 := by simp only [szT]
  refine fnQ_of_vc txok mixed [] Tryz.func109 rfl rfl (by simp) fun b => ?_
  conv => whnf
  refine And.intro (fun h => ?_) (fun h => ?_)
  · have h := of_decide_eq_true h
    conv => whnf
    rw [cntD, cutN, if_neg (by omega), decide_eq_false (by omega)]
    have : (most + 1 : Nat) = 1 := by omega
    rw [this]; rfl
  · have h := of_decide_eq_false h
    conv => whnf
    refine loopH (fun i : Nat => i ≤ ks.length ∧ 1 + szL (ks.take i) ≤ most) (fun i => ks.length - i) (fun i => [(18, .d (.int .i64 i)), (6, .d (.int .i64 ((1 + szL (ks.take i) : Nat) : Int)))]) (fun _ => [(0, .blk 24 [.d (.int .i64 k), .d (.int .i64 n), .d (dK ks)])]) 1 0 ⟨by omega, by simp [szL]; omega⟩ (weak_of rfl (by repeat ((conv => whnf); first | exact trivial | refine And.intro rfl ?_ | refine And.intro (incD (by omega)) ?_)) (by repeat ((conv => whnf); first | exact trivial | refine And.intro rfl ?_ | refine And.intro (incD (by omega)) ?_))) ?_
    rintro i ⟨hi, hx⟩
    conv => whnf
    simp only [mk_kids]
    refine And.intro (fun hb => ?_) (fun hb => ?_)
    · have hb := of_decide_eq_true hb
      have hil : i < ks.length := by omega
      have ht := szL_take hil
      have hle := szL_take_le ks (i + 1)
      conv => whnf
      refine IdxC.encK i hil rfl ?_
      conv => whnf
      have e1 : IntKind.i64.wrap ((most : Int) - ((1 + szL (ks.take i) : Nat) : Int)) = ((most - (1 + szL (ks.take i)) : Nat) : Int) := by
        exact (Go.Vc.wrap_small (a := (most : Int) - ((1 + szL (ks.take i) : Nat) : Int)) (by omega) (by omega)).trans (by omega)
      rw [e1]
      refine callF (ih ks[i] (by simp) (most - (1 + szL (ks.take i))) (by omega)) gf109 rfl rfl ?_
      conv => whnf
      have hw : ∀ c : Nat, c ≤ most - (1 + szL (ks.take i)) + 1 → IntKind.i64.wrap (((1 + szL (ks.take i) : Nat) : Int) + (c : Int)) = ((1 + szL (ks.take i) + c : Nat) : Int) := fun c hc =>
        (Go.Vc.wrap_small (a := ((1 + szL (ks.take i) : Nat) : Int) + (c : Int)) (by omega) (by omega)).trans (by omega)
      refine And.intro (fun h2 => ?_) (fun h2 => ?_)
      · have h2 : ¬ szT ks[i] ≤ most - (1 + szL (ks.take i)) := by simpa using h2
        conv => whnf
        rw [cntD, cutN, if_neg h2, hw _ (Nat.le_refl _), cutN, if_neg (by omega), decide_eq_false (by omega)]
        have : 1 + szL (ks.take i) + (most - (1 + szL (ks.take i)) + 1) = most + 1 := by omega
        rw [this]
      · have h2 : szT ks[i] ≤ most - (1 + szL (ks.take i)) := by simpa using h2
        conv => whnf
        rw [cutN, if_pos h2, hw _ (by omega), show 1 + szL (ks.take i) + szT ks[i] = 1 + szL (ks.take (i + 1)) from by omega]
        exact again (i + 1) (by omega) ⟨by omega, by omega⟩ (weak_of rfl (by repeat ((conv => whnf); first | exact trivial | refine And.intro rfl ?_ | refine And.intro (incD (by omega)) ?_)) (by repeat ((conv => whnf); first | exact trivial | refine And.intro rfl ?_ | refine And.intro (incD (by omega)) ?_)))
    · have hb := of_decide_eq_false hb
      have : i = ks.length := by omega
      subst this
      rw [List.take_length] at hx ⊢
      conv => whnf
      rw [cntD, cutN, if_pos (by omega), decide_eq_true (by omega), hsz, Nat.add_comm 1]
end Go.Proofs.YtmjjajhkokdikaaGreat.Ty

/- Copies; how great what replacing makes is; what it makes. -/
namespace Go.Proofs.YtmjjajhkokdikaaGreat.Ty
open Go.Vx Go.Vc Go.RowKit

theorem sclone_tri (l : List Tp) : Tri Tryz.prog G0 111 0 1 [.d (dK l)] [] (fun o H' => o = .ret (.row 0) ∧ H' = [(0, .row 24 40 3 l.length (encK l))]) := by
  refine tri_sz fun hs => ?_
  have hl := (szOk_sl (hs (.d (dK l)) (by simp))).1
  refine triNil (args := [.d (dK l)]) (Q := fun o H' => (o = .ret (.row 0) ∧ H' = [(0, .row 24 40 3 l.length (encK l))]) ∨ (o = .ret .nl ∧ l = [])) 24 40 3 ?_ ?_
  · refine tri_of_vc (args := [.d (dK l)]) txok mixed [0] [] Tryz.func111 rfl rfl (by simp) fun b => ?_
    conv => whnf
    intro c hc
    conv => whnf
    refine And.intro (fun h => ?_) (fun h => ?_)
    · conv => whnf
      exact .inr ⟨rfl, List.eq_nil_of_length_eq_zero (hc h)⟩
    · conv => whnf
      refine appR (i := 0) (sz := 3) (n := 0) (m := l.length) (xs := []) (ys := encK l) txok (fun _ => false) l.length (encK l) rfl rfl rfl (by kernel_rfl) (encK_len l) (encK_scal l) (by simp) (by simp) hl ?_
      conv => whnf
      exact .inl ⟨rfl, rfl⟩
  · rintro o H' (h | ⟨rfl, rfl⟩)
    · exact .inl h
    · exact .inr ⟨rfl, rfl, rfl⟩

theorem cutN_add {a most : Nat} (s : Nat) (h : a ≤ most) : a + cutN s (most - a) = cutN (a + s) most := by
  unfold cutN; split <;> split <;> omega
theorem cutN_le (n most : Nat) : cutN n most ≤ most + 1 := by unfold cutN; split <;> omega
theorem cutN_gt {n most : Nat} (h : most < cutN n most) : most < n := by unfold cutN at h; split at h <;> omega
theorem cutN_big {n most : Nat} (h : most < n) : cutN n most = most + 1 := by unfold cutN; rw [if_neg (by omega)]
theorem cutN_small {n most : Nat} (h : n ≤ most) : cutN n most = n := by unfold cutN; rw [if_pos h]
abbrev dP (kind : Int) (fr : List Int) (to : List Tp) : D := .agg [.int .i64 kind, dI fr, dK to]
theorem psize_fn (kind : Int) (fr : List Int) (to : List Tp) (hft : fr.length = to.length) : ∀ (t : Tp) (most : Nat), most ≤ 1000000 → FnR Tryz.prog G0 69 [dP kind fr to, dT t, .int .i64 most] (.int .i64 (cutN (szT (sub kind (tbl fr to) t)) most)) := by
  refine Tp.ind fun k n ks ih most hm => ?_
  refine fnQ_sz fun hs => ?_
  have hl := (szOk_T (t := .mk k n ks) hs.2.1).1
  simp only [mk_kids, LB] at hl
  obtain ⟨q1, q2⟩ := tbl_idx fr to n 0 (by omega) (by omega)
  have hsub : ¬ (k = kind ∧ 0 ≤ idxFrom fr n 0) → sub kind (tbl fr to) (.mk k n ks) = .mk k n (subL kind (tbl fr to) ks) := by
    intro h
    rw [sub]
    by_cases hk : k = kind
    · rw [if_pos hk, q1 (by rcases Int.lt_or_le (idxFrom fr n 0) 0 with h' | h'; exact h'; exact absurd ⟨hk, h'⟩ h)]
    · rw [if_neg hk]
  refine fnQ_of_vc txok mixed [(100006, .done)] Tryz.func69 rfl rfl (by simp) fun b => ?_
  conv => whnf
  refine CutC.mk (fun st => ¬ (k = kind ∧ 0 ≤ idxFrom fr n 0) ∧ st = ⟨[(2, .d (.int .i64 most)), (3, .own 0 0), (4, .own 1 0)], [(0, .blk 101 [.d (.int .i64 kind), .d (dI fr), .d (dK to)]), (1, .blk 24 [.d (.int .i64 k), .d (.int .i64 n), .d (dK ks)])], 2⟩) ?_ ?_
  · conv => whnf
    simp only [mk_k]
    refine And.intro (fun hk => ?_) (fun hk => ?_)
    · have hk := eq_of_beq hk
      conv => whnf
      refine callF (index_fn fr n) gf108 rfl rfl ?_
      conv => whnf
      refine And.intro (fun hp => ?_) (fun hp => ?_)
      · have hp := of_decide_eq_true hp
        obtain ⟨q, q3, q4, q5⟩ := q2 (by omega)
        have hq : q < to.length := by omega
        rw [List.getElem?_eq_getElem hq] at q5
        have hsb : sub kind (tbl fr to) (.mk k n ks) = to[q] := by rw [sub, if_pos hk, q5]
        conv => whnf
        refine IdxC.encK q hq (by rw [q3]; omega) ?_
        conv => whnf
        refine callF (count_fn to[q] most hm) gf109 rfl rfl ?_
        conv => whnf
        rw [hsb]
      · have hp := of_decide_eq_false hp
        conv => whnf
        exact ⟨_, ⟨fun h => hp h.2, rfl⟩, weak_of rfl (by repeat ((conv => whnf); first | exact trivial | refine And.intro rfl ?_ | refine And.intro (incD (by omega)) ?_)) (by repeat ((conv => whnf); first | exact trivial | refine And.intro rfl ?_ | refine And.intro (incD (by omega)) ?_))⟩
    · have hk : k ≠ kind := by simpa using hk
      conv => whnf
      exact ⟨_, ⟨fun h => hk h.1, rfl⟩, weak_of rfl (by repeat ((conv => whnf); first | exact trivial | refine And.intro rfl ?_ | refine And.intro (incD (by omega)) ?_)) (by repeat ((conv => whnf); first | exact trivial | refine And.intro rfl ?_ | refine And.intro (incD (by omega)) ?_))⟩
  · rintro st' ⟨hno, rfl⟩
    have hsub := hsub hno
    have hlen : (subL kind (tbl fr to) ks).length = ks.length := by rw [subL_map, List.length_map]
    have hsz : szT (sub kind (tbl fr to) (.mk k n ks)) = szL (subL kind (tbl fr to) ks) + 1 := by rw [hsub, szT]
    generalize hks' : subL kind (tbl fr to) ks = ks' at *
    have hget : ∀ (i : Nat) (h : i < ks.length) (h' : i < ks'.length), ks'[i] = sub kind (tbl fr to) ks[i] := by
      intro i h h'; subst hks'; simp [subL_map]
    conv => whnf
    refine loopH (fun i : Nat => i ≤ ks.length) (fun i => ks.length - i) (fun i => [(39, .d (.int .i64 i)), (10, .d (.int .i64 (cutN (1 + szL (ks'.take i)) most)))]) (fun _ => [(0, .blk 101 [.d (.int .i64 kind), .d (dI fr), .d (dK to)]), (1, .blk 24 [.d (.int .i64 k), .d (.int .i64 n), .d (dK ks)])]) 2 0 (by omega) ?_ ?_
    · have h0 : cutN (1 + szL (ks'.take 0)) most = 1 := by unfold cutN; simp only [List.take_zero, szL]; split <;> omega
      exact weak_of rfl (by repeat ((conv => whnf); first | exact trivial | refine And.intro rfl ?_ | refine And.intro (show SV.d (.int .i64 1) = SV.d (.int .i64 (cutN (1 + szL (ks'.take 0)) most : Nat)) from by rw [h0]; rfl) ?_)) (by repeat ((conv => whnf); first | exact trivial | refine And.intro rfl ?_ | refine And.intro (incD (by omega)) ?_))
    intro i hi
    have hle := szL_take_le ks' i
    conv => whnf
    simp only [mk_kids]
    refine And.intro (fun hb => ?_) (fun hb => ?_)
    · have hb := of_decide_eq_true hb
      have hil : i < ks.length := by omega
      have ht := szL_take (ks := ks') (i := i) (by omega)
      rw [hget i hil (by omega)] at ht
      conv => whnf
      refine IdxC.encK i hil rfl ?_
      conv => whnf
      refine And.intro (fun h => ?_) (fun h => ?_)
      · have h := of_decide_eq_true h
        have := cutN_gt (n := 1 + szL (ks'.take i)) (most := most) (by omega)
        conv => whnf
        rw [cutN_big this, cutN_big (by omega)]
      · have h := of_decide_eq_false h
        have hx : 1 + szL (ks'.take i) ≤ most := by
          rcases Nat.lt_or_ge most (1 + szL (ks'.take i)) with h' | h'
          · rw [cutN_big h'] at h; omega
          · exact h'
        rw [cutN_small hx]
        conv => whnf
        have e1 : IntKind.i64.wrap ((most : Int) - ((1 + szL (ks'.take i) : Nat) : Int)) = ((most - (1 + szL (ks'.take i)) : Nat) : Int) :=
          (Go.Vc.wrap_small (a := (most : Int) - ((1 + szL (ks'.take i) : Nat) : Int)) (by omega) (by omega)).trans (by omega)
        rw [e1]
        refine callF (ih ks[i] (by simp) (most - (1 + szL (ks'.take i))) (by omega)) gf69 rfl rfl ?_
        conv => whnf
        have hc := cutN_le (szT (sub kind (tbl fr to) ks[i])) (most - (1 + szL (ks'.take i)))
        have e2 : IntKind.i64.wrap (((1 + szL (ks'.take i) : Nat) : Int) + ((cutN (szT (sub kind (tbl fr to) ks[i])) (most - (1 + szL (ks'.take i))) : Nat) : Int)) = ((cutN (1 + szL (ks'.take (i + 1))) most : Nat) : Int) := by
          rw [show 1 + szL (ks'.take (i + 1)) = 1 + szL (ks'.take i) + szT (sub kind (tbl fr to) ks[i]) from by omega, ← cutN_add _ hx]
          exact (Go.Vc.wrap_small (a := ((1 + szL (ks'.take i) : Nat) : Int) + ((cutN (szT (sub kind (tbl fr to) ks[i])) (most - (1 + szL (ks'.take i))) : Nat) : Int)) (by omega) (by omega)).trans (by omega)
        rw [e2]
        exact again (i + 1) (by omega) (by omega) (weak_of rfl (by repeat ((conv => whnf); first | exact trivial | refine And.intro rfl ?_ | refine And.intro (incD (by omega)) ?_)) (by repeat ((conv => whnf); first | exact trivial | refine And.intro rfl ?_ | refine And.intro (incD (by omega)) ?_)))
    · have hb := of_decide_eq_false hb
      have hi : i = ks'.length := by omega
      subst hi
      rw [List.take_length]
      conv => whnf
      rw [hsz, Nat.add_comm 1]
end Go.Proofs.YtmjjajhkokdikaaGreat.Ty

/- What replacing makes. -/
namespace Go.Proofs.YtmjjajhkokdikaaGreat.Ty
open Go.Vx Go.Vc Go.RowKit

theorem sub_none (kind : Int) (σ : Int → Option Tp) (h : ∀ n, σ n = none) : ∀ t, sub kind σ t = t := by
  refine Tp.ind fun k n ks ih => ?_
  rw [sub, subL_map]
  have : (if k = kind then σ n else none) = none := by split <;> simp [h]
  rw [this]
  simp only
  congr 1
  exact (List.map_congr_left ih).trans (List.map_id ks)
/-- The first ones replaced. -/
def mixL (kind : Int) (σ : Int → Option Tp) (ks : List Tp) (i : Nat) : List Tp := subL kind σ (ks.take i) ++ ks.drop i
theorem mixL_len (kind : Int) (σ : Int → Option Tp) (ks : List Tp) (i : Nat) : (mixL kind σ ks i).length = ks.length := by
  simp [mixL, subL_map]; omega
theorem mixL_get {kind : Int} {σ : Int → Option Tp} {ks : List Tp} {i : Nat} (h : i < ks.length) (h' : i < (mixL kind σ ks i).length) : (mixL kind σ ks i)[i] = ks[i] := by
  simp only [mixL, subL_map]
  rw [List.getElem_append_right (by simp; omega)]
  simp [Nat.min_eq_left (Nat.le_of_lt h)]
theorem mixL_set {kind : Int} {σ : Int → Option Tp} {ks : List Tp} {i : Nat} (h : i < ks.length) : (mixL kind σ ks i).set i (sub kind σ ks[i]) = mixL kind σ ks (i + 1) := by
  simp only [mixL, subL_map]
  rw [List.set_append_right _ _ (by simp; omega)]
  simp only [List.length_map, List.length_take, Nat.min_eq_left (Nat.le_of_lt h), Nat.sub_self]
  rw [List.drop_eq_getElem_cons h, List.set_cons_zero, List.take_succ_eq_append_getElem h, List.map_append, List.append_assoc]
  rfl
theorem mixL_zero (kind : Int) (σ : Int → Option Tp) (ks : List Tp) : mixL kind σ ks 0 = ks := by simp [mixL, subL]
theorem mixL_all (kind : Int) (σ : Int → Option Tp) (ks : List Tp) : mixL kind σ ks ks.length = subL kind σ ks := by simp [mixL]
theorem encK_set (l : List Tp) (i : Nat) (hi : i < l.length) (x : Tp) : ovl (encK l) (i * 3) (encT x) = encK (l.set i x) := by
  rw [encK_eq, encK_eq]; exact fl_set encT_len l i hi x

abbrev putH (kind : Int) (fr : List Int) (to : List Tp) (k n : Int) (ks ms : List Tp) : Hp :=
  [(0, .blk 101 [.d (.int .i64 kind), .d (dI fr), .d (dK to)]), (1, .blk 24 [.d (.int .i64 k), .d (.int .i64 n), .row 3]), (2, .blk 24 [.d (.int .i64 0), .d (.int .i64 0), .nl]), (3, .row 24 40 3 ks.length (encK ms))]
theorem put0_fn (kind : Int) (fr : List Int) (to : List Tp) (hft : fr.length = to.length) (hcl : ∀ (q : Nat) (h : q < to.length), FnR Tryz.prog G0 110 [dT to[q]] (dT to[q])) : ∀ t : Tp, FnR Tryz.prog G0 70 [dP kind fr to, dT t] (dT (sub kind (tbl fr to) t)) := by
  refine Tp.ind fun k n ks ih => ?_
  refine fnQ_sz fun hs => ?_
  have hl := (szOk_T (t := .mk k n ks) hs.2.1).1
  simp only [mk_kids, LB] at hl
  obtain ⟨q1, q2⟩ := tbl_idx fr to n 0 (by omega) (by omega)
  have hsub : ¬ (k = kind ∧ 0 ≤ idxFrom fr n 0) → sub kind (tbl fr to) (.mk k n ks) = .mk k n (subL kind (tbl fr to) ks) := by
    intro h
    rw [sub]
    by_cases hk : k = kind
    · rw [if_pos hk, q1 (by rcases Int.lt_or_le (idxFrom fr n 0) 0 with h' | h'; exact h'; exact absurd ⟨hk, h'⟩ h)]
    · rw [if_neg hk]
  refine fnQ_of_vc txok mixed ((100005, .done) :: [(9, .pure 0 (.take 1 (.pure 2 (.take 3 (.take 4 (.run 5 (.pure 6 (.fin 7 .done))))))))]) Tryz.func70 rfl rfl (by simp) fun b => ?_
  conv => whnf
  refine CutC.mk (fun st => ¬ (k = kind ∧ 0 ≤ idxFrom fr n 0) ∧ st = ⟨[(2, .own 0 0), (3, .own 1 0), (4, .own 2 0)], [(0, .blk 101 [.d (.int .i64 kind), .d (dI fr), .d (dK to)]), (1, .blk 24 [.d (.int .i64 k), .d (.int .i64 n), .d (dK ks)]), (2, .blk 24 [.d (.int .i64 0), .d (.int .i64 0), .nl])], 3⟩) ?_ ?_
  · conv => whnf
    simp only [mk_k]
    refine And.intro (fun hk => ?_) (fun hk => ?_)
    · have hk := eq_of_beq hk
      conv => whnf
      refine callF (index_fn fr n) gf108 rfl rfl ?_
      conv => whnf
      refine And.intro (fun hp => ?_) (fun hp => ?_)
      · have hp := of_decide_eq_true hp
        obtain ⟨q, q3, q4, q5⟩ := q2 (by omega)
        have hq : q < to.length := by omega
        rw [List.getElem?_eq_getElem hq] at q5
        have hsb : sub kind (tbl fr to) (.mk k n ks) = to[q] := by rw [sub, if_pos hk, q5]
        conv => whnf
        refine IdxC.encK q hq (by rw [q3]; omega) ?_
        conv => whnf
        refine callF (hcl q hq) gf110 rfl rfl ?_
        conv => whnf
        rw [hsb]
        rfl
      · have hp := of_decide_eq_false hp
        conv => whnf
        exact ⟨_, ⟨fun h => hp h.2, rfl⟩, weak_of rfl (by repeat ((conv => whnf); first | exact trivial | refine And.intro rfl ?_ | refine And.intro (incD (by omega)) ?_)) (by repeat ((conv => whnf); first | exact trivial | refine And.intro rfl ?_ | refine And.intro (incD (by omega)) ?_))⟩
    · have hk : k ≠ kind := by simpa using hk
      conv => whnf
      exact ⟨_, ⟨fun h => hk h.1, rfl⟩, weak_of rfl (by repeat ((conv => whnf); first | exact trivial | refine And.intro rfl ?_ | refine And.intro (incD (by omega)) ?_)) (by repeat ((conv => whnf); first | exact trivial | refine And.intro rfl ?_ | refine And.intro (incD (by omega)) ?_))⟩
  · rintro st' ⟨hno, rfl⟩
    have hsub := hsub hno
    conv => whnf
    refine callT [] (sclone_tri ks) gf111 rfl rfl trivial rfl ?_
    rintro o' H' ⟨rfl, rfl⟩
    conv => whnf
    refine loopH (fun i : Nat => i ≤ ks.length) (fun i => ks.length - i) (fun i => [(33, .d (.int .i64 i))]) (fun i => putH kind fr to k n ks (mixL kind (tbl fr to) ks i)) 4 0 (by omega) ?_ ?_
    · rw [mixL_zero]
      exact weak_of rfl (by repeat ((conv => whnf); first | exact trivial | refine And.intro rfl ?_ | refine And.intro (incD (by omega)) ?_)) (by repeat ((conv => whnf); first | exact trivial | refine And.intro rfl ?_ | refine And.intro (incD (by omega)) ?_))
    intro i hi
    conv => whnf
    refine And.intro (fun hb => ?_) (fun hb => ?_)
    · have hb := of_decide_eq_true hb
      have hil : i < ks.length := by omega
      have hml := mixL_len kind (tbl fr to) ks i
      conv => whnf
      refine ⟨i, rfl, hil, ?_⟩
      conv => whnf
      refine ⟨encT ks[i], by rw [← mixL_get (kind := kind) (σ := tbl fr to) hil (by omega)]; exact encK_at _ i (by omega), rfl, ?_⟩
      conv => whnf
      refine And.intro (by kernel_rfl) ?_
      conv => whnf
      refine callF (ih ks[i] (by simp)) gf70 rfl rfl ?_
      conv => whnf
      refine ⟨i, rfl, hil, ?_⟩
      conv => whnf
      refine ⟨encK (mixL kind (tbl fr to) ks (i + 1)), ?_, ?_, ?_⟩
      · show i * 3 + 3 ≤ (encK (mixL kind (tbl fr to) ks i)).length
        rw [encK_len, hml]; omega
      · rw [← mixL_set hil]; exact encK_set _ i (by omega) _
      conv => whnf
      exact again (i + 1) (by omega) (by omega) (weak_of rfl (by repeat ((conv => whnf); first | exact trivial | refine And.intro rfl ?_ | refine And.intro (incD (by omega)) ?_)) (by repeat ((conv => whnf); first | exact trivial | refine And.intro rfl ?_ | refine And.intro (incD (by omega)) ?_)))
    · have hb := of_decide_eq_false hb
      have hi : i = ks.length := by omega
      subst hi
      rw [mixL_all]
      conv => whnf
      rw [hsub]
      simp only [dT, encT, mk_k, mk_n, mk_kids]
      rw [show (subL kind (tbl fr to) ks).length = ks.length from by rw [subL_map, List.length_map]]
theorem clone_fn (t : Tp) : FnR Tryz.prog G0 110 [dT t] (dT t) := by
  refine fnQ_of_vc txok mixed [] Tryz.func110 rfl rfl (by simp) fun b => ?_
  conv => whnf
  refine callF (put0_fn 0 [] [] rfl (fun q h => absurd h (Nat.not_lt_zero _)) t) gf70 rfl rfl ?_
  conv => whnf
  rw [sub_none _ _ (fun n => by simp [tbl])]
  rfl
theorem put_fn (kind : Int) (fr : List Int) (to : List Tp) (hft : fr.length = to.length) (t : Tp) : FnR Tryz.prog G0 70 [dP kind fr to, dT t] (dT (sub kind (tbl fr to) t)) :=
  put0_fn kind fr to hft (fun q h => clone_fn to[q]) t
def tp0 : Tp := .mk 0 0 []
def repl (t : Tp) (kind : Int) (fr : List Int) (to : List Tp) : Tp × Int :=
  if fr.length = to.length then (if szT (sub kind (tbl fr to) t) ≤ 1000 then (sub kind (tbl fr to) t, 0) else (tp0, 3)) else (tp0, 1)
def replD (r : Tp × Int) : D := .tup [dT r.1, .int .i64 r.2]
theorem replace_fn (t : Tp) (kind : Int) (fr : List Int) (to : List Tp) : FnR Tryz.prog G0 30 [dT t, .int .i64 kind, dI fr, dK to] (replD (repl t kind fr to)) := by
  refine fnQ_of_vc txok mixed [] Tryz.func30 rfl rfl (by simp) fun b => ?_
  conv => whnf
  refine And.intro (fun h => ?_) (fun h => ?_)
  · have h : fr.length ≠ to.length := by intro e; rw [e] at h; simp at h
    conv => whnf
    rw [repl, if_neg h]
    rfl
  · have h : fr.length = to.length := by
      have : ((fr.length : Int) == (to.length : Int)) = true := by simpa using h
      have := eq_of_beq this; omega
    rw [repl, if_pos h]
    conv => whnf
    refine callF (psize_fn kind fr to h t 1000 (by omega)) gf69 rfl rfl ?_
    conv => whnf
    refine And.intro (fun h2 => ?_) (fun h2 => ?_)
    · have h2 := of_decide_eq_true h2
      have := cutN_gt (n := szT (sub kind (tbl fr to) t)) (most := 1000) (by omega)
      rw [if_neg (by omega)]
      conv => whnf
      rfl
    · have h2 := of_decide_eq_false h2
      have : szT (sub kind (tbl fr to) t) ≤ 1000 := by
        rcases Nat.lt_or_ge 1000 (szT (sub kind (tbl fr to) t)) with h' | h'
        · rw [cutN_big h'] at h2; omega
        · exact h'
      rw [if_pos this]
      conv => whnf
      refine callF (put_fn kind fr to h t) gf70 rfl rfl ?_
      conv => whnf
      rfl
end Go.Proofs.YtmjjajhkokdikaaGreat.Ty

/- alive: the chapter's examples. -/
namespace Go.Proofs.YtmjjajhkokdikaaGreat.Ty
open Go.Vx Go.Vc Go.RowKit

def itS (n : Int) : ByteArray := bs [UInt8.ofNat (48 + n.toNat)]
def tA : Tp := .mk 4 0 [.mk 4 0 [.mk 1 0 [], .mk 2 0 []], .mk 5 0 [.mk 3 0 [], .mk 6 3 []]]
def bsA : ByteArray := bs [40, 105, 110, 116, 32, 45, 62, 32, 98, 111, 111, 108, 41, 32, 45, 62, 32, 117, 110, 105, 116, 32, 42, 32, 35, 51]
theorem txtA : txt itS tA = bsA := by kernel_rfl
theorem txtG : txt itS (.mk 8 26 []) = bs [39, 97, 49] := by kernel_rfl
theorem replA : repl (.mk 4 0 [.mk 6 1 [], .mk 6 2 []]) 6 [1, 2] [.mk 6 2 [], .mk 1 0 []] = (.mk 4 0 [.mk 6 2 [], .mk 1 0 []], 0) := by kernel_rfl
end Go.Proofs.YtmjjajhkokdikaaGreat.Ty

/- low, Closed, typ. -/
set_option linter.unusedSimpArgs false
set_option linter.unusedVariables false
namespace Go.Proofs.YtmjjajhkokdikaaGreat
open Go.Vx Go.Vc Go.RowKit

def idxP (p : Int → Bool) : List Int → Int → Int
  | [], _ => -1
  | x :: r, i => if p x = true then i else idxP p r (i + 1)
theorem idxP_nonneg (p : Int → Bool) : ∀ (l : List Int) (i : Int), 0 ≤ i → (0 ≤ idxP p l i ↔ l.any p = true)
  | [], i, h => by simp [idxP]
  | x :: r, i, h => by
    rw [idxP, List.any_cons]
    cases hp : p x
    · simp only [Bool.false_eq_true, if_false, Bool.false_or]
      exact idxP_nonneg p r (i + 1) (by omega)
    · simp [h]
theorem lowc_fn (n : Int) : FnR Tryz.prog G0 117 [.int .i64 n] (.bool (decide (n > 2147483647))) := by
  refine fnQ_of_vc txok mixed [] Tryz.func117 rfl rfl (by simp) fun b => ?_
  conv => whnf
theorem indexP_fn (l : List Int) : FnR Tryz.prog G0 152 [dI l, .fn 117 [] []] (.int .i64 (idxP (fun n => decide (n > 2147483647)) l 0)) := by
  refine fnQ_sz fun hs => ?_
  have hl := (szOk_sl hs.1).1
  simp only [LB] at hl
  refine fnQ_of_vc txok mixed [] Tryz.func152 rfl rfl (by simp) fun b => ?_
  conv => whnf
  generalize hp : (fun n : Int => decide (n > 2147483647)) = p
  refine loopH (fun i : Nat => i ≤ l.length ∧ idxP p l 0 = idxP p (l.drop i) i) (fun i => l.length - i) (fun i => [(8, .d (.int .i64 i))]) (fun _ => []) 0 0 ⟨by omega, rfl⟩ (weak_of rfl (by repeat ((conv => whnf); first | exact trivial | refine And.intro rfl ?_ | refine And.intro (incD (by omega)) ?_)) (by repeat ((conv => whnf); first | exact trivial | refine And.intro rfl ?_ | refine And.intro (incD (by omega)) ?_))) ?_
  rintro i ⟨hi, hx⟩
  conv => whnf
  refine And.intro (fun hb => ?_) (fun hb => ?_)
  · have hb := of_decide_eq_true hb
    have hil : i < l.length := by omega
    rw [List.drop_eq_getElem_cons hil, idxP] at hx
    conv => whnf
    refine IdxC.encI i hil rfl ?_
    conv => whnf
    refine callF (lowc_fn l[i]) gf117 rfl rfl ?_
    conv => whnf
    refine And.intro (fun he => ?_) (fun he => ?_)
    · conv => whnf
      rw [hx, if_pos (by rw [← hp]; exact he)]
    · conv => whnf
      rw [if_neg (by rw [← hp]; simp [he])] at hx
      exact again (i + 1) (by omega) ⟨by omega, by rw [hx]; rfl⟩ (weak_of rfl (by repeat ((conv => whnf); first | exact trivial | refine And.intro rfl ?_ | refine And.intro (incD (by omega)) ?_)) (by repeat ((conv => whnf); first | exact trivial | refine And.intro rfl ?_ | refine And.intro (incD (by omega)) ?_)))
  · have hb := of_decide_eq_false hb
    conv => whnf
    rw [hx, List.drop_eq_nil_of_le (by omega)]; rfl
def lowT (t : Tp) : Bool := !(fnd 6 t []).any fun n => decide (n > 2147483647)
theorem low_fn (t : Tp) (hl : (fnd 6 t []).length * 8 ≤ LB) : FnR Tryz.prog G0 75 [dT t] (.bool (lowT t)) := by
  refine fnQ_of_vc txok mixed [] Tryz.func75 rfl rfl (by simp) fun b => ?_
  conv => whnf
  refine callF (Ty.stamps_fn t hl) gf24 rfl rfl ?_
  conv => whnf
  have hc : FnR Tryz.prog G0 116 [dI (fnd 6 t []), .fn 117 [] []] (.bool ((fnd 6 t []).any fun n => decide (n > 2147483647))) := by
    refine fnQ_of_vc txok mixed [] Tryz.func116 rfl rfl (by simp) fun b => ?_
    conv => whnf
    refine callF (indexP_fn _) gf152 rfl rfl ?_
    conv => whnf
    refine congrArg D.bool ?_
    rw [Bool.eq_iff_iff, decide_eq_true_iff]
    exact idxP_nonneg _ _ 0 (by omega)
  refine callF hc gf116 rfl rfl ?_
  conv => whnf
  try exact rfl
def closedT (t : Tp) : Bool := ((((fnd 7 t []).length : Int) + (fnd 8 t []).length) == 0)
theorem closed_fn (t : Tp) (h7 : (fnd 7 t []).length < 1099511627776) (h8 : (fnd 8 t []).length < 1099511627776) : FnR Tryz.prog G0 74 [dT t] (.bool (closedT t)) := by
  refine fnQ_of_vc txok mixed [(1, .take 0 (.take 3 (.run 1 (.pure 2 (.fin 4 (.pure 5 (.pure 6 (.pure 7 (.pure 8 .done)))))))))] Tryz.func74 rfl rfl (by simp) fun b => ?_
  conv => whnf
  refine And.intro (by kernel_rfl) ?_
  conv => whnf
  refine callF (Ty.metas_fn t (by simp only [LB]; omega)) gf80 rfl rfl ?_
  conv => whnf
  refine callF (Ty.gens_fn t (by simp only [LB]; omega)) gf115 rfl rfl ?_
  conv => whnf
  refine congrArg D.bool ?_
  rw [Go.Vc.wrap_small (by omega) (by omega)]
  rfl
end Go.Proofs.YtmjjajhkokdikaaGreat

/- typ. -/
set_option linter.unusedSimpArgs false
set_option linter.unusedVariables false
namespace Go.Proofs.YtmjjajhkokdikaaGreat
open Go.Vx Go.Vc Go.RowKit

theorem noms_iff (l : List Tp) : noms l = true ↔ ∀ t ∈ l, nom t = true := by
  induction l with
  | nil => simp [noms]
  | cons t r ih => simp [noms, ih]
theorem nom_of : ∀ (t : Tp) (acc : List Int), fnd 7 t acc = [] → acc = [] ∧ nom t = true := by
  refine Tp.ind fun k n ks ih acc h => ?_
  rw [fnd] at h
  have key : ∀ (l : List Tp) (a : List Int), (∀ t ∈ l, t ∈ ks) → fndL 7 l a = [] → a = [] ∧ noms l = true := by
    intro l
    induction l with
    | nil => intro a _ h; exact ⟨by simpa [fndL] using h, rfl⟩
    | cons t r ihl =>
      intro a hm h
      rw [fndL] at h
      obtain ⟨h1, h2⟩ := ihl _ (fun u hu => hm u (by simp [hu])) h
      obtain ⟨h3, h4⟩ := ih t (hm t (by simp)) a h1
      exact ⟨h3, by rw [noms, h4, h2]; rfl⟩
  obtain ⟨h1, h2⟩ := key _ _ (fun _ h => h) h
  by_cases hk : k = 7 ∧ n ∉ acc
  · rw [if_pos hk] at h1; simp at h1
  · rw [if_neg hk] at h1
    refine ⟨h1, ?_⟩
    subst h1
    rw [nom, Bool.and_eq_true, decide_eq_true_eq]
    exact ⟨fun h7 => hk ⟨h7, by simp⟩, h2⟩
def okT (t : Tp) : Bool := right t && closedT t && lowT t
theorem okT_nom {t : Tp} (h : okT t = true) : nom t = true ∧ right t = true := by
  unfold okT closedT at h
  simp only [Bool.and_eq_true, beq_iff_eq] at h
  obtain ⟨⟨h1, h2⟩, _⟩ := h
  exact ⟨(nom_of t [] (List.eq_nil_of_length_eq_zero (by omega))).2, h1⟩
/-- The sizes of what is collected. -/
def SzT (t : Tp) : Prop := (fnd 6 t []).length < 1099511627776 ∧ (fnd 7 t []).length < 1099511627776 ∧ (fnd 8 t []).length < 1099511627776
theorem typ_out (t : Tp) (hs : SzT t) : FnQ Tryz.prog G0 34 [dT t] (fun o => o = if okT t = true then .ret (dG (turnG 0 t)) else .pan (badD 1)) := by
  obtain ⟨s6, s7, s8⟩ := hs
  have hlow := low_fn t (by simp only [LB]; omega)
  have hcl := closed_fn t s7 s8
  have hok : okT t = (right t && closedT t && lowT t) := rfl
  refine fnQ_of_vc txok mixed [] Tryz.func34 rfl rfl (by simp) fun b => ?_
  conv => whnf
  refine callF (Ty.right_fn t) gf73 rfl rfl ?_
  repeat' ((conv => whnf); first
    | refine And.intro (fun h => ?_) (fun h => ?_)
    | refine callF hcl gf74 rfl rfl ?_
    | refine callF hlow gf75 rfl rfl ?_)
  all_goals try (conv => whnf)
  · cases hlo : lowT t
    · refine callQ rfl rfl gf51 (ask_pan 1 (by decide)) ?_
      rintro o rfl
      show DOut.pan (badD 1) = if okT t = true then _ else _
      rw [if_neg (by rw [hok, hlo]; simp)]
    · have ho : okT t = true := by rw [hok, hlo]; simp [*]
      obtain ⟨n1, n2⟩ := okT_nom ho
      refine callF (ask_fn 1) gf51 rfl rfl ?_
      conv => whnf
      refine callF (turn_fn 0 t n1 n2) gf76 rfl rfl ?_
      conv => whnf
      rw [if_pos ho]
      rfl
  all_goals
    refine callQ rfl rfl gf51 (ask_pan 1 (by decide)) ?_
    rintro o rfl
    show DOut.pan (badD 1) = if okT t = true then _ else _
    rw [if_neg (by rw [hok]; simp_all)]
end Go.Proofs.YtmjjajhkokdikaaGreat

/- arg, con. -/
set_option linter.unusedSimpArgs false
set_option linter.unusedVariables false
namespace Go.Proofs.YtmjjajhkokdikaaGreat
open Go.Vx Go.Vc Go.RowKit

/-- A constructor: its name, its arguments' types. -/
abbrev CT := ByteArray × List Tp
def encCT (c : CT) : List D := [.str c.1, dK c.2]
abbrev dCT (c : CT) : D := .agg (encCT c)
def argOut (c : CT) : DOut := match c.2 with
  | [] => .ret (.tup [dG (.mk 3 0 [] []), .bool false])
  | [t] => if okT t = true then .ret (.tup [dG (turnG 0 t), .bool true]) else .pan (badD 1)
  | _ => .pan (badD 1)
theorem arg_out (c : CT) (hs : ∀ t ∈ c.2, SzT t) : FnQ Tryz.prog G0 83 [dCT c] (fun o => o = argOut c) := by
  obtain ⟨nm, ts⟩ := c
  refine fnQ_of_vc txok mixed [] Tryz.func83 rfl rfl (by simp) fun b => ?_
  match ts, hs with
  | [], _ =>
    conv => whnf
    refine callF (ask_fn 1) gf51 rfl rfl ?_
    conv => whnf
    refine And.intro (fun h => ?_) (fun h => by cases h)
    conv => whnf
    refine callF (node_fn 3 []) gf82 rfl rfl ?_
    conv => whnf
    try exact rfl
  | [t], hs =>
    conv => whnf
    refine callF (ask_fn 1) gf51 rfl rfl ?_
    conv => whnf
    refine And.intro (fun h => by cases h) (fun h => ?_)
    conv => whnf
    refine IdxC.encK (l := [t]) 0 (by show 0 < 1; decide) rfl ?_
    conv => whnf
    refine callQ rfl rfl gf34 (typ_out t (hs t (by simp))) ?_
    rintro o rfl
    by_cases ho : okT t = true
    · rw [if_pos ho]
      conv => whnf
      show _ = argOut (nm, [t])
      simp only [argOut, if_pos ho]
      rfl
    · rw [if_neg ho]
      show _ = argOut (nm, [t])
      simp only [argOut, if_neg ho]
  | t :: u :: r, _ =>
    conv => whnf
    have hf : decide ((((nm, t :: u :: r) : CT).2.length : Int) ≤ 1) = false := by
      rw [decide_eq_false_iff_not]; simp only [List.length_cons]; omega
    rw [hf]
    refine callQ rfl rfl gf51 (ask_pan 1 (by decide)) ?_
    rintro o rfl
    exact rfl
def conOut (n : Int) (c : CT) : DOut := match c.2 with
  | [] => .ret (dG (varG n))
  | [t] => if okT t = true then .ret (dG (.mk 4 0 [] [turnG 0 t, varG n])) else .pan (badD 1)
  | _ => .pan (badD 1)
theorem con_out (n : Int) (c : CT) (hs : ∀ t ∈ c.2, SzT t) : FnQ Tryz.prog G0 54 [.int .i64 n, dCT c] (fun o => o = conOut n c) := by
  have ha := arg_out c hs
  obtain ⟨nm, ts⟩ := c
  refine fnQ_of_vc txok mixed [(4, .take 0 (.pure 1 (.run 2 (.fin 3 (.fin 4 (.fin 5 .done))))))] Tryz.func54 rfl rfl (by simp) fun b => ?_
  conv => whnf
  refine callQ rfl rfl gf83 ha ?_
  rintro o rfl
  match ts, ha with
  | [], _ =>
    conv => whnf
    refine And.intro (fun _ => ?_) (fun h => by cases h)
    conv => whnf
    refine callF (variable_fn n) gf86 rfl rfl ?_
    conv => whnf
    try exact rfl
  | [t], _ =>
    by_cases ho : okT t = true
    · have e : argOut (nm, [t]) = .ret (.tup [dG (turnG 0 t), .bool true]) := by simp only [argOut, if_pos ho]
      rw [e]
      have hres : conOut n (nm, [t]) = .ret (dG (.mk 4 0 [] [turnG 0 t, varG n])) := by simp only [conOut, if_pos ho]
      rw [hres]
      generalize turnG 0 t = ta
      obtain ⟨k1, n1, l1, m1⟩ := ta
      conv => whnf
      refine And.intro (fun h => by cases h) (fun _ => ?_)
      conv => whnf
      refine And.intro (by kernel_rfl) ?_
      conv => whnf
      refine callF (variable_fn n) gf86 rfl rfl ?_
      conv => whnf
      refine pubC (fun i => Nat.beq i 3) ?_
      conv => whnf
      refine callF (node_fn 4 [.mk k1 n1 l1 m1, varG n]) gf82 rfl rfl ?_
      conv => whnf
      try exact rfl
    · have e : argOut (nm, [t]) = .pan (badD 1) := by simp only [argOut, if_neg ho]
      rw [e]
      show _ = conOut n (nm, [t])
      simp only [conOut, if_neg ho]
  | t :: u :: r, _ => exact rfl
end Go.Proofs.YtmjjajhkokdikaaGreat

/- sum. -/
set_option linter.unusedSimpArgs false
set_option linter.unusedVariables false
namespace Go.Proofs.YtmjjajhkokdikaaGreat
open Go.Vx Go.Vc Go.RowKit

theorem encCT_len (c : CT) : (encCT c).length = 2 := rfl
abbrev dCTs (l : List CT) : D := slD 40 l.length (fl encCT l)
def argV (c : CT) : Option TG := match c.2 with
  | [] => some (.mk 3 0 [] [])
  | [t] => if okT t = true then some (turnG 0 t) else none
  | _ => none
theorem argOut_some {c : CT} {a : TG} (h : argV c = some a) : ∃ b, argOut c = .ret (.tup [dG a, .bool b]) := by
  obtain ⟨nm, ts⟩ := c
  match ts with
  | [] => simp only [argV, Option.some.injEq] at h; subst h; exact ⟨_, rfl⟩
  | [t] =>
    simp only [argV] at h
    split at h
    · rename_i ho
      simp only [Option.some.injEq] at h; subst h
      exact ⟨true, by simp only [argOut, if_pos ho]⟩
    · cases h
  | _ :: _ :: _ => simp [argV] at h
theorem argOut_none {c : CT} (h : argV c = none) : argOut c = .pan (badD 1) := by
  obtain ⟨nm, ts⟩ := c
  match ts with
  | [] => simp [argV] at h
  | [t] =>
    simp only [argV] at h
    split at h
    · cases h
    · rename_i ho
      simp only [argOut, if_neg ho]
  | _ :: _ :: _ => rfl
def sumV : List CT → Option (List TG)
  | [] => some []
  | c :: r => match argV c with
    | none => none
    | some a => (sumV r).map (a :: ·)
theorem node_tri (k : Int) : Tri Tryz.prog G0 82 0 0 [.d (.int .i64 k), .nl] [] (fun o H' => o = .ret (.agg [.d (.int .i64 k), .d (.int .i64 0), .nl, .nl]) ∧ H' = []) := by
  refine tri_of_vc txok mixed [] [] Tryz.func82 rfl rfl (by simp) fun b => ?_
  conv => whnf
  exact ⟨rfl, rfl⟩
def sumOut (l : List CT) : DOut := match sumV l with
  | some ts => .ret (dG (.mk 8 0 [] ts))
  | none => .pan (badD 1)
theorem sum_out (l : List CT) (hs : ∀ c ∈ l, ∀ t ∈ c.2, SzT t) (hlen : l.length < 1099511627776) : FnQ Tryz.prog G0 49 [dCTs l] (fun o => o = sumOut l) := by
  refine fnQ_of_vc txok mixed [] Tryz.func49 rfl rfl (by simp) fun b => ?_
  conv => whnf
  refine callT [] (node_tri 8) gf82 rfl rfl trivial rfl ?_
  rintro o' H' ⟨rfl, rfl⟩
  conv => whnf
  refine loopH (fun z : Nat × List TG => z.1 ≤ l.length ∧ sumV l = (sumV (l.drop z.1)).map (z.2 ++ ·) ∧ z.2.length = z.1) (fun z => l.length - z.1) (fun z => [(11, .d (.int .i64 z.1))]) (fun z => [(0, .blk 30 [.d (.int .i64 0), .d (.int .i64 0), .nl, .nl]), (1, .blk 30 [.d (.int .i64 8), .d (.int .i64 0), .nl, .row 2]), (2, .row 30 64 4 z.2.length (encGs z.2))]) 3 (0, []) ⟨by simp, by simp, rfl⟩ ((weak_nlC 1 3 30 64 4 rfl rfl).trans (weak_of rfl (by repeat ((conv => whnf); first | exact trivial | refine And.intro rfl ?_ | refine And.intro (incD (by omega)) ?_)) (by repeat ((conv => whnf); first | exact trivial | refine And.intro rfl ?_ | refine And.intro (incD (by omega)) ?_)))) ?_
  rintro ⟨i, acc⟩ ⟨hi, hx, hal⟩
  simp only at hi hx hal
  conv => whnf
  refine And.intro (fun hb => ?_) (fun hb => ?_)
  · have hil : i < l.length := by have := of_decide_eq_true hb; omega
    rw [List.drop_eq_getElem_cons hil, sumV] at hx
    conv => whnf
    refine IdxC.fl encCT_len i hil rfl ?_
    conv => whnf
    refine callQ rfl rfl gf83 (arg_out l[i] (hs _ (by simp))) ?_
    rintro o rfl
    cases ha : argV l[i] with
    | none =>
      rw [argOut_none ha]
      rw [ha] at hx
      show _ = sumOut l
      rw [sumOut, hx]
      rfl
    | some a =>
      obtain ⟨bb, hbb⟩ := argOut_some ha
      rw [hbb]
      rw [ha] at hx
      obtain ⟨k1, n1, l1, m1⟩ := a
      conv => whnf
      refine appR (i := 2) (sz := 4) (n := acc.length) (m := 1) (xs := encGs acc) (ys := encGs [TG.mk k1 n1 l1 m1]) txok (fun k => Nat.ble 3 k) (acc ++ [TG.mk k1 n1 l1 m1]).length (encGs (acc ++ [TG.mk k1 n1 l1 m1])) (by exact rfl) (by exact rfl) (by exact rfl) (by kernel_rfl) (by exact rfl) (encGs_scal _) (by simp) (by rw [encGs_app]) (by simp only [LB, List.length_append, List.length_cons, List.length_nil]; omega) ?_
      conv => whnf
      rw [incD (by omega)]
      refine again (i + 1, acc ++ [TG.mk k1 n1 l1 m1]) (by simp; omega) ⟨by simp; omega, ?_, by simp; omega⟩ (weak_of rfl (by repeat ((conv => whnf); first | exact trivial | refine And.intro rfl ?_ | refine And.intro (incD (by omega)) ?_)) (by repeat ((conv => whnf); first | exact trivial | refine And.intro rfl ?_ | refine And.intro (incD (by omega)) ?_)))
      rw [hx]
      cases sumV (l.drop (i + 1)) <;> simp
  · have hi : i = l.length := by have := of_decide_eq_false hb; omega
    subst hi
    rw [List.drop_length] at hx
    have hr : sumOut l = .ret (dG (.mk 8 0 [] acc)) := by rw [sumOut, hx]; simp [sumV]
    rw [hr]
    conv => whnf
    try exact rfl
end Go.Proofs.YtmjjajhkokdikaaGreat

/- The reference's made. -/
set_option linter.unusedSimpArgs false
set_option linter.unusedVariables false
namespace Go.Proofs.YtmjjajhkokdikaaGreat
open Go.Vx Go.Vc Go.RowKit

theorem turnGs_map (f : Int) (l : List Tp) : turnGs f l = l.map (turnG f) := by
  induction l with
  | nil => rfl
  | cons t r ih => rw [turnGs, ih]; rfl
theorem rmade_fn (f : Int) : ∀ t : Tp, szT t < 1099511627776 → FnR Tryz.prog G0 39 [dT t, .int .i64 f] (dG (turnG f t)) := by
  refine Tp.ind fun k n ks ih hsz => ?_
  simp only [szT] at hsz
  have hkl := szL_len ks
  refine fnQ_sz fun hs => ?_
  have hl := (szOk_T (t := .mk k n ks) hs.1).1
  simp only [mk_kids, LB] at hl
  refine fnQ_of_vc txok mixed ((100012, .done) :: (100015, .done) :: [(18, .pure 0 (.take 1 (.pure 2 (.take 3 (.pure 4 (.pure 5 (.take 6 (.pure 7 (.run 8 (.run 9 (.fin 10 (.pure 11 (.fin 12 .done)))))))))))))]) Tryz.func39 rfl rfl (by simp) fun b => ?_
  conv => whnf
  refine CutC.mk (fun st => (¬ (k = 1 ∨ k = 2 ∨ k = 3) ∧ k ≠ 6 ∧ k ≠ 8) ∧ st = ⟨[(1, .d (.int .i64 f)), (2, .own 0 0), (4, .own 1 0)], [(0, .blk 24 [.d (.int .i64 k), .d (.int .i64 n), .d (dK ks)]), (1, .blk 30 [.d (.int .i64 0), .d (.int .i64 0), .nl, .nl])], 2⟩) ?_ ?_
  · (conv => whnf)
    simp only [mk_k, mk_n, mk_kids]
    repeat' ((conv => whnf); refine And.intro (fun h => ?_) (fun h => ?_))
    all_goals (conv => whnf)
    all_goals first
      | exact ⟨_, ⟨by simp_all, rfl⟩, weak_of rfl (by repeat ((conv => whnf); first | exact trivial | refine And.intro rfl ?_ | refine And.intro (incD (by omega)) ?_)) (by repeat ((conv => whnf); first | exact trivial | refine And.intro rfl ?_ | refine And.intro (incD (by omega)) ?_))⟩
      | (simp only [beq_iff_eq, beq_eq_false_iff_ne, ne_eq] at *; rw [turnG, if_pos (by simp [*])]; simp only [*]; rfl)
      | (simp only [beq_iff_eq, beq_eq_false_iff_ne, ne_eq] at *; rw [turnG, if_neg (by simp [*]), if_pos (by assumption)]; rfl)
      | (simp only [beq_iff_eq, beq_eq_false_iff_ne, ne_eq] at *; rw [turnG, if_neg (by simp [*]), if_neg (by assumption), if_pos (by assumption)]; rfl)
  rintro st' ⟨⟨a1, a6, a8⟩, rfl⟩
  have hres : turnG f (.mk k n ks) = .mk (if k = 5 then 5 else 4) 0 [] (ks.map (turnG f)) := by
    rw [turnG, if_neg a1, if_neg a6, if_neg a8, turnGs_map]
  rw [hres]
  generalize hkk : (if k = 5 then 5 else 4 : Int) = kk
  conv => whnf
  refine CutC.mk (fun st => st = ⟨[(1, .d (.int .i64 f)), (2, .own 0 0), (4, .own 1 0), (5, .own 2 0)], [(0, .blk 24 [.d (.int .i64 k), .d (.int .i64 n), .d (dK ks)]), (1, .blk 30 [.d (.int .i64 0), .d (.int .i64 0), .nl, .nl]), (2, .blk 30 [.d (.int .i64 kk), .d (.int .i64 0), .nl, .nl])], 3⟩) ?_ ?_
  · (conv => whnf)
    refine And.intro (fun h => ?_) (fun h => ?_)
    · have h : k = 5 := eq_of_beq h
      rw [if_pos h] at hkk
      subst hkk
      conv => whnf
      exact ⟨_, rfl, weak_of rfl (by repeat ((conv => whnf); first | exact trivial | refine And.intro rfl ?_ | refine And.intro (incD (by omega)) ?_)) (by repeat ((conv => whnf); first | exact trivial | refine And.intro rfl ?_ | refine And.intro (incD (by omega)) ?_))⟩
    · have h : k ≠ 5 := by simpa using h
      rw [if_neg h] at hkk
      subst hkk
      conv => whnf
      exact ⟨_, rfl, weak_of rfl (by repeat ((conv => whnf); first | exact trivial | refine And.intro rfl ?_ | refine And.intro (incD (by omega)) ?_)) (by repeat ((conv => whnf); first | exact trivial | refine And.intro rfl ?_ | refine And.intro (incD (by omega)) ?_))⟩
  rintro st' rfl
  conv => whnf
  refine loopH (fun i : Nat => i ≤ ks.length) (fun i => ks.length - i) (fun i => [(6, .d (.int .i64 i))]) (fun i => [(0, .blk 24 [.d (.int .i64 k), .d (.int .i64 n), .d (dK ks)]), (1, .blk 30 [.d (.int .i64 0), .d (.int .i64 0), .nl, .nl]), (2, .blk 30 [.d (.int .i64 kk), .d (.int .i64 0), .nl, .row 3]), (3, .row 30 64 4 ((ks.take i).map (turnG f)).length (encGs ((ks.take i).map (turnG f))))]) 4 0 (by omega) ((weak_nlC 2 3 30 64 4 rfl rfl).trans (weak_of rfl (by repeat ((conv => whnf); first | exact trivial | refine And.intro rfl ?_ | refine And.intro (incD (by omega)) ?_)) (by repeat ((conv => whnf); first | exact trivial | refine And.intro rfl ?_ | refine And.intro (incD (by omega)) ?_)))) ?_
  intro i hi
  conv => whnf
  refine And.intro (fun hb => ?_) (fun hb => ?_)
  · have hil : i < ks.length := by have := of_decide_eq_true hb; omega
    conv => whnf
    refine And.intro (by kernel_rfl) ?_
    refine IdxC.encK i hil rfl ?_
    conv => whnf
    have hc := ih ks[i] (by simp) (by have := szT_mem (List.getElem_mem hil); omega)
    have htk : (ks.take (i + 1)).map (turnG f) = (ks.take i).map (turnG f) ++ [turnG f ks[i]] := by rw [List.take_succ_eq_append_getElem hil, List.map_append]; rfl
    have hle : ((ks.take i).map (turnG f)).length ≤ i := by simp; omega
    rw [← hkk] at *
    generalize hta : turnG f ks[i] = ta at hc htk
    obtain ⟨k1, n1, l1, m1⟩ := ta
    refine callF hc gf39 rfl rfl ?_
    conv => whnf
    refine appR (i := 3) (sz := 4) (n := ((ks.take i).map (turnG f)).length) (m := 1) (xs := encGs ((ks.take i).map (turnG f))) (ys := encGs [TG.mk k1 n1 l1 m1]) txok (fun k => Nat.ble 4 k) ((ks.take (i + 1)).map (turnG f)).length (encGs ((ks.take (i + 1)).map (turnG f))) (by exact rfl) (by exact rfl) (by exact rfl) (by kernel_rfl) (by exact rfl) (encGs_scal _) (by rw [htk]; simp) (by rw [htk, encGs_app]) (by rw [htk]; simp only [LB, List.length_append, List.length_cons, List.length_nil]; omega) ?_
    conv => whnf
    rw [incD (by omega)]
    exact again (i + 1) (by omega) (by omega) (weak_of rfl (by repeat ((conv => whnf); first | exact trivial | refine And.intro rfl ?_ | refine And.intro (incD (by omega)) ?_)) (by repeat ((conv => whnf); first | exact trivial | refine And.intro rfl ?_ | refine And.intro (incD (by omega)) ?_)))
  · have hi : i = ks.length := by have := of_decide_eq_false hb; omega
    subst hi
    rw [List.take_length]
    conv => whnf
    try exact rfl
end Go.Proofs.YtmjjajhkokdikaaGreat


/- The reference: Ra, Rb, Rd, Re, Rf, joined. -/

/- The reference: the order. -/
set_option linter.unusedSimpArgs false
set_option linter.unusedVariables false
namespace Go.Proofs.YtmjjajhkokdikaaGreat.Rf
open Go.Vx Go.Vc Go.RowKit Go.Proofs.YtmjjajhkokdikaaGreat.Ty

end Go.Proofs.YtmjjajhkokdikaaGreat.Rf

/- The reference: how great types are; places; two lists of numbers. -/
namespace Go.Proofs.YtmjjajhkokdikaaGreat.Rf
open Go.Vx Go.Vc Go.RowKit Go.Proofs.YtmjjajhkokdikaaGreat.Ty

theorem cutN_lt {n most : Nat} (h : cutN n most ≤ most) : n ≤ most := by
  unfold cutN at h; split at h <;> omega
/-- The count so far, behind some kids. -/
def curC (m : Nat) (f : Nat → Nat) : Nat → Nat
  | 0 => m + 1
  | i + 1 => cutN (m + 1 + f (i + 1)) 1000
theorem curC_le {m : Nat} {f : Nat → Nat} {i : Nat} (hm : m ≤ 1000) : curC m f i ≤ 1001 := by
  cases i with
  | zero => simp only [curC]; omega
  | succ i => exact cutN_le _ _
theorem curC_eq {m : Nat} {f : Nat → Nat} {i : Nat} (h0 : f 0 = 0) : curC m f i ≤ 1000 → curC m f i = m + 1 + f i := by
  cases i with
  | zero => intro _; show m + 1 = m + 1 + f 0; omega
  | succ i => intro h; exact cutN_small (cutN_lt h)
theorem curC_gt {m : Nat} {f : Nat → Nat} {i q : Nat} (hm : m ≤ 1000) (hq : f i ≤ q) : 1000 < curC m f i → 1000 < m + 1 + q := by
  cases i with
  | zero => simp only [curC]; omega
  | succ i => intro h; have := cutN_gt h; omega
end Go.Proofs.YtmjjajhkokdikaaGreat.Rf

/- The reference: Right, Size, Fits. -/
namespace Go.Proofs.YtmjjajhkokdikaaGreat.Rf
open Go.Vx Go.Vc Go.RowKit Go.Proofs.YtmjjajhkokdikaaGreat.Ty

theorem rright_fn : ∀ t : Tp, FnR Tryz.prog G0 35 [dT t] (.bool (right t)) := by
  refine Tp.ind fun k n ks ih => ?_
  refine fnQ_of_vc txok mixed [] Tryz.func35 rfl rfl (by simp) fun b => ?_
  (repeat' ((conv => whnf); first | refine And.intro (fun _ => ?_) (fun _ => ?_))) <;> (conv => whnf)
  all_goals simp only [mk_k, mk_n, mk_kids, Bool.not_true] at *
  all_goals try (refine congrArg D.bool ?_; first | (simp only [right, *, Bool.or_self, Bool.true_or, Bool.or_true, Bool.false_or, Bool.or_false, Bool.false_and, Bool.and_false, Bool.true_and, Bool.and_true, Bool.and_self, Bool.not_true, Bool.not_false]; done) | (simp_all [right]; done) | (simp_all [right]; omega))
  all_goals
    have h2 : ks.length = 2 := by rename_i h2; have := eq_of_beq h2; omega
    obtain ⟨t, u, rfl⟩ : ∃ t u, ks = [t, u] := by
      match ks, h2 with
      | [t, u], _ => exact ⟨t, u, rfl⟩
    refine IdxC.encK 0 (by simp) rfl ?_
    conv => whnf
    refine callF (ih t (by simp)) gf35 rfl rfl ?_
    (repeat' ((conv => whnf); first | refine And.intro (fun _ => ?_) (fun _ => ?_))) <;> (conv => whnf)
  all_goals try (refine congrArg D.bool ?_; first | (simp only [right, rights, *, Bool.or_self, Bool.true_or, Bool.or_true, Bool.false_or, Bool.or_false, Bool.false_and, Bool.and_false, Bool.true_and, Bool.and_true, Bool.and_self, Bool.not_true, Bool.not_false]; done) | (simp_all [right, rights]; done) | (simp_all [right, rights]; omega))
  all_goals
    refine IdxC.encK 1 (by simp) rfl ?_
    conv => whnf
    refine callF (ih u (by simp)) gf35 rfl rfl ?_
    conv => whnf
    refine congrArg D.bool ?_; first | (simp only [right, rights, *, Bool.or_self, Bool.true_or, Bool.or_true, Bool.false_or, Bool.or_false, Bool.false_and, Bool.and_false, Bool.true_and, Bool.and_true, Bool.and_self, Bool.not_true, Bool.not_false]; done) | (simp_all [right, rights]; done) | (simp_all [right, rights]; omega)
theorem rin_fn (l : List Int) (x : Int) : FnR Tryz.prog G0 118 [dI l, .int .i64 x] (.bool (decide (x ∈ l))) := by
  refine fnQ_sz fun hs => ?_
  have hl := (szOk_sl hs.1).1
  simp only [LB] at hl
  refine fnQ_of_vc txok mixed [] Tryz.func118 rfl rfl (by simp) fun b => ?_
  conv => whnf
  refine loopH (fun i : Nat => i ≤ l.length ∧ (x ∈ l ↔ x ∈ l.drop i)) (fun i => l.length - i) (fun i => [(5, .d (.int .i64 i))]) (fun _ => []) 0 0 ⟨by omega, by simp⟩ (weak_of rfl (by repeat ((conv => whnf); first | exact trivial | refine And.intro rfl ?_ | refine And.intro (incD (by omega)) ?_)) (by repeat ((conv => whnf); first | exact trivial | refine And.intro rfl ?_ | refine And.intro (incD (by omega)) ?_))) ?_
  rintro i ⟨hi, hx⟩
  conv => whnf
  refine And.intro (fun hb => ?_) (fun hb => ?_)
  · have hb := of_decide_eq_true hb
    have hil : i < l.length := by omega
    rw [List.drop_eq_getElem_cons hil, List.mem_cons] at hx
    conv => whnf
    refine IdxC.encI i hil rfl ?_
    conv => whnf
    refine And.intro (fun he => ?_) (fun he => ?_)
    · have he := eq_of_beq he
      conv => whnf
      rw [decide_eq_true (hx.2 (.inl he.symm))]
    · have he : l[i] ≠ x := by simpa using he
      exact again (i + 1) (by omega) ⟨by omega, hx.trans ⟨fun h => h.resolve_left (Ne.symm he), .inr⟩⟩ (weak_of rfl (by repeat ((conv => whnf); first | exact trivial | refine And.intro rfl ?_ | refine And.intro (incD (by omega)) ?_)) (by repeat ((conv => whnf); first | exact trivial | refine And.intro rfl ?_ | refine And.intro (incD (by omega)) ?_)))
  · have hb := of_decide_eq_false hb
    rw [List.drop_eq_nil_of_le (by omega)] at hx
    conv => whnf
    rw [decide_eq_false (by rw [hx]; simp)]
end Go.Proofs.YtmjjajhkokdikaaGreat.Rf

/- The reference: what stands in a type. -/
namespace Go.Proofs.YtmjjajhkokdikaaGreat.Rf
open Go.Vx Go.Vc Go.RowKit Go.Proofs.YtmjjajhkokdikaaGreat.Ty

abbrev rrow (acc : List Int) : Hp := [(0, .row 3 8 1 acc.length (Vx.encI acc))]
theorem rfound_tri (kind : Int) : ∀ (t : Tp) (acc : List Int), (fnd kind t acc).length * 8 ≤ LB → Tri Tryz.prog G0 78 1 0 [.d (dT t), .d (.int .i64 kind), .row 0] (rrow acc) (fun o H' => o = .ret (.row 0) ∧ H' = rrow (fnd kind t acc)) := by
  refine Tp.ind fun k n ks ih acc hl => ?_
  have hl1 : (see1 kind (.mk k n ks) acc).length * 8 ≤ LB := Nat.le_trans (Nat.mul_le_mul_right _ (fndL_len kind ks _)) (by rw [fnd_eq] at hl; exact hl)
  rw [fnd_eq] at hl ⊢
  simp only [mk_kids] at hl ⊢
  have hsee : (¬ (k = kind ∧ n ∉ acc) → see1 kind (.mk k n ks) acc = acc) ∧ ((k = kind ∧ n ∉ acc) → see1 kind (.mk k n ks) acc = acc ++ [n]) := ⟨fun h => by rw [see1]; exact if_neg h, fun h => by rw [see1]; exact if_pos h⟩
  generalize hg : see1 kind (.mk k n ks) acc = acc1 at *
  refine tri_sz fun hs => ?_
  have hkl := (szOk_T (t := .mk k n ks) (hs (.d (dT (.mk k n ks))) (by simp))).1
  simp only [mk_kids, LB] at hkl
  refine tri_of_vc txok mixed [] [(100003, .done)] Tryz.func78 rfl rfl (by simp) fun b => ?_
  conv => whnf
  refine CutC.mk (fun st => st = ⟨[(1, .d (.int .i64 kind)), (2, .row 0), (3, .own 1 0)], [(0, .row 3 8 1 acc1.length (Vx.encI acc1)), (1, .blk 24 [.d (.int .i64 k), .d (.int .i64 n), .d (dK ks)])], 2⟩) ?_ ?_
  · conv => whnf
    refine And.intro (fun hk => ?_) (fun hk => ?_)
    · have hk := eq_of_beq hk
      conv => whnf
      refine callV (rin_fn acc n) gf118 rfl rfl rfl rfl ?_
      conv => whnf
      refine And.intro (fun hc => ?_) (fun hc => ?_)
      · have hc : n ∉ acc := by simpa using hc
        obtain rfl := hsee.2 ⟨hk, hc⟩
        conv => whnf
        refine appR (i := 0) (sz := 1) (n := acc.length) (m := 1) (xs := Vx.encI acc) (ys := [.int .i64 n]) txok (fun k => Nat.blt 1 k) (acc ++ [n]).length (Vx.encI (acc ++ [n])) rfl rfl rfl (by kernel_rfl) rfl (scalDs_mem rfl) (by simp) (by simp [Vx.encI]) hl1 ?_
        conv => whnf
        exact ⟨_, rfl, weak_of rfl (by repeat ((conv => whnf); first | exact trivial | refine And.intro rfl ?_ | refine And.intro (incD (by omega)) ?_)) (by repeat ((conv => whnf); first | exact trivial | refine And.intro rfl ?_ | refine And.intro (incD (by omega)) ?_))⟩
      · have hc : n ∈ acc := by simpa using hc
        obtain rfl := hsee.1 (fun h => h.2 hc)
        conv => whnf
        exact ⟨_, rfl, weak_of rfl (by repeat ((conv => whnf); first | exact trivial | refine And.intro rfl ?_ | refine And.intro (incD (by omega)) ?_)) (by repeat ((conv => whnf); first | exact trivial | refine And.intro rfl ?_ | refine And.intro (incD (by omega)) ?_))⟩
    · have hk : k ≠ kind := by simpa [mk_k] using hk
      obtain rfl := hsee.1 (fun h => hk h.1)
      conv => whnf
      exact ⟨_, rfl, weak_of rfl (by repeat ((conv => whnf); first | exact trivial | refine And.intro rfl ?_ | refine And.intro (incD (by omega)) ?_)) (by repeat ((conv => whnf); first | exact trivial | refine And.intro rfl ?_ | refine And.intro (incD (by omega)) ?_))⟩
  · rintro st' rfl
    conv => whnf
    refine loopH (fun x : Nat × List Int => x.1 ≤ ks.length ∧ fndL kind ks acc1 = fndL kind (ks.drop x.1) x.2) (fun x => ks.length - x.1) (fun x => [(7, .d (.int .i64 x.1)), (2, .row 0)]) (fun x => [(0, .row 3 8 1 x.2.length (Vx.encI x.2)), (1, .blk 24 [.d (.int .i64 k), .d (.int .i64 n), .d (dK ks)])]) 2 (0, acc1) ⟨by simp, rfl⟩ (weak_of rfl (by repeat ((conv => whnf); first | exact trivial | refine And.intro rfl ?_ | refine And.intro (incD (by omega)) ?_)) (by repeat ((conv => whnf); first | exact trivial | refine And.intro rfl ?_ | refine And.intro (incD (by omega)) ?_))) ?_
    rintro ⟨i, acc'⟩ ⟨hi, hx⟩
    simp only at hi hx
    conv => whnf
    refine And.intro (fun hb => ?_) (fun hb => ?_)
    · have hb : (i : Int) < (ks.length : Int) := of_decide_eq_true hb
      have hil : i < ks.length := by omega
      rw [fndL_drop hil] at hx
      conv => whnf
      refine IdxC.encK i hil rfl ?_
      conv => whnf
      refine callT [0] (ih ks[i] (by simp) acc' (Nat.le_trans (Nat.mul_le_mul_right _ (fndL_len kind _ _)) (by rw [← hx]; exact hl))) gf78 rfl rfl ⟨rfl, trivial⟩ rfl ?_
      rintro o' H' ⟨rfl, rfl⟩
      conv => whnf
      exact again (i + 1, fnd kind ks[i] acc') (by simp; omega) ⟨by simp; omega, hx⟩ (weak_of rfl (by repeat ((conv => whnf); first | exact trivial | refine And.intro rfl ?_ | refine And.intro (incD (by omega)) ?_)) (by repeat ((conv => whnf); first | exact trivial | refine And.intro rfl ?_ | refine And.intro (incD (by omega)) ?_)))
    · have hb : ¬ (i : Int) < (ks.length : Int) := of_decide_eq_false hb
      conv => whnf
      rw [hx, List.drop_eq_nil_of_le (by omega)]
      exact ⟨rfl, rfl⟩
theorem rfound_fn (kind : Int) (t : Tp) (hl : (fnd kind t []).length * 8 ≤ LB) : Tri Tryz.prog G0 78 0 1 [.d (dT t), .d (.int .i64 kind), .nl] [] (fun o H' => o = .ret (.row 0) ∧ H' = rrow (fnd kind t [])) :=
  triArgNil (l := [.d (dT t), .d (.int .i64 kind)]) (r := []) 3 8 1 (rfound_tri kind t [] hl)
theorem rstamps_fn (t : Tp) (hl : (fnd 6 t []).length * 8 ≤ LB) : FnR Tryz.prog G0 38 [dT t] (dI (fnd 6 t [])) := by
  refine fnQ_of_vc txok mixed [] Tryz.func38 rfl rfl (by simp) fun b => ?_
  conv => whnf
  refine callT [] (rfound_fn 6 t hl) gf78 rfl rfl trivial rfl ?_
  rintro o' H' ⟨rfl, rfl⟩
  conv => whnf
theorem rmetas_fn (t : Tp) (hl : (fnd 7 t []).length * 8 ≤ LB) : FnR Tryz.prog G0 43 [dT t] (dI (fnd 7 t [])) := by
  refine fnQ_of_vc txok mixed [] Tryz.func43 rfl rfl (by simp) fun b => ?_
  conv => whnf
  refine callT [] (rfound_fn 7 t hl) gf78 rfl rfl trivial rfl ?_
  rintro o' H' ⟨rfl, rfl⟩
  conv => whnf
theorem rgens_fn (t : Tp) (hl : (fnd 8 t []).length * 8 ≤ LB) : FnR Tryz.prog G0 77 [dT t] (dI (fnd 8 t [])) := by
  refine fnQ_of_vc txok mixed [] Tryz.func77 rfl rfl (by simp) fun b => ?_
  conv => whnf
  refine callT [] (rfound_fn 8 t hl) gf78 rfl rfl trivial rfl ?_
  rintro o' H' ⟨rfl, rfl⟩
  conv => whnf
end Go.Proofs.YtmjjajhkokdikaaGreat.Rf

/- Closed, both. -/
namespace Go.Proofs.YtmjjajhkokdikaaGreat.Rf
open Go.Vx Go.Vc Go.RowKit Go.Proofs.YtmjjajhkokdikaaGreat.Ty

theorem closed_fn (t : Tp) (h7 : (fnd 7 t []).length * 8 ≤ LB) (h8 : (fnd 8 t []).length * 8 ≤ LB) : FnR Tryz.prog G0 74 [dT t] (.bool (decide ((fnd 7 t []).length = 0 ∧ (fnd 8 t []).length = 0))) := by
  refine fnQ_of_vc txok mixed [(1, .take 0 (.take 3 (.run 1 (.pure 2 (.fin 4 (.pure 5 (.pure 6 (.pure 7 (.pure 8 .done)))))))))] Tryz.func74 rfl rfl (by simp) fun b => ?_
  conv => whnf
  refine And.intro (by kernel_rfl) ?_
  conv => whnf
  refine callF (metas_fn t h7) gf80 rfl rfl ?_
  conv => whnf
  refine callF (gens_fn t h8) gf115 rfl rfl ?_
  conv => whnf
  refine congrArg D.bool ?_
  simp only [LB] at h7 h8
  rw [Go.Vc.wrap_small (by omega) (by omega), Bool.eq_iff_iff, beq_iff_eq, decide_eq_true_eq]
  omega
theorem rclosed_fn (t : Tp) (h7 : (fnd 7 t []).length * 8 ≤ LB) (h8 : (fnd 8 t []).length * 8 ≤ LB) : FnR Tryz.prog G0 36 [dT t] (.bool (decide ((fnd 7 t []).length = 0 ∧ (fnd 8 t []).length = 0))) := by
  refine fnQ_of_vc txok mixed [] Tryz.func36 rfl rfl (by simp) fun b => ?_
  conv => whnf
  refine callF (rmetas_fn t h7) gf43 rfl rfl ?_
  conv => whnf
  refine And.intro (fun h => ?_) (fun h => ?_)
  · have h := eq_of_beq h
    conv => whnf
    refine callF (rgens_fn t h8) gf77 rfl rfl ?_
    conv => whnf
    refine congrArg D.bool ?_
    rw [Bool.eq_iff_iff, beq_iff_eq, decide_eq_true_eq]
    omega
  · have h : ((fnd 7 t []).length : Int) ≠ 0 := by simpa using h
    conv => whnf
    refine congrArg D.bool ?_
    rw [decide_eq_false (fun hh => h (by omega))]
end Go.Proofs.YtmjjajhkokdikaaGreat.Rf

/- The reference's stamps. -/
set_option linter.unusedSimpArgs false
set_option linter.unusedVariables false
namespace Go.Proofs.YtmjjajhkokdikaaGreat
open Go.Vx Go.Vc Go.RowKit

def stp (n : Int) : Bool := !(decide (n < 0) || decide (n > 2147483647))
theorem rstampsOk_fn (l : List Int) : FnR Tryz.prog G0 37 [dI l] (.bool (l.all stp)) := by
  refine fnQ_sz fun hs => ?_
  have hl := (szOk_sl hs.1).1
  simp only [LB] at hl
  refine fnQ_of_vc txok mixed [] Tryz.func37 rfl rfl (by simp) fun b => ?_
  conv => whnf
  refine loopH (fun i : Nat => i ≤ l.length ∧ l.all stp = (l.drop i).all stp) (fun i => l.length - i) (fun i => [(3, .d (.int .i64 i))]) (fun _ => []) 0 0 ⟨by omega, rfl⟩ (weak_of rfl (by repeat ((conv => whnf); first | exact trivial | refine And.intro rfl ?_ | refine And.intro (incD (by omega)) ?_)) (by repeat ((conv => whnf); first | exact trivial | refine And.intro rfl ?_ | refine And.intro (incD (by omega)) ?_))) ?_
  rintro i ⟨hi, hx⟩
  conv => whnf
  refine And.intro (fun hb => ?_) (fun hb => ?_)
  · have hil : i < l.length := by have := of_decide_eq_true hb; omega
    rw [List.drop_eq_getElem_cons hil, List.all_cons] at hx
    conv => whnf
    refine IdxC.encI i hil rfl ?_
    repeat' ((conv => whnf); first
      | refine And.intro (fun h => ?_) (fun h => ?_)
      | refine IdxC.encI i hil rfl ?_)
    all_goals (conv => whnf)
    all_goals first
      | (refine congrArg D.bool ?_; rw [hx]; simp_all [stp]; done)
      | (rw [incD (by omega)]; exact again (i + 1) (by omega) ⟨by omega, by rw [hx]; simp_all [stp]⟩ (weak_of rfl (by repeat ((conv => whnf); first | exact trivial | refine And.intro rfl ?_ | refine And.intro (incD (by omega)) ?_)) (by repeat ((conv => whnf); first | exact trivial | refine And.intro rfl ?_ | refine And.intro (incD (by omega)) ?_))))
  · have hi : i = l.length := by have := of_decide_eq_false hb; omega
    subst hi
    conv => whnf
    refine congrArg D.bool ?_
    rw [hx, List.drop_length]; rfl
end Go.Proofs.YtmjjajhkokdikaaGreat

/- The reference's Type. -/
set_option linter.unusedSimpArgs false
set_option linter.unusedVariables false
namespace Go.Proofs.YtmjjajhkokdikaaGreat
open Go.Vx Go.Vc Go.RowKit

def okR (t : Tp) : Bool := right t && decide ((fnd 7 t []).length = 0 ∧ (fnd 8 t []).length = 0) && (fnd 6 t []).all stp
theorem rtype_fn (t : Tp) (hs : SzT t) (hz : szT t < 1099511627776) : FnR Tryz.prog G0 10 [dT t] (.tup [dG (if okR t = true then turnG 0 t else .mk 0 0 [] []), .int .i64 (if okR t = true then 0 else 1)]) := by
  obtain ⟨s6, s7, s8⟩ := hs
  have hcl := Rf.rclosed_fn t (by simp only [LB]; omega) (by simp only [LB]; omega)
  have hst := Rf.rstamps_fn t (by simp only [LB]; omega)
  refine fnQ_of_vc txok mixed [] Tryz.func10 rfl rfl (by simp) fun b => ?_
  conv => whnf
  refine callF (Rf.rright_fn t) gf35 rfl rfl ?_
  repeat' ((conv => whnf); first
    | refine And.intro (fun h => ?_) (fun h => ?_)
    | refine callF hcl gf36 rfl rfl ?_
    | refine callF hst gf38 rfl rfl ?_
    | refine callF (rstampsOk_fn _) gf37 rfl rfl ?_
    | refine callF (rmade_fn 0 t hz) gf39 rfl rfl ?_)
  all_goals try (conv => whnf)
  all_goals first
    | (rw [show okR t = true from by
          simp only [Bool.not_eq_false'] at *
          rw [okR]; simp only [*]; rfl, if_pos rfl, if_pos rfl]; rfl)
    | (rw [show okR t = false from by
          simp only [Bool.not_eq_false', Bool.not_eq_true', Bool.not_false] at *
          rw [okR]; simp only [*, Bool.false_and, Bool.and_false, Bool.true_and], if_neg (by decide), if_neg (by decide)]; rfl)
end Go.Proofs.YtmjjajhkokdikaaGreat

