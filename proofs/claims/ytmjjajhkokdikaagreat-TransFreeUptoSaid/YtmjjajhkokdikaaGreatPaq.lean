/- Texts of mine, joined: Ed Ee Ef Eg Eh Ei Ej Ek Fb Fc Fd Ga Gb Gc Hb Gg Gh Gi Hc Gj Gd Ge. -/
import Derived.Shelf.Sort.Plain
import Derived.Shelf.Slices.In.SortNone
import Derived.Shelf.Slices.CompactS
import Derived.Test.YtmjjajhkokdikaaGreatPap
import Derived.Test.YtmjjajhkokdikaaGreatPaj
import Derived.Test.YtmjjajhkokdikaaGreatPao
import Derived.Test.YtmjjajhkokdikaaGreatPah
import Derived.Test.YtmjjajhkokdikaaGreatPan
import Derived.Test.YtmjjajhkokdikaaGreatPal
/- The shelf's slices.Sort and slices.Compact at strings, laid at this seat's program: printed by a program of mine out of Lean's print of the kit's laying command. -/
set_option linter.unusedSimpArgs false
set_option linter.unusedVariables false
namespace Go.Proofs.YtmjjajhkokdikaaGreat
open Go.Proofs Go.Shelf Go.RowKit Go.Lib Go.Sort
def sortS_ren : Ren :=
  { f := fun x => match x with | 190 => 154 | 125 => 97 | 258 => 165 | 128 => 145 | 129 => 146 | 302 => 169 | 303 => 170 | 304 => 171 | 305 => 172 | 306 => 173 | 307 => 174 | 308 => 175 | 309 => 176 | 310 => 177 | 333 => 178 | 329 => 157 | 330 => 158 | 334 => 179 | 335 => 180 | 336 => 92 | 344 => 181 | n => n,
    t := fun x => match x with | 31 => 27 | 9 => 9 | 3 => 3 | 46 => 129 | 0 => 0 | 51 => 171 | 53 => 173 | 4 => 4 | 183 => 165 | 182 => 164 | 131 => 141 | 5 => 5 | 218 => 182 | 222 => 186 | 228 => 191 | 229 => 192 | n => n,
    g := fun n => n }
theorem sortS : Lays.n190 Tryz.prog sortS_ren :=
  { mixed := rfl,
    f125 := Tryz.func97.trans (congrArg some rfl),
    f128 := Tryz.func145.trans (congrArg some rfl),
    f129 := Tryz.func146.trans (congrArg some rfl),
    f190 := Tryz.func154.trans (congrArg some rfl),
    f258 := Tryz.func165.trans (congrArg some rfl),
    f302 := Tryz.func169.trans (congrArg some rfl),
    f303 := Tryz.func170.trans (congrArg some rfl),
    f304 := Tryz.func171.trans (congrArg some rfl),
    f305 := Tryz.func172.trans (congrArg some rfl),
    f306 := Tryz.func173.trans (congrArg some rfl),
    f307 := Tryz.func174.trans (congrArg some rfl),
    f308 := Tryz.func175.trans (congrArg some rfl),
    f309 := Tryz.func176.trans (congrArg some rfl),
    f310 := Tryz.func177.trans (congrArg some rfl),
    f329 := Tryz.func157.trans (congrArg some rfl),
    f330 := Tryz.func158.trans (congrArg some rfl),
    f333 := Tryz.func178.trans (congrArg some rfl),
    f334 := Tryz.func179.trans (congrArg some rfl),
    f335 := Tryz.func180.trans (congrArg some rfl),
    f336 := Tryz.func92.trans (congrArg some rfl),
    f344 := Tryz.func181.trans (congrArg some rfl),
    t0 := Tryz.underlying0,
    a0 := Tryz.isAgg0,
    z0 := Tryz.sizeOf0,
    v0 := Tryz.zeroValue0,
    t3 := Tryz.underlying3,
    a3 := Tryz.isAgg3,
    z3 := Tryz.sizeOf3,
    v3 := Tryz.zeroValue3,
    t4 := Tryz.underlying4,
    a4 := Tryz.isAgg4,
    z4 := Tryz.sizeOf4,
    v4 := Tryz.zeroValue4,
    t5 := Tryz.underlying5,
    a5 := Tryz.isAgg5,
    z5 := Tryz.sizeOf5,
    v5 := Tryz.zeroValue5,
    t9 := Tryz.underlying9,
    a9 := Tryz.isAgg9,
    z9 := Tryz.sizeOf9,
    v9 := Tryz.zeroValue9,
    t31 := Tryz.underlying27,
    a31 := Tryz.isAgg27,
    z31 := Tryz.sizeOf27,
    v31 := Tryz.zeroValue27,
    t46 := Tryz.underlying129,
    a46 := Tryz.isAgg129,
    z46 := Tryz.sizeOf129,
    v46 := Tryz.zeroValue129,
    t51 := Tryz.underlying171,
    a51 := Tryz.isAgg171,
    z51 := Tryz.sizeOf171,
    v51 := Tryz.zeroValue171,
    t53 := Tryz.underlying173,
    a53 := Tryz.isAgg173,
    z53 := Tryz.sizeOf173,
    v53 := Tryz.zeroValue173,
    t131 := Tryz.underlying141,
    a131 := Tryz.isAgg141,
    z131 := Tryz.sizeOf141,
    v131 := Tryz.zeroValue141,
    t182 := Tryz.underlying164,
    a182 := Tryz.isAgg164,
    z182 := Tryz.sizeOf164,
    v182 := Tryz.zeroValue164,
    t183 := Tryz.underlying165,
    a183 := Tryz.isAgg165,
    z183 := Tryz.sizeOf165,
    v183 := Tryz.zeroValue165,
    t218 := Tryz.underlying182,
    a218 := Tryz.isAgg182,
    z218 := Tryz.sizeOf182,
    v218 := Tryz.zeroValue182,
    t222 := Tryz.underlying186,
    a222 := Tryz.isAgg186,
    z222 := Tryz.sizeOf186,
    v222 := Tryz.zeroValue186,
    t228 := Tryz.underlying191,
    a228 := Tryz.isAgg191,
    z228 := Tryz.sizeOf191,
    v228 := Tryz.zeroValue191,
    t229 := Tryz.underlying192,
    a229 := Tryz.isAgg192,
    z229 := Tryz.sizeOf192,
    v229 := Tryz.zeroValue192 }
def compS_ren : Ren :=
  { f := fun x => match x with | 194 => 155 | n => n,
    t := fun x => match x with | 31 => 27 | 9 => 9 | 3 => 3 | 4 => 4 | 0 => 0 | n => n,
    g := fun n => n }
theorem compS : Lays.n194 Tryz.prog compS_ren :=
  { mixed := rfl,
    f194 := Tryz.func155.trans (congrArg some rfl),
    t0 := Tryz.underlying0,
    a0 := Tryz.isAgg0,
    z0 := Tryz.sizeOf0,
    v0 := Tryz.zeroValue0,
    t3 := Tryz.underlying3,
    a3 := Tryz.isAgg3,
    z3 := Tryz.sizeOf3,
    v3 := Tryz.zeroValue3,
    t4 := Tryz.underlying4,
    a4 := Tryz.isAgg4,
    z4 := Tryz.sizeOf4,
    v4 := Tryz.zeroValue4,
    t9 := Tryz.underlying9,
    a9 := Tryz.isAgg9,
    z9 := Tryz.sizeOf9,
    v9 := Tryz.zeroValue9,
    t31 := Tryz.underlying27,
    a31 := Tryz.isAgg27,
    z31 := Tryz.sizeOf27,
    v31 := Tryz.zeroValue27 }

/-- Texts, by their bytes. -/
def encBS (l : List (List UInt8)) : List Go.Vx.D := l.map fun s => .str ⟨s.toArray⟩
theorem repS_flat {S : Nat → Prop} {w : World} : ∀ {l : List (List UInt8)} {cs : List Value}, Go.Vx.RepDs S w (encBS l) cs → cs = l.map encStr
  | [], cs, h => by simpa only [encBS, List.map_nil, Go.Vx.RepDs] using h
  | x :: r, cs, h => by
    rw [show encBS (x :: r) = .str ⟨x.toArray⟩ :: encBS r from rfl] at h
    simp only [Go.Vx.RepDs, Go.Vx.RepD] at h
    obtain ⟨_, _, rfl, rfl, h⟩ := h
    rw [repS_flat h]; rfl
theorem putCells_lenS (off : Nat) (d : Array (List UInt8)) (cur : Array Value) : (putCells encStr off d cur).size = cur.size := by simp [putCells]
theorem putCells_cutS (off k : Nat) (d : Array (List UInt8)) (cur : Array Value) (h : off + d.size ≤ cur.size) (hk : k ≤ d.size) : ((putCells encStr off d cur).toList.drop off).take k = (d.toList.take k).map encStr := by
  apply List.ext_getElem?
  intro j
  by_cases hj : j < k
  · rw [List.getElem?_take_of_lt hj, List.getElem?_drop, Array.getElem?_toList]
    have h1 : off + j < cur.size := by omega
    have h2 : j < d.size := by omega
    simp [putCells, h1, hj, h2]
  · rw [List.getElem?_take_eq_none (by omega), List.getElem?_eq_none (by simp; omega)]
theorem holdsS {w : World} {g o : Nat} {cur : Array Value} {e : TypeId} {l : List (List UInt8)} (hg : w.heap[g]? = some (.cells cur e (0, 0))) (hc : (cur.toList.drop o).take l.length = l.map encStr) : Holds encStr w g o l.toArray := by
  intro j hj
  have hj' : j < l.length := by simpa using hj
  constructor
  · have h1 : ((cur.toList.drop o).take l.length)[j]? = (l.map encStr)[j]? := by rw [hc]
    rw [List.getElem?_take_of_lt hj', List.getElem?_drop, Array.getElem?_toList] at h1
    simp only [World.cell?, hg]
    simp [h1, hj']
  · simp [World.frozen?, hg]
theorem heap_putS {w : World} {g n o : Nat} {os : Array Obj} {cur : Array Value} {e : TypeId} {fr : Nat × Nat} (d : Array (List UInt8)) (hb : w.heap[g]? = some (.cells cur e fr)) :
    (grow (putRow encStr (Sort.ahead w n) g o d) os).heap[g]? = some (.cells (putCells encStr o d cur) e fr) := by
  have hg : g < w.heap.size := (Array.getElem?_eq_some_iff.1 hb).1
  rw [heap_grow_old _ _ (by simpa using hg)]
  simp [putRow, mapBlock, Sort.ahead, Array.getElem?_modify, hb, onCells]
theorem grownBy_putS {w : World} {g n o : Nat} {os : Array Obj} (d : Array (List UInt8)) : w.grownBy (grow (putRow encStr (Sort.ahead w n) g o d) os) (some g) := by
  refine ⟨rfl, rfl, rfl, by simp, fun k hk hne => ?_⟩
  rw [heap_grow_old _ _ (by simpa using hk)]
  have : g ≠ k := fun e => hne (by rw [e])
  simp [putRow, mapBlock, Sort.ahead, Array.getElem?_modify, this]
theorem repS_of (S : Nat → Prop) (w : World) : ∀ l : List (List UInt8), Go.Vx.RepDs S w (encBS l) (l.map encStr)
  | [] => by simp only [encBS, List.map_nil, Go.Vx.RepDs]
  | x :: r => by
    rw [show encBS (x :: r) = .str ⟨x.toArray⟩ :: encBS r from rfl, List.map_cons]
    simp only [Go.Vx.RepDs, Go.Vx.RepD]
    exact ⟨_, _, rfl, rfl, repS_of S w r⟩
/-- One own row that is handed over, and written in place. -/
theorem row_leftS {e : Go.Vx.Env} {w w' : World} {n m g o c : Nat} {cur cur' : Array Value} {l l' : List (List UInt8)} {xs : List Go.Vx.D} (hlen : e.m.length = 1) (hm : e.m[0]? = some (.slice (some ⟨g, o, none⟩) n c)) (hH : Go.Vx.HpOk e w [(0, .row 9 16 1 n xs)])
    (hg : w.heap[g]? = some (.cells cur 9 (0, 0))) (hgr : w.grownBy w' (some g)) (hg' : w'.heap[g]? = some (.cells cur' 9 (0, 0))) (hsz : cur'.size = cur.size) (hm' : l'.length = m) (hcap : m ≤ c) (hmax : c ≤ maxLen) (hcs : o + c * 1 ≤ cur.size) (hcut : (cur'.toList.drop o).take m = l'.map encStr) (hlim : m * 16 ≤ Go.Vx.LB) :
    Go.Vx.Left G0 0 e w [(0, .row 9 16 1 n xs)] ⟨[.slice (some ⟨g, o, none⟩) m c], e.pub⟩ w' [(0, .row 9 16 1 m (encBS l'))] := by
  have h0 : ∀ i, Go.Vx.has [(0, Go.Vx.Ob.row 9 16 1 m (encBS l'))] i → i = 0 := by
    intro i hi
    unfold Go.Vx.has at hi
    simp only [Go.Vc.lk] at hi
    split at hi
    · rename_i e1; exact (Go.Vc.nbeq.1 e1).symm
    · cases hi
  have hf : Go.Vx.foot e 0 g := ⟨_, hm, by rfl⟩
  have hft : ∀ k, Go.Vx.foot ⟨[.slice (some ⟨g, o, none⟩) m c], e.pub⟩ 0 k → k = g := by
    rintro k ⟨v, h1, h2⟩
    have h1 : some (Value.slice (some ⟨g, o, none⟩) m c) = some v := h1
    injection h1 with h1; subst h1
    have h2 : some g = some k := h2
    injection h2 with h2; exact h2.symm
  have hpub : ¬ e.pub g := fun hp => hH.npub 0 g (by rfl) hf hp
  refine ⟨⟨fun i ob ho => ?_, fun i j k hi hj hne _ _ => absurd ((h0 i hi).trans (h0 j hj).symm) hne, fun i k hi hk hp => ?_, fun k hk => Nat.lt_of_lt_of_le (hH.pubLt k hk) hgr.size⟩, by simp [hlen], ?_, trivial, fun i v hv hns => ?_, fun k hk => hk, fun k hk => .inl hk, fun i hi => ?_, fun i k hi hk => ?_⟩
  · obtain rfl := h0 i (by simp [Go.Vx.has, ho])
    simp only [Go.Vc.lk, Nat.beq_refl] at ho
    injection ho with ho; subst ho
    exact ⟨some ⟨g, o, none⟩, c, l'.map encStr, rfl, ⟨m, by simp [hm'], .inr ⟨g, o, c, cur', rfl, hg', hcap, hmax, by rw [hsz]; exact hcs, by rw [Nat.mul_one]; exact hcut⟩⟩, repS_of _ _ l', hlim⟩
  · obtain rfl := h0 i hi
    rw [hft k hk] at hp
    exact hpub hp
  · exact ⟨hgr.os, hgr.tape, hgr.output, hgr.size, fun k hk hn => hgr.block k hk (fun e1 => by injection e1 with e1; subst e1; exact hn ⟨0, by rfl, hf⟩)⟩
  · rcases Nat.eq_zero_or_pos i with rfl | hi
    · rw [hm] at hv; injection hv with hv; exact absurd hv.symm (hns _ _ _)
    · have := (List.getElem?_eq_some_iff.1 hv).1; omega
  · obtain rfl := h0 i hi; simp [hlen]
  · obtain rfl := h0 i hi
    rw [hft k hk]
    exact .inl ⟨0, by rfl, hf⟩
def srtS (l : List (List UInt8)) : List (List UInt8) := l.mergeSort fun x y => decide (x ≤ y)
theorem sortS_tri (l : List (List UInt8)) (hl : l.length * 16 ≤ Go.Vx.LB) : Go.Vx.Tri Tryz.prog G0 154 1 0 [.row 0] [(0, .row 9 16 1 l.length (encBS l))] (fun o H' => o = .ret (.tup []) ∧ H' = [(0, .row 9 16 1 l.length (encBS (srtS l)))]) := by
  intro e w vs hlen hargs hH hG
  simp only [Go.Vx.RepSVs, Go.Vx.RepSV] at hargs
  obtain ⟨v, s, rfl, ⟨A, n, c, rfl, hm⟩, rfl⟩ := hargs
  obtain ⟨A', c', xs, hm', hrow, hxs, hlb⟩ := hH.ob 0 _ rfl
  rw [hm] at hm'; injection hm' with hm'; injection hm' with e1 e2 e3
  subst e1; subst e2; subst e3
  have hx := repS_flat hxs
  have hsl : (srtS l).length = l.length := by unfold srtS; simp
  obtain ⟨n', hn, ⟨hv, hz⟩ | ⟨g, o, cap, cur, hv, hg, hc1, hc2, hsz, htk⟩⟩ := hrow
  · simp only at hv hn
    injection hv with h1 h2 h3
    subst h1; subst h3
    have hl0 : l = [] := List.eq_nil_of_length_eq_zero h2
    subst hl0
    refine (Any.slices_Sort_string_none sortS none 0 w).mono ?_
    rintro en w' ⟨rfl, rfl⟩
    refine ⟨.ret (.tup []), _, e, ⟨rfl, rfl⟩, ⟨_, rfl, by simp only [Go.Vx.RepSV, Go.Vx.RepSVs]; exact ⟨_, rfl, rfl⟩⟩, ?_⟩
    exact ⟨by simpa [srtS] using hH, rfl, Go.Vc.Only.refl _ _, trivial, fun _ _ h _ => h, fun _ h => h, fun _ h => .inl h, fun i hi => by
      have : i = 0 := by
        unfold Go.Vx.has at hi
        simp only [Go.Vc.lk] at hi
        split at hi
        · rename_i e1; exact (Go.Vc.nbeq.1 e1).symm
        · cases hi
      omega, fun i k hi hk => .inl ⟨0, by rfl, by
        have : i = 0 := by
          unfold Go.Vx.has at hi
          simp only [Go.Vc.lk] at hi
          split at hi
          · rename_i e1; exact (Go.Vc.nbeq.1 e1).symm
          · cases hi
        subst this; exact hk⟩⟩
  · simp only at hv hg htk hn hsz
    injection hv with h1 h2 h3
    subst h1; subst h3
    have hnl : n' = l.length := h2.symm
    subst hnl
    rw [Nat.mul_one, hx] at htk
    have hlt := (Array.getElem?_eq_some_iff.1 hg).1
    have hl' := hl
    simp only [Go.Vx.LB] at hl'
    refine (Any.slices_Sort_string sortS g o c l w (holdsS hg htk) hlt (by omega)).mono ?_
    rintro en w' ⟨rfl, q, os, rfl⟩
    refine ⟨.ret (.tup []), _, _, ⟨rfl, rfl⟩, ⟨_, rfl, by simp only [Go.Vx.RepSV, Go.Vx.RepSVs]; exact ⟨_, rfl, rfl⟩⟩, row_leftS (l := l) hlen hm hH hg (grownBy_putS _) (heap_putS _ hg) (putCells_lenS _ _ _) hsl hc1 hc2 hsz ?_ hl⟩
    have := putCells_cutS o l.length (srtS l).toArray cur (by simp [hsl]; omega) (by simp [hsl])
    rw [List.toList_toArray, ← hsl, List.take_length] at this
    rw [← hsl]
    exact this
theorem compS_tri (l : List (List UInt8)) (hl : l.length * 16 ≤ Go.Vx.LB) : Go.Vx.Tri Tryz.prog G0 155 1 0 [.row 0] [(0, .row 9 16 1 l.length (encBS l))] (fun o H' => o = .ret (.row 0) ∧ H' = [(0, .row 9 16 1 (Lib.compact l).length (encBS (Lib.compact l)))]) := by
  intro e w vs hlen hargs hH hG
  simp only [Go.Vx.RepSVs, Go.Vx.RepSV] at hargs
  obtain ⟨v, s, rfl, ⟨A, n, c, rfl, hm⟩, rfl⟩ := hargs
  obtain ⟨A', c', xs, hm', hrow, hxs, hlb⟩ := hH.ob 0 _ rfl
  rw [hm] at hm'; injection hm' with hm'; injection hm' with e1 e2 e3
  subst e1; subst e2; subst e3
  have hx := repS_flat hxs
  have hcl : (Lib.compact l).length ≤ l.length := by
    unfold Lib.compact Lib.compactUpTo
    rw [List.length_map]
    exact Nat.le_trans (List.length_filter_le _ _) (by simp)
  obtain ⟨n', hn, ⟨hv, hz⟩ | ⟨g, o, cap, cur, hv, hg, hc1, hc2, hsz, htk⟩⟩ := hrow
  · simp only at hv hn
    injection hv with h1 h2 h3
    subst h1; subst h3
    have hl0 : l = [] := List.eq_nil_of_length_eq_zero h2
    subst hl0
    refine (Any.slices_Compact_string_empty compS none 0 w).mono ?_
    rintro en w' ⟨rfl, rfl⟩
    refine ⟨.ret (.row 0), _, e, ⟨rfl, rfl⟩, ⟨_, rfl, by simp only [Go.Vx.RepSV]; exact ⟨_, _, _, rfl, hm⟩⟩, ?_⟩
    exact ⟨hH, rfl, Go.Vc.Only.refl _ _, trivial, fun _ _ h _ => h, fun _ h => h, fun _ h => .inl h, fun i hi => by
      have : i = 0 := by
        unfold Go.Vx.has at hi
        simp only [Go.Vc.lk] at hi
        split at hi
        · rename_i e1; exact (Go.Vc.nbeq.1 e1).symm
        · cases hi
      omega, fun i k hi hk => .inl ⟨0, by rfl, by
        have : i = 0 := by
          unfold Go.Vx.has at hi
          simp only [Go.Vc.lk] at hi
          split at hi
          · rename_i e1; exact (Go.Vc.nbeq.1 e1).symm
          · cases hi
        subst this; exact hk⟩⟩
  · simp only at hv hg htk hn hsz
    injection hv with h1 h2 h3
    subst h1; subst h3
    have hnl : n' = l.length := h2.symm
    subst hnl
    rw [Nat.mul_one, hx] at htk
    have hlt := (Array.getElem?_eq_some_iff.1 hg).1
    have hl' := hl
    simp only [Go.Vx.LB] at hl'
    refine (Any.slices_Compact_string compS g o c l w (holdsS hg htk) (by omega) hc1).mono ?_
    rintro en w' ⟨rfl, q, rfl⟩
    have hgrow : ∀ d : Array (List UInt8), putRow encStr (Sort.ahead w q) g o d = grow (putRow encStr (Sort.ahead w q) g o d) #[] := fun d => by unfold grow; rw [Array.append_empty]
    rw [hgrow]
    refine ⟨.ret (.row 0), _, _, ⟨rfl, rfl⟩, ⟨_, rfl, by simp only [Go.Vx.RepSV]; exact ⟨_, _, _, rfl, rfl⟩⟩, row_leftS (l := l) hlen hm hH hg (grownBy_putS _) (heap_putS _ hg) (putCells_lenS _ _ _) rfl (Nat.le_trans hcl hc1) hc2 hsz ?_ (Nat.le_trans (Nat.mul_le_mul_right _ hcl) hl)⟩
    have := putCells_cutS o (Lib.compact l).length (Lib.compact l ++ List.replicate (l.length - (Lib.compact l).length) []).toArray cur (by simp; omega) (by simp)
    rw [this]
    simp
end Go.Proofs.YtmjjajhkokdikaaGreat

/- names.Set, Con, Out. -/
set_option linter.unusedSimpArgs false
set_option linter.unusedVariables false
namespace Go.Proofs.YtmjjajhkokdikaaGreat
open Go.Vx Go.Vc Go.RowKit

def byt (s : ByteArray) : List UInt8 := s.data.toList
def txt8 (l : List UInt8) : ByteArray := ⟨l.toArray⟩
theorem txt8_byt (s : ByteArray) : txt8 (byt s) = s := by simp [txt8, byt]
theorem byt_txt8 (l : List UInt8) : byt (txt8 l) = l := by simp [txt8, byt]
theorem encS_bs (l : List ByteArray) : encS l = encBS (l.map byt) := by
  unfold encS encBS
  rw [List.map_map]
  refine List.map_congr_left fun s _ => ?_
  show D.str s = D.str (txt8 (byt s))
  rw [txt8_byt]
theorem encBS_s (l : List (List UInt8)) : encBS l = encS (l.map txt8) := by
  unfold encS encBS
  rw [List.map_map]
  rfl
/-- Texts in order, each once. -/
def setS (l : List ByteArray) : List ByteArray := (Go.Lib.compact (srtS (l.map byt))).map txt8
theorem compact_len {α : Type} [DecidableEq α] [Inhabited α] (l : List α) : (Go.Lib.compact l).length ≤ l.length := by
  unfold Go.Lib.compact Go.Lib.compactUpTo
  rw [List.length_map]
  exact Nat.le_trans (List.length_filter_le _ _) (by simp)
theorem setS_len (l : List ByteArray) : (setS l).length ≤ l.length := by
  unfold setS
  rw [List.length_map]
  refine Nat.le_trans (compact_len _) ?_
  simp [srtS]
theorem cloneS_tri (l : List ByteArray) : Tri Tryz.prog G0 153 0 1 [.d (dL l)] [] (fun o H' => o = .ret (.row 0) ∧ H' = [(0, .row 9 16 1 l.length (encS l))]) := by
  refine tri_sz fun hs => ?_
  have hl := (szOk_sl (hs (.d (dL l)) (by simp))).1
  refine triNil (args := [.d (dL l)]) (Q := fun o H' => (o = .ret (.row 0) ∧ H' = [(0, .row 9 16 1 l.length (encS l))]) ∨ (o = .ret .nl ∧ l = [])) 9 16 1 ?_ ?_
  · refine tri_of_vc (args := [.d (dL l)]) txok mixed [0] [] Tryz.func153 rfl rfl (by simp) fun b => ?_
    conv => whnf
    intro c hc
    conv => whnf
    refine And.intro (fun h => ?_) (fun h => ?_)
    · conv => whnf
      exact .inr ⟨rfl, List.eq_nil_of_length_eq_zero (hc h)⟩
    · conv => whnf
      refine appR (i := 0) (sz := 1) (n := 0) (m := l.length) (xs := []) (ys := encS l) txok (fun _ => false) l.length (encS l) rfl rfl rfl (by kernel_rfl) (by simp [encS_len]) (encS_scal l) (by simp) (by simp) hl ?_
      conv => whnf
      exact .inl ⟨rfl, rfl⟩
  · rintro o H' (h | ⟨rfl, rfl⟩)
    · exact .inl h
    · exact .inr ⟨rfl, rfl, rfl⟩
theorem srtS_len (l : List (List UInt8)) : (srtS l).length = l.length := by simp [srtS]
open Go.Proofs in
open Go.Shelf in
theorem sortS_in (l : List (List UInt8)) (hl : l.length * 16 ≤ LB) {S : Nat → Prop} {w : World} {A : Option Addr} {c : Nat} {vs : List Value} (hrow : RowOk w ⟨.slice A l.length c, 9, 1, vs⟩) (hxs : RepDs S w (encBS l) vs) :
    Calls Tryz.prog 154 #[.slice A l.length c] w fun en w' => en = .returned (.tuple #[]) ∧ Only (fun k => Vc.rowB (.slice A l.length c) = some k) w w' ∧ ∃ vs', RowOk w' ⟨.slice A l.length c, 9, 1, vs'⟩ ∧ ∀ S, RepDs S w' (encBS (srtS l)) vs' := by
  have hx := repS_flat hxs
  obtain ⟨n', hn, ⟨hv, hz⟩ | ⟨g, o, cap, cur, hv, hg, hc1, hc2, hsz, htk⟩⟩ := hrow
  · simp only at hv hn
    injection hv with h1 h2 h3
    subst h1; subst h3
    have hl0 : l = [] := List.eq_nil_of_length_eq_zero h2
    subst hl0
    refine (Any.slices_Sort_string_none sortS none 0 w).mono ?_
    rintro en w' ⟨rfl, rfl⟩
    exact ⟨rfl, Only.refl _ _, [], ⟨0, rfl, .inl ⟨rfl, rfl⟩⟩, fun S => by simp [srtS, encBS, RepDs]⟩
  · simp only at hv hg htk hn hsz
    injection hv with h1 h2 h3
    subst h1; subst h3
    have hnl : n' = l.length := h2.symm
    subst hnl
    rw [Nat.mul_one, hx] at htk
    have hlt := (Array.getElem?_eq_some_iff.1 hg).1
    have hl' := hl
    simp only [LB] at hl'
    refine (Any.slices_Sort_string sortS g o c l w (holdsS hg htk) hlt (by omega)).mono ?_
    rintro en w' ⟨rfl, q, os, rfl⟩
    have hgr := grownBy_putS (w := w) (g := g) (n := q) (o := o) (os := os) (srtS l).toArray
    refine ⟨rfl, ⟨hgr.os, hgr.tape, hgr.output, hgr.size, fun k hk hn => hgr.block k hk fun e1 => by injection e1 with e1; subst e1; exact hn rfl⟩, (srtS l).map encStr, ⟨l.length, by simp [srtS_len], .inr ⟨g, o, c, _, rfl, heap_putS _ hg, hc1, hc2, by rw [putCells_lenS]; exact hsz, ?_⟩⟩, fun S => repS_of _ _ _⟩
    have := putCells_cutS o l.length (srtS l).toArray cur (by simp [srtS_len]; omega) (by simp [srtS_len])
    rw [List.toList_toArray, ← srtS_len l, List.take_length] at this
    rw [Nat.mul_one, ← srtS_len l]
    exact this
theorem sorted_fn (l : List ByteArray) : FnR Tryz.prog G0 135 [dL l] (dL (setS l)) := by
  refine fnQ_sz fun hs => ?_
  have hl := (szOk_sl hs.1).1
  refine fnQ_of_vc txok mixed [] Tryz.func135 rfl rfl (by simp) fun b => ?_
  conv => whnf
  refine callT [] (cloneS_tri l) gf153 rfl rfl trivial rfl ?_
  rintro o' H' ⟨rfl, rfl⟩
  conv => whnf
  rw [encS_bs, show l.length = (l.map byt).length from by simp]
  refine inPlaceC (encBS (srtS (l.map byt))) rfl gf154 (fun _ _ => trivial) rfl (fun S w A c vs h1 h2 => sortS_in (l.map byt) (by simpa using hl) h1 h2) ?_
  conv => whnf
  rw [show (l.map byt).length = (srtS (l.map byt)).length from (srtS_len _).symm]
  refine callT [0] (compS_tri (srtS (l.map byt)) (by rw [srtS_len]; simpa using hl)) gf155 rfl rfl ⟨rfl, trivial⟩ rfl ?_
  rintro o' H' ⟨rfl, rfl⟩
  rw [show (Go.Lib.compact (srtS (l.map byt))).length = (setS l).length from by simp [setS]]
  conv => whnf
  rw [encBS_s]
  rfl
theorem set_fn (l : List ByteArray) : FnR Tryz.prog G0 91 [dL l] (dL (setS l)) := by
  refine fnQ_of_vc txok mixed [] Tryz.func91 rfl rfl (by simp) fun b => ?_
  conv => whnf
  refine callF (sorted_fn l) gf135 rfl rfl ?_
  conv => whnf
  try exact rfl
/-- The labels of a constructor, of a datatype. -/
def conL (s : ByteArray) : ByteArray := s ++ ⟨#[40, 41]⟩
def outL (s : ByteArray) : ByteArray := ⟨#[111, 117, 116, 32]⟩ ++ s
theorem con_fn (s : ByteArray) (hs : s.size < 4611686018427387904) : FnR Tryz.prog G0 127 [.str s] (.str (conL s)) := by
  refine fnQ_of_vc txok mixed [] Tryz.func127 rfl rfl (by simp) fun b => ?_
  conv => whnf
  refine And.intro ?_ ?_
  · have h2 : (⟨#[40, 41]⟩ : ByteArray).size = 2 := rfl
    rw [h2]; omega
  conv => whnf
  try exact rfl
theorem out_fn (s : ByteArray) (hs : s.size < 4611686018427387904) : FnR Tryz.prog G0 129 [.str s] (.str (outL s)) := by
  refine fnQ_of_vc txok mixed [] Tryz.func129 rfl rfl (by simp) fun b => ?_
  conv => whnf
  refine And.intro ?_ ?_
  · have h2 : (⟨#[111, 117, 116, 32]⟩ : ByteArray).size = 4 := rfl
    rw [h2]; omega
  conv => whnf
  try exact rfl
end Go.Proofs.YtmjjajhkokdikaaGreat

/- Structures as data; a structure's fields. -/
set_option linter.unusedSimpArgs false
set_option linter.unusedVariables false
namespace Go.Proofs.YtmjjajhkokdikaaGreat
open Go.Vx Go.Vc Go.RowKit

/-- A type member; a value member. -/
structure TyM where
  nm : ByteArray
  t : Tp
  cs : List CT
structure VlM where
  nm : ByteArray
  g : Int
  t : Tp
mutual
/-- A structure; its structures, functors, signatures. -/
inductive StrT where
  | mk (tys : List TyM) (vals : List VlM) (subs : List SubT) (funs : List FunT) (sigs : List SigT)
inductive SubT where
  | mk (nm : ByteArray) (s : StrT)
inductive FunT where
  | mk (nm : ByteArray) (st : List Int) (arg : StrT) (rst : List Int) (res : StrT)
inductive SigT where
  | mk (nm : ByteArray) (st : List Int) (s : StrT)
end
def encTyM (m : TyM) : List D := [.str m.nm, .int .i64 m.t.k, .int .i64 m.t.n, slD 40 m.t.kids.length (encK m.t.kids), slD 40 m.cs.length (fl encCT m.cs)]
def encVlM (m : VlM) : List D := [.str m.nm, .int .i64 m.g, .int .i64 m.t.k, .int .i64 m.t.n, slD 40 m.t.kids.length (encK m.t.kids)]
mutual
def encStr : StrT → List D
  | .mk tys vals subs funs sigs => [slD 80 tys.length (fl encTyM tys), slD 64 vals.length (fl encVlM vals), slD 136 subs.length (encSubs subs), slD 304 funs.length (encFuns funs), slD 160 sigs.length (encSigs sigs)]
def encSubs : List SubT → List D
  | [] => []
  | x :: r => encSub0 x ++ encSubs r
def encSub0 : SubT → List D
  | .mk nm s => .str nm :: encStr s
def encFuns : List FunT → List D
  | [] => []
  | x :: r => encFun0 x ++ encFuns r
def encFun0 : FunT → List D
  | .mk nm st a rst r => .str nm :: slD 8 st.length (Vx.encI st) :: (encStr a ++ slD 8 rst.length (Vx.encI rst) :: encStr r)
def encSigs : List SigT → List D
  | [] => []
  | x :: r => encSig0 x ++ encSigs r
def encSig0 : SigT → List D
  | .mk nm st s => .str nm :: slD 8 st.length (Vx.encI st) :: encStr s
end
theorem encStr_len (s : StrT) : (encStr s).length = 5 := by cases s; simp only [encStr]; rfl
theorem encSub0_len (s : SubT) : (encSub0 s).length = 6 := by cases s; simp only [encSub0, List.length_cons, encStr_len]
theorem encFun0_len (s : FunT) : (encFun0 s).length = 13 := by cases s; simp only [encFun0, List.length_cons, List.length_append, encStr_len]
theorem encSubs_eq : ∀ l : List SubT, encSubs l = fl encSub0 l
  | [] => by simp only [encSubs]; rfl
  | x :: r => by simp only [encSubs, fl, encSubs_eq r]
theorem encFuns_eq : ∀ l : List FunT, encFuns l = fl encFun0 l
  | [] => by simp only [encFuns]; rfl
  | x :: r => by simp only [encFuns, fl, encFuns_eq r]
abbrev dStr (s : StrT) : D := .agg (encStr s)
/-- What a constructor's, a datatype's, a value's, a structure's, a functor's closure is. -/
def stD (m : TyM) : D := .ptr [.fn 125 [] [.ptr (encTyM m) 0]] 0
def conD (m : TyM) (c : CT) : D := .fn 128 [] [stD m, .ptr (encCT c) 0]
def outD (m : TyM) : D := .fn 130 [] [stD m, .ptr (encTyM m) 0]
def valD (m : VlM) : D := .fn 131 [] [.ptr (encVlM m) 0]
def subD (m : SubT) : D := .fn 132 [] [.ptr (encSub0 m) 0]
def funD (m : FunT) : D := .fn 133 [] [.ptr (encFun0 m) 0]
def SubT.nm : SubT → ByteArray | .mk nm _ => nm
def FunT.nm : FunT → ByteArray | .mk nm _ _ _ _ => nm
abbrev Fld := ByteArray × D
def encF (x : Fld) : List D := [.str x.1, x.2]
theorem encF_len (x : Fld) : (encF x).length = 2 := rfl
def conFs (m : TyM) : List Fld := m.cs.map fun c => (conL c.1, conD m c)
def tyFs (m : TyM) : List Fld := if m.cs = [] then [] else conFs m ++ [(outL m.nm, outD m)]
def tysFs (l : List TyM) : List Fld := l.flatMap tyFs
def valFs (l : List VlM) : List Fld := l.map fun m => (m.nm, valD m)
def subFs (l : List SubT) : List Fld := l.map fun m => (m.nm, subD m)
def funFs (l : List FunT) : List Fld := l.map fun m => (m.nm, funD m)
abbrev gatO (sD : D × D × D × D × D) (i : Nat) : Ob := .blk 119 [.d sD.1, .d sD.2.1, .d sD.2.2.1, .d sD.2.2.2.1, .d sD.2.2.2.2, .row i]
abbrev fldO (xs : List Fld) : Ob := .row 122 24 2 xs.length (fl encF xs)
abbrev gatH (sD : D × D × D × D × D) (xs : List Fld) : Hp := [(0, gatO sD 1), (1, fldO xs)]
theorem encF_scal (l : List Fld) (hl : ∀ x ∈ l, scalD x.2 = true) : ∀ d ∈ fl encF l, scalD d = true := by
  intro d hd
  obtain ⟨x, hx, h⟩ := fl_mem hd
  simp only [encF, List.mem_cons, List.not_mem_nil, or_false] at h
  rcases h with rfl | rfl
  · rfl
  · exact hl x hx
/-- One field more. -/
theorem put_tri (sD : D × D × D × D × D) (xs : List Fld) (lab : ByteArray) (f : FuncId) (caps : List D) (hx : ∀ x ∈ xs, scalD x.2 = true) (hl : xs.length < 1099511627776) :
    Tri Tryz.prog G0 126 2 0 [.own 0 0, .d (.str lab), .d (.fn f [] caps)] (gatH sD xs) (fun o H' => o = .ret (.tup []) ∧ H' = gatH sD (xs ++ [(lab, .fn f [] caps)])) := by
  obtain ⟨d0, d1, d2, d3, d4⟩ := sD
  refine tri_of_vc txok mixed [] [] Tryz.func126 rfl rfl (by simp) fun b => ?_
  conv => whnf
  refine appR (i := 1) (sz := 2) (n := xs.length) (m := 1) (xs := fl encF xs) (ys := fl encF [(lab, .fn f [] caps)]) txok (fun k => Nat.ble 2 k) (xs ++ [(lab, D.fn f [] caps)]).length (fl encF (xs ++ [(lab, .fn f [] caps)])) (by exact rfl) (by exact rfl) (by exact rfl) (by kernel_rfl) (by exact rfl) (encF_scal _ (fun x hx => by simp at hx; subst hx; rfl)) (by simp) (by rw [fl_app]) (by simp only [LB, List.length_append, List.length_cons, List.length_nil]; omega) ?_
  conv => whnf
  exact ⟨rfl, rfl⟩
theorem values_tri (d0 d2 d3 d4 : D) (vals : List VlM) (xs : List Fld) (hx : ∀ x ∈ xs, scalD x.2 = true) (hl : xs.length + vals.length < 1099511627776) :
    Tri Tryz.prog G0 88 2 0 [.own 0 0] (gatH (d0, slD 64 vals.length (fl encVlM vals), d2, d3, d4) xs) (fun o H' => o = .ret (.tup []) ∧ H' = gatH (d0, slD 64 vals.length (fl encVlM vals), d2, d3, d4) (xs ++ valFs vals)) := by
  refine tri_of_vc txok mixed [] [] Tryz.func88 rfl rfl (by simp) fun b => ?_
  conv => whnf
  refine loopH (fun i : Nat => i ≤ vals.length) (fun i => vals.length - i) (fun i => [(10, .d (.int .i64 i))]) (fun i => gatH (d0, slD 64 vals.length (fl encVlM vals), d2, d3, d4) (xs ++ valFs (vals.take i))) 2 0 (by omega) (weak_of rfl (by repeat ((conv => whnf); first | exact trivial | refine And.intro rfl ?_ | refine And.intro (incD (by omega)) ?_)) (by simp only [List.take_zero, valFs, List.map_nil, List.append_nil]; repeat ((conv => whnf); first | exact trivial | refine And.intro rfl ?_ | refine And.intro (incD (by omega)) ?_))) ?_
  intro i hi
  have hxi : ∀ x ∈ xs ++ valFs (vals.take i), scalD x.2 = true := by
    intro x h
    rcases List.mem_append.1 h with h | h
    · exact hx x h
    · simp only [valFs, List.mem_map] at h
      obtain ⟨_, _, rfl⟩ := h
      rfl
  have hln : (xs ++ valFs (vals.take i)).length < 1099511627776 := by simp [valFs]; omega
  conv => whnf
  refine And.intro (fun hb => ?_) (fun hb => ?_)
  · have hil : i < vals.length := by have := of_decide_eq_true hb; omega
    have htk : xs ++ valFs (vals.take (i + 1)) = (xs ++ valFs (vals.take i)) ++ [(vals[i].nm, valD vals[i])] := by
      rw [List.take_succ_eq_append_getElem hil]; simp only [valFs, List.map_append, List.append_assoc, List.map_cons, List.map_nil]
    conv => whnf
    refine IdxC.fl (w := 5) (fun _ => rfl) i hil rfl ?_
    generalize vals[i] = m at htk
    conv => whnf
    refine pubC (fun i => Nat.beq i 2) ?_
    conv => whnf
    refine callT [0, 1] (put_tri (d0, slD 64 vals.length (fl encVlM vals), d2, d3, d4) (xs ++ valFs (vals.take i)) _ _ _ hxi hln) gf126 rfl rfl ⟨rfl, rfl, trivial⟩ rfl ?_
    rintro o' H' ⟨rfl, rfl⟩
    conv => whnf
    rw [incD (by omega)]
    exact again (i + 1) (by omega) (by omega) (weak_of rfl (by repeat ((conv => whnf); first | exact trivial | refine And.intro rfl ?_ | refine And.intro (incD (by omega)) ?_)) (by rw [htk]; repeat ((conv => whnf); first | exact trivial | refine And.intro rfl ?_ | refine And.intro (incD (by omega)) ?_)))
  · have hi : i = vals.length := by have := of_decide_eq_false hb; omega
    subst hi
    rw [List.take_length]
    conv => whnf
    exact ⟨rfl, rfl⟩
theorem structures_tri (d0 d1 d3 d4 : D) (subs : List SubT) (xs : List Fld) (hx : ∀ x ∈ xs, scalD x.2 = true) (hl : xs.length + subs.length < 1099511627776) :
    Tri Tryz.prog G0 89 2 0 [.own 0 0] (gatH (d0, d1, slD 136 subs.length (fl encSub0 subs), d3, d4) xs) (fun o H' => o = .ret (.tup []) ∧ H' = gatH (d0, d1, slD 136 subs.length (fl encSub0 subs), d3, d4) (xs ++ subFs subs)) := by
  refine tri_of_vc txok mixed [] [] Tryz.func89 rfl rfl (by simp) fun b => ?_
  conv => whnf
  refine loopH (fun i : Nat => i ≤ subs.length) (fun i => subs.length - i) (fun i => [(10, .d (.int .i64 i))]) (fun i => gatH (d0, d1, slD 136 subs.length (fl encSub0 subs), d3, d4) (xs ++ subFs (subs.take i))) 2 0 (by omega) (weak_of rfl (by repeat ((conv => whnf); first | exact trivial | refine And.intro rfl ?_ | refine And.intro (incD (by omega)) ?_)) (by simp only [List.take_zero, subFs, List.map_nil, List.append_nil]; repeat ((conv => whnf); first | exact trivial | refine And.intro rfl ?_ | refine And.intro (incD (by omega)) ?_))) ?_
  intro i hi
  have hxi : ∀ x ∈ xs ++ subFs (subs.take i), scalD x.2 = true := by
    intro x h
    rcases List.mem_append.1 h with h | h
    · exact hx x h
    · simp only [subFs, List.mem_map] at h
      obtain ⟨_, _, rfl⟩ := h
      rfl
  have hln : (xs ++ subFs (subs.take i)).length < 1099511627776 := by simp [subFs]; omega
  conv => whnf
  refine And.intro (fun hb => ?_) (fun hb => ?_)
  · have hil : i < subs.length := by have := of_decide_eq_true hb; omega
    have htk : xs ++ subFs (subs.take (i + 1)) = (xs ++ subFs (subs.take i)) ++ [(subs[i].nm, subD subs[i])] := by
      rw [List.take_succ_eq_append_getElem hil]; simp only [subFs, List.map_append, List.append_assoc, List.map_cons, List.map_nil]
    conv => whnf
    refine IdxC.fl (w := 6) encSub0_len i hil rfl ?_
    generalize subs[i] = m at htk
    obtain ⟨nm, s⟩ := m
    obtain ⟨a1, a2, a3, a4, a5⟩ := s
    simp only [encSub0, encStr, SubT.nm, subD] at *
    conv => whnf
    refine pubC (fun i => Nat.beq i 2) ?_
    conv => whnf
    refine callT [0, 1] (put_tri (d0, d1, slD 136 subs.length (fl encSub0 subs), d3, d4) (xs ++ subFs (subs.take i)) _ _ _ hxi hln) gf126 rfl rfl ⟨rfl, rfl, trivial⟩ rfl ?_
    rintro o' H' ⟨rfl, rfl⟩
    conv => whnf
    rw [incD (by omega)]
    exact again (i + 1) (by omega) (by omega) (weak_of rfl (by repeat ((conv => whnf); first | exact trivial | refine And.intro rfl ?_ | refine And.intro (incD (by omega)) ?_)) (by rw [htk]; repeat ((conv => whnf); first | exact trivial | refine And.intro rfl ?_ | refine And.intro (incD (by omega)) ?_)))
  · have hi : i = subs.length := by have := of_decide_eq_false hb; omega
    subst hi
    rw [List.take_length]
    conv => whnf
    exact ⟨rfl, rfl⟩
theorem functors_tri (d0 d1 d2 d4 : D) (funs : List FunT) (xs : List Fld) (hx : ∀ x ∈ xs, scalD x.2 = true) (hl : xs.length + funs.length < 1099511627776) :
    Tri Tryz.prog G0 90 2 0 [.own 0 0] (gatH (d0, d1, d2, slD 304 funs.length (fl encFun0 funs), d4) xs) (fun o H' => o = .ret (.tup []) ∧ H' = gatH (d0, d1, d2, slD 304 funs.length (fl encFun0 funs), d4) (xs ++ funFs funs)) := by
  refine tri_of_vc txok mixed [] [] Tryz.func90 rfl rfl (by simp) fun b => ?_
  conv => whnf
  refine loopH (fun i : Nat => i ≤ funs.length) (fun i => funs.length - i) (fun i => [(10, .d (.int .i64 i))]) (fun i => gatH (d0, d1, d2, slD 304 funs.length (fl encFun0 funs), d4) (xs ++ funFs (funs.take i))) 2 0 (by omega) (weak_of rfl (by repeat ((conv => whnf); first | exact trivial | refine And.intro rfl ?_ | refine And.intro (incD (by omega)) ?_)) (by simp only [List.take_zero, funFs, List.map_nil, List.append_nil]; repeat ((conv => whnf); first | exact trivial | refine And.intro rfl ?_ | refine And.intro (incD (by omega)) ?_))) ?_
  intro i hi
  have hxi : ∀ x ∈ xs ++ funFs (funs.take i), scalD x.2 = true := by
    intro x h
    rcases List.mem_append.1 h with h | h
    · exact hx x h
    · simp only [funFs, List.mem_map] at h
      obtain ⟨_, _, rfl⟩ := h
      rfl
  have hln : (xs ++ funFs (funs.take i)).length < 1099511627776 := by simp [funFs]; omega
  conv => whnf
  refine And.intro (fun hb => ?_) (fun hb => ?_)
  · have hil : i < funs.length := by have := of_decide_eq_true hb; omega
    have htk : xs ++ funFs (funs.take (i + 1)) = (xs ++ funFs (funs.take i)) ++ [(funs[i].nm, funD funs[i])] := by
      rw [List.take_succ_eq_append_getElem hil]; simp only [funFs, List.map_append, List.append_assoc, List.map_cons, List.map_nil]
    conv => whnf
    refine IdxC.fl (w := 13) encFun0_len i hil rfl ?_
    generalize funs[i] = m at htk
    obtain ⟨nm, st, arg, rst, res⟩ := m
    obtain ⟨a1, a2, a3, a4, a5⟩ := arg
    obtain ⟨b1, b2, b3, b4, b5⟩ := res
    simp only [encFun0, encStr]
    simp only [encFun0, encStr, FunT.nm, funD, List.cons_append, List.nil_append] at htk
    conv => whnf
    refine pubC (fun i => Nat.beq i 2) ?_
    conv => whnf
    refine callT [0, 1] (put_tri (d0, d1, d2, slD 304 funs.length (fl encFun0 funs), d4) (xs ++ funFs (funs.take i)) _ _ _ hxi hln) gf126 rfl rfl ⟨rfl, rfl, trivial⟩ rfl ?_
    rintro o' H' ⟨rfl, rfl⟩
    conv => whnf
    rw [incD (by omega)]
    exact again (i + 1) (by omega) (by omega) (weak_of rfl (by repeat ((conv => whnf); first | exact trivial | refine And.intro rfl ?_ | refine And.intro (incD (by omega)) ?_)) (by rw [htk]; repeat ((conv => whnf); first | exact trivial | refine And.intro rfl ?_ | refine And.intro (incD (by omega)) ?_)))
  · have hi : i = funs.length := by have := of_decide_eq_false hb; omega
    subst hi
    rw [List.take_length]
    conv => whnf
    exact ⟨rfl, rfl⟩
theorem tysFs_snoc (l : List TyM) (m : TyM) : tysFs (l ++ [m]) = tysFs l ++ tyFs m := by simp [tysFs]
theorem tysFs_scal : ∀ (l : List TyM), ∀ x ∈ tysFs l, scalD x.2 = true := by
  intro l x hx
  simp only [tysFs, List.mem_flatMap, tyFs, conFs] at hx
  obtain ⟨m, _, hx⟩ := hx
  split at hx
  · cases hx
  · simp only [List.mem_append, List.mem_map, List.mem_singleton] at hx
    rcases hx with ⟨_, _, rfl⟩ | rfl <;> rfl
theorem tysFs_le {l : List TyM} {i : Nat} : (tysFs (l.take i)).length ≤ (tysFs l).length := by
  conv => rhs; rw [← List.take_append_drop i l]
  simp only [tysFs, List.flatMap_append, List.length_append]
  omega
abbrev tup0 (tys : List TyM) (d1 d2 d3 d4 : D) : D × D × D × D × D := (slD 80 tys.length (fl encTyM tys), d1, d2, d3, d4)
theorem datatypes_tri (d1 d2 d3 d4 : D) (tys : List TyM) (xs : List Fld) (hx : ∀ x ∈ xs, scalD x.2 = true) (hl : xs.length + (tysFs tys).length < 1099511627776) (hlt : tys.length < 1099511627776) (hnm : ∀ m ∈ tys, m.nm.size < 4611686018427387904 ∧ m.cs.length < 1099511627776 ∧ ∀ c ∈ m.cs, c.1.size < 4611686018427387904) :
    Tri Tryz.prog G0 87 2 0 [.own 0 0] (gatH (tup0 tys d1 d2 d3 d4) xs) (fun o H' => o = .ret (.tup []) ∧ H' = gatH (tup0 tys d1 d2 d3 d4) (xs ++ tysFs tys)) := by
  refine tri_of_vc txok mixed [] [(100005, .done)] Tryz.func87 rfl rfl (by simp) fun b => ?_
  conv => whnf
  refine loopH (fun i : Nat => i ≤ tys.length) (fun i => tys.length - i) (fun i => [(13, .d (.int .i64 i))]) (fun i => gatH (tup0 tys d1 d2 d3 d4) (xs ++ tysFs (tys.take i))) 2 0 (by omega) (weak_of rfl (by repeat ((conv => whnf); first | exact trivial | refine And.intro rfl ?_ | refine And.intro (incD (by omega)) ?_)) (by simp only [List.take_zero, tysFs, List.flatMap_nil, List.append_nil]; repeat ((conv => whnf); first | exact trivial | refine And.intro rfl ?_ | refine And.intro (incD (by omega)) ?_))) ?_
  intro i hi
  have hle := tysFs_le (l := tys) (i := i + 1)
  conv => whnf
  refine And.intro (fun hb => ?_) (fun hb => ?_)
  · have hil : i < tys.length := by have := of_decide_eq_true hb; omega
    have htk : tys.take (i + 1) = tys.take i ++ [tys[i]] := List.take_succ_eq_append_getElem hil
    have hm := hnm _ (List.getElem_mem hil)
    conv => whnf
    refine IdxC.fl (w := 5) (fun _ => rfl) i hil rfl ?_
    rw [htk, tysFs_snoc, List.length_append] at hle
    have htk2 : xs ++ tysFs (tys.take (i + 1)) = (xs ++ tysFs (tys.take i)) ++ tyFs tys[i] := by rw [htk, tysFs_snoc, List.append_assoc]
    generalize tys[i] = m at hm htk2 hle
    conv => whnf
    refine And.intro (fun he => ?_) (fun he => ?_)
    · have he : m.cs = [] := List.eq_nil_of_length_eq_zero (by simpa using he)
      have ht0 : tyFs m = [] := by rw [tyFs, if_pos he]
      rw [ht0, List.append_nil] at htk2
      conv => whnf
      rw [incD (by omega)]
      exact again (i + 1) (by omega) (by omega) (weak_of rfl (by repeat ((conv => whnf); first | exact trivial | refine And.intro rfl ?_ | refine And.intro (incD (by omega)) ?_)) (by rw [htk2]; repeat ((conv => whnf); first | exact trivial | refine And.intro rfl ?_ | refine And.intro (incD (by omega)) ?_)))
    · have he : m.cs ≠ [] := fun h => by rw [h] at he; simp at he
      have ht1 : tyFs m = conFs m ++ [(outL m.nm, outD m)] := by rw [tyFs, if_neg he]
      rw [ht1] at htk2 hle
      have hcl : (conFs m).length = m.cs.length := by simp [conFs]
      rw [List.length_append, hcl] at hle
      generalize hys : xs ++ tysFs (tys.take i) = ys at htk2
      have hysl : ys.length + m.cs.length + 1 < 1099511627776 := by
        rw [← hys, List.length_append]
        have := hle; simp at this; omega
      have hyss : ∀ x ∈ ys, scalD x.2 = true := by
        intro x h
        rw [← hys] at h
        rcases List.mem_append.1 h with h | h
        · exact hx x h
        · exact tysFs_scal _ x h
      conv => whnf
      refine CutC.mk (fun st => st = ⟨[(3, .d (.ptr (encTyM m) 0)), (4, .d (stD m)), (0, .own 0 0), (13, .d (.int .i64 i)), (12, .d (.int .i64 tys.length)), (11, .d (slD 80 tys.length (fl encTyM tys))), (10, .own 0 0), (9, .own 0 0), (8, .own 0 0), (7, .own 0 0)], gatH (tup0 tys d1 d2 d3 d4) ys, 2⟩) ?_ ?_
      · conv => whnf
        refine ⟨_, rfl, weak_pub (fun i => Nat.ble 2 i) ?_⟩
        conv => whnf
        exact weak_of rfl (by repeat ((conv => whnf); first | exact trivial | refine And.intro rfl ?_ | refine And.intro (incD (by omega)) ?_)) (by repeat ((conv => whnf); first | exact trivial | refine And.intro rfl ?_ | refine And.intro (incD (by omega)) ?_))
      rintro st' rfl
      conv => whnf
      have hcf : ∀ q, (conFs m).take q = (m.cs.take q).map fun c => (conL c.1, conD m c) := fun q => by simp [conFs]
      refine loopH (fun q : Nat => q ≤ m.cs.length) (fun q => m.cs.length - q) (fun q => [(25, .d (.int .i64 q))]) (fun q => gatH (tup0 tys d1 d2 d3 d4) (ys ++ (conFs m).take q)) 2 0 (by omega) (weak_of rfl (by repeat ((conv => whnf); first | exact trivial | refine And.intro rfl ?_ | refine And.intro (incD (by omega)) ?_)) (by simp only [List.take_zero, List.append_nil]; repeat ((conv => whnf); first | exact trivial | refine And.intro rfl ?_ | refine And.intro (incD (by omega)) ?_))) ?_
      intro q hq
      have hyq : ∀ x ∈ ys ++ (conFs m).take q, scalD x.2 = true := by
        intro x h
        rcases List.mem_append.1 h with h | h
        · exact hyss x h
        · rw [hcf] at h
          simp only [List.mem_map] at h
          obtain ⟨_, _, rfl⟩ := h
          rfl
      have hyl : (ys ++ (conFs m).take q).length < 1099511627776 := by simp [hcl]; omega
      conv => whnf
      refine And.intro (fun hb2 => ?_) (fun hb2 => ?_)
      · have hql : q < m.cs.length := by have := of_decide_eq_true hb2; omega
        have hqk : ys ++ (conFs m).take (q + 1) = (ys ++ (conFs m).take q) ++ [(conL m.cs[q].1, conD m m.cs[q])] := by
          rw [hcf, hcf, List.take_succ_eq_append_getElem hql]
          simp only [List.map_append, List.append_assoc, List.map_cons, List.map_nil]
        conv => whnf
        refine IdxC.fl encCT_len q hql rfl ?_
        have hcs := hm.2.2 _ (List.getElem_mem hql)
        generalize m.cs[q] = c at hcs hqk
        conv => whnf
        refine callF (con_fn c.1 hcs) gf127 rfl rfl ?_
        conv => whnf
        refine pubC (fun i => Nat.beq i 2) ?_
        conv => whnf
        refine callT [0, 1] (put_tri (tup0 tys d1 d2 d3 d4) (ys ++ (conFs m).take q) (conL c.1) _ _ hyq hyl) gf126 rfl rfl ⟨rfl, rfl, trivial⟩ rfl ?_
        rintro o' H' ⟨rfl, rfl⟩
        conv => whnf
        rw [incD (by omega)]
        exact again (q + 1) (by omega) (by omega) (weak_of rfl (by repeat ((conv => whnf); first | exact trivial | refine And.intro rfl ?_ | refine And.intro (incD (by omega)) ?_)) (by rw [hqk]; repeat ((conv => whnf); first | exact trivial | refine And.intro rfl ?_ | refine And.intro (incD (by omega)) ?_)))
      · have hq : q = m.cs.length := by have := of_decide_eq_false hb2; omega
        subst hq
        have hall : (conFs m).take m.cs.length = conFs m := by rw [← hcl, List.take_length]
        rw [hall] at hyq hyl ⊢
        conv => whnf
        refine callF (out_fn m.nm hm.1) gf129 rfl rfl ?_
        conv => whnf
        refine callT [0, 1] (put_tri (tup0 tys d1 d2 d3 d4) (ys ++ conFs m) (outL m.nm) _ _ hyq hyl) gf126 rfl rfl ⟨rfl, rfl, trivial⟩ rfl ?_
        rintro o' H' ⟨rfl, rfl⟩
        conv => whnf
        rw [incD (by omega)]
        exact again (i + 1) (by omega) (by omega) (weak_of rfl (by repeat ((conv => whnf); first | exact trivial | refine And.intro rfl ?_ | refine And.intro (incD (by omega)) ?_)) (by rw [htk2, ← List.append_assoc]; repeat ((conv => whnf); first | exact trivial | refine And.intro rfl ?_ | refine And.intro (incD (by omega)) ?_)))
  · have hi : i = tys.length := by have := of_decide_eq_false hb; omega
    subst hi
    rw [List.take_length]
    conv => whnf
    exact ⟨rfl, rfl⟩
end Go.Proofs.YtmjjajhkokdikaaGreat

/- str: what a structure becomes. -/
set_option linter.unusedSimpArgs false
set_option linter.unusedVariables false
namespace Go.Proofs.YtmjjajhkokdikaaGreat
open Go.Vx Go.Vc Go.RowKit

/-- A field: its label, its closure, what that answers or the error that it gives up with. -/
structure FE where
  l : ByteArray
  d : D
  o : TG ⊕ Int
def FE.f (x : FE) : Fld := (x.l, x.d)
def outO : TG ⊕ Int → DOut
  | .inl t => .ret (dG t)
  | .inr e => .pan (badD e)
def firstE : List FE → Option Int
  | [] => none
  | x :: r => match x.o with
    | .inl _ => firstE r
    | .inr e => some e
def mapE (F : List FE) : ByteArray → Option TG := F.foldl (fun m x => match x.o with | .inl t => (fun s => if s = x.l then some t else m s) | .inr _ => m) (fun _ => none)
theorem firstE_snoc (F : List FE) (x : FE) : firstE (F ++ [x]) = match firstE F with | some e => some e | none => firstE [x] := by
  induction F with
  | nil => rfl
  | cons y r ih =>
    rw [List.cons_append, firstE, firstE]
    cases y.o with
    | inl t => exact ih
    | inr e => rfl
theorem mapE_snoc (F : List FE) (x : FE) : mapE (F ++ [x]) = match x.o with | .inl t => (fun s => if s = x.l then some t else mapE F s) | .inr _ => mapE F := by
  rw [mapE, List.foldl_append]
  rfl
/-- What a structure's fields make. -/
def labsE (F : List FE) : List ByteArray := F.map (·.l)
def strRes (F : List FE) : DOut :=
  if (setS (labsE F)).length ≠ F.length then .pan (badD 20) else match firstE F with
  | some e => .pan (badD e)
  | none => .ret (dG (.mk 7 0 (setS (labsE F)) ((setS (labsE F)).map fun s => (mapE F s).getD (.mk 0 0 [] []))))
theorem snocInd {α : Type} {p : List α → Prop} (h0 : p []) (hs : ∀ l x, p l → p (l ++ [x])) (l : List α) : p l := by
  have h : ∀ r : List α, p r.reverse := by
    intro r
    induction r with
    | nil => exact h0
    | cons x r ih => rw [List.reverse_cons]; exact hs _ _ ih
  have := h l.reverse
  rwa [List.reverse_reverse] at this
theorem mapE_mem (F : List FE) (h : firstE F = none) (s : ByteArray) (hs : s ∈ labsE F) : ∃ t, mapE F s = some t := by
  revert h hs
  refine snocInd (p := fun F => firstE F = none → s ∈ labsE F → ∃ t, mapE F s = some t) ?_ ?_ F
  · intro _ hs; cases hs
  · intro F x ih h hs
    rw [firstE_snoc] at h
    split at h
    · cases h
    rename_i hF
    rw [mapE_snoc]
    cases hx : x.o with
    | inr e => rw [firstE, hx] at h; cases h
    | inl t =>
      simp only
      by_cases e : s = x.l
      · rw [if_pos e]; exact ⟨t, rfl⟩
      · rw [if_neg e]
        refine ih hF ?_
        simp only [labsE, List.map_append, List.mem_append, List.map_cons, List.map_nil, List.mem_singleton] at hs
        exact hs.resolve_right e
theorem mem_upTo {α : Type} [DecidableEq α] [Inhabited α] (d : Array α) (a : α) : ∀ m, m ≤ d.size → a ∈ Go.Lib.compactUpTo d m → a ∈ d.toList := by
  intro m hm h
  unfold Go.Lib.compactUpTo at h
  simp only [List.mem_map, List.mem_filter, List.mem_range] at h
  obtain ⟨j, ⟨hj, _⟩, rfl⟩ := h
  rw [getElem!_pos d j (by omega)]
  simp
theorem setS_mem {l : List ByteArray} {s : ByteArray} (h : s ∈ setS l) : s ∈ l := by
  unfold setS at h
  obtain ⟨b, hb, rfl⟩ := List.mem_map.1 h
  have h1 := mem_upTo (srtS (l.map byt)).toArray b _ (by simp) hb
  rw [List.toList_toArray] at h1
  have h2 : b ∈ l.map byt := by
    unfold srtS at h1
    exact (List.mergeSort_perm _ _).mem_iff.1 h1
  obtain ⟨s, hs, rfl⟩ := List.mem_map.1 h2
  rw [txt8_byt]; exact hs
def allFs (s : StrT) : List Fld := match s with
  | .mk tys vals subs funs _ => tysFs tys ++ valFs vals ++ subFs subs ++ funFs funs

abbrev ttZ : List Vx.SV := [.d (.int .i64 0), .d (.int .i64 0), .nl, .nl]
abbrev fnS (f : FuncId) : Vx.SV := .fn f [.own 2 0] []
abbrev fnsO : Ob := .blk 1 [fnS 87, fnS 88, fnS 89, fnS 90]
def stage (tys : List TyM) (vals : List VlM) (subs : List SubT) (funs : List FunT) : Nat → List Fld
  | 0 => []
  | 1 => tysFs tys
  | 2 => tysFs tys ++ valFs vals
  | 3 => tysFs tys ++ valFs vals ++ subFs subs
  | _ => tysFs tys ++ valFs vals ++ subFs subs ++ funFs funs
theorem mapTyT : MapTyV Tryz.prog 124 9 30 := ⟨Tryz.underlying124, Tryz.underlying9⟩
set_option maxRecDepth 4000 in
theorem str_core (tys : List TyM) (vals : List VlM) (subs : List SubT) (funs : List FunT) (sigs : List SigT) (F : List FE) (hF : F.map FE.f = tysFs tys ++ valFs vals ++ subFs subs ++ funFs funs)
    (hout : ∀ x ∈ F, ∃ f caps, x.d = .fn f [] caps ∧ Goes Tryz.prog f ∧ FnQ Tryz.prog G0 f caps (fun o => o = outO x.o))
    (hl : F.length < 1099511627776) (hlt : tys.length < 1099511627776) (hnm : ∀ m ∈ tys, m.nm.size < 4611686018427387904 ∧ m.cs.length < 1099511627776 ∧ ∀ c ∈ m.cs, c.1.size < 4611686018427387904) :
    FnQ Tryz.prog G0 56 [dStr (.mk tys vals subs funs sigs)] (fun o => o = strRes F) := by
  have hlen : F.length = (tysFs tys).length + vals.length + subs.length + funs.length := by
    have := congrArg List.length hF
    simp only [List.length_map, List.length_append, valFs, subFs, funFs] at this
    exact this
  have hs1 : ∀ x ∈ tysFs tys, scalD x.2 = true := tysFs_scal tys
  have hs2 : ∀ x ∈ tysFs tys ++ valFs vals, scalD x.2 = true := by
    intro x h
    rcases List.mem_append.1 h with h | h
    · exact hs1 x h
    · simp only [valFs, List.mem_map] at h; obtain ⟨_, _, rfl⟩ := h; rfl
  have hs3 : ∀ x ∈ tysFs tys ++ valFs vals ++ subFs subs, scalD x.2 = true := by
    intro x h
    rcases List.mem_append.1 h with h | h
    · exact hs2 x h
    · simp only [subFs, List.mem_map] at h; obtain ⟨_, _, rfl⟩ := h; rfl
  have hd : encStr (.mk tys vals subs funs sigs) = [slD 80 tys.length (fl encTyM tys), slD 64 vals.length (fl encVlM vals), slD 136 subs.length (fl encSub0 subs), slD 304 funs.length (fl encFun0 funs), slD 160 sigs.length (encSigs sigs)] := by
    simp only [encStr, encSubs_eq, encFuns_eq]
  have hi1 := datatypes_tri (slD 64 vals.length (fl encVlM vals)) (slD 136 subs.length (fl encSub0 subs)) (slD 304 funs.length (fl encFun0 funs)) (slD 160 sigs.length (encSigs sigs)) tys [] (by simp) (by simp; omega) hlt hnm
  have hi2 := values_tri (slD 80 tys.length (fl encTyM tys)) (slD 136 subs.length (fl encSub0 subs)) (slD 304 funs.length (fl encFun0 funs)) (slD 160 sigs.length (encSigs sigs)) vals (tysFs tys) hs1 (by omega)
  have hi3 := structures_tri (slD 80 tys.length (fl encTyM tys)) (slD 64 vals.length (fl encVlM vals)) (slD 304 funs.length (fl encFun0 funs)) (slD 160 sigs.length (encSigs sigs)) subs (tysFs tys ++ valFs vals) hs2 (by simp [valFs]; omega)
  have hi4 := functors_tri (slD 80 tys.length (fl encTyM tys)) (slD 64 vals.length (fl encVlM vals)) (slD 136 subs.length (fl encSub0 subs)) (slD 160 sigs.length (encSigs sigs)) funs (tysFs tys ++ valFs vals ++ subFs subs) hs3 (by simp [valFs, subFs]; omega)
  simp only [tup0] at hi1
  unfold dStr
  rw [hd]
  generalize slD 160 sigs.length (encSigs sigs) = d4 at *
  generalize slD 304 funs.length (fl encFun0 funs) = d3 at *
  generalize slD 136 subs.length (fl encSub0 subs) = d2 at *
  generalize slD 64 vals.length (fl encVlM vals) = d1 at *
  generalize slD 80 tys.length (fl encTyM tys) = d0 at *
  refine fnQ_of_vc txok mixed ((100007, .done) :: [(18, .pure 0 (.pure 1 (.take 2 (.pure 3 (.take 4 (.run 5 (.fin 6 .done)))))))]) Tryz.func56 rfl rfl (by simp) fun b => ?_
  conv => whnf
  have hFl : F.length = (F.map FE.f).length := by simp
  refine CutC.mk (fun st => st = ⟨[(2, .own 1 0), (3, .d (.ptr [d0, d1, d2, d3, d4, slD 24 (F.map FE.f).length (fl encF (F.map FE.f))] 0))], [(1, .blk 30 ttZ)], 2⟩) ?_ ?_
  · conv => whnf
    apply bsOwnC (el := 1) (m := 4) txok [fnS 87, fnS 88, fnS 89, fnS 90]
    case ho => rfl
    case hy => rfl
    case hkd => rfl
    case hey => rfl
    case hl => rfl
    case hb => kernel_rfl
    case hf => rfl
    conv => whnf
    refine lenOslC rfl Tryz.underlying120 rfl ?_
    conv => whnf
    refine loopH (fun q : Nat => q ≤ 4) (fun q => 4 - q) (fun q => [(28, .d (.int .i64 q))]) (fun q => [(1, .blk 30 ttZ), (2, gatO (d0, d1, d2, d3, d4) 4), (3, fnsO), (4, fldO (stage tys vals subs funs q))]) 5 0 (by omega) ((weak_nlC 2 5 122 24 2 rfl rfl).trans (weak_of rfl (by repeat ((conv => whnf); first | exact trivial | refine And.intro rfl ?_ | refine And.intro (incD (by omega)) ?_)) (by repeat ((conv => whnf); first | exact trivial | refine And.intro rfl ?_ | refine And.intro (incD (by omega)) ?_)))) ?_
    intro q hq
    conv => whnf
    refine And.intro (fun hb => ?_) (fun hb => ?_)
    · have hq4 : q < 4 := by have := of_decide_eq_true hb; omega
      conv => whnf
      refine idxOslC txok q rfl rfl rfl rfl rfl rfl rfl hq4 ?_
      match q, hq4 with
      | 0, _ =>
        conv => whnf
        refine callT [2, 4] hi1 gf87 rfl rfl ⟨rfl, rfl, trivial⟩ rfl ?_
        rintro o' H' ⟨rfl, rfl⟩
        conv => whnf
        exact again 1 (by omega) (by omega) (weak_of rfl (by repeat ((conv => whnf); first | exact trivial | refine And.intro rfl ?_ | refine And.intro (incD (by omega)) ?_)) (by repeat ((conv => whnf); first | exact trivial | refine And.intro rfl ?_ | refine And.intro (incD (by omega)) ?_)))
      | 1, _ =>
        conv => whnf
        refine callT [2, 4] hi2 gf88 rfl rfl ⟨rfl, rfl, trivial⟩ rfl ?_
        rintro o' H' ⟨rfl, rfl⟩
        conv => whnf
        exact again 2 (by omega) (by omega) (weak_of rfl (by repeat ((conv => whnf); first | exact trivial | refine And.intro rfl ?_ | refine And.intro (incD (by omega)) ?_)) (by repeat ((conv => whnf); first | exact trivial | refine And.intro rfl ?_ | refine And.intro (incD (by omega)) ?_)))
      | 2, _ =>
        conv => whnf
        refine callT [2, 4] hi3 gf89 rfl rfl ⟨rfl, rfl, trivial⟩ rfl ?_
        rintro o' H' ⟨rfl, rfl⟩
        conv => whnf
        exact again 3 (by omega) (by omega) (weak_of rfl (by repeat ((conv => whnf); first | exact trivial | refine And.intro rfl ?_ | refine And.intro (incD (by omega)) ?_)) (by repeat ((conv => whnf); first | exact trivial | refine And.intro rfl ?_ | refine And.intro (incD (by omega)) ?_)))
      | 3, _ =>
        conv => whnf
        refine callT [2, 4] hi4 gf90 rfl rfl ⟨rfl, rfl, trivial⟩ rfl ?_
        rintro o' H' ⟨rfl, rfl⟩
        conv => whnf
        exact again 4 (by omega) (by omega) (weak_of rfl (by repeat ((conv => whnf); first | exact trivial | refine And.intro rfl ?_ | refine And.intro (incD (by omega)) ?_)) (by repeat ((conv => whnf); first | exact trivial | refine And.intro rfl ?_ | refine And.intro (incD (by omega)) ?_)))
    · have hq : q = 4 := by have := of_decide_eq_false hb; omega
      subst hq
      rw [show stage tys vals subs funs 4 = F.map FE.f from hF.symm]
      conv => whnf
      refine ⟨_, rfl, weak_pub (fun i => Nat.ble 2 i) ?_⟩
      conv => whnf
      exact weak_of rfl (by repeat ((conv => whnf); first | exact trivial | refine And.intro rfl ?_ | refine And.intro (incD (by omega)) ?_)) (by repeat ((conv => whnf); first | exact trivial | refine And.intro rfl ?_ | refine And.intro (incD (by omega)) ?_))
  rintro st' rfl
  have hel : ∀ (i : Nat) (hi : i < F.length), (F.map FE.f)[i]'(by simpa using hi) = (F[i].l, F[i].d) := fun i hi => by rw [List.getElem_map]; rfl
  have hll : (labsE F).length = F.length := by simp [labsE]
  conv => whnf
  refine loopH (fun i : Nat => i ≤ F.length) (fun i => F.length - i) (fun i => [(40, .d (.int .i64 i)), (6, .row 2)]) (fun i => [(1, .blk 30 ttZ), (2, .row 9 16 1 ((labsE F).take i).length (encS ((labsE F).take i)))]) 3 0 (by omega) ((weak_nlT 6 9 16 1 rfl).trans (weak_of rfl (by repeat ((conv => whnf); first | exact trivial | refine And.intro rfl ?_ | refine And.intro (incD (by omega)) ?_)) (by repeat ((conv => whnf); first | exact trivial | refine And.intro rfl ?_ | refine And.intro (incD (by omega)) ?_)))) ?_
  intro i hi
  conv => whnf
  refine And.intro (fun hb => ?_) (fun hb => ?_)
  · have hil : i < F.length := by have := of_decide_eq_true hb; simpa using this
    have htk : (labsE F).take (i + 1) = (labsE F).take i ++ [F[i].l] := by
      rw [List.take_succ_eq_append_getElem (by omega)]
      simp [labsE]
    conv => whnf
    refine IdxC.fl encF_len i (by simpa using hil) rfl ?_
    rw [hel i hil]
    obtain ⟨g, caps, hgd, _, _⟩ := hout _ (List.getElem_mem hil)
    rw [hgd]
    generalize F[i].l = lb at htk
    conv => whnf
    refine appR (i := 2) (sz := 1) (n := ((labsE F).take i).length) (m := 1) (xs := encS ((labsE F).take i)) (ys := encS [lb]) txok (fun k => Nat.ble 3 k) ((labsE F).take (i + 1)).length (encS ((labsE F).take (i + 1))) (by exact rfl) (by exact rfl) (by exact rfl) (by kernel_rfl) (by exact rfl) (encS_scal _) (by rw [htk]; simp) (by rw [htk]; simp [encS]) (by rw [htk]; simp only [LB, List.length_append, List.length_cons, List.length_nil, List.length_take]; omega) ?_
    conv => whnf
    rw [incD (by omega)]
    exact again (i + 1) (by omega) (by omega) (weak_of rfl (by repeat ((conv => whnf); first | exact trivial | refine And.intro rfl ?_ | refine And.intro (incD (by omega)) ?_)) (by repeat ((conv => whnf); first | exact trivial | refine And.intro rfl ?_ | refine And.intro (incD (by omega)) ?_)))
  have hi : i = F.length := by have := of_decide_eq_false hb; simp at this; omega
  subst hi
  rw [show (labsE F).take F.length = labsE F from by rw [← hll, List.take_length]]
  conv => whnf
  refine pubC (fun i => Nat.beq i 2) ?_
  conv => whnf
  refine callF (set_fn (labsE F)) gf91 rfl rfl ?_
  conv => whnf
  by_cases hdis : (setS (labsE F)).length ≠ F.length
  · have hr : strRes F = .pan (badD 20) := by rw [strRes, if_pos hdis]
    rw [show ((((setS (labsE F)).length : Nat) : Int) == (((labsE F).length : Nat) : Int)) = false from by rw [hll]; simp; omega]
    refine callQ rfl rfl gf51 (ask_pan 20 (by decide)) ?_
    rintro o rfl
    exact hr.symm
  have hdis' : (setS (labsE F)).length = F.length := by simpa using hdis
  rw [show ((((setS (labsE F)).length : Nat) : Int) == (((labsE F).length : Nat) : Int)) = true from by rw [hll]; simp; omega]
  refine callF (ask_fn 20) gf51 rfl rfl ?_
  conv => whnf
  refine mkMapDC mapTyT rfl ?_
  conv => whnf
  refine loopH (fun i : Nat => i ≤ F.length ∧ firstE (F.take i) = none) (fun i => F.length - i) (fun i => [(63, .d (.int .i64 i))]) (fun i => [(1, .blk 30 ttZ), (3, .ab (MapD fun s => (mapE (F.take i) s).map dG))]) 4 0 ⟨by omega, rfl⟩ (weak_of rfl (by repeat ((conv => whnf); first | exact trivial | refine And.intro rfl ?_ | refine And.intro (incD (by omega)) ?_)) (by repeat ((conv => whnf); first | exact trivial | refine And.intro rfl ?_ | refine And.intro (incD (by omega)) ?_))) ?_
  rintro i ⟨hi, hfe⟩
  conv => whnf
  refine And.intro (fun hb => ?_) (fun hb => ?_)
  · have hil : i < F.length := by have := of_decide_eq_true hb; simpa using this
    have htk : F.take (i + 1) = F.take i ++ [F[i]] := List.take_succ_eq_append_getElem hil
    conv => whnf
    refine IdxC.fl encF_len i (by simpa using hil) rfl ?_
    rw [hel i hil]
    obtain ⟨g, caps, hgd, hgo, hq⟩ := hout _ (List.getElem_mem hil)
    have hsplit : F = F.take i ++ F[i] :: F.drop (i + 1) := by rw [← List.drop_eq_getElem_cons hil, List.take_append_drop]
    rw [hgd]
    conv => whnf
    refine And.intro (by kernel_rfl) ?_
    conv => whnf
    refine callQ rfl (by simpa [Vx.dL] using dOfs_dL caps) hgo hq ?_
    rintro o rfl
    cases hox : F[i].o with
    | inr er =>
      have hr : strRes F = .pan (badD er) := by
        rw [strRes, if_neg hdis]
        have : firstE F = some er := by
          rw [hsplit]
          have : ∀ (A B : List FE) (x : FE), firstE A = none → x.o = .inr er → firstE (A ++ x :: B) = some er := by
            intro A B x hA hx
            induction A with
            | nil => rw [List.nil_append, firstE, hx]
            | cons y r ih =>
              rw [firstE] at hA
              rw [List.cons_append, firstE]
              cases hy : y.o with
              | inl t => rw [hy] at hA; exact ih hA
              | inr e => rw [hy] at hA; cases hA
          exact this _ _ _ hfe hox
        rw [this]
      exact hr.symm
    | inl t =>
      obtain ⟨k1, n1, l1, m1⟩ := t
      conv => whnf
      refine updDC mapTyT (dG (.mk k1 n1 l1 m1)) (fun s => (mapE (F.take (i + 1)) s).map dG) rfl rfl rfl rfl rfl rfl ?_ ?_
      · funext s
        rw [htk, mapE_snoc, hox]
        unfold updD
        by_cases e : s = F[i].l
        · simp only [if_pos e]; rfl
        · simp only [if_neg e]
      conv => whnf
      rw [incD (by omega)]
      exact again (i + 1) (by omega) ⟨by omega, by rw [htk, firstE_snoc, hfe]; simp only [firstE, hox]⟩ (weak_of rfl (by repeat ((conv => whnf); first | exact trivial | refine And.intro rfl ?_ | refine And.intro (incD (by omega)) ?_)) (by repeat ((conv => whnf); first | exact trivial | refine And.intro rfl ?_ | refine And.intro (incD (by omega)) ?_)))
  have hi : i = F.length := by have := of_decide_eq_false hb; simp at this; omega
  subst hi
  rw [List.take_length] at hfe ⊢
  have hr : strRes F = .ret (dG (.mk 7 0 (setS (labsE F)) ((setS (labsE F)).map fun s => (mapE F s).getD (.mk 0 0 [] [])))) := by rw [strRes, if_neg hdis, hfe]
  rw [hr]
  conv => whnf
  refine callF (set_fn (labsE F)) gf91 rfl rfl ?_
  conv => whnf
  have hmem : ∀ s ∈ setS (labsE F), ∃ t, mapE F s = some t := fun s hs => mapE_mem F hfe s (setS_mem hs)
  have hLl : (setS (labsE F)).length ≤ F.length := by omega
  generalize setS (labsE F) = L at *
  generalize hkid : (fun s => (mapE F s).getD (.mk 0 0 [] [])) = kid
  refine loopH (fun i : Nat => i ≤ L.length) (fun i => L.length - i) (fun i => [(80, .d (.int .i64 i))]) (fun i => [(1, .blk 30 ttZ), (3, .ab (MapD fun s => (mapE F s).map dG)), (4, .blk 30 [.d (.int .i64 7), .d (.int .i64 0), .d (dL L), .row 5]), (5, .row 30 64 4 ((L.take i).map kid).length (encGs ((L.take i).map kid)))]) 6 0 (by omega) ((weak_nlC 4 3 30 64 4 rfl rfl).trans (weak_of rfl (by repeat ((conv => whnf); first | exact trivial | refine And.intro rfl ?_ | refine And.intro (incD (by omega)) ?_)) (by repeat ((conv => whnf); first | exact trivial | refine And.intro rfl ?_ | refine And.intro (incD (by omega)) ?_)))) ?_
  intro i hi
  conv => whnf
  refine And.intro (fun hb => ?_) (fun hb => ?_)
  · have hil : i < L.length := by have := of_decide_eq_true hb; omega
    have htk : (L.take (i + 1)).map kid = (L.take i).map kid ++ [kid L[i]] := by rw [List.take_succ_eq_append_getElem hil, List.map_append]; rfl
    have hkl : ((L.take i).map kid).length ≤ i := by simp; omega
    obtain ⟨t, ht⟩ := hmem _ (List.getElem_mem hil)
    have hkt : kid L[i] = t := by rw [← hkid]; simp only [ht, Option.getD_some]
    rw [hkt] at htk
    conv => whnf
    refine IdxC.encS i hil rfl ?_
    conv => whnf
    refine lkDC mapTyT (dG t) rfl rfl rfl rfl (by show (mapE F L[i]).map dG = _; rw [ht]; rfl) ?_
    obtain ⟨k1, n1, l1, m1⟩ := t
    conv => whnf
    refine appR (i := 5) (sz := 4) (n := ((L.take i).map kid).length) (m := 1) (xs := encGs ((L.take i).map kid)) (ys := encGs [TG.mk k1 n1 l1 m1]) txok (fun k => Nat.ble 6 k) ((L.take (i + 1)).map kid).length (encGs ((L.take (i + 1)).map kid)) (by exact rfl) (by exact rfl) (by exact rfl) (by kernel_rfl) (by exact rfl) (encGs_scal _) (by rw [htk]; simp) (by rw [htk, encGs_app]) (by rw [htk]; simp only [LB, List.length_append, List.length_cons, List.length_nil]; omega) ?_
    conv => whnf
    rw [incD (by omega)]
    exact again (i + 1) (by omega) (by omega) (weak_of rfl (by repeat ((conv => whnf); first | exact trivial | refine And.intro rfl ?_ | refine And.intro (incD (by omega)) ?_)) (by repeat ((conv => whnf); first | exact trivial | refine And.intro rfl ?_ | refine And.intro (incD (by omega)) ?_)))
  have hi : i = L.length := by have := of_decide_eq_false hb; omega
  subst hi
  rw [List.take_length]
  conv => whnf
  try exact rfl
end Go.Proofs.YtmjjajhkokdikaaGreat

/- A datatype's closures. -/
set_option linter.unusedSimpArgs false
set_option linter.unusedVariables false
namespace Go.Proofs.YtmjjajhkokdikaaGreat
open Go.Vx Go.Vc Go.RowKit

def stO (m : TyM) : Option Int := if m.t.k = 6 ∧ okT m.t = true then some m.t.n else none
theorem st_out (m : TyM) (hs : SzT m.t) : FnQ Tryz.prog G0 125 [.ptr (encTyM m) 0] (fun o => o = match stO m with | some n => .ret (.int .i64 n) | none => .pan (badD 1)) := by
  obtain ⟨nm, ⟨k, n, ks⟩, cs⟩ := m
  have ht := typ_out (.mk k n ks) hs
  refine fnQ_of_vc txok mixed [] Tryz.func125 rfl rfl (by simp) fun b => ?_
  conv => whnf
  by_cases hk : k = 6
  · subst hk
    refine callF (ask_fn 1) gf51 rfl rfl ?_
    conv => whnf
    refine callQ rfl rfl gf34 ht ?_
    rintro o rfl
    by_cases ho : okT (.mk 6 n ks) = true
    · have hres : stO ⟨nm, .mk 6 n ks, cs⟩ = some n := by rw [stO, if_pos ⟨rfl, ho⟩]; rfl
      rw [hres, if_pos ho]
      conv => whnf
      try exact rfl
    · have hres : stO ⟨nm, .mk 6 n ks, cs⟩ = none := by rw [stO, if_neg (by rintro ⟨_, h⟩; exact ho h)]
      rw [hres, if_neg ho]
      exact rfl
  · have hres : stO ⟨nm, .mk k n ks, cs⟩ = none := by rw [stO, if_neg (by rintro ⟨h, _⟩; exact hk h)]
    rw [hres]
    simp only [mk_k]
    rw [show (k == 6) = false from by simpa using hk]
    refine callQ rfl rfl gf51 (ask_pan 1 (by decide)) ?_
    rintro o rfl
    exact rfl
def conV (n : Int) (c : CT) : Option TG := match c.2 with
  | [] => some (varG n)
  | [t] => if okT t = true then some (.mk 4 0 [] [turnG 0 t, varG n]) else none
  | _ => none
theorem conOut_eq (n : Int) (c : CT) : conOut n c = match conV n c with | some t => .ret (dG t) | none => .pan (badD 1) := by
  obtain ⟨nm, ts⟩ := c
  match ts with
  | [] => rfl
  | [t] =>
    simp only [conOut, conV]
    by_cases ho : okT t = true
    · simp only [if_pos ho]
    · simp only [if_neg ho]
  | _ :: _ :: _ => rfl
def conE (m : TyM) (c : CT) : TG ⊕ Int := match stO m with
  | some n => match conV n c with
    | some t => .inl t
    | none => .inr 1
  | none => .inr 1
theorem conD_out (m : TyM) (c : CT) (hs : SzT m.t) (hc : ∀ t ∈ c.2, SzT t) : FnQ Tryz.prog G0 128 [stD m, .ptr (encCT c) 0] (fun o => o = outO (conE m c)) := by
  have h1 := st_out m hs
  refine fnQ_of_vc txok mixed [(1, .take 0 (.take 2 (.run 1 (.fin 3 (.fin 4 .done)))))] Tryz.func128 rfl rfl (by simp) fun b => ?_
  conv => whnf
  refine And.intro (by kernel_rfl) ?_
  conv => whnf
  refine callQ rfl rfl gf125 h1 ?_
  rintro o rfl
  cases hst : stO m with
  | none =>
    have hr : outO (conE m c) = .pan (badD 1) := by simp only [conE, hst]; rfl
    rw [hr]
    exact rfl
  | some n =>
    have h2 := con_out n c hc
    rw [conOut_eq] at h2
    have hr : outO (conE m c) = match conV n c with | some t => .ret (dG t) | none => .pan (badD 1) := by
      simp only [conE, hst]
      cases conV n c <;> rfl
    rw [hr]
    conv => whnf
    refine callQ rfl rfl gf54 h2 ?_
    rintro o rfl
    cases conV n c with
    | none => exact rfl
    | some t =>
      obtain ⟨k1, n1, l1, m1⟩ := t
      conv => whnf
      try exact rfl
def outE (m : TyM) : TG ⊕ Int := match stO m with
  | some n => match sumV m.cs with
    | some ts => .inl (.mk 4 0 [] [varG n, .mk 8 0 [] ts])
    | none => .inr 1
  | none => .inr 1
theorem outD_out (m : TyM) (hs : SzT m.t) (hc : ∀ c ∈ m.cs, ∀ t ∈ c.2, SzT t) (hl : m.cs.length < 1099511627776) : FnQ Tryz.prog G0 130 [stD m, .ptr (encTyM m) 0] (fun o => o = outO (outE m)) := by
  have h1 := st_out m hs
  have h2 := sum_out m.cs hc hl
  refine fnQ_of_vc txok mixed [(1, .take 0 (.pure 3 (.take 4 (.run 1 (.run 2 (.fin 5 (.fin 6 (.fin 7 (.fin 8 .done)))))))))] Tryz.func130 rfl rfl (by simp) fun b => ?_
  conv => whnf
  refine And.intro (by kernel_rfl) ?_
  conv => whnf
  refine callQ rfl rfl gf125 h1 ?_
  rintro o rfl
  cases hst : stO m with
  | none =>
    have hr : outO (outE m) = .pan (badD 1) := by simp only [outE, hst]; rfl
    rw [hr]
    exact rfl
  | some n =>
    have hr : outO (outE m) = match sumV m.cs with | some ts => .ret (dG (.mk 4 0 [] [varG n, .mk 8 0 [] ts])) | none => .pan (badD 1) := by
      simp only [outE, hst]
      cases sumV m.cs <;> rfl
    rw [hr]
    conv => whnf
    refine callF (variable_fn n) gf86 rfl rfl ?_
    conv => whnf
    refine callQ rfl rfl gf49 h2 ?_
    rintro o rfl
    unfold sumOut
    cases sumV m.cs with
    | none => exact rfl
    | some ts =>
      conv => whnf
      refine pubC (fun i => Nat.beq i 1) ?_
      conv => whnf
      refine callF (node_fn 4 [varG n, .mk 8 0 [] ts]) gf82 rfl rfl ?_
      conv => whnf
      try exact rfl
end Go.Proofs.YtmjjajhkokdikaaGreat

/- Type, Sum, Rep, Con; what comes at any rate. -/
set_option linter.unusedSimpArgs false
set_option linter.unusedVariables false
namespace Go.Proofs.YtmjjajhkokdikaaGreat
open Go.Vx Go.Vc Go.RowKit

/-- A type, or an error. -/
def resE : TG ⊕ Int → D
  | .inl t => .tup [dG t, .int .i64 0]
  | .inr e => .tup [dG (.mk 0 0 [] []), .int .i64 e]
theorem made_E {g : FuncId} {caps : List D} (x : TG ⊕ Int) (hgo : Goes Tryz.prog g) (hf : FnQ Tryz.prog G0 g caps (fun o => o = outO x)) : FnR Tryz.prog G0 32 [.fn g [] caps] (resE x) := by
  have h := made_out hgo hf (by cases x with
    | inl t => exact .inl ⟨t, rfl⟩
    | inr e => exact .inr ⟨e, rfl⟩)
  cases x <;> exact h
def typE (t : Tp) : TG ⊕ Int := if okT t = true then .inl (turnG 0 t) else .inr 1
theorem typE_out (t : Tp) : outO (typE t) = if okT t = true then .ret (dG (turnG 0 t)) else .pan (badD 1) := by
  unfold typE
  split <;> rfl
theorem typec_out (t : Tp) (hs : SzT t) : FnQ Tryz.prog G0 33 [.ptr (encT t) 0] (fun o => o = outO (typE t)) := by
  have h := typ_out t hs
  rw [← typE_out] at h
  generalize typE t = x at h ⊢
  refine fnQ_of_vc txok mixed [] Tryz.func33 rfl rfl (by simp) fun b => ?_
  conv => whnf
  refine callQ rfl rfl gf34 h ?_
  rintro o rfl
  cases x with
  | inr e => exact rfl
  | inl t =>
    obtain ⟨k1, n1, l1, m1⟩ := t
    conv => whnf
    try exact rfl
theorem type_fn (t : Tp) (hs : SzT t) : FnR Tryz.prog G0 9 [dT t] (resE (typE t)) := by
  have h := made_E (typE t) gf33 (typec_out t hs)
  generalize typE t = x at h ⊢
  refine fnQ_of_vc txok mixed [] Tryz.func9 rfl rfl (by simp) fun b => ?_
  conv => whnf
  refine pubC (fun i => Nat.beq i 0) ?_
  conv => whnf
  refine callF h gf32 rfl rfl ?_
  cases x with
  | inr e =>
    conv => whnf
    try exact rfl
  | inl t =>
    obtain ⟨k1, n1, l1, m1⟩ := t
    conv => whnf
    try exact rfl
def sumE (l : List CT) : TG ⊕ Int := match sumV l with
  | some ts => .inl (.mk 8 0 [] ts)
  | none => .inr 1
theorem sumE_out (l : List CT) : sumOut l = outO (sumE l) := by
  unfold sumOut sumE
  cases sumV l <;> rfl
/-- What is asked of the arguments' sizes. -/
def SzC (l : List CT) : Prop := l.length < 1099511627776 ∧ ∀ c ∈ l, ∀ t ∈ c.2, SzT t
theorem sumc_out (l : List CT) (hs : SzC l) : FnQ Tryz.prog G0 48 [.ptr [dCTs l] 0] (fun o => o = outO (sumE l)) := by
  have h := sum_out l hs.2 hs.1
  rw [sumE_out] at h
  generalize sumE l = x at h ⊢
  refine fnQ_of_vc txok mixed [] Tryz.func48 rfl rfl (by simp) fun b => ?_
  conv => whnf
  refine callQ rfl rfl gf49 h ?_
  rintro o rfl
  cases x with
  | inr e => exact rfl
  | inl t =>
    obtain ⟨k1, n1, l1, m1⟩ := t
    conv => whnf
    try exact rfl
theorem sumF_fn (l : List CT) (hs : SzC l) : FnR Tryz.prog G0 15 [dCTs l] (resE (sumE l)) := by
  have h := made_E (sumE l) gf48 (sumc_out l hs)
  generalize sumE l = x at h ⊢
  refine fnQ_of_vc txok mixed [] Tryz.func15 rfl rfl (by simp) fun b => ?_
  conv => whnf
  refine pubC (fun i => Nat.ble i 0) ?_
  conv => whnf
  refine callF h gf32 rfl rfl ?_
  cases x with
  | inr e =>
    conv => whnf
    try exact rfl
  | inl t =>
    obtain ⟨k1, n1, l1, m1⟩ := t
    conv => whnf
    try exact rfl
def stOk (n : Int) : Bool := decide (n ≥ 0) && decide (n ≤ 2147483647)
def repE (n : Int) (l : List CT) : TG ⊕ Int := if stOk n = true then (match sumE l with | .inl t => .inl (.mk 9 n [] [t]) | .inr e => .inr e) else .inr 1
theorem repc_out (n : Int) (l : List CT) (hs : SzC l) : FnQ Tryz.prog G0 50 [.ptr [.int .i64 n] 0, .ptr [dCTs l] 0] (fun o => o = outO (repE n l)) := by
  have h := sum_out l hs.2 hs.1
  rw [sumE_out] at h
  have hbad : stOk n = false → outO (repE n l) = .pan (badD 1) := fun e => by rw [repE, if_neg (by simp [e])]; rfl
  have hgood : stOk n = true → outO (repE n l) = match sumE l with | .inl t => .ret (dG (.mk 9 n [] [t])) | .inr e => .pan (badD e) := fun e => by
    rw [repE, if_pos e]
    cases sumE l <;> rfl
  refine fnQ_of_vc txok mixed [(2, .take 0 (.take 2 (.two 1 3 (.run 3 (.fin 4 (.fin 5 .done))) (.run 1 (.fin 4 (.fin 5 .done))))))] Tryz.func50 rfl rfl (by simp) fun b => ?_
  conv => whnf
  refine And.intro (fun h1 => ?_) (fun h1 => ?_)
  · conv => whnf
    cases h2 : decide (n ≤ 2147483647)
    · rw [hbad (by rw [stOk, h2, Bool.and_false])]
      refine callQ rfl rfl gf51 (ask_pan 1 (by decide)) ?_
      rintro o rfl
      exact rfl
    · rw [hgood (by rw [stOk, h1, h2]; rfl)]
      generalize sumE l = x at h ⊢
      refine callF (ask_fn 1) gf51 rfl rfl ?_
      conv => whnf
      refine And.intro (by kernel_rfl) ?_
      conv => whnf
      refine And.intro ?_ ?_
      · conv => whnf
        refine callQ rfl rfl gf49 h ?_
        rintro o rfl
        cases x with
        | inr e => exact rfl
        | inl t =>
          obtain ⟨k1, n1, l1, m1⟩ := t
          conv => whnf
          refine pubC (fun i => Nat.beq i 1) ?_
          conv => whnf
          refine callF (bind_fn 9 [n] (.mk k1 n1 l1 m1)) gf52 rfl rfl ?_
          conv => whnf
          try exact rfl
      · conv => whnf
        refine callQ rfl rfl gf49 h ?_
        rintro o rfl
        cases x with
        | inr e => exact rfl
        | inl t =>
          obtain ⟨k1, n1, l1, m1⟩ := t
          conv => whnf
          refine pubC (fun i => Nat.beq i 1) ?_
          conv => whnf
          refine callF (bind_fn 9 [n] (.mk k1 n1 l1 m1)) gf52 rfl rfl ?_
          conv => whnf
          try exact rfl
  · conv => whnf
    rw [hbad (by rw [stOk, h1]; rfl)]
    refine callQ rfl rfl gf51 (ask_pan 1 (by decide)) ?_
    rintro o rfl
    exact rfl
theorem repF_fn (n : Int) (l : List CT) (hs : SzC l) : FnR Tryz.prog G0 17 [.int .i64 n, dCTs l] (resE (repE n l)) := by
  have h := made_E (repE n l) gf50 (repc_out n l hs)
  generalize repE n l = x at h ⊢
  refine fnQ_of_vc txok mixed [] Tryz.func17 rfl rfl (by simp) fun b => ?_
  conv => whnf
  refine pubC (fun i => Nat.ble i 1) ?_
  conv => whnf
  refine callF h gf32 rfl rfl ?_
  cases x with
  | inr e =>
    conv => whnf
    try exact rfl
  | inl t =>
    obtain ⟨k1, n1, l1, m1⟩ := t
    conv => whnf
    try exact rfl
def coE (n : Int) (c : CT) : TG ⊕ Int := if stOk n = true then (match conV n c with | some t => .inl t | none => .inr 1) else .inr 1
theorem conc_out (n : Int) (c : CT) (hs : ∀ t ∈ c.2, SzT t) : FnQ Tryz.prog G0 53 [.ptr [.int .i64 n] 0, .ptr (encCT c) 0] (fun o => o = outO (coE n c)) := by
  have h := con_out n c hs
  rw [conOut_eq] at h
  have hbad : stOk n = false → outO (coE n c) = .pan (badD 1) := fun e => by rw [coE, if_neg (by simp [e])]; rfl
  have hgood : stOk n = true → outO (coE n c) = match conV n c with | some t => .ret (dG t) | none => .pan (badD 1) := fun e => by
    rw [coE, if_pos e]
    cases conV n c <;> rfl
  refine fnQ_of_vc txok mixed [] Tryz.func53 rfl rfl (by simp) fun b => ?_
  conv => whnf
  refine And.intro (fun h1 => ?_) (fun h1 => ?_)
  · conv => whnf
    cases h2 : decide (n ≤ 2147483647)
    · rw [hbad (by rw [stOk, h2, Bool.and_false])]
      refine callQ rfl rfl gf51 (ask_pan 1 (by decide)) ?_
      rintro o rfl
      exact rfl
    · rw [hgood (by rw [stOk, h1, h2]; rfl)]
      generalize conV n c = x at h ⊢
      refine callF (ask_fn 1) gf51 rfl rfl ?_
      conv => whnf
      refine callQ rfl rfl gf54 h ?_
      rintro o rfl
      cases x with
      | none => exact rfl
      | some t =>
        obtain ⟨k1, n1, l1, m1⟩ := t
        conv => whnf
        try exact rfl
  · conv => whnf
    rw [hbad (by rw [stOk, h1]; rfl)]
    refine callQ rfl rfl gf51 (ask_pan 1 (by decide)) ?_
    rintro o rfl
    exact rfl
theorem conF_fn (n : Int) (c : CT) (hs : ∀ t ∈ c.2, SzT t) : FnR Tryz.prog G0 19 [.int .i64 n, dCT c] (resE (coE n c)) := by
  have h := made_E (coE n c) gf53 (conc_out n c hs)
  generalize coE n c = x at h ⊢
  refine fnQ_of_vc txok mixed [] Tryz.func19 rfl rfl (by simp) fun b => ?_
  conv => whnf
  refine pubC (fun i => Nat.ble i 1) ?_
  conv => whnf
  refine callF h gf32 rfl rfl ?_
  cases x with
  | inr e =>
    conv => whnf
    try exact rfl
  | inl t =>
    obtain ⟨k1, n1, l1, m1⟩ := t
    conv => whnf
    try exact rfl
end Go.Proofs.YtmjjajhkokdikaaGreat

/- What comes at any rate. -/
set_option linter.unusedSimpArgs false
set_option linter.unusedVariables false
namespace Go.Proofs.YtmjjajhkokdikaaGreat
open Go.Vx Go.Vc Go.RowKit

def stampT (n : Int) : Tp := .mk 6 n []
theorem stamp_fn (n : Int) : FnR Tryz.prog G0 47 [.int .i64 n] (dT (stampT n)) := by
  refine fnQ_of_vc txok mixed [] Tryz.func47 rfl rfl (by simp) fun b => ?_
  conv => whnf
  try exact rfl
def nilB : ByteArray := ⟨#[78, 105, 108]⟩
def consB : ByteArray := ⟨#[67, 111, 110, 115]⟩
def pairT : Tp := .mk 5 0 [.mk 1 0 [], .mk 6 5 []]
def listC : List CT := [(nilB, []), (consB, [pairT])]
theorem list_fn : FnR Tryz.prog G0 46 [] (dCTs listC) := by
  refine fnQ_of_vc txok mixed [] Tryz.func46 rfl rfl (by simp) fun b => ?_
  conv => whnf
  refine callF (stamp_fn 5) gf47 rfl rfl ?_
  conv => whnf
  refine pubC (fun _ => true) ?_
  refine effC txok ?_
  conv => whnf
  refine pubC (fun _ => true) ?_
  refine effC txok ?_
  conv => whnf
  try exact rfl
theorem ok_pair : okT pairT = true := by decide
theorem ok_st5 : okT (stampT 5) = true := by decide
theorem set3 : setS [conL nilB, conL consB, outL ⟨#[116]⟩] = [⟨#[67, 111, 110, 115, 40, 41]⟩, ⟨#[78, 105, 108, 40, 41]⟩, ⟨#[111, 117, 116, 32, 116]⟩] := by
  simp [setS, srtS, List.mergeSort, conL, outL, nilB, consB, byt]
  have h1 : decide (([78, 105, 108, 40, 41] : List UInt8) ≤ [67, 111, 110, 115, 40, 41]) = false := by decide
  have h2 : decide (([67, 111, 110, 115, 40, 41] : List UInt8) ≤ [111, 117, 116, 32, 116]) = true := by decide
  have h3 : decide (([78, 105, 108, 40, 41] : List UInt8) ≤ [111, 117, 116, 32, 116]) = true := by decide
  simp only [List.cons_merge_cons, h1, h2, h3, List.nil_merge, List.merge_right, if_true, Bool.false_eq_true, if_false]
  rfl

def listM : TyM := ⟨⟨#[116]⟩, stampT 5, listC⟩
def listF : List FE := [⟨conL nilB, conD listM (nilB, []), .inl (varG 5)⟩, ⟨conL consB, conD listM (consB, [pairT]), .inl (.mk 4 0 [] [turnG 0 pairT, varG 5])⟩, ⟨outL ⟨#[116]⟩, outD listM, .inl (.mk 4 0 [] [varG 5, .mk 8 0 [] [.mk 3 0 [] [], turnG 0 pairT]])⟩]
theorem st_list : stO listM = some 5 := by
  rw [stO, if_pos ⟨rfl, ok_st5⟩]
  rfl
theorem con1 : conE listM (nilB, []) = .inl (varG 5) := by simp only [conE, st_list, conV]
theorem con2 : conE listM (consB, [pairT]) = .inl (.mk 4 0 [] [turnG 0 pairT, varG 5]) := by simp only [conE, st_list, conV, if_pos ok_pair]
theorem sum_list : sumV listC = some [.mk 3 0 [] [], turnG 0 pairT] := by
  simp only [listC, sumV, argV, if_pos ok_pair, Option.map_some]
theorem out3 : outE listM = .inl (.mk 4 0 [] [varG 5, .mk 8 0 [] [.mk 3 0 [] [], turnG 0 pairT]]) := by
  simp only [outE, st_list, show listM.cs = listC from rfl, sum_list]
theorem szT_pair : SzT pairT := by unfold SzT; decide
theorem szT_st : SzT (stampT 5) := by unfold SzT; decide
theorem szC_list : SzC listC := by
  refine ⟨by decide, fun c hc t ht => ?_⟩
  simp only [listC, List.mem_cons, List.not_mem_nil, or_false] at hc
  rcases hc with rfl | rfl
  · cases ht
  · simp at ht; subst ht; exact szT_pair
theorem strL_res : strRes listF = .ret (dG (.mk 7 0 [⟨#[67, 111, 110, 115, 40, 41]⟩, ⟨#[78, 105, 108, 40, 41]⟩, ⟨#[111, 117, 116, 32, 116]⟩] (([⟨#[67, 111, 110, 115, 40, 41]⟩, ⟨#[78, 105, 108, 40, 41]⟩, ⟨#[111, 117, 116, 32, 116]⟩] : List ByteArray).map fun s => (mapE listF s).getD (.mk 0 0 [] [])))) := by
  have hl : labsE listF = [conL nilB, conL consB, outL ⟨#[116]⟩] := rfl
  rw [strRes, hl, set3]
  rfl
theorem strL_fn : FnQ Tryz.prog G0 56 [dStr (.mk [listM] [] [] [] [])] (fun o => o = strRes listF) := by
  refine str_core [listM] [] [] [] [] listF rfl ?_ (by decide) (by decide) ?_
  · intro x hx
    simp only [listF, List.mem_cons, List.not_mem_nil, or_false] at hx
    rcases hx with rfl | rfl | rfl
    · have := conD_out listM (nilB, []) szT_st (fun t ht => by cases ht)
      rw [con1] at this
      exact ⟨_, _, rfl, gf128, this⟩
    · have := conD_out listM (consB, [pairT]) szT_st (fun t ht => by simp at ht; subst ht; exact szT_pair)
      rw [con2] at this
      exact ⟨_, _, rfl, gf128, this⟩
    · have := outD_out listM szT_st szC_list.2 szC_list.1
      rw [out3] at this
      exact ⟨_, _, rfl, gf130, this⟩
  · intro m hm
    simp at hm; subst hm
    refine ⟨by decide, by decide, fun c hc => ?_⟩
    simp only [listM, listC, List.mem_cons, List.not_mem_nil, or_false] at hc
    rcases hc with rfl | rfl <;> decide
end Go.Proofs.YtmjjajhkokdikaaGreat

/- What comes at any rate: walked. -/
set_option linter.unusedSimpArgs false
set_option linter.unusedVariables false
namespace Go.Proofs.YtmjjajhkokdikaaGreat
open Go.Vx Go.Vc Go.RowKit

theorem strc_out (s : StrT) (x : TG ⊕ Int) (h : FnQ Tryz.prog G0 56 [dStr s] (fun o => o = outO x)) : FnQ Tryz.prog G0 55 [.ptr (encStr s) 0] (fun o => o = outO x) := by
  obtain ⟨a1, a2, a3, a4, a5⟩ := s
  simp only [dStr, encStr] at h ⊢
  refine fnQ_of_vc txok mixed [] Tryz.func55 rfl rfl (by simp) fun b => ?_
  conv => whnf
  refine callQ rfl rfl gf56 h ?_
  rintro o rfl
  cases x with
  | inr e => exact rfl
  | inl t =>
    obtain ⟨k1, n1, l1, m1⟩ := t
    conv => whnf
    try exact rfl
theorem strF_fn (s : StrT) (x : TG ⊕ Int) (h : FnQ Tryz.prog G0 56 [dStr s] (fun o => o = outO x)) : FnR Tryz.prog G0 21 [dStr s] (resE x) := by
  have h1 := made_E x gf55 (strc_out s x h)
  obtain ⟨a1, a2, a3, a4, a5⟩ := s
  simp only [dStr, encStr] at h1 ⊢
  refine fnQ_of_vc txok mixed [] Tryz.func21 rfl rfl (by simp) fun b => ?_
  conv => whnf
  refine pubC (fun i => Nat.beq i 0) ?_
  conv => whnf
  refine callF h1 gf32 rfl rfl ?_
  cases x with
  | inr e =>
    conv => whnf
    try exact rfl
  | inl t =>
    obtain ⟨k1, n1, l1, m1⟩ := t
    conv => whnf
    try exact rfl
def okL : List ByteArray := [⟨#[67, 111, 110, 115, 40, 41]⟩, ⟨#[78, 105, 108, 40, 41]⟩, ⟨#[111, 117, 116, 32, 116]⟩]
theorem strL (kids : List TG) (hk : (okL.map fun s => (mapE listF s).getD (.mk 0 0 [] [])) = kids) : FnR Tryz.prog G0 21 [dStr (.mk [listM] [] [] [] [])] (.tup [dG (.mk 7 0 okL kids), .int .i64 0]) := by
  have h := strL_fn
  rw [strL_res] at h
  rw [← hk]
  exact strF_fn _ (.inl (.mk 7 0 okL (okL.map fun s => (mapE listF s).getD (.mk 0 0 [] [])))) h
theorem repL : FnR Tryz.prog G0 17 [.int .i64 5, dCTs listC] (.tup [dG (.mk 9 5 [] [.mk 8 0 [] [.mk 3 0 [] [], turnG 0 pairT]]), .int .i64 0]) := by
  have h := repF_fn 5 listC szC_list
  have e : repE 5 listC = .inl (.mk 9 5 [] [.mk 8 0 [] [.mk 3 0 [] [], turnG 0 pairT]]) := by
    rw [repE, if_pos (by decide), sumE, sum_list]
  rw [e] at h
  exact h
theorem typL : FnR Tryz.prog G0 9 [dT (.mk 7 0 [])] (.tup [dG (.mk 0 0 [] []), .int .i64 1]) := by
  have h := type_fn (.mk 7 0 []) (by unfold SzT; decide)
  have e : typE (.mk 7 0 []) = .inr 1 := by rw [typE, if_neg (by decide)]
  rw [e] at h
  exact h
set_option maxRecDepth 4000 in
theorem alive_fn : FnR Tryz.prog G0 14 [] (.bool true) := by
  have h3 := strL
  simp only [dStr, encStr, encSubs, encFuns, encSigs] at h3
  refine fnQ_of_vc txok mixed [] Tryz.func14 rfl rfl (by simp) fun b => ?_
  conv => whnf
  refine callF list_fn gf46 rfl rfl ?_
  conv => whnf
  refine callF repL gf17 rfl rfl ?_
  conv => whnf
  refine callF (stamp_fn 5) gf47 rfl rfl ?_
  conv => whnf
  refine callF list_fn gf46 rfl rfl ?_
  conv => whnf
  generalize hk : (okL.map fun s => (mapE listF s).getD (.mk 0 0 [] [])) = kids
  refine pubC (fun i => Nat.beq i 1) ?_
  refine callF (h3 kids hk) gf21 rfl rfl ?_
  conv => whnf
  refine callF typL gf9 rfl rfl ?_
  repeat' ((conv => whnf); first
    | exact rfl
    | refine And.intro (fun _ => ?_) (fun h => by first | (cases h; done) | (simp at h; done))
    | refine callF typL gf9 rfl rfl ?_
    | refine ⟨0, rfl, by decide, _, rfl, ?_⟩
    | refine ⟨0, rfl, by show 0 < 3; omega, _, rfl, ?_⟩
    | refine ⟨2, rfl, by show 2 < 3; omega, _, rfl, ?_⟩)
end Go.Proofs.YtmjjajhkokdikaaGreat

/- Plain laws: types put in place of stamps, and turned. -/
set_option linter.unusedSimpArgs false
set_option linter.unusedVariables false
namespace Go.Proofs.YtmjjajhkokdikaaGreat
open Go.Vx Go.Vc Go.RowKit

mutual
/-- Right, without metas and open places, with stamps such as may be. -/
def okk : Tp → Prop
  | .mk k n ks => ((k = 1 ∨ k = 2 ∨ k = 3) ∧ n = 0 ∧ ks = []) ∨ ((k = 4 ∨ k = 5) ∧ n = 0 ∧ ks.length = 2 ∧ okks ks) ∨ (k = 6 ∧ 0 ≤ n ∧ n ≤ 2147483647 ∧ ks = [])
def okks : List Tp → Prop
  | [] => True
  | t :: r => okk t ∧ okks r
end
theorem okks_iff (l : List Tp) : okks l ↔ ∀ t ∈ l, okk t := by
  induction l with
  | nil => simp [okks]
  | cons t r ih => simp [okks, ih]
theorem fnd_nil {kind : Int} {t : Tp} : fnd kind t [] = [] ↔ ∀ x, ¬ hasN kind x t := by
  constructor
  · intro h x hx
    have := (mem_fnd kind x t []).2 (.inr hx)
    rw [h] at this; cases this
  · intro h
    refine List.eq_nil_iff_forall_not_mem.2 fun x hx => ?_
    rcases (mem_fnd kind x t []).1 hx with h1 | h1
    · cases h1
    · exact h x h1
theorem okT_facts (t : Tp) : okT t = true ↔ right t = true ∧ (∀ x, ¬ hasN 7 x t) ∧ (∀ x, ¬ hasN 8 x t) ∧ ∀ x, hasN 6 x t → x ≤ 2147483647 := by
  unfold okT closedT lowT
  rw [← fnd_nil, ← fnd_nil]
  simp only [Bool.and_eq_true, beq_iff_eq, Bool.not_eq_true', List.any_eq_false, decide_eq_true_eq]
  constructor
  · rintro ⟨⟨h1, h2⟩, h3⟩
    refine ⟨h1, List.eq_nil_of_length_eq_zero (by omega), List.eq_nil_of_length_eq_zero (by omega), fun x hx => ?_⟩
    have := h3 x ((mem_fnd 6 x t []).2 (.inr hx))
    omega
  · rintro ⟨h1, h2, h3, h4⟩
    refine ⟨⟨h1, by rw [h2, h3]; rfl⟩, fun x hx => ?_⟩
    rcases (mem_fnd 6 x t []).1 hx with h | h
    · cases h
    · have := h4 x h; omega
theorem hasL_iff (kind x : Int) (l : List Tp) : hasL kind x l ↔ ∃ t ∈ l, hasN kind x t := by
  induction l with
  | nil => simp [hasL]
  | cons t r ih => simp [hasL, ih]
theorem rights_iff (l : List Tp) : rights l = true ↔ ∀ t ∈ l, right t = true := by
  induction l with
  | nil => simp [rights]
  | cons t r ih => simp [rights, ih]
theorem okk_iff : ∀ t : Tp, okk t ↔ right t = true ∧ (∀ x, ¬ hasN 7 x t) ∧ (∀ x, ¬ hasN 8 x t) ∧ ∀ x, hasN 6 x t → x ≤ 2147483647 := by
  refine Tp.ind fun k n ks ih => ?_
  have hk : ∀ kind x, hasN kind x (.mk k n ks) ↔ (k = kind ∧ n = x) ∨ ∃ t ∈ ks, hasN kind x t := fun kind x => by rw [hasN, hasL_iff]
  constructor
  · intro h
    rw [okk] at h
    rcases h with ⟨h1, rfl, rfl⟩ | ⟨h1, rfl, h2, h3⟩ | ⟨rfl, h1, h2, rfl⟩
    · refine ⟨?_, fun x => ?_, fun x => ?_, fun x hx => ?_⟩
      · rcases h1 with rfl | rfl | rfl <;> rfl
      · rw [hk]; simp; omega
      · rw [hk]; simp; omega
      · rw [hk] at hx; simp at hx; omega
    · have hh := fun t ht => (ih t ht).1 ((okks_iff ks).1 h3 t ht)
      refine ⟨?_, fun x => ?_, fun x => ?_, fun x hx => ?_⟩
      · have hr : rights ks = true := (rights_iff ks).2 fun t ht => (hh t ht).1
        rcases h1 with rfl | rfl <;> simp [right, hr, h2]
      · rw [hk]
        rintro (⟨h, _⟩ | ⟨t, ht, h⟩)
        · omega
        · exact (hh t ht).2.1 x h
      · rw [hk]
        rintro (⟨h, _⟩ | ⟨t, ht, h⟩)
        · omega
        · exact (hh t ht).2.2.1 x h
      · rw [hk] at hx
        rcases hx with ⟨h, _⟩ | ⟨t, ht, h⟩
        · omega
        · exact (hh t ht).2.2.2 x h
    · refine ⟨by simp [right, h1], fun x => ?_, fun x => ?_, fun x hx => ?_⟩
      · rw [hk]; simp
      · rw [hk]; simp
      · rw [hk] at hx; simp at hx; omega
  · rintro ⟨h1, h2, h3, h4⟩
    have h7 : k ≠ 7 := fun e => h2 n ((hk 7 n).2 (.inl ⟨e, rfl⟩))
    have h8 : k ≠ 8 := fun e => h3 n ((hk 8 n).2 (.inl ⟨e, rfl⟩))
    rw [okk]
    rw [right] at h1
    split at h1
    · rename_i hk1
      simp only [Bool.or_eq_true, beq_iff_eq, Bool.and_eq_true] at hk1 h1
      exact .inl ⟨hk1, h1.1, List.eq_nil_of_length_eq_zero (by omega)⟩
    · split at h1
      · rename_i hk1 hk4
        simp only [Bool.or_eq_true, beq_iff_eq, Bool.and_eq_true] at hk4 h1
        refine .inr (.inl ⟨hk4, h1.1, by omega, (okks_iff ks).2 fun t ht => (ih t ht).2 ⟨(rights_iff ks).1 h1.2.2 t ht, fun x hx => h2 x ((hk 7 x).2 (.inr ⟨t, ht, hx⟩)), fun x hx => h3 x ((hk 8 x).2 (.inr ⟨t, ht, hx⟩)), fun x hx => h4 x ((hk 6 x).2 (.inr ⟨t, ht, hx⟩))⟩⟩)
      · split at h1
        · rename_i hk6
          simp only [Bool.or_eq_true, beq_iff_eq, Bool.and_eq_true, decide_eq_true_eq] at hk6 h1
          have h6 : k = 6 := by omega
          exact .inr (.inr ⟨h6, h1.1, h4 n ((hk 6 n).2 (.inl ⟨h6, rfl⟩)), List.eq_nil_of_length_eq_zero (by omega)⟩)
        · cases h1
theorem okT_okk (t : Tp) : okT t = true ↔ okk t := (okT_facts t).trans (okk_iff t).symm
/-- A closed type is put in. -/
theorem okk_sub (n : Int) (u : Tp) (hu : okk u) : ∀ t : Tp, okk t → okk (sub 6 (tbl [n] [u]) t) := by
  refine Tp.ind fun k m ks ih h => ?_
  rw [sub]
  rw [okk] at h
  by_cases h6 : k = 6
  · rw [if_pos h6, tbl1]
    by_cases e : m = n
    · rw [if_pos e]; exact hu
    · rw [if_neg e]
      rcases h with ⟨h1, rfl, rfl⟩ | ⟨h1, _⟩ | ⟨_, h1, h2, rfl⟩
      · omega
      · omega
      · simp only [subL, okk]
        exact .inr (.inr ⟨h6, h1, h2, trivial⟩)
  · rw [if_neg h6]
    simp only [okk]
    rcases h with ⟨h1, rfl, rfl⟩ | ⟨h1, rfl, h2, h3⟩ | ⟨h1, _⟩
    · exact .inl ⟨h1, rfl, rfl⟩
    · refine .inr (.inl ⟨h1, rfl, by rw [subL_map]; simpa using h2, ?_⟩)
      rw [subL_map, okks_iff]
      intro t ht
      obtain ⟨t', ht', rfl⟩ := List.mem_map.1 ht
      exact ih t' ht' ((okks_iff ks).1 h3 t' ht')
    · omega
/-- Turned, it is the turned one put in for the variable. -/
theorem turn_sub (n : Int) (u : Tp) (fr : List Int) : ∀ (t : Tp) (f : Nat), okk t → szG (turnG 0 t) ≤ f → putF f (turnG 0 t) n (turnG 0 u) fr = turnG 0 (sub 6 (tbl [n] [u]) t) := by
  refine Tp.ind fun k m ks ih f h hf => ?_
  cases f with
  | zero => have := szG_eq (turnG 0 (.mk k m ks)); omega
  | succ f =>
    rw [sub]
    rw [okk] at h
    rcases h with ⟨h1, rfl, rfl⟩ | ⟨h1, rfl, h2, h3⟩ | ⟨rfl, h1, h2, rfl⟩
    · have e6 : k ≠ 6 := by omega
      have eb : bndG k = false := by rcases h1 with rfl | rfl | rfl <;> rfl
      rw [if_neg e6, turnG, if_pos h1, putF_mk, if_neg (by simp [e6]), if_neg (by simp [eb]), if_neg (by simp [eb])]
      simp only [subL, turnG, if_pos h1]
      rfl
    · have e6 : k ≠ 6 := by omega
      have e8 : k ≠ 8 := by omega
      have e1 : ¬ (k = 1 ∨ k = 2 ∨ k = 3) := by omega
      have hkk : (if k = 5 then 5 else 4 : Int) ≠ 6 ∧ bndG (if k = 5 then 5 else 4) = false := by
        rcases h1 with rfl | rfl <;> exact ⟨by decide, rfl⟩
      have ht : turnG 0 (.mk k 0 ks) = .mk (if k = 5 then 5 else 4) 0 [] (turnGs 0 ks) := by rw [turnG, if_neg e1, if_neg e6, if_neg e8]
      rw [ht] at hf ⊢
      have hsz := szG_eq (.mk (if k = 5 then 5 else 4) 0 [] (turnGs 0 ks))
      simp only [g_kids] at hsz
      rw [if_neg e6, turnG, if_neg e1, if_neg e6, if_neg e8, putF_mk, if_neg (by simp [hkk.1]), if_neg (by simp [hkk.2]), if_neg (by simp [hkk.2]), turnGs_map, turnGs_map, subL_map, List.map_map, List.map_map]
      congr 1
      refine List.map_congr_left fun t ht' => ih t ht' f ((okks_iff ks).1 h3 t ht') ?_
      have hm : turnG 0 t ∈ turnGs 0 ks := by rw [turnGs_map]; exact List.mem_map_of_mem ht'
      have : ∀ (l : List TG) (x : TG), x ∈ l → szG x ≤ szGs l := by
        intro l
        induction l with
        | nil => intro x hx; cases hx
        | cons y r ihl =>
          intro x hx
          simp only [szGs]
          rcases List.mem_cons.1 hx with rfl | hx
          · omega
          · have := ihl x hx; omega
      have := this _ _ hm
      omega
    · have ht : turnG 0 (.mk 6 m []) = varG m := by rw [turnG, if_neg (by omega), if_pos rfl]
      rw [ht, if_pos rfl, tbl1]
      rw [show varG m = TG.mk 6 m [] [] from rfl, putF_mk]
      by_cases e : m = n
      · rw [if_pos ⟨rfl, e⟩, if_pos e]
      · rw [if_neg (by simp [e]), if_neg (by simp [bndG]), if_neg (by simp [bndG]), if_neg e]
        simp only [subL, turnG]
        rfl
theorem turn_sz (f : Int) : ∀ t : Tp, szG (turnG f t) ≤ szT t := by
  refine Tp.ind fun k n ks ih => ?_
  have hm : szGs (turnGs f ks) ≤ szL ks := by
    have : ∀ l : List Tp, (∀ t ∈ l, t ∈ ks) → szGs (turnGs f l) ≤ szL l := by
      intro l
      induction l with
      | nil => intro _; simp [turnGs, szGs, szL]
      | cons t r ihl =>
        intro hl
        have h1 := ih t (hl t (by simp))
        have h2 := ihl fun u hu => hl u (by simp [hu])
        simp only [turnGs, szGs, szL]
        omega
    exact this ks fun _ h => h
  rw [turnG]
  simp only [szT]
  split
  · simp [szG, szGs]
  · split
    · simp [varG, szG, szGs]
    · split
      · simp [varG, szG, szGs]
      · simp only [szG]; omega
theorem sam_same : ∀ (t : TG) (s : List Int), samG t t s s = true := by
  refine TG.ind fun k n ls l ih s => ?_
  have hl : ∀ (m : List TG) (s : List Int), (∀ t ∈ m, t ∈ l) → samGs m m s s = true := by
    intro m
    induction m with
    | nil => intro s _; rfl
    | cons u r ihm =>
      intro s hm
      rw [samGs, ih u (hm u (by simp)) s, ihm s fun t ht => hm t (by simp [ht])]; rfl
  rw [samG_mk, hl l s fun _ h => h, hl l (s ++ [n]) fun _ h => h]
  simp
end Go.Proofs.YtmjjajhkokdikaaGreat

/- The law TransPutting, walked. -/
set_option linter.unusedSimpArgs false
set_option linter.unusedVariables false
namespace Go.Proofs.YtmjjajhkokdikaaGreat
open Go.Vx Go.Vc Go.RowKit

theorem szT_of {t : Tp} (h : szT t < 1099511627776) : SzT t := by
  unfold SzT
  have h6 := fnd_sz 6 t []
  have h7 := fnd_sz 7 t []
  have h8 := fnd_sz 8 t []
  simp only [List.length_nil] at h6 h7 h8
  omega
def errE : TG ⊕ Int → Int
  | .inl _ => 0
  | .inr e => e
def valE : TG ⊕ Int → TG
  | .inl t => t
  | .inr _ => .mk 0 0 [] []
theorem resE_eq (x : TG ⊕ Int) : resE x = .tup [dG (valE x), .int .i64 (errE x)] := by cases x <;> rfl
theorem typE_err (t : Tp) : errE (typE t) = if okT t = true then 0 else 1 := by unfold typE; split <;> rfl
theorem typE_val {t : Tp} (h : okT t = true) : valE (typE t) = turnG 0 t := by rw [typE, if_pos h]; rfl
theorem putting_law_fn (t u : Tp) (n : Int) (hz : szT t + szT u ≤ 1048576) : FnR Tryz.prog G0 8 [dT t, dT u, .int .i64 n] (.bool true) := by
  have h1 := type_fn t (szT_of (by omega))
  have h2 := type_fn u (szT_of (by omega))
  rw [resE_eq] at h1 h2
  have h0 := Ty.replace_fn t 6 [n] [u]
  have hal := alive_fn
  have main : szT (sub 6 (tbl [n] [u]) t) ≤ 1000 → okT t = true → okT u = true → FnR Tryz.prog G0 8 [dT t, dT u, .int .i64 n] (.bool true) := by
    intro hx ht hu
    have hs := (okT_okk _).2 (okk_sub n u ((okT_okk u).1 hu) t ((okT_okk t).1 ht))
    have h3 := type_fn (sub 6 (tbl [n] [u]) t) (szT_of (by omega))
    rw [resE_eq, typE_val hs, typE_err, if_pos hs] at h3
    rw [typE_val ht, typE_err, if_pos ht] at h1
    rw [typE_val hu, typE_err, if_pos hu] at h2
    have hr : Ty.repl t 6 [n] [u] = (sub 6 (tbl [n] [u]) t, 0) := by
      unfold Ty.repl
      rw [if_pos (show [n].length = [u].length from rfl), if_pos hx]
    rw [hr] at h0
    have hp := putTop_fn (turnG 0 t) (by have := turn_sz 0 t; omega) n (turnG 0 u) (by have := turn_sz 0 u; omega)
    rw [turn_sub n u _ t _ ((okT_okk t).1 ht) (Nat.le_refl _)] at hp
    have hsz := turn_sz 0 (sub 6 (tbl [n] [u]) t)
    have hsm := sameT_fn (turnG 0 (sub 6 (tbl [n] [u]) t)) (turnG 0 (sub 6 (tbl [n] [u]) t)) (by omega)
    rw [sam_same] at hsm
    generalize turnG 0 (sub 6 (tbl [n] [u]) t) = tx at *
    generalize turnG 0 t = ta at *
    generalize turnG 0 u = tb at *
    generalize sub 6 (tbl [n] [u]) t = x at *
    obtain ⟨uk, un, uks⟩ := u
    obtain ⟨k1, n1, l1, m1⟩ := tx
    obtain ⟨k2, n2, l2, m2⟩ := ta
    obtain ⟨k3, n3, l3, m3⟩ := tb
    refine fnQ_of_vc txok mixed [(7, .pure 0 (.pure 1 (.pure 2 (.take 3 (.take 4 (.pure 5 (.take 6 (.run 7 (.fin 8 (.pure 9 (.pure 10 (.fin 11 (.pure 12 (.pure 13 .done))))))))))))))] Tryz.func8 rfl rfl (by simp) fun b => ?_
    conv => whnf
    refine pubC (fun i => Nat.ble 2 i) ?_
    conv => whnf
    refine callF h0 gf30 rfl rfl ?_
    conv => whnf
    refine callF h1 gf9 rfl rfl ?_
    conv => whnf
    refine callF h2 gf9 rfl rfl ?_
    repeat' ((conv => whnf); first
      | exact rfl
      | (refine And.intro (fun h => ?_) (fun h => ?_) <;> first | exact Bool.noConfusion h | skip)
      | refine callF h3 gf9 rfl rfl ?_
      | refine And.intro (by kernel_rfl) ?_
      | refine callF hp gf31 rfl rfl ?_
      | refine callF hsm gf27 rfl rfl ?_
      | refine callF hal gf14 rfl rfl ?_)
    all_goals (conv => whnf)
    all_goals try exact rfl
  have other : ∀ (x : Tp) (e0 : Int), Ty.repl t 6 [n] [u] = (x, e0) → (e0 ≠ 0 ∨ errE (typE t) ≠ 0 ∨ errE (typE u) ≠ 0) → FnR Tryz.prog G0 8 [dT t, dT u, .int .i64 n] (.bool true) := by
    intro x e0 hr hne
    rw [hr] at h0
    generalize errE (typE t) = e1 at *
    generalize errE (typE u) = e2 at *
    generalize valE (typE t) = ta at *
    generalize valE (typE u) = tb at *
    obtain ⟨uk, un, uks⟩ := u
    obtain ⟨k2, n2, l2, m2⟩ := ta
    obtain ⟨k3, n3, l3, m3⟩ := tb
    refine fnQ_of_vc txok mixed [(7, .pure 0 (.pure 1 (.pure 2 (.take 3 (.take 4 (.pure 5 (.take 6 (.run 7 (.fin 8 (.pure 9 (.pure 10 (.fin 11 (.pure 12 (.pure 13 .done))))))))))))))] Tryz.func8 rfl rfl (by simp) fun b => ?_
    conv => whnf
    refine pubC (fun i => Nat.ble 2 i) ?_
    conv => whnf
    refine callF h0 gf30 rfl rfl ?_
    conv => whnf
    refine callF h1 gf9 rfl rfl ?_
    conv => whnf
    refine callF h2 gf9 rfl rfl ?_
    repeat' ((conv => whnf); first
      | refine And.intro (fun h => ?_) (fun h => ?_)
      | refine callF hal gf14 rfl rfl ?_)
    all_goals try (conv => whnf)
    all_goals first
      | exact rfl
      | (exfalso; simp_all; done)
      | (exfalso; simp_all; omega)
  by_cases hx : szT (sub 6 (tbl [n] [u]) t) ≤ 1000
  · by_cases ht : okT t = true
    · by_cases hu : okT u = true
      · exact main hx ht hu
      · exact other _ _ rfl (.inr (.inr (by rw [typE_err, if_neg hu]; decide)))
    · exact other _ _ rfl (.inr (.inl (by rw [typE_err, if_neg ht]; decide)))
  · refine other Ty.tp0 3 ?_ (.inl (by decide))
    unfold Ty.repl
    rw [if_pos (show [n].length = [u].length from rfl), if_neg hx]
end Go.Proofs.YtmjjajhkokdikaaGreat

/- The reference's SameType, at one and the same type; the law's same. -/
set_option linter.unusedSimpArgs false
set_option linter.unusedVariables false
namespace Go.Proofs.YtmjjajhkokdikaaGreat
open Go.Vx Go.Vc Go.RowKit

theorem rtexts_fn (l : List ByteArray) (hl : l.length < 1125899906842624) : FnR Tryz.prog G0 119 [dL l, dL l] (.bool true) := by
  refine fnQ_of_vc txok mixed [(6, .pure 0 (.pure 1 (.pure 2 (.take 3 (.pure 4 (.pure 5 (.pure 6 (.take 7 (.pure 8 .done)))))))))] Tryz.func119 rfl rfl (by simp) fun b => ?_
  conv => whnf
  refine And.intro (fun h => absurd h (by simp)) (fun _ => ?_)
  conv => whnf
  refine loopH (fun i : Nat => i ≤ l.length) (fun i => l.length - i) (fun i => [(5, .d (.int .i64 i))]) (fun _ => []) 0 0 (by omega) (weak_of rfl (by repeat ((conv => whnf); first | exact trivial | refine And.intro rfl ?_ | refine And.intro (incD (by omega)) ?_)) (by repeat ((conv => whnf); first | exact trivial | refine And.intro rfl ?_ | refine And.intro (incD (by omega)) ?_))) ?_
  intro i hi
  conv => whnf
  refine And.intro (fun hb => ?_) (fun hb => ?_)
  · have hil : i < l.length := by have := of_decide_eq_true hb; omega
    conv => whnf
    refine And.intro (by kernel_rfl) ?_
    refine IdxC.encS i hil rfl ?_
    refine IdxC.encS i hil rfl ?_
    conv => whnf
    refine And.intro (fun h => absurd h (by simp)) (fun _ => ?_)
    conv => whnf
    rw [incD (by omega)]
    exact again (i + 1) (by omega) (by omega) (weak_of rfl (by repeat ((conv => whnf); first | exact trivial | refine And.intro rfl ?_ | refine And.intro (incD (by omega)) ?_)) (by repeat ((conv => whnf); first | exact trivial | refine And.intro rfl ?_ | refine And.intro (incD (by omega)) ?_)))
  · conv => whnf
    try exact rfl
def lvlN (l : List Int) (n : Int) : Nat → Int
  | 0 => -1
  | k + 1 => if l.getD k 0 = n then k else lvlN l n k
theorem rlevel_fn (l : List Int) (n : Int) (hl : l.length < 1099511627776) : FnR Tryz.prog G0 120 [dI l, .int .i64 n] (.int .i64 (lvlN l n l.length)) := by
  refine fnQ_of_vc txok mixed [] Tryz.func120 rfl rfl (by simp) fun b => ?_
  conv => whnf
  refine loopH (fun k : Nat => k ≤ l.length ∧ lvlN l n l.length = lvlN l n k) (fun k => k) (fun k => [(5, .d (.int .i64 ((k : Int) - 1)))]) (fun _ => []) 0 l.length ⟨by omega, rfl⟩ (weak_of rfl (by (conv => whnf); first | done | (refine And.intro (by rw [Go.Vc.wrap_small (by omega) (by omega)]) ?_; first | done | repeat ((conv => whnf); first | exact trivial | refine And.intro rfl ?_ | refine And.intro (incD (by omega)) ?_))) (by repeat ((conv => whnf); first | exact trivial | refine And.intro rfl ?_ | refine And.intro (incD (by omega)) ?_))) ?_
  rintro k ⟨hk, hx⟩
  conv => whnf
  refine And.intro (fun hb => ?_) (fun hb => ?_)
  · have hk0 : 1 ≤ k := by have := of_decide_eq_true hb; omega
    obtain ⟨j, rfl⟩ : ∃ j, k = j + 1 := ⟨k - 1, by omega⟩
    have hjl : j < l.length := by omega
    have hj : (((j + 1 : Nat) : Int) - 1) = (j : Int) := by omega
    rw [hj]
    conv => whnf
    refine IdxC.encI j hjl rfl ?_
    have hg : l.getD j 0 = l[j] := by rw [List.getD_eq_getElem?_getD, List.getElem?_eq_getElem hjl]; rfl
    rw [lvlN, hg] at hx
    conv => whnf
    refine And.intro (fun h => ?_) (fun h => ?_)
    · rw [if_pos (by simpa using h)] at hx
      conv => whnf
      rw [hx]
    · rw [if_neg (by simpa using h)] at hx
      conv => whnf
      refine again j (by omega) ⟨by omega, hx⟩ (weak_of rfl (by (conv => whnf); refine And.intro (by rw [Go.Vc.wrap_small (by omega) (by omega)]) ?_; first | done | repeat ((conv => whnf); first | exact trivial | refine And.intro rfl ?_ | refine And.intro (incD (by omega)) ?_)) (by repeat ((conv => whnf); first | exact trivial | refine And.intro rfl ?_ | refine And.intro (incD (by omega)) ?_)))
  · have hk0 : k = 0 := by have := of_decide_eq_false hb; omega
    subst hk0
    conv => whnf
    rw [hx]
    rfl
theorem rbinds_fn (k : Int) : FnR Tryz.prog G0 122 [.int .i64 k] (.bool (k == 9 || (k == 10 || k == 11))) := by
  refine fnQ_of_vc txok mixed [] Tryz.func122 rfl rfl (by simp) fun b => ?_
  repeat' ((conv => whnf); refine And.intro (fun h => ?_) (fun h => ?_))
  all_goals (conv => whnf)
  all_goals refine congrArg D.bool ?_
  all_goals simp_all
  all_goals (first | done | (have e9 : (k == 9) = false := by simpa using (by assumption : ¬k = 9)
                             have e10 : (k == 10) = false := by simpa using (by assumption : ¬k = 10)
                             rw [e9, e10]; rfl))
theorem rwith_fn (l : List Int) (n : Int) (hl : l.length < 1099511627776) : FnR Tryz.prog G0 123 [dI l, .int .i64 n] (dI (l ++ [n])) := by
  refine fnQ_of_vc txok mixed [] Tryz.func123 rfl rfl (by simp) fun b => ?_
  conv => whnf
  refine appR (i := 0) (sz := 1) (n := 0) (m := l.length) (xs := []) (ys := Vx.encI l) txok (fun _ => false) l.length (Vx.encI l) (by exact rfl) (by exact rfl) (by exact rfl) (by kernel_rfl) (by simp [Vx.encI]) (Vx.encI_scal l) (by simp) (by simp) (by simp only [LB]; omega) ?_
  conv => whnf
  refine appR (i := 0) (sz := 1) (n := l.length) (m := 1) (xs := Vx.encI l) (ys := Vx.encI [n]) txok (fun k => Nat.ble 1 k) (l ++ [n]).length (Vx.encI (l ++ [n])) (by exact rfl) (by exact rfl) (by exact rfl) (by kernel_rfl) (by exact rfl) (Vx.encI_scal _) (by simp) (by simp [Vx.encI]) (by simp only [LB, List.length_append, List.length_cons, List.length_nil]; omega) ?_
  conv => whnf
  try exact rfl
end Go.Proofs.YtmjjajhkokdikaaGreat

/- The reference's SameType at one and the same type; the law's same. -/
set_option linter.unusedSimpArgs false
set_option linter.unusedVariables false
namespace Go.Proofs.YtmjjajhkokdikaaGreat
open Go.Vx Go.Vc Go.RowKit

theorem szGs_len : ∀ l : List TG, l.length ≤ szGs l
  | [] => by simp [szGs]
  | t :: r => by
    have := szGs_len r
    have h : 1 ≤ szG t := by cases t; simp [szG]
    simp only [List.length_cons, szGs]; omega
theorem rsame_fn : ∀ (m : Nat) (t : TG), szG t ≤ m → ∀ l : List Int, l.length + m < 1099511627776 → FnR Tryz.prog G0 81 [dG t, dG t, dI l, dI l] (.bool true) := by
  intro m
  induction m with
  | zero => intro t h; obtain ⟨k, n, ls, ks⟩ := t; simp [szG] at h
  | succ m ih =>
  rintro ⟨k, n, ls, ks⟩ hsz l hl
  simp only [szG] at hsz
  have hsl := szGs_len ks
  have all : ∀ l' : List Int, l'.length ≤ l.length + 1 → FnR Tryz.prog G0 121 [dGs ks, dGs ks, dI l', dI l'] (.bool true) := by
    intro l' hl'
    refine fnQ_of_vc txok mixed [(4, .pure 0 (.pure 1 (.pure 2 (.take 3 (.pure 4 (.pure 5 (.pure 6 (.take 7 (.pure 8 (.pure 9 (.fin 10 (.pure 11 .done))))))))))))] Tryz.func121 rfl rfl (by simp) fun b => ?_
    conv => whnf
    refine loopH (fun i : Nat => i ≤ ks.length) (fun i => ks.length - i) (fun i => [(9, .d (.int .i64 i))]) (fun _ => []) 0 0 (by omega) (weak_of rfl (by repeat ((conv => whnf); first | exact trivial | refine And.intro rfl ?_ | refine And.intro (incD (by omega)) ?_)) (by repeat ((conv => whnf); first | exact trivial | refine And.intro rfl ?_ | refine And.intro (incD (by omega)) ?_))) ?_
    intro i hi
    conv => whnf
    refine And.intro (fun hb => ?_) (fun hb => ?_)
    · have hil : i < ks.length := by have := of_decide_eq_true hb; omega
      conv => whnf
      refine And.intro (by kernel_rfl) ?_
      refine IdxC.encGs i hil rfl ?_
      refine IdxC.encGs i hil rfl ?_
      conv => whnf
      refine callF (ih ks[i] (by have := szG_mem (List.getElem_mem hil); omega) l' (by omega)) gf81 rfl rfl ?_
      conv => whnf
      refine And.intro (fun h => absurd h (by simp)) (fun _ => ?_)
      conv => whnf
      rw [incD (by omega)]
      exact again (i + 1) (by omega) (by omega) (weak_of rfl (by repeat ((conv => whnf); first | exact trivial | refine And.intro rfl ?_ | refine And.intro (incD (by omega)) ?_)) (by repeat ((conv => whnf); first | exact trivial | refine And.intro rfl ?_ | refine And.intro (incD (by omega)) ?_)))
    · conv => whnf
      try exact rfl
  refine fnQ_sz fun hs => ?_
  have hz := szOk_G (t := .mk k n ls ks) hs.1
  have hlL := hz.2.2
  simp only [g_ls, LB] at hlL
  refine fnQ_of_vc txok mixed [(7, .pure 0 (.take 1 (.pure 2 (.take 3 (.pure 4 (.pure 5 (.take 6 (.pure 8 (.pure 9 (.take 10 (.run 7 (.run 11 (.fin 12 (.pure 13 .done))))))))))))))] Tryz.func81 rfl rfl (by simp) fun b => ?_
  conv => whnf
  simp only [g_k, g_n, g_ls, g_kids]
  repeat' ((conv => whnf); first
    | refine And.intro (by kernel_rfl) ?_
    | refine And.intro (fun h => ?_) (fun h => ?_)
    | refine callF (rtexts_fn ls (by omega)) gf119 rfl rfl ?_
    | refine callF (rlevel_fn l n (by omega)) gf120 rfl rfl ?_
    | refine callF (rbinds_fn k) gf122 rfl rfl ?_
    | refine callF (rwith_fn l n (by omega)) gf123 rfl rfl ?_
    | refine callF (all l (by omega)) gf121 rfl rfl ?_
    | refine callF (all (l ++ [n]) (by simp)) gf121 rfl rfl ?_)
  all_goals try (conv => whnf)
  all_goals first
    | done
    | rfl
    | (exfalso; simp_all; done)
    | (refine congrArg D.bool ?_; simp_all; done)
end Go.Proofs.YtmjjajhkokdikaaGreat

/- The reference's Sum, Rep, Con; the law's same. -/
set_option linter.unusedSimpArgs false
set_option linter.unusedVariables false
namespace Go.Proofs.YtmjjajhkokdikaaGreat
open Go.Vx Go.Vc Go.RowKit

theorem rsameT_fn (t : TG) (hz : szG t < 1099511627776) : FnR Tryz.prog G0 45 [dG t, dG t] (.bool true) := by
  have h := rsame_fn (szG t) t (Nat.le_refl _) [] (by simpa using hz)
  obtain ⟨k1, n1, l1, m1⟩ := t
  refine fnQ_of_vc txok mixed [] Tryz.func45 rfl rfl (by simp) fun b => ?_
  conv => whnf
  repeat' ((conv => whnf); first
    | refine And.intro (by kernel_rfl) ?_
    | refine callF h gf81 rfl rfl ?_)
  all_goals try (conv => whnf)
  all_goals try exact rfl
theorem lsame_fn (t : TG) (e : Int) (hz : szG t < 1099511627776) : FnR Tryz.prog G0 13 [dG t, .int .i64 e, dG t, .int .i64 e] (.bool true) := by
  have h := rsameT_fn t hz
  obtain ⟨k1, n1, l1, m1⟩ := t
  refine fnQ_of_vc txok mixed [] Tryz.func13 rfl rfl (by simp) fun b => ?_
  conv => whnf
  repeat' ((conv => whnf); first
    | refine And.intro (by kernel_rfl) ?_
    | refine And.intro (fun hb => ?_) (fun hb => ?_)
    | refine callF h gf45 rfl rfl ?_)
  all_goals try (conv => whnf)
  all_goals first
    | exact rfl
    | (exfalso; clear h; simp at *; done)
theorem okk_stamp : ∀ t : Tp, okk t → ∀ x, hasN 6 x t → 0 ≤ x := by
  refine Tp.ind fun k n ks ih h x hx => ?_
  rw [hasN, hasL_iff] at hx
  rw [okk] at h
  rcases h with ⟨h1, rfl, rfl⟩ | ⟨h1, rfl, h2, h3⟩ | ⟨rfl, h1, h2, rfl⟩
  · simp at hx; omega
  · rcases hx with hx | ⟨t, ht, hx⟩
    · omega
    · exact ih t ht ((okks_iff ks).1 h3 t ht) x hx
  · simp at hx; omega
theorem okR_okT (t : Tp) : okR t = okT t := by
  rw [Bool.eq_iff_iff]
  constructor
  · intro h
    rw [okT_facts, ← fnd_nil, ← fnd_nil]
    unfold okR at h
    simp only [Bool.and_eq_true, decide_eq_true_eq, List.all_eq_true] at h
    obtain ⟨⟨h1, h2, h3⟩, h4⟩ := h
    refine ⟨h1, List.eq_nil_of_length_eq_zero h2, List.eq_nil_of_length_eq_zero h3, fun x hx => ?_⟩
    have := h4 x ((mem_fnd 6 x t []).2 (.inr hx))
    simp [stp] at this
    omega
  · intro h
    have hk := (okT_okk t).1 h
    rw [okT_facts, ← fnd_nil, ← fnd_nil] at h
    obtain ⟨h1, h2, h3, h4⟩ := h
    unfold okR
    simp only [Bool.and_eq_true, decide_eq_true_eq, List.all_eq_true]
    refine ⟨⟨h1, by rw [h2, h3]; exact ⟨rfl, rfl⟩⟩, fun x hx => ?_⟩
    rcases (mem_fnd 6 x t []).1 hx with h | h
    · cases h
    · have := h4 x h
      have := okk_stamp t hk x h
      simp [stp]
      omega
theorem rtypE_fn (t : Tp) (hz : szT t < 1099511627776) : FnR Tryz.prog G0 10 [dT t] (resE (typE t)) := by
  have h := rtype_fn t (szT_of hz) hz
  rw [okR_okT] at h
  rw [resE_eq, typE_err]
  have : valE (typE t) = if okT t = true then turnG 0 t else .mk 0 0 [] [] := by unfold typE; split <;> rfl
  rw [this]
  exact h
end Go.Proofs.YtmjjajhkokdikaaGreat

/- The reference's Sum, Rep, Con. -/
set_option linter.unusedSimpArgs false
set_option linter.unusedVariables false
namespace Go.Proofs.YtmjjajhkokdikaaGreat
open Go.Vx Go.Vc Go.RowKit

def szC : List CT → Nat
  | [] => 0
  | c :: r => szL c.2 + 1 + szC r
theorem szC_len : ∀ l : List CT, l.length ≤ szC l
  | [] => Nat.le_refl _
  | c :: r => by have := szC_len r; simp only [List.length_cons, szC]; omega
theorem szC_mem : ∀ {l : List CT} {c : CT}, c ∈ l → szL c.2 ≤ szC l
  | x :: r, c, h => by
    rw [szC]
    rcases List.mem_cons.1 h with rfl | h
    · omega
    · have := szC_mem h; omega
theorem IdxC.flc {α : Type} {w : Nat} {f : α → List D} (hf : ∀ x, (f x).length = w) {l : List α} {j : Int} {K : Go.Vx.SV → Prop} (i : Nat) (hi : i < l.length) (c : α) (hc : l[i] = c) (hj : j = (i : Int)) (hk : K (.d (.ptr (f c) 0))) : IdxC l.length w (Vx.fl f l) j K := by
  subst hc
  exact IdxC.fl hf i hi hj hk
theorem rsum_fn (l : List CT) (hz : szC l < 1099511627776) : FnR Tryz.prog G0 16 [dCTs l] (resE (sumE l)) := by
  have hlen := szC_len l
  refine fnQ_of_vc txok mixed [] Tryz.func16 rfl rfl (by simp) fun b => ?_
  conv => whnf
  refine loopH (fun z : Nat × List TG => z.1 ≤ l.length ∧ sumV l = (sumV (l.drop z.1)).map (z.2 ++ ·) ∧ z.2.length = z.1) (fun z => l.length - z.1) (fun z => [(5, .d (.int .i64 z.1))]) (fun z => [(0, .blk 30 [.d (.int .i64 0), .d (.int .i64 0), .nl, .nl]), (1, .blk 30 [.d (.int .i64 8), .d (.int .i64 0), .nl, .row 2]), (2, .row 30 64 4 z.2.length (encGs z.2))]) 3 (0, []) ⟨by simp, by simp, rfl⟩ ((weak_nlC 1 3 30 64 4 rfl rfl).trans (weak_of rfl (by repeat ((conv => whnf); first | exact trivial | refine And.intro rfl ?_ | refine And.intro (incD (by omega)) ?_)) (by repeat ((conv => whnf); first | exact trivial | refine And.intro rfl ?_ | refine And.intro (incD (by omega)) ?_)))) ?_
  rintro ⟨i, acc⟩ ⟨hi, hx, hal⟩
  simp only at hi hx hal
  conv => whnf
  refine And.intro (fun hb => ?_) (fun hb => ?_)
  · have hil : i < l.length := by have := of_decide_eq_true hb; omega
    rw [List.drop_eq_getElem_cons hil, sumV] at hx
    have hzc := szC_mem (List.getElem_mem hil)
    obtain ⟨⟨nm, ts⟩, hc⟩ : ∃ c, l[i] = c := ⟨_, rfl⟩
    rw [hc] at hx hzc
    conv => whnf
    refine IdxC.flc encCT_len i hil _ hc rfl ?_
    match ts, hx, hzc, hc with
    | [], hx, hzc, hc =>
      conv => whnf
      refine And.intro (fun h => by simp at h) (fun _ => ?_)
      conv => whnf
      refine IdxC.flc encCT_len i hil _ hc rfl ?_
      conv => whnf
      refine And.intro (fun h => by simp at h) (fun _ => ?_)
      conv => whnf
      refine appR (i := 2) (sz := 4) (n := acc.length) (m := 1) (xs := encGs acc) (ys := encGs [TG.mk 3 0 [] []]) txok (fun k => Nat.ble 3 k) (acc ++ [TG.mk 3 0 [] []]).length (encGs (acc ++ [TG.mk 3 0 [] []])) (by exact rfl) (by exact rfl) (by exact rfl) (by kernel_rfl) (by exact rfl) (encGs_scal _) (by simp) (by rw [encGs_app]) (by simp only [LB, List.length_append, List.length_cons, List.length_nil]; omega) ?_
      conv => whnf
      rw [incD (by omega)]
      refine again (i + 1, acc ++ [TG.mk 3 0 [] []]) (by simp; omega) ⟨by simp; omega, ?_, by simp; omega⟩ (weak_of rfl (by repeat ((conv => whnf); first | exact trivial | refine And.intro rfl ?_ | refine And.intro (incD (by omega)) ?_)) (by repeat ((conv => whnf); first | exact trivial | refine And.intro rfl ?_ | refine And.intro (incD (by omega)) ?_)))
      rw [hx, argV]
      cases sumV (l.drop (i + 1)) <;> simp
    | [t], hx, hzc, hc =>
      have hty := rtypE_fn t (by simp only [szL] at hzc; omega)
      rw [resE_eq] at hty
      by_cases ho : okT t = true
      · rw [typE_val ho, typE_err, if_pos ho] at hty
        have hav : argV (nm, [t]) = some (turnG 0 t) := by simp only [argV, if_pos ho]
        rw [hav] at hx
        generalize turnG 0 t = a at *
        obtain ⟨k1, n1, l1, m1⟩ := a
        conv => whnf
        refine And.intro (fun h => by simp at h) (fun _ => ?_)
        conv => whnf
        refine IdxC.flc encCT_len i hil _ hc rfl ?_
        conv => whnf
        refine And.intro (fun _ => ?_) (fun h => by simp at h)
        conv => whnf
        refine IdxC.flc encCT_len i hil _ hc rfl ?_
        conv => whnf
        refine IdxC.encK (l := [t]) 0 (by show 0 < 1; decide) rfl ?_
        conv => whnf
        refine callF hty gf10 rfl rfl ?_
        conv => whnf
        refine And.intro (fun h => absurd h (by simp)) (fun _ => ?_)
        conv => whnf
        refine appR (i := 2) (sz := 4) (n := acc.length) (m := 1) (xs := encGs acc) (ys := encGs [TG.mk k1 n1 l1 m1]) txok (fun k => Nat.ble 3 k) (acc ++ [TG.mk k1 n1 l1 m1]).length (encGs (acc ++ [TG.mk k1 n1 l1 m1])) (by exact rfl) (by exact rfl) (by exact rfl) (by kernel_rfl) (by exact rfl) (encGs_scal _) (by simp) (by rw [encGs_app]) (by simp only [LB, List.length_append, List.length_cons, List.length_nil]; omega) ?_
        conv => whnf
        rw [incD (by omega)]
        refine again (i + 1, acc ++ [TG.mk k1 n1 l1 m1]) (by simp; omega) ⟨by simp; omega, ?_, by simp; omega⟩ (weak_of rfl (by repeat ((conv => whnf); first | exact trivial | refine And.intro rfl ?_ | refine And.intro (incD (by omega)) ?_)) (by repeat ((conv => whnf); first | exact trivial | refine And.intro rfl ?_ | refine And.intro (incD (by omega)) ?_)))
        rw [hx]
        cases sumV (l.drop (i + 1)) <;> simp
      · rw [typE_err, if_neg ho] at hty
        have hav : argV (nm, [t]) = none := by simp only [argV, if_neg ho]
        rw [hav] at hx
        have hr : resE (sumE l) = .tup [dG (.mk 0 0 [] []), .int .i64 1] := by rw [sumE, hx]; rfl
        rw [hr]
        generalize valE (typE t) = a at *
        obtain ⟨k1, n1, l1, m1⟩ := a
        conv => whnf
        refine And.intro (fun h => by simp at h) (fun _ => ?_)
        conv => whnf
        refine IdxC.flc encCT_len i hil _ hc rfl ?_
        conv => whnf
        refine And.intro (fun _ => ?_) (fun h => by simp at h)
        conv => whnf
        refine IdxC.flc encCT_len i hil _ hc rfl ?_
        conv => whnf
        refine IdxC.encK (l := [t]) 0 (by show 0 < 1; decide) rfl ?_
        conv => whnf
        refine callF hty gf10 rfl rfl ?_
        conv => whnf
        refine And.intro (fun _ => ?_) (fun h => absurd h (by simp))
        conv => whnf
        try exact rfl
    | t :: u :: r, hx, hzc, hc =>
      have hr : resE (sumE l) = .tup [dG (.mk 0 0 [] []), .int .i64 1] := by rw [sumE, hx]; rfl
      rw [hr]
      conv => whnf
      refine And.intro (fun _ => ?_) (fun h => by simp at h; omega)
      conv => whnf
      try exact rfl
  · have hi : i = l.length := by have := of_decide_eq_false hb; omega
    subst hi
    rw [List.drop_length] at hx
    have hr : resE (sumE l) = .tup [dG (.mk 8 0 [] acc), .int .i64 0] := by rw [sumE, hx]; simp [sumV, resE]
    rw [hr]
    conv => whnf
    try exact rfl
end Go.Proofs.YtmjjajhkokdikaaGreat

/- slices.AppendSeq, Collect, Sorted, at ints. -/
set_option linter.unusedSimpArgs false
set_option linter.unusedVariables false
namespace Go.Proofs.YtmjjajhkokdikaaGreat
open Go.Vx Go.Vc Go.RowKit

theorem valuesF_fn (l : List Int) : FnR Tryz.prog G0 148 [dI l] (.fn 162 [] [.ptr [dI l] 0]) := by
  refine fnQ_of_vc txok mixed [] Tryz.func148 rfl rfl (by simp) fun b => ?_
  conv => whnf
  try exact rfl
abbrev seqH (xs : List Int) : Hp := [(0, .row 3 8 1 xs.length (Vx.encI xs)), (1, .blk 57 [.row 0])]
theorem seqH_plain (xs : List Int) : plainH (seqH xs) := by
  intro i o h φ
  simp only [lk] at h
  repeat' (split at h)
  all_goals first | (injection h with h; subst h; nofun) | cases h
set_option maxRecDepth 100000 in
theorem appendSeq_tri0 (l : List Int) (hl : l.length * 8 ≤ 140737488355328) : Tri Tryz.prog G0 167 1 0 [.row 0, .d (.fn 162 [] [.ptr [dI l] 0])] [(0, .row 3 8 1 0 [])] (fun o H' => o = .ret (.row 0) ∧ H' = [(0, .row 3 8 1 l.length (Vx.encI l))]) := by
  intro e w vs hlen hargs hH hG
  have ok0 := tri_start (G := G0) (fn := Tryz.f167) (N := 13) (f := 0) rfl (by simp) hlen hargs hH hG
  refine (callsIn_wide (n := 12)).1 (callsIn_of_wp_marks Tryz.func167 rfl trivial ?_ rfl)
  refine wpIn_wide.2 ?_
  refine wp_seq (vc_piece (plans := []) txok mixed ⟨[(1, .d (.fn 162 [] [.ptr [dI l] 0])), (2, .own 1 0)], seqH [], 2⟩ ok0 ?_ fun e1 a1 w1 ok1 => ?_)
  · conv => whnf
    exact weak_of rfl (by repeat ((conv => whnf); first | exact trivial | refine And.intro rfl ?_ | refine And.intro (incD (by omega)) ?_)) (by repeat ((conv => whnf); first | exact trivial | refine And.intro rfl ?_ | refine And.intro (incD (by omega)) ?_))
  simp only [Exit.then]
  refine wp_seq (wp_seq (vc_piece (plans := []) txok mixed ⟨[(6, .d (.fn 162 [] [.ptr [dI l] 0])), (2, .own 1 0)], seqH [], 2⟩ ok1 ?_ fun e2 a2 w2 ok2 => ?_))
  · conv => whnf
    exact weak_of rfl (by repeat ((conv => whnf); first | exact trivial | refine And.intro rfl ?_ | refine And.intro (incD (by omega)) ?_)) (by repeat ((conv => whnf); first | exact trivial | refine And.intro rfl ?_ | refine And.intro (incD (by omega)) ?_))
  simp only [Exit.then]
  have hdf := ok2.df
  simp only at hdf
  have tg := ok2.tm 6 _ rfl
  simp only [RepSV, RepD, RepDs] at tg
  obtain ⟨a', b', tg, ha', ⟨v2, s2, hb', ⟨ad, rfl, hcap⟩, rfl⟩⟩ := tg
  have ha' : a' = #[] := by apply Array.ext'; simpa using ha'
  subst ha'
  have hb' : b' = #[.pointer (some ad)] := by apply Array.ext'; rw [hb']; rfl
  subst hb'
  have hsz2 := ok2.sz
  have hz : ∀ (i : Nat) (v : Value), (a2.tmps.setIfInBounds i v).size = 13 := fun i v => by simp [hsz2]
  refine wp_block ?_
  refine range_ok (encs := encV) (fun _ _ => trivial) (fun _ _ => trivial) seqH seqH (fun _ => False) seqH_plain seqH_plain ok2 (by simpa [Act.eval] using tg) gf162
    (values_of hl hcap ok2.hp.pubLt) (fun _ => rfl)
    (fun x => { tmps := ((a2.tmps.setIfInBounds 7 (.int .i64 x)).setIfInBounds 5 (.int .i64 x)), defers := [] }) (fun x => by simp [hsz2]) (fun _ => rfl) ?assign
    (fun x => [(5, .d (.int .i64 x))]) ?tx ?t rfl ?body ?done ?stop
  case assign =>
    rintro q x W K hK
    refine wpIn_region_list ?_
    unfold wpListIn
    rw [if_pos (by rfl)]
    refine ⟨fun _ _ => trivial, ?_⟩
    rw [Oper.semAt_eq _ _ _ (by nofun)]
    have e0 : Array.foldl (fun (t : Array Value) (x : Nat × Value) => match x with | (p, v) => t.setIfInBounds p v) a2.tmps (#[7].zip (encV x)) = a2.tmps.setIfInBounds 7 (.int .i64 x) := by simp [encV]
    rw [e0]
    have e1 : ({ tmps := a2.tmps.setIfInBounds 7 (.int .i64 x), defers := [] } : Act).eval (.tmp 7) = .int .i64 x := by simp [Act.eval, hsz2]
    simp only [execOp, e1]
    exact hK
  case tx =>
    intro x m S' W _ _ _ t sv ht
    simp only [lk] at ht
    split at ht
    · rename_i h; obtain rfl := nbeq.1 h
      injection ht with ht; subst ht
      simp only [RepSV, RepD]
      simp [hsz2]
    · cases ht
  case t =>
    intro x t sv ht hn
    simp only [lk] at ht
    repeat' (split at ht)
    all_goals first | (rename_i h; obtain rfl := nbeq.1 h; simp [Array.getElem?_setIfInBounds]; done) | (cases ht; done)
  case body =>
    intro q b' pre x e' W hM hOk
    refine wpIn_block (wpIn_region_list (calm_in2 (fun _ _ h => h) _ _ _ (List.all_eq_true.1 (by rfl)) (wpList_mono ?_ _ _ _ (vcSeq_sound (K := fun y st => match y with
      | .normal => Weak b' 13 st ⟨[], seqH (pre ++ [x]), 2⟩
      | _ => False) txok _ _ _ _ _ hOk ?_))))
    · intro ex a3 w3 h3
      cases ex with
      | panic c => obtain ⟨_, _, _, _, _, _, _, h⟩ := h3; exact h.elim
      | outgrown => exact h3.elim
      | ret => obtain ⟨_, _, _, h⟩ := h3; exact h.elim
      | exit id => obtain ⟨_, _, _, h⟩ := h3; exact h.elim
      | goto l => obtain ⟨_, _, _, h⟩ := h3; exact h.elim
      | normal => exact h3
    · show Vx.vcSeq _ _ _ _ _ _ ⟨[(5, .d (.int .i64 x)), (6, .d (.fn 162 [] [.ptr [dI l] 0])), (2, .own 1 0)], seqH pre, 2⟩ _
      conv => whnf
      refine appR (i := 0) (sz := 1) (n := pre.length) (m := 1) (xs := Vx.encI pre) (ys := Vx.encI [x]) txok (fun k => Nat.ble 2 k) (pre ++ [x]).length (Vx.encI (pre ++ [x])) (by exact rfl) (by exact rfl) (by exact rfl) (by kernel_rfl) (by exact rfl) (Vx.encI_scal _) (by simp) (by simp [Vx.encI]) (by simp only [LB, List.length_append, List.length_cons, List.length_nil]; omega) ?_
      conv => whnf
      exact weak_of rfl (by repeat ((conv => whnf); first | exact trivial | refine And.intro rfl ?_ | refine And.intro (incD (by omega)) ?_)) (by repeat ((conv => whnf); first | exact trivial | refine And.intro rfl ?_ | refine And.intro (incD (by omega)) ?_))
  case done =>
    rintro D xs e' W rfl okD hD hK hp
    have hlt2 : w.heap.size ≤ w2.heap.size := ok2.below.size
    have okE := ok2.rebase okD
    simp only [Exit.inBlock, Exit.then]
    rw [hdf] at okE ⊢
    refine marks_end (fn := Tryz.f167) (kp := []) (plans := []) txok mixed (fun _ _ => trivial) hlen okE (seqH_plain _) hK (Nat.le_trans hlt2 hD) hp fun b => ?_
    conv => whnf
    exact ⟨rfl, rfl⟩
  case stop => exact fun _ _ _ _ _ h => h.elim
theorem appendSeq_tri (l : List Int) (hl : l.length * 8 ≤ 140737488355328) : Tri Tryz.prog G0 167 0 1 [.nl, .d (.fn 162 [] [.ptr [dI l] 0])] [] (fun o H' => o = .ret (.row 0) ∧ H' = [(0, .row 3 8 1 l.length (Vx.encI l))]) :=
  triArgNil (l := []) (r := [.d (.fn 162 [] [.ptr [dI l] 0])]) 3 8 1 (appendSeq_tri0 l hl)
theorem collect_tri (l : List Int) (hl : l.length * 8 ≤ 140737488355328) : Tri Tryz.prog G0 161 0 1 [.d (.fn 162 [] [.ptr [dI l] 0])] [] (fun o H' => o = .ret (.row 0) ∧ H' = [(0, .row 3 8 1 l.length (Vx.encI l))]) := by
  refine tri_of_vc txok mixed [0] [] Tryz.func161 rfl rfl (by simp) fun b => ?_
  conv => whnf
  refine callT [] (appendSeq_tri l hl) gf167 rfl rfl trivial rfl ?_
  rintro o' H' ⟨rfl, rfl⟩
  conv => whnf
  exact ⟨rfl, rfl⟩
open Go.Proofs Go.Shelf in
theorem sortI_in (l : List Int) (hl : l.length * 8 ≤ LB) {S : Nat → Prop} {w : World} {A : Option Addr} {c : Nat} {vs : List Value} (hrow : RowOk w ⟨.slice A l.length c, 3, 1, vs⟩) (hxs : RepDs S w (Vx.encI l) vs) :
    Calls Tryz.prog 59 #[.slice A l.length c] w fun en w' => en = .returned (.tuple #[]) ∧ Only (fun k => Vc.rowB (.slice A l.length c) = some k) w w' ∧ ∃ vs', RowOk w' ⟨.slice A l.length c, 3, 1, vs'⟩ ∧ ∀ S, RepDs S w' (Vx.encI (srtI l)) vs' := by
  have hx := repI_flat hxs
  have hsl : (srtI l).length = l.length := by unfold srtI; simp
  obtain ⟨n', hn, ⟨hv, hz⟩ | ⟨g, o, cap, cur, hv, hg, hc1, hc2, hsz, htk⟩⟩ := hrow
  · simp only at hv hn
    injection hv with h1 h2 h3
    subst h1; subst h3
    have hl0 : l = [] := List.eq_nil_of_length_eq_zero h2
    subst hl0
    refine (Any.slices_Sort_int_none sortI none 0 w).mono ?_
    rintro en w' ⟨rfl, rfl⟩
    exact ⟨rfl, Only.refl _ _, [], ⟨0, rfl, .inl ⟨rfl, rfl⟩⟩, fun S => by simp [srtI, Vx.encI, RepDs]⟩
  · simp only at hv hg htk hn hsz
    injection hv with h1 h2 h3
    subst h1; subst h3
    have hnl : n' = l.length := h2.symm
    subst hnl
    rw [Nat.mul_one, hx] at htk
    have hlt := (Array.getElem?_eq_some_iff.1 hg).1
    have hl' := hl
    simp only [LB] at hl'
    refine (Any.slices_Sort_int sortI g o c l w (holdsI hg htk) hlt (by omega)).mono ?_
    rintro en w' ⟨rfl, q, os, rfl⟩
    have hgr := grownBy_putI (w := w) (g := g) (n := q) (o := o) (os := os) (srtI l).toArray
    refine ⟨rfl, ⟨hgr.os, hgr.tape, hgr.output, hgr.size, fun k hk hn => hgr.block k hk fun e1 => by injection e1 with e1; subst e1; exact hn rfl⟩, (srtI l).map (Value.int .i64), ⟨l.length, by simp [hsl], .inr ⟨g, o, c, _, rfl, heap_putI _ hg, hc1, hc2, by rw [putCells_len]; exact hsz, ?_⟩⟩, fun S => repI_of _ _ _⟩
    have := putCells_cut o l.length (srtI l).toArray cur (by simp [hsl]; omega) (by simp [hsl])
    rw [List.toList_toArray, ← hsl, List.take_length] at this
    rw [Nat.mul_one, ← hsl]
    exact this
theorem sorted_tri (l : List Int) (hl : l.length * 8 ≤ 140737488355328) : Tri Tryz.prog G0 147 0 1 [.d (.fn 162 [] [.ptr [dI l] 0])] [] (fun o H' => o = .ret (.row 0) ∧ H' = [(0, .row 3 8 1 (srtI l).length (Vx.encI (srtI l)))]) := by
  refine tri_of_vc txok mixed [0] [] Tryz.func147 rfl rfl (by simp) fun b => ?_
  conv => whnf
  refine callT [] (collect_tri l hl) gf161 rfl rfl trivial rfl ?_
  rintro o' H' ⟨rfl, rfl⟩
  conv => whnf
  have hsl : (srtI l).length = l.length := by unfold srtI; simp
  refine inPlaceC (Vx.encI (srtI l)) rfl gf59 (fun _ _ => trivial) rfl (fun S w A c vs h1 h2 => sortI_in l (by simp only [LB]; omega) h1 h2) ?_
  conv => whnf
  exact ⟨rfl, by rw [hsl]; rfl⟩
/-- Stamps that are bound: the error, if any. -/
def stmE (l : List Int) : Option Int := if l.all stOk = true then (if (Go.Lib.compact (srtI l)).length = l.length then none else some 20) else some 1
def stmO (l : List Int) : DOut := match stmE l with
  | none => .ret (.tup [])
  | some e => .pan (badD e)
theorem stampsC_out (l : List Int) (hl : l.length < 1099511627776) : FnQ Tryz.prog G0 100 [dI l] (fun o => o = stmO l) := by
  refine fnQ_of_vc txok mixed [] Tryz.func100 rfl rfl (by simp) fun b => ?_
  conv => whnf
  refine loopH (fun i : Nat => i ≤ l.length ∧ l.all stOk = (l.drop i).all stOk) (fun i => l.length - i) (fun i => [(7, .d (.int .i64 i))]) (fun _ => []) 0 0 ⟨by omega, rfl⟩ (weak_of rfl (by repeat ((conv => whnf); first | exact trivial | refine And.intro rfl ?_ | refine And.intro (incD (by omega)) ?_)) (by repeat ((conv => whnf); first | exact trivial | refine And.intro rfl ?_ | refine And.intro (incD (by omega)) ?_))) ?_
  rintro i ⟨hi, hx⟩
  conv => whnf
  refine And.intro (fun hb => ?_) (fun hb => ?_)
  · have hil : i < l.length := by have := of_decide_eq_true hb; omega
    rw [List.drop_eq_getElem_cons hil, List.all_cons] at hx
    have hbad : stOk l[i] = false → stmO l = .pan (badD 1) := fun h => by
      have : stmE l = some 1 := by rw [stmE, if_neg (by rw [hx, h]; simp)]
      rw [stmO, this]
    have hst : stOk l[i] = (decide (l[i] ≥ 0) && decide (l[i] ≤ 2147483647)) := rfl
    conv => whnf
    refine IdxC.encI i hil rfl ?_
    conv => whnf
    refine And.intro (fun h1 => ?_) (fun h1 => ?_)
    · conv => whnf
      cases h2 : decide (l[i] ≤ 2147483647)
      · rw [hbad (by rw [hst, h2, Bool.and_false])]
        refine callQ rfl rfl gf51 (ask_pan 1 (by decide)) ?_
        rintro o rfl
        exact rfl
      · refine callF (ask_fn 1) gf51 rfl rfl ?_
        conv => whnf
        rw [incD (by omega)]
        refine again (i + 1) (by omega) ⟨by omega, ?_⟩ (weak_of rfl (by repeat ((conv => whnf); first | exact trivial | refine And.intro rfl ?_ | refine And.intro (incD (by omega)) ?_)) (by repeat ((conv => whnf); first | exact trivial | refine And.intro rfl ?_ | refine And.intro (incD (by omega)) ?_)))
        rw [hx, hst, h1, h2]; rfl
    · conv => whnf
      rw [hbad (by rw [hst, h1]; rfl)]
      refine callQ rfl rfl gf51 (ask_pan 1 (by decide)) ?_
      rintro o rfl
      exact rfl
  have hi : i = l.length := by have := of_decide_eq_false hb; omega
  subst hi
  rw [List.drop_length, List.all_nil] at hx
  conv => whnf
  refine callF (valuesF_fn l) gf148 rfl rfl ?_
  conv => whnf
  refine callT [] (sorted_tri l (by omega)) gf147 rfl rfl trivial rfl ?_
  rintro o' H' ⟨rfl, rfl⟩
  have hsl : (srtI l).length = l.length := by unfold srtI; simp
  conv => whnf
  refine callT [0] (comp_tri (srtI l) (by simp only [LB]; omega)) gf60 rfl rfl ⟨rfl, trivial⟩ rfl ?_
  rintro o' H' ⟨rfl, rfl⟩
  conv => whnf
  by_cases hc : (Go.Lib.compact (srtI l)).length = l.length
  · have hr : stmO l = .ret (.tup []) := by rw [stmO, stmE, if_pos hx, if_pos hc]
    rw [hr, show ((((Go.Lib.compact (srtI l)).length : Nat) : Int) == ((l.length : Nat) : Int)) = true from by rw [hc]; simp]
    refine callF (ask_fn 20) gf51 rfl rfl ?_
    conv => whnf
    try exact rfl
  · have hr : stmO l = .pan (badD 20) := by rw [stmO, stmE, if_pos hx, if_neg hc]
    rw [hr, show ((((Go.Lib.compact (srtI l)).length : Nat) : Int) == ((l.length : Nat) : Int)) = false from by rw [beq_eq_false_iff_ne]; omega]
    refine callQ rfl rfl gf51 (ask_pan 20 (by decide)) ?_
    rintro o rfl
    exact rfl
end Go.Proofs.YtmjjajhkokdikaaGreat

/- RightScheme, both. -/
set_option linter.unusedSimpArgs false
set_option linter.unusedVariables false
namespace Go.Proofs.YtmjjajhkokdikaaGreat
open Go.Vx Go.Vc Go.RowKit

/-- Data of a scheme. -/
abbrev encSc (s : Sc) : List D := .int .i64 s.g :: encT s.t
abbrev dS (s : Sc) : D := .agg (encSc s)
def isUp : List Int → Int → Bool
  | [], _ => true
  | x :: r, i => decide (x = i) && isUp r (i + 1)
def rightS (s : Sc) : Bool := right s.t && (isUp (fnd 8 s.t []) 0 && decide ((((fnd 8 s.t []).length : Nat) : Int) = s.g))
theorem isUp_drop {l : List Int} {i : Nat} (h : i < l.length) : isUp (l.drop i) i = (decide (l[i] = (i : Int)) && isUp (l.drop (i + 1)) ((i + 1 : Nat) : Int)) := by
  rw [List.drop_eq_getElem_cons h, isUp]; rfl
theorem rrightS_fn (s : Sc) (hz : szT s.t < 1099511627776) : FnR Tryz.prog G0 42 [dS s] (.bool (rightS s)) := by
  obtain ⟨g, ⟨k, n, ks⟩⟩ := s
  have hz : szT (.mk k n ks) < 1099511627776 := hz
  have hr := Rf.rright_fn (.mk k n ks)
  have hf := (fnd_sz 8 (.mk k n ks) [])
  simp only [List.length_nil] at hf
  have hg := Rf.rgens_fn (.mk k n ks) (by simp only [LB]; omega)
  have hres : rightS ⟨g, .mk k n ks⟩ = (right (.mk k n ks) && (isUp (fnd 8 (.mk k n ks) []) 0 && decide ((((fnd 8 (.mk k n ks) []).length : Nat) : Int) = g))) := rfl
  rw [hres]
  generalize right (.mk k n ks) = r at *
  generalize fnd 8 (.mk k n ks) [] = gs at *
  refine fnQ_of_vc txok mixed [] Tryz.func42 rfl rfl (by simp) fun b => ?_
  conv => whnf
  refine callF hr gf35 rfl rfl ?_
  conv => whnf
  refine And.intro (fun h => ?_) (fun h => ?_)
  · have h : r = false := by simpa using h
    subst h
    conv => whnf
    try exact rfl
  have h : r = true := by simpa using h
  subst h
  rw [Bool.true_and]
  conv => whnf
  refine callF hg gf77 rfl rfl ?_
  conv => whnf
  refine And.intro (fun h => ?_) (fun h => ?_)
  · have h : ¬ ((gs.length : Nat) : Int) = g := by simpa using h
    conv => whnf
    refine congrArg D.bool ?_
    simp [h]
  have h : ((gs.length : Nat) : Int) = g := by simpa using h
  rw [decide_eq_true h, Bool.and_true]
  conv => whnf
  refine loopH (fun i : Nat => i ≤ gs.length ∧ isUp gs 0 = isUp (gs.drop i) i) (fun i => gs.length - i) (fun i => [(4, .d (.int .i64 i))]) (fun _ => []) 1 0 ⟨by omega, rfl⟩ (weak_of rfl (by repeat ((conv => whnf); first | exact trivial | refine And.intro rfl ?_ | refine And.intro (incD (by omega)) ?_)) (by repeat ((conv => whnf); first | exact trivial | refine And.intro rfl ?_ | refine And.intro (incD (by omega)) ?_))) ?_
  rintro i ⟨hi, hx⟩
  conv => whnf
  refine And.intro (fun hb => ?_) (fun hb => ?_)
  · have hil : i < gs.length := by have := of_decide_eq_true hb; omega
    rw [isUp_drop hil] at hx
    conv => whnf
    refine IdxC.encI i hil rfl ?_
    conv => whnf
    refine And.intro (fun h => ?_) (fun h => ?_)
    · have h : ¬ gs[i] = (i : Int) := by simpa using h
      conv => whnf
      refine congrArg D.bool ?_
      rw [hx]; simp [h]
    · have h : gs[i] = (i : Int) := by simpa using h
      conv => whnf
      rw [incD (by omega)]
      refine again (i + 1) (by omega) ⟨by omega, ?_⟩ (weak_of rfl (by repeat ((conv => whnf); first | exact trivial | refine And.intro rfl ?_ | refine And.intro (incD (by omega)) ?_)) (by repeat ((conv => whnf); first | exact trivial | refine And.intro rfl ?_ | refine And.intro (incD (by omega)) ?_)))
      rw [hx]; simp [h]
  · have hi : i = gs.length := by have := of_decide_eq_false hb; omega
    subst hi
    conv => whnf
    refine congrArg D.bool ?_
    rw [hx]; simp [isUp]
theorem rightS_fn (s : Sc) (hz : szT s.t < 1099511627776) : FnR Tryz.prog G0 79 [dS s] (.bool (rightS s)) := by
  obtain ⟨g, ⟨k, n, ks⟩⟩ := s
  have hz : szT (.mk k n ks) < 1099511627776 := hz
  have hr := Ty.right_fn (.mk k n ks)
  have hf := (fnd_sz 8 (.mk k n ks) [])
  simp only [List.length_nil] at hf
  have hg := Ty.gens_fn (.mk k n ks) (by simp only [LB]; omega)
  have hres : rightS ⟨g, .mk k n ks⟩ = (right (.mk k n ks) && (isUp (fnd 8 (.mk k n ks) []) 0 && decide ((((fnd 8 (.mk k n ks) []).length : Nat) : Int) = g))) := rfl
  rw [hres]
  generalize right (.mk k n ks) = r at *
  generalize fnd 8 (.mk k n ks) [] = gs at *
  refine fnQ_of_vc txok mixed [] Tryz.func79 rfl rfl (by simp) fun b => ?_
  conv => whnf
  refine callF hr gf73 rfl rfl ?_
  conv => whnf
  refine And.intro (fun h => ?_) (fun h => ?_)
  · have h : r = false := by simpa using h
    subst h
    conv => whnf
    try exact rfl
  have h : r = true := by simpa using h
  subst h
  rw [Bool.true_and]
  conv => whnf
  refine callF hg gf115 rfl rfl ?_
  conv => whnf
  refine loopH (fun i : Nat => i ≤ gs.length ∧ isUp gs 0 = isUp (gs.drop i) i) (fun i => gs.length - i) (fun i => [(15, .d (.int .i64 i))]) (fun _ => [(0, .blk 26 [.d (.int .i64 g), .d (.int .i64 k), .d (.int .i64 n), .d (dK ks)])]) 1 0 ⟨by omega, rfl⟩ (weak_of rfl (by repeat ((conv => whnf); first | exact trivial | refine And.intro rfl ?_ | refine And.intro (incD (by omega)) ?_)) (by repeat ((conv => whnf); first | exact trivial | refine And.intro rfl ?_ | refine And.intro (incD (by omega)) ?_))) ?_
  rintro i ⟨hi, hx⟩
  conv => whnf
  refine And.intro (fun hb => ?_) (fun hb => ?_)
  · have hil : i < gs.length := by have := of_decide_eq_true hb; omega
    rw [isUp_drop hil] at hx
    conv => whnf
    refine IdxC.encI i hil rfl ?_
    conv => whnf
    refine And.intro (fun h => ?_) (fun h => ?_)
    · have h : ¬ gs[i] = (i : Int) := by simpa using h
      conv => whnf
      refine congrArg D.bool ?_
      rw [hx]; simp [h]
    · have h : gs[i] = (i : Int) := by simpa using h
      conv => whnf
      rw [incD (by omega)]
      refine again (i + 1) (by omega) ⟨by omega, ?_⟩ (weak_of rfl (by repeat ((conv => whnf); first | exact trivial | refine And.intro rfl ?_ | refine And.intro (incD (by omega)) ?_)) (by repeat ((conv => whnf); first | exact trivial | refine And.intro rfl ?_ | refine And.intro (incD (by omega)) ?_)))
      rw [hx]; simp [h]
  · have hi : i = gs.length := by have := of_decide_eq_false hb; omega
    subst hi
    rw [List.drop_length] at hx
    rw [hx]
    conv => whnf
    refine congrArg D.bool ?_
    simp only [isUp, Bool.true_and]
    rw [Bool.eq_iff_iff]; simp
end Go.Proofs.YtmjjajhkokdikaaGreat

/- Schemes: both answers. -/
set_option linter.unusedSimpArgs false
set_option linter.unusedVariables false
namespace Go.Proofs.YtmjjajhkokdikaaGreat
open Go.Vx Go.Vc Go.RowKit

/-- Above all of them. -/
def topI : List Int → Int → Int
  | [], k => k
  | x :: r, k => topI r (max k (x + 1))
/-- n numbers from k on. -/
def upI (k : Int) (n : Nat) : List Int := (List.range n).map fun i : Nat => k + (i : Int)
theorem upI_len (k : Int) (n : Nat) : (upI k n).length = n := by simp [upI]
theorem upI_succ (k : Int) (n : Nat) : upI k (n + 1) = upI k n ++ [k + (n : Int)] := by simp [upI, List.range_succ]
theorem topI_le : ∀ (l : List Int) (k : Int), k ≤ 4294967296 → (∀ x ∈ l, x ≤ 2147483647) → topI l k ≤ 4294967296
  | [], k, h, _ => h
  | x :: r, k, h, hl => topI_le r _ (by have := hl x (by simp); omega) fun y hy => hl y (by simp [hy])
theorem topI_ge : ∀ (l : List Int) (k : Int), k ≤ topI l k
  | [], k => Int.le_refl _
  | x :: r, k => by have := topI_ge r (max k (x + 1)); rw [topI]; omega
theorem topI_drop {l : List Int} {i : Nat} (h : i < l.length) (k : Int) : topI (l.drop i) k = topI (l.drop (i + 1)) (max k (l[i] + 1)) := by
  rw [List.drop_eq_getElem_cons h, topI]
def okS (s : Sc) : Bool := rightS s && ((((fnd 7 s.t []).length : Nat) : Int) == 0) && lowT s.t
/-- What a scheme becomes. -/
def schG (s : Sc) : TG := bindG 10 (upI (topI (fnd 6 s.t []) 0) s.g.toNat) (turnG (topI (fnd 6 s.t []) 0) s.t)
theorem around_fn (k : Int) (l : List Int) (t : TG) (hl : l.length < 1099511627776) : FnR Tryz.prog G0 44 [.int .i64 k, dI l, dG t] (dG (bindG k l t)) := by
  obtain ⟨k1, n1, l1, m1⟩ := t
  refine fnQ_of_vc txok mixed [(4, .pure 0 (.pure 1 (.pure 2 (.pure 3 (.take 4 (.take 5 (.run 6 (.pure 7 (.fin 8 .done)))))))))] Tryz.func44 rfl rfl (by simp) fun b => ?_
  conv => whnf
  refine loopH (fun z : Nat × TG => z.1 ≤ l.length ∧ bindG k l (.mk k1 n1 l1 m1) = bindG k (l.take z.1) z.2) (fun z => z.1) (fun z => [(7, .d (.int .i64 ((z.1 : Int) - 1)))]) (fun z => [(0, .blk 30 [.d (.int .i64 z.2.k), .d (.int .i64 z.2.n), .d (slD 16 z.2.ls.length (encS z.2.ls)), .d (slD 64 z.2.kids.length (encGs z.2.kids))]), (1, .blk 30 [.d (.int .i64 0), .d (.int .i64 0), .nl, .nl])]) 2 (l.length, .mk k1 n1 l1 m1) ⟨by simp, by simp⟩ (weak_of rfl (by (conv => whnf); first | done | (refine And.intro (by rw [Go.Vc.wrap_small (by omega) (by omega)]) ?_; first | done | repeat ((conv => whnf); first | exact trivial | refine And.intro rfl ?_ | refine And.intro (incD (by omega)) ?_))) (by repeat ((conv => whnf); first | exact trivial | refine And.intro rfl ?_ | refine And.intro (incD (by omega)) ?_))) ?_
  rintro ⟨j, ⟨k2, n2, l2, m2⟩⟩ ⟨hj, hx⟩
  simp only [g_k, g_n, g_ls, g_kids] at hj hx ⊢
  conv => whnf
  refine And.intro (fun hb => ?_) (fun hb => ?_)
  · have hj0 : 1 ≤ j := by have := of_decide_eq_true hb; omega
    obtain ⟨i, rfl⟩ : ∃ i, j = i + 1 := ⟨j - 1, by omega⟩
    have hil : i < l.length := by omega
    have hij : (((i + 1 : Nat) : Int) - 1) = (i : Int) := by omega
    rw [hij]
    conv => whnf
    refine And.intro (by kernel_rfl) ?_
    refine IdxC.encI i hil rfl ?_
    conv => whnf
    have hw : IntKind.i64.wrap ((i : Int) - 1) = (i : Int) - 1 := Go.Vc.wrap_small (by omega) (by omega)
    rw [hw]
    refine again (i, .mk k l[i] [] [.mk k2 n2 l2 m2]) (by simp) ⟨by simp; omega, ?_⟩ ?_
    · simp only
      rw [hx, List.take_succ_eq_append_getElem hil]
      unfold bindG
      rw [List.foldr_append]
      rfl
    · refine weak_pub (fun i => Nat.beq i 2) ?_
      conv => whnf
      exact (weak_cell 0 2 (.d (slD 16 0 [])) rfl rfl nl_data).trans (weak_of rfl (by repeat ((conv => whnf); first | exact trivial | refine And.intro rfl ?_ | refine And.intro (incD (by omega)) ?_)) (by repeat ((conv => whnf); first | exact trivial | refine And.intro rfl ?_ | refine And.intro (incD (by omega)) ?_)))
  · have hj0 : j = 0 := by have := of_decide_eq_false hb; omega
    subst hj0
    rw [hx]
    conv => whnf
    try exact rfl
theorem right_stamp : ∀ t : Tp, right t = true → ∀ x, hasN 6 x t → 0 ≤ x := by
  refine Tp.ind fun k n ks ih h1 x hx => ?_
  rw [hasN, hasL_iff] at hx
  rw [right] at h1
  split at h1
  · rename_i hk1
    simp only [Bool.or_eq_true, beq_iff_eq, Bool.and_eq_true] at hk1 h1
    have : ks = [] := List.eq_nil_of_length_eq_zero (by omega)
    subst this
    simp at hx; omega
  · split at h1
    · rename_i hk1 hk4
      simp only [Bool.or_eq_true, beq_iff_eq, Bool.and_eq_true] at hk4 h1
      rcases hx with hx | ⟨t, ht, hx⟩
      · omega
      · exact ih t ht ((rights_iff ks).1 h1.2.2 t ht) x hx
    · split at h1
      · rename_i hk6
        simp only [Bool.or_eq_true, beq_iff_eq, Bool.and_eq_true, decide_eq_true_eq] at hk6 h1
        have : ks = [] := List.eq_nil_of_length_eq_zero (by omega)
        subst this
        simp at hx; omega
      · cases h1
theorem all_low {t : Tp} (h : right t = true) : (fnd 6 t []).all stp = lowT t := by
  have hp : ∀ x ∈ fnd 6 t [], 0 ≤ x := fun x hx => by
    rcases (mem_fnd 6 x t []).1 hx with h1 | h1
    · cases h1
    · exact right_stamp t h x h1
  unfold lowT
  generalize fnd 6 t [] = l at *
  rw [Bool.eq_iff_iff]
  simp only [List.all_eq_true, Bool.not_eq_true', List.any_eq_false, decide_eq_true_eq, stp, Bool.or_eq_false_iff, decide_eq_false_iff_not]
  constructor
  · intro h x hx
    exact (h x hx).2
  · intro h x hx
    exact ⟨by have := hp x hx; omega, h x hx⟩
def schE (s : Sc) : TG ⊕ Int := if okS s = true then .inl (schG s) else .inr 1
theorem schE_bad {s : Sc} (h : okS s = false) : resE (schE s) = .tup [dG (.mk 0 0 [] []), .int .i64 1] := by rw [schE, if_neg (by simp [h])]; rfl
theorem schE_good {s : Sc} (h : okS s = true) : resE (schE s) = .tup [dG (schG s), .int .i64 0] := by rw [schE, if_pos h]; rfl
theorem okS_bad {s : Sc} (h : rightS s = false ∨ (fnd 7 s.t []).length ≠ 0 ∨ lowT s.t = false) : okS s = false := by
  unfold okS
  rcases h with h | h | h
  · rw [h]; rfl
  · have : ((((fnd 7 s.t []).length : Nat) : Int) == 0) = false := by simpa using h
    rw [this]; simp
  · rw [h]; simp
theorem rscheme_fn (s : Sc) (hz : szT s.t < 1099511627776) : FnR Tryz.prog G0 12 [dS s] (resE (schE s)) := by
  have hr := rrightS_fn s hz
  have hst := Rf.rstamps_fn s.t (by have := fnd_sz 6 s.t []; simp only [List.length_nil] at this; simp only [LB]; omega)
  have hmt := Rf.rmetas_fn s.t (by have := fnd_sz 7 s.t []; simp only [List.length_nil] at this; simp only [LB]; omega)
  have hb1 : rightS s = false → resE (schE s) = .tup [dG (.mk 0 0 [] []), .int .i64 1] := fun h => schE_bad (okS_bad (.inl h))
  have hb2 : (fnd 7 s.t []).length ≠ 0 → resE (schE s) = .tup [dG (.mk 0 0 [] []), .int .i64 1] := fun h => schE_bad (okS_bad (.inr (.inl h)))
  have hb3 : lowT s.t = false → resE (schE s) = .tup [dG (.mk 0 0 [] []), .int .i64 1] := fun h => schE_bad (okS_bad (.inr (.inr h)))
  have hgood : rightS s = true → (fnd 7 s.t []).length = 0 → lowT s.t = true → resE (schE s) = .tup [dG (schG s), .int .i64 0] := fun h1 h2 h3 => schE_good (by unfold okS; rw [h1, h2, h3]; rfl)
  have hall : rightS s = true → (fnd 6 s.t []).all stp = lowT s.t := fun h => all_low (by unfold rightS at h; simp only [Bool.and_eq_true] at h; exact h.1)
  have hgn : rightS s = true → 0 ≤ s.g ∧ s.g < 1099511627776 := fun h => by
    unfold rightS at h
    simp only [Bool.and_eq_true, decide_eq_true_eq] at h
    have := fnd_sz 8 s.t []
    simp only [List.length_nil] at this
    omega
  have hsl := fnd_sz 6 s.t []
  have hml := fnd_sz 7 s.t []
  simp only [List.length_nil] at hsl hml
  have hsch : schG s = bindG 10 (upI (topI (fnd 6 s.t []) 0) s.g.toNat) (turnG (topI (fnd 6 s.t []) 0) s.t) := rfl
  have hmade := fun K => rmade_fn K s.t hz
  obtain ⟨g, ⟨k, n, ks⟩⟩ := s
  simp only at *
  generalize lowT (.mk k n ks) = lw at *
  generalize rightS ⟨g, .mk k n ks⟩ = r at *
  generalize resE (schE ⟨g, .mk k n ks⟩) = res at *
  generalize schG ⟨g, .mk k n ks⟩ = sg at *
  generalize fnd 7 (.mk k n ks) [] = mt at *
  generalize fnd 6 (.mk k n ks) [] = st at *
  refine fnQ_of_vc txok mixed [] Tryz.func12 rfl rfl (by simp) fun b => ?_
  conv => whnf
  refine callF hst gf38 rfl rfl ?_
  conv => whnf
  refine callF hr gf42 rfl rfl ?_
  conv => whnf
  cases r with
  | false =>
    repeat' ((conv => whnf); first
      | (refine And.intro (fun h => ?_) (fun h => ?_) <;> first | exact Bool.noConfusion h | skip)
      | refine callF hmt gf43 rfl rfl ?_)
    all_goals try (conv => whnf)
    rw [hb1 rfl]
    exact rfl
  | true =>
  obtain ⟨hg0, hg1⟩ := hgn rfl
  have hall := hall rfl
  refine And.intro (fun h => ?_) (fun h => by cases h)
  conv => whnf
  refine callF hmt gf43 rfl rfl ?_
  conv => whnf
  refine And.intro (fun h => ?_) (fun h => ?_)
  rotate_left
  · conv => whnf
    rw [hb2 (by have := of_decide_eq_true h; omega)]
    exact rfl
  have hm0 : mt.length = 0 := by have := of_decide_eq_false h; omega
  conv => whnf
  refine callF (rstampsOk_fn st) gf37 rfl rfl ?_
  rw [hall]
  conv => whnf
  refine And.intro (fun h => ?_) (fun h => ?_)
  · have h : lw = false := by simpa using h
    subst h
    rw [hb3 rfl]
    conv => whnf
    try exact rfl
  have h : lw = true := by simpa using h
  subst h
  rw [hgood rfl hm0 rfl, hsch]
  have hsp : ∀ x ∈ st, 0 ≤ x ∧ x ≤ 2147483647 := fun x hx => by
    have := List.all_eq_true.1 hall x hx
    simp [stp] at this
    omega
  have htop := topI_le st 0 (by decide) fun x hx => (hsp x hx).2
  have htop0 := topI_ge st 0
  conv => whnf
  refine loopH (fun z : Nat × Int => z.1 ≤ st.length ∧ 0 ≤ z.2 ∧ z.2 ≤ 4294967296 ∧ topI st 0 = topI (st.drop z.1) z.2) (fun z => st.length - z.1) (fun z => [(5, .d (.int .i64 z.2)), (6, .d (.int .i64 z.1))]) (fun _ => [(0, .blk 26 [.d (.int .i64 g), .d (.int .i64 k), .d (.int .i64 n), .d (dK ks)]), (1, .blk 30 [.d (.int .i64 0), .d (.int .i64 0), .nl, .nl])]) 2 (0, 0) ⟨by simp, by simp, by simp, by simp⟩ (weak_of rfl (by repeat ((conv => whnf); first | exact trivial | refine And.intro rfl ?_ | refine And.intro (incD (by omega)) ?_)) (by repeat ((conv => whnf); first | exact trivial | refine And.intro rfl ?_ | refine And.intro (incD (by omega)) ?_))) ?_
  rintro ⟨i, kk⟩ ⟨hi, hk0, hk1, hx⟩
  simp only at hi hk0 hk1 hx ⊢
  conv => whnf
  refine And.intro (fun hb => ?_) (fun hb => ?_)
  · have hil : i < st.length := by have := of_decide_eq_true hb; omega
    rw [topI_drop hil] at hx
    obtain ⟨hx0, hx1⟩ := hsp _ (List.getElem_mem hil)
    conv => whnf
    refine IdxC.encI i hil rfl ?_
    conv => whnf
    refine And.intro (fun h => ?_) (fun h => ?_)
    · have h : st[i] ≥ kk := of_decide_eq_true h
      conv => whnf
      refine IdxC.encI i hil rfl ?_
      conv => whnf
      rw [incD (by omega), Go.Vc.wrap_small (by omega) (by omega)]
      refine again (i + 1, st[i] + 1) (by simp; omega) ⟨by simp; omega, by simp; omega, by simp; omega, ?_⟩ (weak_of rfl (by repeat ((conv => whnf); first | exact trivial | refine And.intro rfl ?_ | refine And.intro (incD (by omega)) ?_)) (by repeat ((conv => whnf); first | exact trivial | refine And.intro rfl ?_ | refine And.intro (incD (by omega)) ?_)))
      rw [hx, show max kk (st[i] + 1) = st[i] + 1 from by omega]
    · have h : ¬ st[i] ≥ kk := of_decide_eq_false h
      conv => whnf
      rw [incD (by omega)]
      refine again (i + 1, kk) (by simp; omega) ⟨by simp; omega, by simp; omega, by simp; omega, ?_⟩ (weak_of rfl (by repeat ((conv => whnf); first | exact trivial | refine And.intro rfl ?_ | refine And.intro (incD (by omega)) ?_)) (by repeat ((conv => whnf); first | exact trivial | refine And.intro rfl ?_ | refine And.intro (incD (by omega)) ?_)))
      rw [hx, show max kk (st[i] + 1) = kk from by omega]
  have hi : i = st.length := by have := of_decide_eq_false hb; omega
  subst hi
  rw [List.drop_length, topI] at hx
  rw [hx]
  rw [hx] at htop htop0
  clear hx
  conv => whnf
  obtain ⟨gn, rfl⟩ : ∃ gn : Nat, g = (gn : Int) := ⟨g.toNat, by omega⟩
  rw [Int.toNat_natCast]
  refine loopH (fun i : Nat => i ≤ gn) (fun i => gn - i) (fun i => [(7, .row 2), (8, .d (.int .i64 i))]) (fun i => [(0, .blk 26 [.d (.int .i64 gn), .d (.int .i64 k), .d (.int .i64 n), .d (dK ks)]), (1, .blk 30 [.d (.int .i64 0), .d (.int .i64 0), .nl, .nl]), (2, .row 3 8 1 (upI kk i).length (Vx.encI (upI kk i)))]) 3 0 (by omega) ((weak_nlT 7 3 8 1 rfl).trans (weak_of rfl (by repeat ((conv => whnf); first | exact trivial | refine And.intro rfl ?_ | refine And.intro (incD (by omega)) ?_)) (by repeat ((conv => whnf); first | exact trivial | refine And.intro rfl ?_ | refine And.intro (incD (by omega)) ?_)))) ?_
  intro i hi
  conv => whnf
  refine And.intro (fun hb => ?_) (fun hb => ?_)
  · have hil : i < gn := by have := of_decide_eq_true hb; omega
    conv => whnf
    have hw : IntKind.i64.wrap (kk + (i : Int)) = kk + (i : Int) := Go.Vc.wrap_small (by omega) (by omega)
    rw [hw]
    refine appR (i := 2) (sz := 1) (n := (upI kk i).length) (m := 1) (xs := Vx.encI (upI kk i)) (ys := Vx.encI [kk + (i : Int)]) txok (fun k => Nat.ble 3 k) (upI kk (i + 1)).length (Vx.encI (upI kk (i + 1))) (by exact rfl) (by exact rfl) (by exact rfl) (by kernel_rfl) (by exact rfl) (Vx.encI_scal _) (by simp [upI_len]) (by rw [upI_succ]; simp [Vx.encI]) (by simp only [LB, upI_len]; omega) ?_
    conv => whnf
    rw [incD (by omega)]
    exact again (i + 1) (by omega) (by omega) (weak_of rfl (by repeat ((conv => whnf); first | exact trivial | refine And.intro rfl ?_ | refine And.intro (incD (by omega)) ?_)) (by repeat ((conv => whnf); first | exact trivial | refine And.intro rfl ?_ | refine And.intro (incD (by omega)) ?_)))
  · have hi : i = gn := by have := of_decide_eq_false hb; omega
    subst hi
    conv => whnf
    have hma := hmade kk
    have har := around_fn 10 (upI kk i) (turnG kk (.mk k n ks)) (by rw [upI_len]; omega)
    generalize turnG kk (.mk k n ks) = tg at *
    generalize bindG 10 (upI kk i) tg = bg at *
    generalize upI kk i = ul at *
    obtain ⟨k3, n3, l3, m3⟩ := tg
    obtain ⟨k4, n4, l4, m4⟩ := bg
    refine callF hma gf39 rfl rfl ?_
    conv => whnf
    refine pubC (fun i => Nat.beq i 2) ?_
    conv => whnf
    refine callF har gf44 rfl rfl ?_
    conv => whnf
    try exact rfl
end Go.Proofs.YtmjjajhkokdikaaGreat

/- Scheme. -/
set_option linter.unusedSimpArgs false
set_option linter.unusedVariables false
namespace Go.Proofs.YtmjjajhkokdikaaGreat
open Go.Vx Go.Vc Go.RowKit

theorem scheme_out (s : Sc) (hz : szT s.t < 1099511627776) : FnQ Tryz.prog G0 41 [dS s] (fun o => o = outO (schE s)) := by
  have hr := rightS_fn s hz
  have hsl := fnd_sz 6 s.t []
  have hml := fnd_sz 7 s.t []
  simp only [List.length_nil] at hsl hml
  have hst := Ty.stamps_fn s.t (by simp only [LB]; omega)
  have hmt := Ty.metas_fn s.t (by simp only [LB]; omega)
  have hlo := low_fn s.t (by simp only [LB]; omega)
  have hb1 : rightS s = false → outO (schE s) = .pan (badD 1) := fun h => by rw [schE, if_neg (by simp [okS_bad (.inl h)])]; rfl
  have hb2 : (fnd 7 s.t []).length ≠ 0 → outO (schE s) = .pan (badD 1) := fun h => by rw [schE, if_neg (by simp [okS_bad (.inr (.inl h))])]; rfl
  have hb3 : lowT s.t = false → outO (schE s) = .pan (badD 1) := fun h => by rw [schE, if_neg (by simp [okS_bad (.inr (.inr h))])]; rfl
  have hgood : rightS s = true → (fnd 7 s.t []).length = 0 → lowT s.t = true → outO (schE s) = .ret (dG (schG s)) := fun h1 h2 h3 => by
    rw [schE, if_pos (by unfold okS; rw [h1, h2, h3]; rfl)]; rfl
  have hrt : rightS s = true → right s.t = true := fun h => by unfold rightS at h; simp only [Bool.and_eq_true] at h; exact h.1
  have hall : rightS s = true → (fnd 6 s.t []).all stp = lowT s.t := fun h => all_low (hrt h)
  have hgn : rightS s = true → 0 ≤ s.g ∧ s.g < 1099511627776 := fun h => by
    unfold rightS at h
    simp only [Bool.and_eq_true, decide_eq_true_eq] at h
    have := fnd_sz 8 s.t []
    simp only [List.length_nil] at this
    omega
  have hturn : rightS s = true → (fnd 7 s.t []).length = 0 → ∀ K, FnR Tryz.prog G0 76 [dT s.t, .int .i64 K] (dG (turnG K s.t)) := fun h1 h2 K =>
    turn_fn K s.t (nom_of s.t [] (List.eq_nil_of_length_eq_zero h2)).2 (hrt h1)
  have hsch : schG s = bindG 10 (upI (topI (fnd 6 s.t []) 0) s.g.toNat) (turnG (topI (fnd 6 s.t []) 0) s.t) := rfl
  obtain ⟨g, ⟨k, n, ks⟩⟩ := s
  simp only at *
  generalize lowT (.mk k n ks) = lw at *
  generalize rightS ⟨g, .mk k n ks⟩ = r at *
  generalize outO (schE ⟨g, .mk k n ks⟩) = res at *
  generalize schG ⟨g, .mk k n ks⟩ = sg at *
  generalize fnd 7 (.mk k n ks) [] = mt at *
  generalize fnd 6 (.mk k n ks) [] = st at *
  refine fnQ_of_vc txok mixed [] Tryz.func41 rfl rfl (by simp) fun b => ?_
  conv => whnf
  refine callF hr gf79 rfl rfl ?_
  conv => whnf
  cases r with
  | false =>
    repeat' ((conv => whnf); first
      | (refine And.intro (fun h => ?_) (fun h => ?_) <;> first | exact Bool.noConfusion h | skip)
      | (refine callQ rfl rfl gf51 (ask_pan 1 (by decide)) ?_; rintro o rfl; rw [hb1 rfl]; exact rfl))
  | true =>
  obtain ⟨hg0, hg1⟩ := hgn rfl
  have hall := hall rfl
  refine And.intro (fun _ => ?_) (fun h => by cases h)
  conv => whnf
  refine callF hmt gf80 rfl rfl ?_
  conv => whnf
  refine And.intro (fun h => ?_) (fun h => ?_)
  rotate_left
  · conv => whnf
    have hf : (((mt.length : Nat) : Int) == 0) = false := h
    rw [hb2 (by intro e; rw [e] at hf; simp at hf)]
    rw [hf]
    refine callQ rfl rfl gf51 (ask_pan 1 (by decide)) ?_
    rintro o rfl
    exact rfl
  have hm0 : mt.length = 0 := by have := eq_of_beq h; omega
  have hturn := hturn rfl hm0
  conv => whnf
  refine callF hlo gf75 rfl rfl ?_
  conv => whnf
  cases lw with
  | false =>
    rw [hb3 rfl]
    refine callQ rfl rfl gf51 (ask_pan 1 (by decide)) ?_
    rintro o rfl
    exact rfl
  | true =>
  rw [hgood rfl hm0 rfl, hsch]
  refine callF (ask_fn 1) gf51 rfl rfl ?_
  have hsp : ∀ x ∈ st, 0 ≤ x ∧ x ≤ 2147483647 := fun x hx => by
    have := List.all_eq_true.1 hall x hx
    simp [stp] at this
    omega
  have htop := topI_le st 0 (by decide) fun x hx => (hsp x hx).2
  have htop0 := topI_ge st 0
  conv => whnf
  refine callF hst gf24 rfl rfl ?_
  conv => whnf
  refine loopH (fun z : Nat × Int => z.1 ≤ st.length ∧ 0 ≤ z.2 ∧ z.2 ≤ 4294967296 ∧ topI st 0 = topI (st.drop z.1) z.2) (fun z => st.length - z.1) (fun z => [(3, .d (.int .i64 z.2)), (27, .d (.int .i64 z.1))]) (fun _ => [(0, .blk 26 [.d (.int .i64 g), .d (.int .i64 k), .d (.int .i64 n), .d (dK ks)]), (1, .blk 30 [.d (.int .i64 0), .d (.int .i64 0), .nl, .nl])]) 2 (0, 0) ⟨by simp, by simp, by simp, by simp⟩ (weak_of rfl (by repeat ((conv => whnf); first | exact trivial | refine And.intro rfl ?_ | refine And.intro (incD (by omega)) ?_)) (by repeat ((conv => whnf); first | exact trivial | refine And.intro rfl ?_ | refine And.intro (incD (by omega)) ?_))) ?_
  rintro ⟨i, kk⟩ ⟨hi, hk0, hk1, hx⟩
  simp only at hi hk0 hk1 hx ⊢
  conv => whnf
  refine And.intro (fun hb => ?_) (fun hb => ?_)
  · have hil : i < st.length := by have := of_decide_eq_true hb; omega
    rw [topI_drop hil] at hx
    obtain ⟨hx0, hx1⟩ := hsp _ (List.getElem_mem hil)
    conv => whnf
    refine IdxC.encI i hil rfl ?_
    conv => whnf
    refine maxC rfl rfl rfl ?_
    conv => whnf
    rw [incD (by omega), Go.Vc.wrap_small (by omega) (by omega)]
    exact again (i + 1, max kk (st[i] + 1)) (by simp; omega) ⟨by simp; omega, by simp; omega, by simp; omega, hx⟩ (weak_of rfl (by repeat ((conv => whnf); first | exact trivial | refine And.intro rfl ?_ | refine And.intro (incD (by omega)) ?_)) (by repeat ((conv => whnf); first | exact trivial | refine And.intro rfl ?_ | refine And.intro (incD (by omega)) ?_)))
  have hi : i = st.length := by have := of_decide_eq_false hb; omega
  subst hi
  rw [List.drop_length, topI] at hx
  rw [hx]
  rw [hx] at htop htop0
  clear hx
  conv => whnf
  obtain ⟨gn, rfl⟩ : ∃ gn : Nat, g = (gn : Int) := ⟨g.toNat, by omega⟩
  rw [Int.toNat_natCast]
  refine loopH (fun i : Nat => i ≤ gn) (fun i => gn - i) (fun i => [(6, .row 2), (38, .d (.int .i64 i))]) (fun i => [(0, .blk 26 [.d (.int .i64 gn), .d (.int .i64 k), .d (.int .i64 n), .d (dK ks)]), (1, .blk 30 [.d (.int .i64 0), .d (.int .i64 0), .nl, .nl]), (2, .row 3 8 1 (upI kk i).length (Vx.encI (upI kk i)))]) 3 0 (by omega) ((weak_nlT 6 3 8 1 rfl).trans (weak_of rfl (by repeat ((conv => whnf); first | exact trivial | refine And.intro rfl ?_ | refine And.intro (incD (by omega)) ?_)) (by repeat ((conv => whnf); first | exact trivial | refine And.intro rfl ?_ | refine And.intro (incD (by omega)) ?_)))) ?_
  intro i hi
  conv => whnf
  refine And.intro (fun hb => ?_) (fun hb => ?_)
  · have hil : i < gn := by have := of_decide_eq_true hb; omega
    conv => whnf
    have hw : IntKind.i64.wrap (kk + (i : Int)) = kk + (i : Int) := Go.Vc.wrap_small (by omega) (by omega)
    rw [hw]
    refine appR (i := 2) (sz := 1) (n := (upI kk i).length) (m := 1) (xs := Vx.encI (upI kk i)) (ys := Vx.encI [kk + (i : Int)]) txok (fun k => Nat.ble 3 k) (upI kk (i + 1)).length (Vx.encI (upI kk (i + 1))) (by exact rfl) (by exact rfl) (by exact rfl) (by kernel_rfl) (by exact rfl) (Vx.encI_scal _) (by simp [upI_len]) (by rw [upI_succ]; simp [Vx.encI]) (by simp only [LB, upI_len]; omega) ?_
    conv => whnf
    rw [incD (by omega)]
    exact again (i + 1) (by omega) (by omega) (weak_of rfl (by repeat ((conv => whnf); first | exact trivial | refine And.intro rfl ?_ | refine And.intro (incD (by omega)) ?_)) (by repeat ((conv => whnf); first | exact trivial | refine And.intro rfl ?_ | refine And.intro (incD (by omega)) ?_)))
  · have hi : i = gn := by have := of_decide_eq_false hb; omega
    subst hi
    conv => whnf
    have hma := hturn kk
    have har := bind_fn 10 (upI kk i) (turnG kk (.mk k n ks))
    generalize turnG kk (.mk k n ks) = tg at *
    generalize bindG 10 (upI kk i) tg = bg at *
    generalize upI kk i = ul at *
    obtain ⟨k3, n3, l3, m3⟩ := tg
    obtain ⟨k4, n4, l4, m4⟩ := bg
    refine callF hma gf76 rfl rfl ?_
    conv => whnf
    refine pubC (fun i => Nat.beq i 2) ?_
    conv => whnf
    refine callF har gf52 rfl rfl ?_
    conv => whnf
    try exact rfl
theorem schemec_out (s : Sc) (hz : szT s.t < 1099511627776) : FnQ Tryz.prog G0 40 [.ptr (encSc s) 0] (fun o => o = outO (schE s)) := by
  have h := scheme_out s hz
  generalize schE s = x at h ⊢
  obtain ⟨g, ⟨k, n, ks⟩⟩ := s
  refine fnQ_of_vc txok mixed [] Tryz.func40 rfl rfl (by simp) fun b => ?_
  conv => whnf
  refine callQ rfl rfl gf41 h ?_
  rintro o rfl
  cases x with
  | inr e => exact rfl
  | inl t =>
    obtain ⟨k1, n1, l1, m1⟩ := t
    conv => whnf
    try exact rfl
theorem schemeF_fn (s : Sc) (hz : szT s.t < 1099511627776) : FnR Tryz.prog G0 11 [dS s] (resE (schE s)) := by
  have h := made_E (schE s) gf40 (schemec_out s hz)
  generalize schE s = x at h ⊢
  obtain ⟨g, ⟨k, n, ks⟩⟩ := s
  refine fnQ_of_vc txok mixed [] Tryz.func11 rfl rfl (by simp) fun b => ?_
  conv => whnf
  refine pubC (fun i => Nat.beq i 0) ?_
  conv => whnf
  refine callF h gf32 rfl rfl ?_
  cases x with
  | inr e =>
    conv => whnf
    try exact rfl
  | inl t =>
    obtain ⟨k1, n1, l1, m1⟩ := t
    conv => whnf
    try exact rfl
end Go.Proofs.YtmjjajhkokdikaaGreat

/- A value's, a structure's, a functor's closure; abs, fun. -/
set_option linter.unusedSimpArgs false
set_option linter.unusedVariables false
namespace Go.Proofs.YtmjjajhkokdikaaGreat
open Go.Vx Go.Vc Go.RowKit

theorem valD_out (m : VlM) (hz : szT m.t < 1099511627776) : FnQ Tryz.prog G0 131 [.ptr (encVlM m) 0] (fun o => o = outO (schE ⟨m.g, m.t⟩)) := by
  have h := scheme_out ⟨m.g, m.t⟩ hz
  generalize schE ⟨m.g, m.t⟩ = x at h ⊢
  obtain ⟨nm, g, ⟨k, n, ks⟩⟩ := m
  refine fnQ_of_vc txok mixed [] Tryz.func131 rfl rfl (by simp) fun b => ?_
  conv => whnf
  refine callQ rfl rfl gf41 h ?_
  rintro o rfl
  cases x with
  | inr e => exact rfl
  | inl t =>
    obtain ⟨k1, n1, l1, m1⟩ := t
    conv => whnf
    try exact rfl
theorem subD_out (nm : ByteArray) (s : StrT) (x : TG ⊕ Int) (h : FnQ Tryz.prog G0 56 [dStr s] (fun o => o = outO x)) : FnQ Tryz.prog G0 132 [.ptr (encSub0 (.mk nm s)) 0] (fun o => o = outO x) := by
  obtain ⟨a1, a2, a3, a4, a5⟩ := s
  simp only [dStr, encSub0, encStr] at h ⊢
  refine fnQ_of_vc txok mixed [] Tryz.func132 rfl rfl (by simp) fun b => ?_
  conv => whnf
  refine callQ rfl rfl gf56 h ?_
  rintro o rfl
  cases x with
  | inr e => exact rfl
  | inl t =>
    obtain ⟨k1, n1, l1, m1⟩ := t
    conv => whnf
    try exact rfl
/-- An Abs; a Fun. -/
abbrev encAbs (st : List Int) (s : StrT) : List D := dI st :: encStr s
abbrev encFn (st : List Int) (a : StrT) (rst : List Int) (r : StrT) : List D := dI st :: (encStr a ++ encAbs rst r)
def absE (st : List Int) (x : TG ⊕ Int) : TG ⊕ Int := match stmE st with
  | some e => .inr e
  | none => match x with
    | .inl t => .inl (bindG 11 st t)
    | .inr e => .inr e
theorem abs_out (st : List Int) (s : StrT) (x : TG ⊕ Int) (hl : st.length < 1099511627776) (h : FnQ Tryz.prog G0 56 [dStr s] (fun o => o = outO x)) : FnQ Tryz.prog G0 63 [.agg (encAbs st s)] (fun o => o = outO (absE st x)) := by
  have hs := stampsC_out st hl
  obtain ⟨a1, a2, a3, a4, a5⟩ := s
  simp only [dStr, encAbs, encStr] at h ⊢
  refine fnQ_of_vc txok mixed [(2, .pure 0 (.take 1 (.pure 2 (.take 3 (.run 4 (.fin 5 (.fin 6 .done)))))))] Tryz.func63 rfl rfl (by simp) fun b => ?_
  conv => whnf
  refine callQ rfl rfl gf100 hs ?_
  rintro o rfl
  cases hst : stmE st with
  | some e =>
    simp only [stmO, absE, hst]
    exact rfl
  | none =>
    simp only [stmO, absE, hst]
    conv => whnf
    refine And.intro (by kernel_rfl) ?_
    conv => whnf
    refine callQ rfl rfl gf56 h ?_
    rintro o rfl
    cases x with
    | inr e => exact rfl
    | inl t =>
      have hb := bind_fn 11 st t
      simp only
      generalize bindG 11 st t = bt at *
      obtain ⟨k1, n1, l1, m1⟩ := t
      obtain ⟨k2, n2, l2, m2⟩ := bt
      conv => whnf
      refine callF hb gf52 rfl rfl ?_
      conv => whnf
      try exact rfl
def funE (st : List Int) (xa : TG ⊕ Int) (rst : List Int) (xr : TG ⊕ Int) : TG ⊕ Int := match stmE st with
  | some e => .inr e
  | none => match xa with
    | .inr e => .inr e
    | .inl ta => match absE rst xr with
      | .inr e => .inr e
      | .inl tr => .inl (bindG 10 st (.mk 4 0 [] [ta, tr]))
theorem fun_out (st : List Int) (a : StrT) (rst : List Int) (r : StrT) (xa xr : TG ⊕ Int) (hl : st.length < 1099511627776) (hl2 : rst.length < 1099511627776)
    (ha : FnQ Tryz.prog G0 56 [dStr a] (fun o => o = outO xa)) (hr : FnQ Tryz.prog G0 56 [dStr r] (fun o => o = outO xr)) :
    FnQ Tryz.prog G0 134 [.agg (encFn st a rst r)] (fun o => o = outO (funE st xa rst xr)) := by
  have hs := stampsC_out st hl
  have hab := abs_out rst r xr hl2 hr
  obtain ⟨a1, a2, a3, a4, a5⟩ := a
  obtain ⟨r1, r2, r3, r4, r5⟩ := r
  simp only [dStr, encFn, encAbs, encStr, List.cons_append, List.nil_append] at ha hab ⊢
  refine fnQ_of_vc txok mixed [(3, .pure 0 (.take 1 (.take 2 (.pure 3 (.take 4 (.run 5 (.run 6 (.run 7 (.fin 8 (.fin 9 .done))))))))))] Tryz.func134 rfl rfl (by simp) fun b => ?_
  conv => whnf
  refine callQ rfl rfl gf100 hs ?_
  rintro o rfl
  cases hst : stmE st with
  | some e =>
    simp only [stmO, funE, hst]
    exact rfl
  | none =>
    simp only [stmO, funE, hst]
    conv => whnf
    refine callQ rfl rfl gf56 ha ?_
    rintro o rfl
    cases xa with
    | inr e => exact rfl
    | inl ta =>
      simp only
      generalize absE rst xr = xb at *
      obtain ⟨k1, n1, l1, m1⟩ := ta
      conv => whnf
      refine And.intro (by kernel_rfl) ?_
      conv => whnf
      refine callQ rfl rfl gf63 hab ?_
      rintro o rfl
      cases xb with
      | inr e => exact rfl
      | inl tr =>
        simp only
        have hb := bind_fn 10 st (.mk 4 0 [] [.mk k1 n1 l1 m1, tr])
        generalize bindG 10 st (.mk 4 0 [] [.mk k1 n1 l1 m1, tr]) = bt at *
        obtain ⟨k2, n2, l2, m2⟩ := tr
        obtain ⟨k3, n3, l3, m3⟩ := bt
        conv => whnf
        refine pubC (fun i => Nat.beq i 3) ?_
        conv => whnf
        refine callF (node_fn 4 [.mk k1 n1 l1 m1, .mk k2 n2 l2 m2]) gf82 rfl rfl ?_
        conv => whnf
        refine callF hb gf52 rfl rfl ?_
        conv => whnf
        try exact rfl
theorem funD_out (nm : ByteArray) (st : List Int) (a : StrT) (rst : List Int) (r : StrT) (x : TG ⊕ Int) (h : FnQ Tryz.prog G0 134 [.agg (encFn st a rst r)] (fun o => o = outO x)) : FnQ Tryz.prog G0 133 [.ptr (encFun0 (.mk nm st a rst r)) 0] (fun o => o = outO x) := by
  obtain ⟨a1, a2, a3, a4, a5⟩ := a
  obtain ⟨r1, r2, r3, r4, r5⟩ := r
  simp only [encFn, encAbs, encFun0, encStr, List.cons_append, List.nil_append] at h ⊢
  refine fnQ_of_vc txok mixed [] Tryz.func133 rfl rfl (by simp) fun b => ?_
  conv => whnf
  refine callQ rfl rfl gf134 h ?_
  rintro o rfl
  cases x with
  | inr e => exact rfl
  | inl t =>
    obtain ⟨k1, n1, l1, m1⟩ := t
    conv => whnf
    try exact rfl
end Go.Proofs.YtmjjajhkokdikaaGreat

/- The law TransTypes, walked. -/
set_option linter.unusedSimpArgs false
set_option linter.unusedVariables false
namespace Go.Proofs.YtmjjajhkokdikaaGreat
open Go.Vx Go.Vc Go.RowKit

theorem bindG_sz (k : Int) (t : TG) : ∀ l : List Int, szG (bindG k l t) = l.length + szG t
  | [] => by simp [bindG]
  | n :: r => by
    have h := bindG_sz k t r
    unfold bindG at h ⊢
    simp only [List.foldr_cons, szG, szGs, h, List.length_cons]; omega
theorem schE_sz (s : Sc) : szG (valE (schE s)) ≤ 2 * szT s.t + 1 := by
  unfold schE
  split
  · rename_i h
    have hr : rightS s = true := by unfold okS at h; simp only [Bool.and_eq_true] at h; exact h.1.1
    unfold rightS at hr
    simp only [Bool.and_eq_true, decide_eq_true_eq] at hr
    have h8 := fnd_sz 8 s.t []
    simp only [List.length_nil] at h8
    have ht := turn_sz (topI (fnd 6 s.t []) 0) s.t
    simp only [valE, schG, bindG_sz, upI_len]
    omega
  · simp [valE, szG, szGs]
theorem typE_sz (t : Tp) : szG (valE (typE t)) ≤ szT t + 1 := by
  unfold typE
  split
  · have := turn_sz 0 t
    simp only [valE]; omega
  · simp [valE, szG, szGs]
theorem types_law_fn (t : Tp) (s : Sc) (hz : szT t + szT s.t ≤ 1048576) : FnR Tryz.prog G0 3 [dT t, dS s] (.bool true) := by
  have h1 := type_fn t (szT_of (by omega))
  have h2 := rtypE_fn t (by omega)
  have h3 := schemeF_fn s (by omega)
  have h4 := rscheme_fn s (by omega)
  rw [resE_eq] at h1 h2 h3 h4
  have s1 := lsame_fn (valE (typE t)) (errE (typE t)) (by have := typE_sz t; omega)
  have s2 := lsame_fn (valE (schE s)) (errE (schE s)) (by have := schE_sz s; omega)
  have hal := alive_fn
  generalize errE (typE t) = e1 at *
  generalize valE (typE t) = v1 at *
  generalize errE (schE s) = e2 at *
  generalize valE (schE s) = v2 at *
  obtain ⟨k1, n1, l1, m1⟩ := v1
  obtain ⟨k2, n2, l2, m2⟩ := v2
  obtain ⟨tk, tn, tks⟩ := t
  obtain ⟨g, ⟨k, n, ks⟩⟩ := s
  refine fnQ_of_vc txok mixed [] Tryz.func3 rfl rfl (by simp) fun b => ?_
  conv => whnf
  refine callF h1 gf9 rfl rfl ?_
  conv => whnf
  refine callF h2 gf10 rfl rfl ?_
  conv => whnf
  refine callF h3 gf11 rfl rfl ?_
  conv => whnf
  refine callF h4 gf12 rfl rfl ?_
  conv => whnf
  refine callF s1 gf13 rfl rfl ?_
  repeat' ((conv => whnf); first
    | exact rfl
    | (refine And.intro (fun h => ?_) (fun h => ?_) <;> first | exact Bool.noConfusion h | skip)
    | refine callF s2 gf13 rfl rfl ?_
    | refine callF hal gf14 rfl rfl ?_)
  all_goals (conv => whnf)
  all_goals exact rfl
end Go.Proofs.YtmjjajhkokdikaaGreat

/- The reference's Rep, Con; the law TransData, walked. -/
set_option linter.unusedSimpArgs false
set_option linter.unusedVariables false
namespace Go.Proofs.YtmjjajhkokdikaaGreat
open Go.Vx Go.Vc Go.RowKit

theorem sumE_err (l : List CT) : errE (sumE l) = 0 ∨ errE (sumE l) = 1 := by
  unfold sumE
  cases sumV l <;> simp [errE]
theorem repE_bad (n : Int) (l : List CT) (h : errE (sumE l) ≠ 0 ∨ stOk n = false) : resE (repE n l) = .tup [dG (.mk 0 0 [] []), .int .i64 1] := by
  unfold repE
  by_cases hs : stOk n = true
  · rw [if_pos hs]
    have h0 := sumE_err l
    cases hx : sumE l with
    | inl t => simp [hx, errE, hs] at h
    | inr e =>
      simp [hx, errE, hs] at h h0
      have : e = 1 := by omega
      subst this
      rfl
  · rw [if_neg hs]; rfl
theorem repE_good (n : Int) (l : List CT) (h : errE (sumE l) = 0) (hs : stOk n = true) (hne : ∀ e, sumE l = .inr e → e ≠ 0) : resE (repE n l) = .tup [dG (.mk 9 n [] [valE (sumE l)]), .int .i64 0] := by
  unfold repE
  rw [if_pos hs]
  cases hx : sumE l with
  | inl t => rfl
  | inr e => exact absurd (by simpa [hx, errE] using h) (hne e hx)
theorem sumE_ne (l : List CT) : ∀ e, sumE l = .inr e → e ≠ 0 := by
  intro e h
  unfold sumE at h
  cases hx : sumV l <;> simp [hx] at h
  omega
theorem stOk_iff (n : Int) : stOk n = true ↔ 0 ≤ n ∧ n ≤ 2147483647 := by simp [stOk]
theorem rrep_fn (n : Int) (l : List CT) (hz : szC l < 1099511627776) : FnR Tryz.prog G0 18 [.int .i64 n, dCTs l] (resE (repE n l)) := by
  have h := rsum_fn l hz
  rw [resE_eq] at h
  have hbad := repE_bad n l
  have hgood := repE_good n l
  have hne := sumE_ne l
  have hso := stOk_iff n
  generalize repE n l = x at *
  generalize resE x = y at *
  generalize errE (sumE l) = e at *
  generalize valE (sumE l) = v at *
  obtain ⟨k1, n1, l1, m1⟩ := v
  refine fnQ_of_vc txok mixed [] Tryz.func18 rfl rfl (by simp) fun b => ?_
  conv => whnf
  refine callF h gf16 rfl rfl ?_
  repeat' ((conv => whnf); refine And.intro (fun hb => ?_) (fun hb => ?_))
  all_goals (conv => whnf)
  all_goals first
    | (rw [hgood (by simp_all) (by rw [hso]; simp_all) hne]; exact rfl)
    | (rw [hbad (by rw [← Bool.not_eq_true, hso]; simp_all; try omega)]; exact rfl)
theorem coE_bad (n : Int) (c : CT) (h : conV n c = none ∨ stOk n = false) : resE (coE n c) = .tup [dG (.mk 0 0 [] []), .int .i64 1] := by
  unfold coE
  by_cases hs : stOk n = true
  · rw [if_pos hs]
    rcases h with h | h
    · rw [h]; rfl
    · rw [h] at hs; cases hs
  · rw [if_neg hs]; rfl
theorem coE_good (n : Int) (c : CT) (t : TG) (h : conV n c = some t) (hs : stOk n = true) : resE (coE n c) = .tup [dG t, .int .i64 0] := by
  unfold coE
  rw [if_pos hs, h]
  rfl
theorem rcon_fn (n : Int) (c : CT) (hz : szL c.2 < 1099511627776) : FnR Tryz.prog G0 20 [.int .i64 n, dCT c] (resE (coE n c)) := by
  obtain ⟨nm, ts⟩ := c
  have hso := stOk_iff n
  have hbad := coE_bad n (nm, ts)
  have hgood := coE_good n (nm, ts)
  match ts, hz with
  | [], _ =>
    have hgood := hgood (varG n) rfl
    generalize resE (coE n (nm, [])) = y at *
    refine fnQ_of_vc txok mixed [] Tryz.func20 rfl rfl (by simp) fun b => ?_
    conv => whnf
    repeat' ((conv => whnf); refine And.intro (fun hb => ?_) (fun hb => ?_))
    all_goals (conv => whnf)
    all_goals first
      | (exfalso; simp at *; done)
      | (rw [hgood (by rw [hso]; simp_all)]; exact rfl)
      | (rw [hbad (.inr (by rw [← Bool.not_eq_true, hso]; intro hq; simp at hb; omega))]; exact rfl)
  | [t], hz =>
    have hty := rtypE_fn t (by simp only [szL] at hz; omega)
    rw [resE_eq, typE_err] at hty
    by_cases ho : okT t = true
    · have hgood := hgood (.mk 4 0 [] [turnG 0 t, varG n]) (by simp only [conV, if_pos ho])
      rw [typE_val ho, if_pos ho] at hty
      generalize resE (coE n (nm, [t])) = y at *
      generalize turnG 0 t = a at *
      obtain ⟨k1, n1, l1, m1⟩ := a
      refine fnQ_of_vc txok mixed [] Tryz.func20 rfl rfl (by simp) fun b => ?_
      conv => whnf
      repeat' ((conv => whnf); first
        | (refine And.intro (fun hb => ?_) (fun hb => ?_) <;> first | (exfalso; simp at hb; done) | skip)
        | refine IdxC.encK (l := [t]) 0 (by show 0 < 1; decide) rfl ?_
        | refine callF hty gf10 rfl rfl ?_)
      all_goals try (conv => whnf)
      all_goals first
        | (rw [hgood (by rw [hso]; simp_all)]; exact rfl)
        | (rw [hbad (.inr (by rw [← Bool.not_eq_true, hso]; intro hq; simp at hb; omega))]; exact rfl)
    · have hbad := hbad (.inl (by simp only [conV, if_neg ho]))
      rw [if_neg ho] at hty
      rw [hbad]
      generalize valE (typE t) = a at *
      obtain ⟨k1, n1, l1, m1⟩ := a
      refine fnQ_of_vc txok mixed [] Tryz.func20 rfl rfl (by simp) fun b => ?_
      conv => whnf
      repeat' ((conv => whnf); first
        | (refine And.intro (fun hb => ?_) (fun hb => ?_) <;> first | (exfalso; simp at hb; done) | skip)
        | refine IdxC.encK (l := [t]) 0 (by show 0 < 1; decide) rfl ?_
        | refine callF hty gf10 rfl rfl ?_)
      all_goals try (conv => whnf)
      all_goals exact rfl
  | t :: u :: r, _ =>
    have hbad := hbad (.inl rfl)
    rw [hbad]
    refine fnQ_of_vc txok mixed [] Tryz.func20 rfl rfl (by simp) fun b => ?_
    conv => whnf
    repeat' ((conv => whnf); refine And.intro (fun hb => ?_) (fun hb => ?_))
    all_goals (conv => whnf)
    all_goals first
      | exact rfl
      | (exfalso; simp_all; omega)
end Go.Proofs.YtmjjajhkokdikaaGreat

/- The law TransData, walked. -/
set_option linter.unusedSimpArgs false
set_option linter.unusedVariables false
namespace Go.Proofs.YtmjjajhkokdikaaGreat
open Go.Vx Go.Vc Go.RowKit

theorem szG_nil : szG (.mk 0 0 [] []) = 1 := rfl
theorem argV_sz {c : CT} {a : TG} (h : argV c = some a) : szG a ≤ szL c.2 + 1 := by
  obtain ⟨nm, ts⟩ := c
  match ts with
  | [] => simp only [argV, Option.some.injEq] at h; subst h; simp [szG, szGs]
  | [t] =>
    simp only [argV] at h
    split at h
    · simp only [Option.some.injEq] at h; subst h
      have := turn_sz 0 t
      simp only [szL]; omega
    · cases h
  | _ :: _ :: _ => simp [argV] at h
theorem sumV_sz : ∀ (l : List CT) (ts : List TG), sumV l = some ts → szGs ts ≤ szC l
  | [], ts, h => by simp only [sumV, Option.some.injEq] at h; subst h; simp [szGs]
  | c :: r, ts, h => by
    rw [sumV] at h
    cases ha : argV c with
    | none => rw [ha] at h; cases h
    | some a =>
      rw [ha] at h
      simp only [Option.map_eq_some_iff] at h
      obtain ⟨ts', h1, rfl⟩ := h
      have h2 := sumV_sz r ts' h1
      have h3 := argV_sz ha
      simp only [szGs, szC]; omega
theorem sumE_sz (l : List CT) : szG (valE (sumE l)) ≤ szC l + 1 := by
  unfold sumE
  cases hx : sumV l with
  | none => simp [valE, szG, szGs]
  | some ts => have := sumV_sz l ts hx; simp only [valE, szG]; omega
theorem repE_sz (n : Int) (l : List CT) : szG (valE (repE n l)) ≤ szC l + 2 := by
  have h := sumE_sz l
  unfold repE
  split
  · cases hx : sumE l with
    | inl t => rw [hx] at h; simp only [valE, szG, szGs] at h ⊢; omega
    | inr e => simp [valE, szG, szGs]
  · simp [valE, szG, szGs]
theorem coE_sz (n : Int) (c : CT) : szG (valE (coE n c)) ≤ szL c.2 + 2 := by
  unfold coE
  split
  · obtain ⟨nm, ts⟩ := c
    match ts with
    | [] => simp [conV, valE, szG, szGs, varG]
    | [t] =>
      by_cases ho : okT t = true
      · have := turn_sz 0 t
        simp only [conV, if_pos ho, valE, szG, szGs, varG, szL]; omega
      · simp [conV, if_neg ho, valE, szG, szGs]
    | _ :: _ :: _ => simp [conV, valE, szG, szGs]
  · simp [valE, szG, szGs]
theorem data_law_fn (n : Int) (l : List CT) (hz : szC l ≤ 1048576) : FnR Tryz.prog G0 4 [.int .i64 n, dCTs l] (.bool true) := by
  have hlen := szC_len l
  have hsc : SzC l := ⟨by omega, fun c hc t ht => szT_of (by have := szC_mem hc; have := szT_mem ht; omega)⟩
  have h1 := sumF_fn l hsc
  have h2 := rsum_fn l (by omega)
  have h3 := repF_fn n l hsc
  have h4 := rrep_fn n l (by omega)
  rw [resE_eq] at h1 h2 h3 h4
  have s1 := lsame_fn (valE (sumE l)) (errE (sumE l)) (by have := sumE_sz l; omega)
  have s2 := lsame_fn (valE (repE n l)) (errE (repE n l)) (by have := repE_sz n l; omega)
  have hal := alive_fn
  have hc1 : ∀ i (hi : i < l.length), FnR Tryz.prog G0 19 [.int .i64 n, dCT l[i]] (.tup [dG (valE (coE n l[i])), .int .i64 (errE (coE n l[i]))]) := fun i hi => by
    have := conF_fn n l[i] (hsc.2 _ (List.getElem_mem hi))
    rwa [resE_eq] at this
  have hc2 : ∀ i (hi : i < l.length), FnR Tryz.prog G0 20 [.int .i64 n, dCT l[i]] (.tup [dG (valE (coE n l[i])), .int .i64 (errE (coE n l[i]))]) := fun i hi => by
    have := rcon_fn n l[i] (by have := szC_mem (List.getElem_mem hi); omega)
    rwa [resE_eq] at this
  have hc3 : ∀ i (hi : i < l.length), FnR Tryz.prog G0 13 [dG (valE (coE n l[i])), .int .i64 (errE (coE n l[i])), dG (valE (coE n l[i])), .int .i64 (errE (coE n l[i]))] (.bool true) := fun i hi =>
    lsame_fn _ _ (by have := coE_sz n l[i]; have := szC_mem (List.getElem_mem hi); omega)
  generalize errE (sumE l) = e1 at *
  generalize valE (sumE l) = v1 at *
  generalize errE (repE n l) = e2 at *
  generalize valE (repE n l) = v2 at *
  obtain ⟨k1, n1, l1, m1⟩ := v1
  obtain ⟨k2, n2, l2, m2⟩ := v2
  refine fnQ_of_vc txok mixed [] Tryz.func4 rfl rfl (by simp) fun b => ?_
  conv => whnf
  refine callF h1 gf15 rfl rfl ?_
  conv => whnf
  refine callF h2 gf16 rfl rfl ?_
  conv => whnf
  refine callF h3 gf17 rfl rfl ?_
  conv => whnf
  refine callF h4 gf18 rfl rfl ?_
  conv => whnf
  refine callF s1 gf13 rfl rfl ?_
  conv => whnf
  refine And.intro (fun _ => ?_) (fun h => by cases h)
  conv => whnf
  refine callF s2 gf13 rfl rfl ?_
  conv => whnf
  refine And.intro (fun h => by cases h) (fun _ => ?_)
  conv => whnf
  refine loopH (fun i : Nat => i ≤ l.length) (fun i => l.length - i) (fun i => [(13, .d (.int .i64 i))]) (fun _ => []) 4 0 (by omega) (weak_of rfl (by repeat ((conv => whnf); first | exact trivial | refine And.intro rfl ?_ | refine And.intro (incD (by omega)) ?_)) (by repeat ((conv => whnf); first | exact trivial | refine And.intro rfl ?_ | refine And.intro (incD (by omega)) ?_))) ?_
  intro i hi
  conv => whnf
  refine And.intro (fun hb => ?_) (fun hb => ?_)
  · have hil : i < l.length := by have := of_decide_eq_true hb; omega
    have hd1 := hc1 i hil
    have hd2 := hc2 i hil
    have hd3 := hc3 i hil
    generalize errE (coE n l[i]) = e3 at *
    generalize valE (coE n l[i]) = v3 at *
    obtain ⟨k3, n3, l3, m3⟩ := v3
    conv => whnf
    refine IdxC.fl encCT_len i hil rfl ?_
    conv => whnf
    refine callF hd1 gf19 rfl rfl ?_
    conv => whnf
    refine IdxC.fl encCT_len i hil rfl ?_
    conv => whnf
    refine callF hd2 gf20 rfl rfl ?_
    conv => whnf
    refine callF hd3 gf13 rfl rfl ?_
    conv => whnf
    refine And.intro (fun h => by cases h) (fun _ => ?_)
    conv => whnf
    rw [incD (by omega)]
    exact again (i + 1) (by omega) (by omega) (weak_of rfl (by repeat ((conv => whnf); first | exact trivial | refine And.intro rfl ?_ | refine And.intro (incD (by omega)) ?_)) (by repeat ((conv => whnf); first | exact trivial | refine And.intro rfl ?_ | refine And.intro (incD (by omega)) ?_)))
  · conv => whnf
    refine callF hal gf14 rfl rfl ?_
    conv => whnf
    try exact rfl
end Go.Proofs.YtmjjajhkokdikaaGreat

