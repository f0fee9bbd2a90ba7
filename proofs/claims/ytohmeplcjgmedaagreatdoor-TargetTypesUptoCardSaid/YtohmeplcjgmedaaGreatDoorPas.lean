/- Texts of mine, joined: Yd Ye Yf Yg Yh Yi Yj Yk Yl Ym Yn Yo. -/
import Derived.Test.YtohmeplcjgmedaaGreatDoorPar
import Derived.Shelf.Strconv.Itoa4
import Derived.Test.YtohmeplcjgmedaaGreatDoorPaf
import Derived.Test.YtohmeplcjgmedaaGreatDoorPan
import Derived.Test.YtohmeplcjgmedaaGreatDoorPak
/- Numbers in decimal digits: the shelf's law, laid at this program (printed by a program of mine out of Lean's print of the kit's laying); contracts under a condition on the world. -/
set_option linter.unusedSimpArgs false
set_option linter.unusedVariables false
namespace Go.Proofs.YtohmeplcjgmedaaGreatDoor
open Go.Vx Go.Vc Go.RowKit Go.Shelf

def lays246_ren : Ren :=
  { f := fun x => match x with | 246 => 99 | 283 => 114 | 284 => 115 | 285 => 116 | 286 => 117 | 129 => 89 | 317 => 124 | 318 => 125 | 319 => 126 | 320 => 127 | 337 => 131 | 338 => 132 | n => n,
    t := fun x => match x with | 2 => 2 | 3 => 3 | 9 => 9 | 4 => 4 | 171 => 139 | 0 => 0 | 53 => 114 | 37 => 55 | 5 => 5 | 173 => 141 | 212 => 153 | 51 => 112 | 20 => 20 | 213 => 154 | 46 => 79 | 232 => 161 | 233 => 162 | n => n,
    g := fun x => match x with | 17 => 0 | 18 => 1 | 19 => 2 | n => n }
theorem lays246 : LaysM.n246 Tryz.prog lays246_ren :=
  { mixed := rfl,
    f129 := Tryz.func89.trans (congrArg some rfl),
    f246 := Tryz.func99.trans (congrArg some rfl),
    f283 := Tryz.func114.trans (congrArg some rfl),
    f284 := Tryz.func115.trans (congrArg some rfl),
    f285 := Tryz.func116.trans (congrArg some rfl),
    f286 := Tryz.func117.trans (congrArg some rfl),
    f317 := Tryz.func124.trans (congrArg some rfl),
    f318 := Tryz.func125.trans (congrArg some rfl),
    f319 := Tryz.func126.trans (congrArg some rfl),
    f320 := Tryz.func127.trans (congrArg some rfl),
    f337 := Tryz.func131.trans (congrArg some rfl),
    f338 := Tryz.func132.trans (congrArg some rfl),
    t0 := Tryz.underlying0,
    a0 := Tryz.isAgg0,
    z0 := Tryz.sizeOf0,
    v0 := Tryz.zeroValue0,
    t2 := Tryz.underlying2,
    a2 := Tryz.isAgg2,
    z2 := Tryz.sizeOf2,
    v2 := Tryz.zeroValue2,
    t3 := Tryz.underlying3,
    a3 := Tryz.isAgg3,
    z3 := Tryz.sizeOf3,
    v3 := Tryz.zeroValue3,
    t4 := Tryz.underlying4,
    a4 := Tryz.isAgg4,
    z4 := Tryz.sizeOf4,
    v4 := Tryz.zeroValue4,
    t5 := Tryz.underlying5,
    a5 := Tryz.isAgg5,
    z5 := Tryz.sizeOf5,
    v5 := Tryz.zeroValue5,
    t9 := Tryz.underlying9,
    a9 := Tryz.isAgg9,
    z9 := Tryz.sizeOf9,
    v9 := Tryz.zeroValue9,
    t20 := Tryz.underlying20,
    a20 := Tryz.isAgg20,
    z20 := Tryz.sizeOf20,
    v20 := Tryz.zeroValue20,
    t37 := Tryz.underlying55,
    a37 := Tryz.isAgg55,
    z37 := Tryz.sizeOf55,
    v37 := Tryz.zeroValue55,
    t46 := Tryz.underlying79,
    a46 := Tryz.isAgg79,
    z46 := Tryz.sizeOf79,
    v46 := Tryz.zeroValue79,
    t51 := Tryz.underlying112,
    a51 := Tryz.isAgg112,
    z51 := Tryz.sizeOf112,
    v51 := Tryz.zeroValue112,
    t53 := Tryz.underlying114,
    a53 := Tryz.isAgg114,
    z53 := Tryz.sizeOf114,
    v53 := Tryz.zeroValue114,
    t171 := Tryz.underlying139,
    a171 := Tryz.isAgg139,
    z171 := Tryz.sizeOf139,
    v171 := Tryz.zeroValue139,
    t173 := Tryz.underlying141,
    a173 := Tryz.isAgg141,
    z173 := Tryz.sizeOf141,
    v173 := Tryz.zeroValue141,
    t212 := Tryz.underlying153,
    a212 := Tryz.isAgg153,
    z212 := Tryz.sizeOf153,
    v212 := Tryz.zeroValue153,
    t213 := Tryz.underlying154,
    a213 := Tryz.isAgg154,
    z213 := Tryz.sizeOf154,
    t232 := Tryz.underlying161,
    a232 := Tryz.isAgg161,
    z232 := Tryz.sizeOf161,
    v232 := Tryz.zeroValue161,
    t233 := Tryz.underlying162,
    a233 := Tryz.isAgg162,
    z233 := Tryz.sizeOf162,
    v233 := Tryz.zeroValue162,
    g17 := by kernel_rfl,
    g18 := by kernel_rfl,
    g19 := by kernel_rfl,
    i0 := by kernel_rfl,
    i2 := by kernel_rfl,
    i3 := by kernel_rfl,
    i4 := by kernel_rfl,
    i5 := by kernel_rfl,
    i9 := by kernel_rfl,
    i20 := by kernel_rfl,
    i37 := by kernel_rfl,
    i46 := by kernel_rfl,
    i51 := by kernel_rfl,
    i53 := by kernel_rfl,
    i171 := by kernel_rfl,
    i173 := by kernel_rfl,
    i212 := by kernel_rfl,
    i232 := by kernel_rfl,
    i233 := by kernel_rfl,
    m17 := by kernel_rfl,
    m18 := by kernel_rfl,
    m19 := by kernel_rfl }
abbrev PowTab (w : World) : Prop := Go.Lib.TabIs Tryz.prog w "internal/strconv.uint64pow10" .u64 Go.Lib.pow10Tab
theorem pow0 : Tryz.prog.globalNamed "internal/strconv.uint64pow10" = some 0 := by kernel_rfl
theorem PowTab.to {w w' : World} (h : PowTab w) (hs : 0 < w.heap.size → w'.heap[0]? = w.heap[0]?) : PowTab w' := by
  unfold PowTab Go.Lib.TabIs World.var? at *
  rw [pow0] at *
  simp only [Option.bind_some] at *
  have hlt : 0 < w.heap.size := by
    rcases Nat.eq_zero_or_pos w.heap.size with h0 | h0
    · rw [Array.getElem?_eq_none (by omega)] at h; cases h
    · exact h0
  rw [hs hlt]; exact h
def GT : Glob := ⟨fun S w => S 0 ∧ PowTab w, fun ⟨h0, h⟩ hs hS _ => ⟨hS 0 h0, h.to fun hl => hs 0 h0 hl⟩, fun _ _ => True, fun _ _ => trivial, fun _ => trivial⟩
theorem FnR_up {f : FuncId} {ds : List D} {r : D} (h : FnR Tryz.prog G0 f ds r) : FnR Tryz.prog GT f ds r := fun S w vs h1 h2 _ => (h S w vs h1 h2 trivial).mono fun _ _ ⟨o, S', a, b, ⟨c, _⟩, d⟩ => ⟨o, S', a, b, ⟨c, trivial⟩, d⟩
def itA (n : Int) : ByteArray := ⟨(Go.Lib.itoa n).toArray⟩
theorem below_grow (w : World) (k : Nat) (os : Array Obj) : Below w.heap.size w (Go.Sort.grow (w.drewN k) os) :=
  ⟨rfl, rfl, rfl, by simp only [Go.Sort.grow, World.drewN, Array.size_append]; omega, fun j hj => by simp only [Go.Sort.grow, World.drewN]; exact Array.getElem?_append_left hj⟩
theorem formatIntT_fn (n : Int) (h0 : -9223372036854775808 ≤ n) (h1 : n ≤ 9223372036854775807) : FnR Tryz.prog GT 99 [.int .i64 n, .int .i64 10] (.str (itA n)) := by
  intro S w vs hds hS hG
  simp only [RepDs, RepD] at hds
  obtain ⟨_, _, rfl, rfl, _, _, rfl, rfl, rfl⟩ := hds
  refine (Any.internal_strconv_FormatInt_10 lays246 n h0 h1 w hG.2).mono ?_
  rintro en w' ⟨rfl, k, os, rfl⟩
  have bel := below_grow w k os
  refine ⟨.ret (.str (itA n)), S, rfl, ⟨_, rfl, by simp only [RepD]; rfl⟩, ⟨bel, trivial⟩, fun _ h => h, fun _ h => .inl h, fun k hk => Nat.lt_of_lt_of_le (hS k hk) bel.size⟩
theorem itoa1T_fn (n : Int) (h0 : -9223372036854775808 ≤ n) (h1 : n ≤ 9223372036854775807) : FnR Tryz.prog GT 91 [.int .i64 n] (.str (itA n)) := by
  refine fnQ_of_vc txok mixed [] Tryz.func91 rfl rfl (by simp) fun b => ?_
  conv => whnf
  exact callF (formatIntT_fn n h0 h1) gf99 rfl rfl rfl
theorem itoaT_fn (n : Int) (h0 : -9223372036854775808 ≤ n) (h1 : n ≤ 9223372036854775807) : FnR Tryz.prog GT 60 [.int .i64 n] (.str (itA n)) := by
  refine fnQ_of_vc txok mixed [] Tryz.func60 rfl rfl (by simp) fun b => ?_
  conv => whnf
  exact callF (itoa1T_fn n h0 h1) gf91 rfl rfl rfl
/-- A contract under no condition, under any that asks nothing of how worlds go on. -/
theorem Tri_up {f : FuncId} {n q : Nat} {args : List Go.Vx.SV} {H : Hp} {Q : Go.Vx.Out → Hp → Prop} (h : Tri Tryz.prog G0 f n q args H Q) : Tri Tryz.prog GT f n q args H Q := by
  intro e w vs hlen hargs hH hG
  refine (h e w vs hlen hargs hH trivial).mono ?_
  rintro en w' ⟨o, H', e', h1, h2, h3⟩
  exact ⟨o, H', e', h1, h2, h3.hp, h3.len, h3.only, trivial, h3.m, h3.up, h3.frm, h3.dom, h3.ft⟩
end Go.Proofs.YtohmeplcjgmedaaGreatDoor

/- Text: numbers; in parentheses. -/
set_option linter.unusedSimpArgs false
set_option linter.unusedVariables false
namespace Go.Proofs.YtohmeplcjgmedaaGreatDoor
open Go.Vx Go.Vc Go.RowKit Go.Lib

abbrev told (l : List UInt8) : Go.Vx.Out → Hp → Prop := fun o H' => o = .ret (.tup []) ∧ H' = tel true l
theorem itA_toList (n : Int) : (itA n).data.toList = itoa n := by simp [itA]
theorem itA_size (n : Int) : (itA n).size = (itoa n).length := by simp [itA, ByteArray.size]
theorem numS (x : UInt8) (n : Int) : ((⟨#[x]⟩ : ByteArray) ++ itA n).data.toList = x :: itoa n := by simp [itA]
theorem numS_size (x : UInt8) (n : Int) : ((⟨#[x]⟩ : ByteArray) ++ itA n).size = (itoa n).length + 1 := by
  show ((⟨#[x]⟩ : ByteArray) ++ itA n).data.size = _
  rw [← Array.length_toList, numS]; rfl
theorem numberT_tri (c : Bool) (l : List UInt8) (s : List Int) (n : Int) (hl : l.length < 1099511627000) (hs : s.length < 1099511627776) (hn : -9223372036854775808 ≤ n ∧ n ≤ 9223372036854775807) : Tri Tryz.prog GT 57 2 0 [.own 0 0, .d (dI s), .d (.int .i64 n)] (tel c l) (told (l ++ numA s n)) := by
  have hlt := lastI_lt s n
  refine tri_of_vc txok mixed [] [(2, .pure 0 (.pure 1 (.pure 2 (.pure 3 (.fin 4 (.pure 5 (.fin 6 .done))))))), (3, .pure 0 (.pure 1 (.pure 2 (.pure 3 (.fin 4 (.pure 5 (.fin 6 .done)))))))] Tryz.func57 rfl rfl (by simp) fun b => ?_
  cases c
  all_goals
    conv => whnf
    refine callF (FnR_up (last_fn s n)) gf47 rfl rfl ?_
    conv => whnf
    refine And.intro (fun h => ?_) (fun h => ?_)
    · have h := of_decide_eq_true h
      have h20 := itoa_len20 (n := lastI s n) ⟨by omega, by omega⟩
      have hsz := numS_size 116 (lastI s n)
      rw [numA, if_pos h]
      conv => whnf
      refine And.intro (by kernel_rfl) ?_
      conv => whnf
      refine callF (itoaT_fn _ (by omega) (by omega)) gf60 rfl rfl ?_
      conv => whnf
      refine And.intro (by have := itA_size (lastI s n); show 1 + (itA (lastI s n)).size ≤ 9223372036854775807; omega) ?_
      conv => whnf
      first
        | refine callT [0, 1] (Tri_up (wStr_tri false l (⟨#[116]⟩ ++ itA (lastI s n)) (by omega) (by omega))) gf56 rfl rfl ⟨rfl, rfl, trivial⟩ rfl ?_
        | refine callT [0, 1] (Tri_up (wStr_tri true l (⟨#[116]⟩ ++ itA (lastI s n)) (by omega) (by omega))) gf56 rfl rfl ⟨rfl, rfl, trivial⟩ rfl ?_
      rintro o' H' ⟨rfl, rfl⟩
      rw [numS]
      conv => whnf
      exact ⟨rfl, rfl⟩
    · have h := of_decide_eq_false h
      have h20 := itoa_len20 (n := n) ⟨by omega, by omega⟩
      have hsz := numS_size 35 n
      rw [numA, if_neg h]
      conv => whnf
      refine And.intro (by kernel_rfl) ?_
      conv => whnf
      refine callF (itoaT_fn _ (by omega) (by omega)) gf60 rfl rfl ?_
      conv => whnf
      refine And.intro (by have := itA_size n; show 1 + (itA n).size ≤ 9223372036854775807; omega) ?_
      conv => whnf
      first
        | refine callT [0, 1] (Tri_up (wStr_tri false l (⟨#[35]⟩ ++ itA n) (by omega) (by omega))) gf56 rfl rfl ⟨rfl, rfl, trivial⟩ rfl ?_
        | refine callT [0, 1] (Tri_up (wStr_tri true l (⟨#[35]⟩ ++ itA n) (by omega) (by omega))) gf56 rfl rfl ⟨rfl, rfl, trivial⟩ rfl ?_
      rintro o' H' ⟨rfl, rfl⟩
      rw [numS]
      conv => whnf
      exact ⟨rfl, rfl⟩
/-- What is asked of typ at a type. -/
def TypOk (t : TG) : Prop := ∀ (s : List Int) (c : Bool) (l : List UInt8), s.length + szB t < 1099511627776 → l.length + 100 * szB t < 1099511626000 → Tri Tryz.prog GT 29 2 0 [.own 0 0, .d (dG t), .d (dI s)] (tel c l) (told (l ++ txG t s))
def InOk (t : TG) : Prop := ∀ (s : List Int) (c : Bool) (l : List UInt8), s.length + szB t < 1099511627776 → l.length + 100 * szB t < 1099511625950 → Tri Tryz.prog GT 58 2 0 [.own 0 0, .d (dG t), .d (dI s)] (tel c l) (told (l ++ parW (t.k, txG t s)))
theorem in_small (t : TG) (ht : TypOk t) (hw : (t.k == 4 || bndG t.k) = false) (s : List Int) (c : Bool) (l : List UInt8) (h1 : s.length + szB t < 1099511627776) (h2 : l.length + 100 * szB t < 1099511625950) : Tri Tryz.prog GT 58 2 0 [.own 0 0, .d (dG t), .d (dI s)] (tel c l) (told (l ++ parW (t.k, txG t s))) := by
  have hp : parW (t.k, txG t s) = txG t s := by unfold parW; rw [if_neg (by simp only; rw [hw]; decide)]
  rw [hp]
  rw [Bool.or_eq_false_iff] at hw
  have hb := FnR_up (binder_fn t)
  rw [hw.2] at hb
  have hT := ht s
  generalize txG t s = tx at *
  obtain ⟨k, n, ls, ks⟩ := t
  simp only [g_k] at hw
  refine tri_of_vc txok mixed [] [] Tryz.func58 rfl rfl (by simp) fun b => ?_
  cases c
  all_goals
    conv => whnf
    simp only [g_k, g_n, g_ls, g_kids]
    rw [hw.1]
    refine And.intro (fun h => ?_) (fun h => Bool.noConfusion h)
    conv => whnf
    refine callF hb gf48 rfl rfl ?_
    conv => whnf
    refine And.intro (fun h => Bool.noConfusion h) (fun h => ?_)
    conv => whnf
    first
      | refine callT [0, 1] (hT false l h1 (by omega)) gf29 rfl rfl ⟨rfl, rfl, trivial⟩ rfl ?_
      | refine callT [0, 1] (hT true l h1 (by omega)) gf29 rfl rfl ⟨rfl, rfl, trivial⟩ rfl ?_
    rintro o' H' ⟨rfl, rfl⟩
    conv => whnf
    exact ⟨rfl, rfl⟩
end Go.Proofs.YtohmeplcjgmedaaGreatDoor

/- Text: in parentheses, the closing one being deferred. -/
set_option linter.unusedSimpArgs false
set_option linter.unusedVariables false
namespace Go.Proofs.YtohmeplcjgmedaaGreatDoor
open Go.Vx Go.Vc Go.RowKit Go.Lib

theorem wByteD_tri (l : List UInt8) (x : UInt8) (hl : l.length < 1099511627776) : TriD Tryz.prog GT 55 2 0 [.own 0 0, .d (.int .u8 x.toNat)] (tel true l) (fun o H' => o = .ret (cD .nilIface) ∧ H' = tel true (l ++ [x])) := by
  refine triD_of_vc txok mixed [] [] Tryz.func55 rfl rfl (by simp) fun b => ?_
  conv => whnf
  refine callT [0, 1] (Tri_up (copyCheck_tri true l)) gf90 rfl rfl ⟨rfl, rfl, trivial⟩ rfl ?_
  rintro o' H' ⟨rfl, rfl⟩
  conv => whnf
  refine appR (i := 1) (sz := 1) (n := l.length) (m := 1) (xs := encB l) (ys := [.int .u8 x.toNat]) txok (fun k => Nat.beq k 2) (l ++ [x]).length (encB (l ++ [x])) (by exact rfl) (by exact rfl) (by exact rfl) (by kernel_rfl) (by exact rfl) (scalDs_mem (by exact rfl)) (by simp) (by rw [encB_app]; rfl) (by simp only [LB, List.length_append, List.length_cons, List.length_nil]; omega) ?_
  conv => whnf
  exact ⟨rfl, rfl⟩
theorem tel_plain (l : List UInt8) : plainH (tel true l) := by
  intro i o h φ
  simp only [tel, lk] at h
  repeat' (split at h)
  all_goals first | (injection h with h; subst h; nofun) | cases h
set_option maxRecDepth 100000 in
theorem in_wide (t : TG) (ht : TypOk t) (hw : (t.k == 4 || bndG t.k) = true) (s : List Int) (c : Bool) (l : List UInt8) (h1 : s.length + szB t < 1099511627776) (h2 : l.length + 100 * szB t < 1099511625950) (hlen' : (l ++ [40] ++ txG t s).length < 1099511627776) : Tri Tryz.prog GT 58 2 0 [.own 0 0, .d (dG t), .d (dI s)] (tel c l) (told (l ++ parW (t.k, txG t s))) := by
  have hp : parW (t.k, txG t s) = 40 :: (txG t s ++ [41]) := by unfold parW; rw [if_pos hw]
  rw [hp]
  have hb := FnR_up (binder_fn t)
  have hT := ht s true (l ++ [40]) h1 (by simp only [List.length_append, List.length_cons, List.length_nil]; omega)
  generalize txG t s = tx at *
  obtain ⟨k, n, ls, ks⟩ := t
  simp only [g_k] at hw hb
  intro e w vs hlen hargs hH hG
  have ok0 := tri_start (G := GT) (fn := Tryz.f58) (N := 24) (f := 0) rfl (by simp) hlen hargs hH hG
  have hm0 : ∃ g, e.m[0]? = some (.pointer (some ⟨g, 0, none⟩)) := by
    obtain ⟨g, vs', hm, _⟩ := hH.ob 0 _ rfl
    exact ⟨g, hm⟩
  obtain ⟨g, hm0⟩ := hm0
  refine calls_of_wp_defers Tryz.func58 rfl ?_
  refine wp_seq (vc_piece (plans := []) txok mixed ⟨[(0, .own 0 0), (2, .d (dI s)), (4, .own 2 0)], tel c l ++ [(2, .blk 25 [.d (.int .i64 k), .d (.int .i64 n), .d (slD 16 ls.length (encS ls)), .d (slD 64 ks.length (encGs ks))])], 3⟩ ok0 ?_ fun e1 a1 w1 ok1 => ?_)
  · cases c
    all_goals
      conv => whnf
      exact weak_of rfl (by repeat ((conv => whnf); first | exact trivial | refine And.intro rfl ?_ | refine And.intro (incD (by omega)) ?_)) (by repeat ((conv => whnf); first | exact trivial | refine And.intro rfl ?_ | refine And.intro (incD (by omega)) ?_))
  simp only [Exit.then]
  refine wp_seq (wp_seq (vc_piece (plans := []) txok mixed ⟨[(12, .d (.bool true)), (0, .own 0 0), (2, .d (dI s)), (4, .own 2 0)], tel c l ++ [(2, .blk 25 [.d (.int .i64 k), .d (.int .i64 n), .d (slD 16 ls.length (encS ls)), .d (slD 64 ks.length (encGs ks))])], 3⟩ ok1 ?_ fun e2 a2 w2 ok2 => ?_))
  · cases c
    all_goals
      conv => whnf
      refine And.intro (fun h => ?_) (fun h => ?_)
      · have hw' := hw
        rw [h, Bool.false_or] at hw'
        have hb' := hb
        rw [hw'] at hb'
        conv => whnf
        refine callF hb' gf48 rfl rfl ?_
        conv => whnf
        exact weak_of rfl (by repeat ((conv => whnf); first | exact trivial | refine And.intro rfl ?_ | refine And.intro (incD (by omega)) ?_)) (by repeat ((conv => whnf); first | exact trivial | refine And.intro rfl ?_ | refine And.intro (incD (by omega)) ?_))
      · rw [h]
        conv => whnf
        refine (weak_kbT 12 true rfl).trans (weak_of rfl (by repeat ((conv => whnf); first | exact trivial | refine And.intro rfl ?_ | refine And.intro (incD (by omega)) ?_)) (by repeat ((conv => whnf); first | exact trivial | refine And.intro rfl ?_ | refine And.intro (incD (by omega)) ?_)))
  simp only [Exit.then]
  have t12 := ok2.tm 12 _ rfl
  simp only [RepSV, RepD] at t12
  refine wp_cond_true (by simpa [Act.eval] using t12) ?_
  refine wp_seq (vc_piece (plans := []) txok mixed ⟨[(0, .own 0 0), (2, .d (dI s)), (4, .own 2 0)], tel true (l ++ [40]) ++ [(2, .blk 25 [.d (.int .i64 k), .d (.int .i64 n), .d (slD 16 ls.length (encS ls)), .d (slD 64 ks.length (encGs ks))])], 3⟩ ok2 ?_ fun e3 a3 w3 ok3 => ?_)
  · cases c
    all_goals
      conv => whnf
      first
        | refine callT [0, 1] (Tri_up (wByte_tri false l 40 (by omega))) gf55 rfl rfl ⟨rfl, rfl, trivial⟩ rfl ?_
        | refine callT [0, 1] (Tri_up (wByte_tri true l 40 (by omega))) gf55 rfl rfl ⟨rfl, rfl, trivial⟩ rfl ?_
      rintro o' H' ⟨rfl, rfl⟩
      conv => whnf
      exact weak_of rfl (by repeat ((conv => whnf); first | exact trivial | refine And.intro rfl ?_ | refine And.intro (incD (by omega)) ?_)) (by repeat ((conv => whnf); first | exact trivial | refine And.intro rfl ?_ | refine And.intro (incD (by omega)) ?_))
  simp only [Exit.then]
  have hsz3 := ok3.sz
  have t0 := ok3.tm 0 _ rfl
  simp only [RepSV] at t0
  obtain ⟨g', hg', t0⟩ := t0
  have hgg : e3.m[0]? = some (.pointer (some ⟨g, 0, none⟩)) := ok3.pre.m 0 _ hm0 (fun A n c h => by cases h)
  rw [hgg] at hg'
  injection hg' with hg'
  injection hg' with hg'
  injection hg' with hg'
  injection hg' with hg'
  subst hg'
  refine wp_region_list ?_
  refine wpList_go (v := .pointer (some ⟨g, 0, none⟩)) (w' := w3) (by rfl) (by simp only [execOp, Act.eval, t0]; rfl) ?_
  have p17 : ∀ (a : Act) (d : Nat) (v : Value), d < a.tmps.size → (a.put (some d) v).eval (.tmp d) = v := fun a d v h => by simp [Act.eval, Act.put, h]
  refine wpList_go (v := .pointer (some ⟨g, 0, none⟩)) (w' := w3) (by rfl) (by simp only [execOp]; rw [p17 _ _ _ (by rw [hsz3]; decide)]; simp [go_sem]) ?_
  refine wpList_go (v := .pointer (some ⟨g, 0, none⟩)) (w' := w3) (by rfl) (by simp only [execOp]; rw [p17 _ _ _ (by simp [Act.put, hsz3])]; simp [go_sem]) ?_
  have ok4 := ((((ok3.put (d := 17) (sv := .any) (v := .pointer (some ⟨g, 0, none⟩)) (by decide) (by simp only [RepSV])).put (d := 18) (sv := .any) (v := .pointer (some ⟨g, 0, none⟩)) (by decide) (by simp only [RepSV])).put (d := 19) (sv := .any) (v := .pointer (some ⟨g, 0, none⟩)) (by decide) (by simp only [RepSV])).defers' [{ target := .fn (.func 55) #[], args := #[.pointer (some ⟨g, 0, none⟩), .int .u8 41] }])
  have e19 : (((a3.put (some 17) (.pointer (some ⟨g, 0, none⟩))).put (some 18) (.pointer (some ⟨g, 0, none⟩))).put (some 19) (.pointer (some ⟨g, 0, none⟩))).eval (.tmp 19) = .pointer (some ⟨g, 0, none⟩) := p17 _ _ _ (by simp [Act.put, hsz3])
  have df3 := ok3.df
  simp only at df3
  have dfa : (((a3.put (some 17) (.pointer (some ⟨g, 0, none⟩))).put (some 18) (.pointer (some ⟨g, 0, none⟩))).put (some 19) (.pointer (some ⟨g, 0, none⟩))).defers = [] := by simp [Act.put, df3]
  generalize ((a3.put (some 17) (.pointer (some ⟨g, 0, none⟩))).put (some 18) (.pointer (some ⟨g, 0, none⟩))).put (some 19) (.pointer (some ⟨g, 0, none⟩)) = a5 at *
  simp only [wpList]
  rw [if_pos (by rfl)]
  left
  unfold Oper.wp
  have hdef : ∀ af ps ats ty, (execOp a5.eval { dst := none, op := .defer { callee := .value (.func 55), args := #[.tmp 19, .const (.int .u8 41)], argTypes := ats }, type := ty, pos := ps, after := af, guard := none }).run Tryz.prog w3 = .ok (.defer { target := .fn (.func 55) #[], args := #[.pointer (some ⟨g, 0, none⟩), .int .u8 41] }) w3 := by
    intro af ps ats ty
    have e20 : a5.eval (.const (.int .u8 41)) = .int .u8 41 := rfl
    have e21 : a5.eval (.func 55) = .func (.func 55) #[] #[] := rfl
    simp only [execOp, resolve, List.map_toArray, List.map_cons, List.map_nil, e19, e20, e21, Deferred.ofValue, Sem.run_bind, Sem.run_pure, Result.andThen_ok]
    first | done | rfl | simp
  rw [hdef]
  simp only [Oper.upon]
  simp only [Exit.then]
  rw [dfa]
  have ep : ∀ (a : Act) (v : Value), a.put none v = a := fun a v => rfl
  rw [ep]
  refine vc_piece (plans := []) txok mixed ⟨[], tel true (l ++ [40] ++ tx), 2⟩ ok4 ?_ fun e6 a6 w6 ok6 => ?_
  · conv => whnf
    refine callT [0, 1] hT gf29 rfl rfl ⟨rfl, rfl, trivial⟩ rfl ?_
    rintro o' H' ⟨rfl, rfl⟩
    conv => whnf
    exact weak_of rfl (by repeat ((conv => whnf); first | exact trivial | refine And.intro rfl ?_ | refine And.intro (incD (by omega)) ?_)) (by repeat ((conv => whnf); first | exact trivial | refine And.intro rfl ?_ | refine And.intro (incD (by omega)) ?_))
  have df6 := ok6.df
  simp only at df6
  simp only [bodyPostD]
  rw [df6]
  refine leaves_cons (f := 55) (args := #[.pointer (some ⟨g, 0, none⟩), .int .u8 41]) (by simp) (by simp [go_sem]) ?_
  have hm6 : e6.m[0]? = some (.pointer (some ⟨g, 0, none⟩)) := ok6.pre.m 0 _ hm0 (fun A n c h => by cases h)
  refine (wByteD_tri (l ++ [40] ++ tx) 41 hlen' e6 w6 [.pointer (some ⟨g, 0, none⟩), .int .u8 41] _ ok6.len ?_ ok6.hp ok6.gl).mono ?_
  · simp only [RepSVs, RepSV, RepD]
    exact ⟨_, _, rfl, ⟨g, hm6, rfl⟩, _, _, rfl, rfl, rfl⟩
  rintro en u' w7 ⟨rfl, o, H', e7, ⟨rfl, rfl⟩, hout, hl7⟩
  obtain ⟨v7, rfl, _⟩ := hout
  have ok7 := Ok.left (st := ⟨[], tel true (l ++ [40] ++ tx), 2⟩) ok6 hl7
  have hk7 : endK _root_.Go.Proofs.YtohmeplcjgmedaaGreatDoor.tx 2 [] Tryz.f58.results.toList (told (l ++ 40 :: (tx ++ [41]))) ⟨scrubT (fun _ => true) [], tel true (l ++ [40] ++ tx ++ [41]), 2⟩ := by
    conv => whnf
    refine ⟨rfl, ?_⟩
    simp only [List.append_assoc, List.cons_append, List.nil_append]
    rfl
  obtain ⟨v, hv, hR⟩ := tri_fin (fn := Tryz.f58) (kp := []) txok hlen rfl ok7 hk7
  exact ⟨v, hv, hR⟩
end Go.Proofs.YtohmeplcjgmedaaGreatDoor

/- Text: what is no type; ints, truths, units; variables. -/
set_option linter.unusedSimpArgs false
set_option linter.unusedVariables false
namespace Go.Proofs.YtohmeplcjgmedaaGreatDoor
open Go.Vx Go.Vc Go.RowKit Go.Lib

theorem in_ok (t : TG) (hi : i64G t) (ht : TypOk t) : InOk t := by
  intro s c l h1 h2
  have hl := txG_len t hi s (by omega)
  cases hw : (t.k == 4 || bndG t.k)
  · exact in_small t ht hw s c l h1 h2
  · exact in_wide t ht hw s c l h1 h2 (by simp only [List.length_append, List.length_cons, List.length_nil]; omega)
set_option maxRecDepth 20000 in
set_option maxHeartbeats 2000000 in
theorem typBad1 (n : Int) (ls : List ByteArray) (ks : List TG) (hbad : badN 1 ls.length ks.length = true) (s : List Int) (c : Bool) (l : List UInt8) (hl : l.length < 1099511627000) : Tri Tryz.prog GT 29 2 0 [.own 0 0, .d (dG (.mk 1 n ls ks)), .d (dI s)] (tel c l) (told (l ++ [63])) := by
  have hb := FnR_up (binder_fn (.mk 1 n ls ks))
  refine tri_of_vc txok mixed [] ((100010, .done) :: [(16, .pure 0 (.pure 1 (.pure 2 (.pure 3 (.pure 4 (.take 5 (.pure 6 (.fin 7 .done)))))))), (11, .pure 0 (.pure 1 (.pure 2 (.pure 3 (.pure 4 (.take 5 (.pure 6 (.pure 7 (.pure 8 (.pure 9 (.pure 10 (.run 11 (.pure 12 (.pure 13 (.fin 14 .done))))))))))))))), (12, .pure 0 (.pure 1 (.take 2 (.pure 3 (.pure 5 (.pure 7 (.take 8 (.three 4 6 9 (.two 6 9 (.run 9 (.run 10 (.fin 11 .done))) (.run 6 (.run 10 (.fin 11 .done)))) (.two 4 9 (.run 9 (.run 10 (.fin 11 .done))) (.two 4 10 (.run 10 (.fin 11 .done)) (.run 4 (.fin 11 .done)))) (.two 4 6 (.run 6 (.run 10 (.fin 11 .done))) (.two 4 10 (.run 10 (.fin 11 .done)) (.run 4 (.fin 11 .done))))))))))))]) Tryz.func29 rfl rfl (by simp) fun b => ?_
  cases c
  all_goals
    conv => whnf
    simp only [g_k, g_n, g_ls, g_kids]
    repeat' ((conv => whnf); first
      | (refine And.intro (fun hf => ?_) (fun hf => ?_) <;> first | exact Bool.noConfusion hf | skip)
      | refine callF hb gf48 rfl rfl ?_
      | refine CutC.mk (fun _ => False) ?_ (fun _ h => h.elim)
      | refine callT [0, 1] (Tri_up (wByte_tri false l 63 (by omega))) gf55 rfl rfl ⟨rfl, rfl, trivial⟩ rfl ?_
      | refine callT [0, 1] (Tri_up (wByte_tri true l 63 (by omega))) gf55 rfl rfl ⟨rfl, rfl, trivial⟩ rfl ?_)
  all_goals try (conv => whnf)
  all_goals first
    | (rintro o' H' ⟨rfl, rfl⟩; (conv => whnf); exact ⟨rfl, rfl⟩)
    | (exfalso; clear hl hb; first | (simp [badN, kidN] at hbad; done) | (simp [badN, kidN] at hbad; simp_all; done))
set_option maxRecDepth 20000 in
set_option maxHeartbeats 2000000 in
theorem typBad2 (n : Int) (ls : List ByteArray) (ks : List TG) (hbad : badN 2 ls.length ks.length = true) (s : List Int) (c : Bool) (l : List UInt8) (hl : l.length < 1099511627000) : Tri Tryz.prog GT 29 2 0 [.own 0 0, .d (dG (.mk 2 n ls ks)), .d (dI s)] (tel c l) (told (l ++ [63])) := by
  have hb := FnR_up (binder_fn (.mk 2 n ls ks))
  refine tri_of_vc txok mixed [] ((100010, .done) :: [(16, .pure 0 (.pure 1 (.pure 2 (.pure 3 (.pure 4 (.take 5 (.pure 6 (.fin 7 .done)))))))), (11, .pure 0 (.pure 1 (.pure 2 (.pure 3 (.pure 4 (.take 5 (.pure 6 (.pure 7 (.pure 8 (.pure 9 (.pure 10 (.run 11 (.pure 12 (.pure 13 (.fin 14 .done))))))))))))))), (12, .pure 0 (.pure 1 (.take 2 (.pure 3 (.pure 5 (.pure 7 (.take 8 (.three 4 6 9 (.two 6 9 (.run 9 (.run 10 (.fin 11 .done))) (.run 6 (.run 10 (.fin 11 .done)))) (.two 4 9 (.run 9 (.run 10 (.fin 11 .done))) (.two 4 10 (.run 10 (.fin 11 .done)) (.run 4 (.fin 11 .done)))) (.two 4 6 (.run 6 (.run 10 (.fin 11 .done))) (.two 4 10 (.run 10 (.fin 11 .done)) (.run 4 (.fin 11 .done))))))))))))]) Tryz.func29 rfl rfl (by simp) fun b => ?_
  cases c
  all_goals
    conv => whnf
    simp only [g_k, g_n, g_ls, g_kids]
    repeat' ((conv => whnf); first
      | (refine And.intro (fun hf => ?_) (fun hf => ?_) <;> first | exact Bool.noConfusion hf | skip)
      | refine callF hb gf48 rfl rfl ?_
      | refine CutC.mk (fun _ => False) ?_ (fun _ h => h.elim)
      | refine callT [0, 1] (Tri_up (wByte_tri false l 63 (by omega))) gf55 rfl rfl ⟨rfl, rfl, trivial⟩ rfl ?_
      | refine callT [0, 1] (Tri_up (wByte_tri true l 63 (by omega))) gf55 rfl rfl ⟨rfl, rfl, trivial⟩ rfl ?_)
  all_goals try (conv => whnf)
  all_goals first
    | (rintro o' H' ⟨rfl, rfl⟩; (conv => whnf); exact ⟨rfl, rfl⟩)
    | (exfalso; clear hl hb; first | (simp [badN, kidN] at hbad; done) | (simp [badN, kidN] at hbad; simp_all; done))
set_option maxRecDepth 20000 in
set_option maxHeartbeats 2000000 in
theorem typBad3 (n : Int) (ls : List ByteArray) (ks : List TG) (hbad : badN 3 ls.length ks.length = true) (s : List Int) (c : Bool) (l : List UInt8) (hl : l.length < 1099511627000) : Tri Tryz.prog GT 29 2 0 [.own 0 0, .d (dG (.mk 3 n ls ks)), .d (dI s)] (tel c l) (told (l ++ [63])) := by
  have hb := FnR_up (binder_fn (.mk 3 n ls ks))
  refine tri_of_vc txok mixed [] ((100010, .done) :: [(16, .pure 0 (.pure 1 (.pure 2 (.pure 3 (.pure 4 (.take 5 (.pure 6 (.fin 7 .done)))))))), (11, .pure 0 (.pure 1 (.pure 2 (.pure 3 (.pure 4 (.take 5 (.pure 6 (.pure 7 (.pure 8 (.pure 9 (.pure 10 (.run 11 (.pure 12 (.pure 13 (.fin 14 .done))))))))))))))), (12, .pure 0 (.pure 1 (.take 2 (.pure 3 (.pure 5 (.pure 7 (.take 8 (.three 4 6 9 (.two 6 9 (.run 9 (.run 10 (.fin 11 .done))) (.run 6 (.run 10 (.fin 11 .done)))) (.two 4 9 (.run 9 (.run 10 (.fin 11 .done))) (.two 4 10 (.run 10 (.fin 11 .done)) (.run 4 (.fin 11 .done)))) (.two 4 6 (.run 6 (.run 10 (.fin 11 .done))) (.two 4 10 (.run 10 (.fin 11 .done)) (.run 4 (.fin 11 .done))))))))))))]) Tryz.func29 rfl rfl (by simp) fun b => ?_
  cases c
  all_goals
    conv => whnf
    simp only [g_k, g_n, g_ls, g_kids]
    repeat' ((conv => whnf); first
      | (refine And.intro (fun hf => ?_) (fun hf => ?_) <;> first | exact Bool.noConfusion hf | skip)
      | refine callF hb gf48 rfl rfl ?_
      | refine CutC.mk (fun _ => False) ?_ (fun _ h => h.elim)
      | refine callT [0, 1] (Tri_up (wByte_tri false l 63 (by omega))) gf55 rfl rfl ⟨rfl, rfl, trivial⟩ rfl ?_
      | refine callT [0, 1] (Tri_up (wByte_tri true l 63 (by omega))) gf55 rfl rfl ⟨rfl, rfl, trivial⟩ rfl ?_)
  all_goals try (conv => whnf)
  all_goals first
    | (rintro o' H' ⟨rfl, rfl⟩; (conv => whnf); exact ⟨rfl, rfl⟩)
    | (exfalso; clear hl hb; first | (simp [badN, kidN] at hbad; done) | (simp [badN, kidN] at hbad; simp_all; done))
set_option maxRecDepth 20000 in
set_option maxHeartbeats 2000000 in
theorem typBad4 (n : Int) (ls : List ByteArray) (ks : List TG) (hbad : badN 4 ls.length ks.length = true) (s : List Int) (c : Bool) (l : List UInt8) (hl : l.length < 1099511627000) : Tri Tryz.prog GT 29 2 0 [.own 0 0, .d (dG (.mk 4 n ls ks)), .d (dI s)] (tel c l) (told (l ++ [63])) := by
  have hb := FnR_up (binder_fn (.mk 4 n ls ks))
  refine tri_of_vc txok mixed [] ((100010, .done) :: [(16, .pure 0 (.pure 1 (.pure 2 (.pure 3 (.pure 4 (.take 5 (.pure 6 (.fin 7 .done)))))))), (11, .pure 0 (.pure 1 (.pure 2 (.pure 3 (.pure 4 (.take 5 (.pure 6 (.pure 7 (.pure 8 (.pure 9 (.pure 10 (.run 11 (.pure 12 (.pure 13 (.fin 14 .done))))))))))))))), (12, .pure 0 (.pure 1 (.take 2 (.pure 3 (.pure 5 (.pure 7 (.take 8 (.three 4 6 9 (.two 6 9 (.run 9 (.run 10 (.fin 11 .done))) (.run 6 (.run 10 (.fin 11 .done)))) (.two 4 9 (.run 9 (.run 10 (.fin 11 .done))) (.two 4 10 (.run 10 (.fin 11 .done)) (.run 4 (.fin 11 .done)))) (.two 4 6 (.run 6 (.run 10 (.fin 11 .done))) (.two 4 10 (.run 10 (.fin 11 .done)) (.run 4 (.fin 11 .done))))))))))))]) Tryz.func29 rfl rfl (by simp) fun b => ?_
  cases c
  all_goals
    conv => whnf
    simp only [g_k, g_n, g_ls, g_kids]
    repeat' ((conv => whnf); first
      | (refine And.intro (fun hf => ?_) (fun hf => ?_) <;> first | exact Bool.noConfusion hf | skip)
      | refine callF hb gf48 rfl rfl ?_
      | refine CutC.mk (fun _ => False) ?_ (fun _ h => h.elim)
      | refine callT [0, 1] (Tri_up (wByte_tri false l 63 (by omega))) gf55 rfl rfl ⟨rfl, rfl, trivial⟩ rfl ?_
      | refine callT [0, 1] (Tri_up (wByte_tri true l 63 (by omega))) gf55 rfl rfl ⟨rfl, rfl, trivial⟩ rfl ?_)
  all_goals try (conv => whnf)
  all_goals first
    | (rintro o' H' ⟨rfl, rfl⟩; (conv => whnf); exact ⟨rfl, rfl⟩)
    | (exfalso; clear hl hb; first | (simp [badN, kidN] at hbad; done) | (simp [badN, kidN] at hbad; simp_all; done))
set_option maxRecDepth 20000 in
set_option maxHeartbeats 2000000 in
theorem typBad5 (n : Int) (ls : List ByteArray) (ks : List TG) (hbad : badN 5 ls.length ks.length = true) (s : List Int) (c : Bool) (l : List UInt8) (hl : l.length < 1099511627000) : Tri Tryz.prog GT 29 2 0 [.own 0 0, .d (dG (.mk 5 n ls ks)), .d (dI s)] (tel c l) (told (l ++ [63])) := by
  have hb := FnR_up (binder_fn (.mk 5 n ls ks))
  refine tri_of_vc txok mixed [] ((100010, .done) :: [(16, .pure 0 (.pure 1 (.pure 2 (.pure 3 (.pure 4 (.take 5 (.pure 6 (.fin 7 .done)))))))), (11, .pure 0 (.pure 1 (.pure 2 (.pure 3 (.pure 4 (.take 5 (.pure 6 (.pure 7 (.pure 8 (.pure 9 (.pure 10 (.run 11 (.pure 12 (.pure 13 (.fin 14 .done))))))))))))))), (12, .pure 0 (.pure 1 (.take 2 (.pure 3 (.pure 5 (.pure 7 (.take 8 (.three 4 6 9 (.two 6 9 (.run 9 (.run 10 (.fin 11 .done))) (.run 6 (.run 10 (.fin 11 .done)))) (.two 4 9 (.run 9 (.run 10 (.fin 11 .done))) (.two 4 10 (.run 10 (.fin 11 .done)) (.run 4 (.fin 11 .done)))) (.two 4 6 (.run 6 (.run 10 (.fin 11 .done))) (.two 4 10 (.run 10 (.fin 11 .done)) (.run 4 (.fin 11 .done))))))))))))]) Tryz.func29 rfl rfl (by simp) fun b => ?_
  cases c
  all_goals
    conv => whnf
    simp only [g_k, g_n, g_ls, g_kids]
    repeat' ((conv => whnf); first
      | (refine And.intro (fun hf => ?_) (fun hf => ?_) <;> first | exact Bool.noConfusion hf | skip)
      | refine callF hb gf48 rfl rfl ?_
      | refine CutC.mk (fun _ => False) ?_ (fun _ h => h.elim)
      | refine callT [0, 1] (Tri_up (wByte_tri false l 63 (by omega))) gf55 rfl rfl ⟨rfl, rfl, trivial⟩ rfl ?_
      | refine callT [0, 1] (Tri_up (wByte_tri true l 63 (by omega))) gf55 rfl rfl ⟨rfl, rfl, trivial⟩ rfl ?_)
  all_goals try (conv => whnf)
  all_goals first
    | (rintro o' H' ⟨rfl, rfl⟩; (conv => whnf); exact ⟨rfl, rfl⟩)
    | (exfalso; clear hl hb; first | (simp [badN, kidN] at hbad; done) | (simp [badN, kidN] at hbad; simp_all; done))
set_option maxRecDepth 20000 in
set_option maxHeartbeats 2000000 in
theorem typBad6 (n : Int) (ls : List ByteArray) (ks : List TG) (hbad : badN 6 ls.length ks.length = true) (s : List Int) (c : Bool) (l : List UInt8) (hl : l.length < 1099511627000) : Tri Tryz.prog GT 29 2 0 [.own 0 0, .d (dG (.mk 6 n ls ks)), .d (dI s)] (tel c l) (told (l ++ [63])) := by
  have hb := FnR_up (binder_fn (.mk 6 n ls ks))
  refine tri_of_vc txok mixed [] ((100010, .done) :: [(16, .pure 0 (.pure 1 (.pure 2 (.pure 3 (.pure 4 (.take 5 (.pure 6 (.fin 7 .done)))))))), (11, .pure 0 (.pure 1 (.pure 2 (.pure 3 (.pure 4 (.take 5 (.pure 6 (.pure 7 (.pure 8 (.pure 9 (.pure 10 (.run 11 (.pure 12 (.pure 13 (.fin 14 .done))))))))))))))), (12, .pure 0 (.pure 1 (.take 2 (.pure 3 (.pure 5 (.pure 7 (.take 8 (.three 4 6 9 (.two 6 9 (.run 9 (.run 10 (.fin 11 .done))) (.run 6 (.run 10 (.fin 11 .done)))) (.two 4 9 (.run 9 (.run 10 (.fin 11 .done))) (.two 4 10 (.run 10 (.fin 11 .done)) (.run 4 (.fin 11 .done)))) (.two 4 6 (.run 6 (.run 10 (.fin 11 .done))) (.two 4 10 (.run 10 (.fin 11 .done)) (.run 4 (.fin 11 .done))))))))))))]) Tryz.func29 rfl rfl (by simp) fun b => ?_
  cases c
  all_goals
    conv => whnf
    simp only [g_k, g_n, g_ls, g_kids]
    repeat' ((conv => whnf); first
      | (refine And.intro (fun hf => ?_) (fun hf => ?_) <;> first | exact Bool.noConfusion hf | skip)
      | refine callF hb gf48 rfl rfl ?_
      | refine CutC.mk (fun _ => False) ?_ (fun _ h => h.elim)
      | refine callT [0, 1] (Tri_up (wByte_tri false l 63 (by omega))) gf55 rfl rfl ⟨rfl, rfl, trivial⟩ rfl ?_
      | refine callT [0, 1] (Tri_up (wByte_tri true l 63 (by omega))) gf55 rfl rfl ⟨rfl, rfl, trivial⟩ rfl ?_)
  all_goals try (conv => whnf)
  all_goals first
    | (rintro o' H' ⟨rfl, rfl⟩; (conv => whnf); exact ⟨rfl, rfl⟩)
    | (exfalso; clear hl hb; first | (simp [badN, kidN] at hbad; done) | (simp [badN, kidN] at hbad; simp_all; done))
set_option maxRecDepth 20000 in
set_option maxHeartbeats 2000000 in
theorem typBad7 (n : Int) (ls : List ByteArray) (ks : List TG) (hbad : badN 7 ls.length ks.length = true) (s : List Int) (c : Bool) (l : List UInt8) (hl : l.length < 1099511627000) : Tri Tryz.prog GT 29 2 0 [.own 0 0, .d (dG (.mk 7 n ls ks)), .d (dI s)] (tel c l) (told (l ++ [63])) := by
  have hb := FnR_up (binder_fn (.mk 7 n ls ks))
  refine tri_of_vc txok mixed [] ((100010, .done) :: [(16, .pure 0 (.pure 1 (.pure 2 (.pure 3 (.pure 4 (.take 5 (.pure 6 (.fin 7 .done)))))))), (11, .pure 0 (.pure 1 (.pure 2 (.pure 3 (.pure 4 (.take 5 (.pure 6 (.pure 7 (.pure 8 (.pure 9 (.pure 10 (.run 11 (.pure 12 (.pure 13 (.fin 14 .done))))))))))))))), (12, .pure 0 (.pure 1 (.take 2 (.pure 3 (.pure 5 (.pure 7 (.take 8 (.three 4 6 9 (.two 6 9 (.run 9 (.run 10 (.fin 11 .done))) (.run 6 (.run 10 (.fin 11 .done)))) (.two 4 9 (.run 9 (.run 10 (.fin 11 .done))) (.two 4 10 (.run 10 (.fin 11 .done)) (.run 4 (.fin 11 .done)))) (.two 4 6 (.run 6 (.run 10 (.fin 11 .done))) (.two 4 10 (.run 10 (.fin 11 .done)) (.run 4 (.fin 11 .done))))))))))))]) Tryz.func29 rfl rfl (by simp) fun b => ?_
  cases c
  all_goals
    conv => whnf
    simp only [g_k, g_n, g_ls, g_kids]
    repeat' ((conv => whnf); first
      | (refine And.intro (fun hf => ?_) (fun hf => ?_) <;> first | exact Bool.noConfusion hf | skip)
      | refine callF hb gf48 rfl rfl ?_
      | refine CutC.mk (fun _ => False) ?_ (fun _ h => h.elim)
      | refine callT [0, 1] (Tri_up (wByte_tri false l 63 (by omega))) gf55 rfl rfl ⟨rfl, rfl, trivial⟩ rfl ?_
      | refine callT [0, 1] (Tri_up (wByte_tri true l 63 (by omega))) gf55 rfl rfl ⟨rfl, rfl, trivial⟩ rfl ?_)
  all_goals try (conv => whnf)
  all_goals first
    | (rintro o' H' ⟨rfl, rfl⟩; (conv => whnf); exact ⟨rfl, rfl⟩)
    | (exfalso; clear hl hb; first | (simp [badN, kidN] at hbad; done) | (simp [badN, kidN] at hbad; simp_all; done))
set_option maxRecDepth 20000 in
set_option maxHeartbeats 2000000 in
theorem typBad8 (n : Int) (ls : List ByteArray) (ks : List TG) (hbad : badN 8 ls.length ks.length = true) (s : List Int) (c : Bool) (l : List UInt8) (hl : l.length < 1099511627000) : Tri Tryz.prog GT 29 2 0 [.own 0 0, .d (dG (.mk 8 n ls ks)), .d (dI s)] (tel c l) (told (l ++ [63])) := by
  have hb := FnR_up (binder_fn (.mk 8 n ls ks))
  refine tri_of_vc txok mixed [] ((100010, .done) :: [(16, .pure 0 (.pure 1 (.pure 2 (.pure 3 (.pure 4 (.take 5 (.pure 6 (.fin 7 .done)))))))), (11, .pure 0 (.pure 1 (.pure 2 (.pure 3 (.pure 4 (.take 5 (.pure 6 (.pure 7 (.pure 8 (.pure 9 (.pure 10 (.run 11 (.pure 12 (.pure 13 (.fin 14 .done))))))))))))))), (12, .pure 0 (.pure 1 (.take 2 (.pure 3 (.pure 5 (.pure 7 (.take 8 (.three 4 6 9 (.two 6 9 (.run 9 (.run 10 (.fin 11 .done))) (.run 6 (.run 10 (.fin 11 .done)))) (.two 4 9 (.run 9 (.run 10 (.fin 11 .done))) (.two 4 10 (.run 10 (.fin 11 .done)) (.run 4 (.fin 11 .done)))) (.two 4 6 (.run 6 (.run 10 (.fin 11 .done))) (.two 4 10 (.run 10 (.fin 11 .done)) (.run 4 (.fin 11 .done))))))))))))]) Tryz.func29 rfl rfl (by simp) fun b => ?_
  cases c
  all_goals
    conv => whnf
    simp only [g_k, g_n, g_ls, g_kids]
    repeat' ((conv => whnf); first
      | (refine And.intro (fun hf => ?_) (fun hf => ?_) <;> first | exact Bool.noConfusion hf | skip)
      | refine callF hb gf48 rfl rfl ?_
      | refine CutC.mk (fun _ => False) ?_ (fun _ h => h.elim)
      | refine callT [0, 1] (Tri_up (wByte_tri false l 63 (by omega))) gf55 rfl rfl ⟨rfl, rfl, trivial⟩ rfl ?_
      | refine callT [0, 1] (Tri_up (wByte_tri true l 63 (by omega))) gf55 rfl rfl ⟨rfl, rfl, trivial⟩ rfl ?_)
  all_goals try (conv => whnf)
  all_goals first
    | (rintro o' H' ⟨rfl, rfl⟩; (conv => whnf); exact ⟨rfl, rfl⟩)
    | (exfalso; clear hl hb; first | (simp [badN, kidN] at hbad; done) | (simp [badN, kidN] at hbad; simp_all; done))
set_option maxRecDepth 20000 in
set_option maxHeartbeats 2000000 in
theorem typBad9 (n : Int) (ls : List ByteArray) (ks : List TG) (hbad : badN 9 ls.length ks.length = true) (s : List Int) (c : Bool) (l : List UInt8) (hl : l.length < 1099511627000) : Tri Tryz.prog GT 29 2 0 [.own 0 0, .d (dG (.mk 9 n ls ks)), .d (dI s)] (tel c l) (told (l ++ [63])) := by
  have hb := FnR_up (binder_fn (.mk 9 n ls ks))
  refine tri_of_vc txok mixed [] ((100010, .done) :: [(16, .pure 0 (.pure 1 (.pure 2 (.pure 3 (.pure 4 (.take 5 (.pure 6 (.fin 7 .done)))))))), (11, .pure 0 (.pure 1 (.pure 2 (.pure 3 (.pure 4 (.take 5 (.pure 6 (.pure 7 (.pure 8 (.pure 9 (.pure 10 (.run 11 (.pure 12 (.pure 13 (.fin 14 .done))))))))))))))), (12, .pure 0 (.pure 1 (.take 2 (.pure 3 (.pure 5 (.pure 7 (.take 8 (.three 4 6 9 (.two 6 9 (.run 9 (.run 10 (.fin 11 .done))) (.run 6 (.run 10 (.fin 11 .done)))) (.two 4 9 (.run 9 (.run 10 (.fin 11 .done))) (.two 4 10 (.run 10 (.fin 11 .done)) (.run 4 (.fin 11 .done)))) (.two 4 6 (.run 6 (.run 10 (.fin 11 .done))) (.two 4 10 (.run 10 (.fin 11 .done)) (.run 4 (.fin 11 .done))))))))))))]) Tryz.func29 rfl rfl (by simp) fun b => ?_
  cases c
  all_goals
    conv => whnf
    simp only [g_k, g_n, g_ls, g_kids]
    repeat' ((conv => whnf); first
      | (refine And.intro (fun hf => ?_) (fun hf => ?_) <;> first | exact Bool.noConfusion hf | skip)
      | refine callF hb gf48 rfl rfl ?_
      | refine CutC.mk (fun _ => False) ?_ (fun _ h => h.elim)
      | refine callT [0, 1] (Tri_up (wByte_tri false l 63 (by omega))) gf55 rfl rfl ⟨rfl, rfl, trivial⟩ rfl ?_
      | refine callT [0, 1] (Tri_up (wByte_tri true l 63 (by omega))) gf55 rfl rfl ⟨rfl, rfl, trivial⟩ rfl ?_)
  all_goals try (conv => whnf)
  all_goals first
    | (rintro o' H' ⟨rfl, rfl⟩; (conv => whnf); exact ⟨rfl, rfl⟩)
    | (exfalso; clear hl hb; first | (simp [badN, kidN] at hbad; done) | (simp [badN, kidN] at hbad; simp_all; done))
set_option maxRecDepth 20000 in
set_option maxHeartbeats 2000000 in
theorem typBad10 (n : Int) (ls : List ByteArray) (ks : List TG) (hbad : badN 10 ls.length ks.length = true) (s : List Int) (c : Bool) (l : List UInt8) (hl : l.length < 1099511627000) : Tri Tryz.prog GT 29 2 0 [.own 0 0, .d (dG (.mk 10 n ls ks)), .d (dI s)] (tel c l) (told (l ++ [63])) := by
  have hb := FnR_up (binder_fn (.mk 10 n ls ks))
  refine tri_of_vc txok mixed [] ((100010, .done) :: [(16, .pure 0 (.pure 1 (.pure 2 (.pure 3 (.pure 4 (.take 5 (.pure 6 (.fin 7 .done)))))))), (11, .pure 0 (.pure 1 (.pure 2 (.pure 3 (.pure 4 (.take 5 (.pure 6 (.pure 7 (.pure 8 (.pure 9 (.pure 10 (.run 11 (.pure 12 (.pure 13 (.fin 14 .done))))))))))))))), (12, .pure 0 (.pure 1 (.take 2 (.pure 3 (.pure 5 (.pure 7 (.take 8 (.three 4 6 9 (.two 6 9 (.run 9 (.run 10 (.fin 11 .done))) (.run 6 (.run 10 (.fin 11 .done)))) (.two 4 9 (.run 9 (.run 10 (.fin 11 .done))) (.two 4 10 (.run 10 (.fin 11 .done)) (.run 4 (.fin 11 .done)))) (.two 4 6 (.run 6 (.run 10 (.fin 11 .done))) (.two 4 10 (.run 10 (.fin 11 .done)) (.run 4 (.fin 11 .done))))))))))))]) Tryz.func29 rfl rfl (by simp) fun b => ?_
  cases c
  all_goals
    conv => whnf
    simp only [g_k, g_n, g_ls, g_kids]
    repeat' ((conv => whnf); first
      | (refine And.intro (fun hf => ?_) (fun hf => ?_) <;> first | exact Bool.noConfusion hf | skip)
      | refine callF hb gf48 rfl rfl ?_
      | refine CutC.mk (fun _ => False) ?_ (fun _ h => h.elim)
      | refine callT [0, 1] (Tri_up (wByte_tri false l 63 (by omega))) gf55 rfl rfl ⟨rfl, rfl, trivial⟩ rfl ?_
      | refine callT [0, 1] (Tri_up (wByte_tri true l 63 (by omega))) gf55 rfl rfl ⟨rfl, rfl, trivial⟩ rfl ?_)
  all_goals try (conv => whnf)
  all_goals first
    | (rintro o' H' ⟨rfl, rfl⟩; (conv => whnf); exact ⟨rfl, rfl⟩)
    | (exfalso; clear hl hb; first | (simp [badN, kidN] at hbad; done) | (simp [badN, kidN] at hbad; simp_all; done))
set_option maxRecDepth 20000 in
set_option maxHeartbeats 2000000 in
theorem typBad11 (n : Int) (ls : List ByteArray) (ks : List TG) (hbad : badN 11 ls.length ks.length = true) (s : List Int) (c : Bool) (l : List UInt8) (hl : l.length < 1099511627000) : Tri Tryz.prog GT 29 2 0 [.own 0 0, .d (dG (.mk 11 n ls ks)), .d (dI s)] (tel c l) (told (l ++ [63])) := by
  have hb := FnR_up (binder_fn (.mk 11 n ls ks))
  refine tri_of_vc txok mixed [] ((100010, .done) :: [(16, .pure 0 (.pure 1 (.pure 2 (.pure 3 (.pure 4 (.take 5 (.pure 6 (.fin 7 .done)))))))), (11, .pure 0 (.pure 1 (.pure 2 (.pure 3 (.pure 4 (.take 5 (.pure 6 (.pure 7 (.pure 8 (.pure 9 (.pure 10 (.run 11 (.pure 12 (.pure 13 (.fin 14 .done))))))))))))))), (12, .pure 0 (.pure 1 (.take 2 (.pure 3 (.pure 5 (.pure 7 (.take 8 (.three 4 6 9 (.two 6 9 (.run 9 (.run 10 (.fin 11 .done))) (.run 6 (.run 10 (.fin 11 .done)))) (.two 4 9 (.run 9 (.run 10 (.fin 11 .done))) (.two 4 10 (.run 10 (.fin 11 .done)) (.run 4 (.fin 11 .done)))) (.two 4 6 (.run 6 (.run 10 (.fin 11 .done))) (.two 4 10 (.run 10 (.fin 11 .done)) (.run 4 (.fin 11 .done))))))))))))]) Tryz.func29 rfl rfl (by simp) fun b => ?_
  cases c
  all_goals
    conv => whnf
    simp only [g_k, g_n, g_ls, g_kids]
    repeat' ((conv => whnf); first
      | (refine And.intro (fun hf => ?_) (fun hf => ?_) <;> first | exact Bool.noConfusion hf | skip)
      | refine callF hb gf48 rfl rfl ?_
      | refine CutC.mk (fun _ => False) ?_ (fun _ h => h.elim)
      | refine callT [0, 1] (Tri_up (wByte_tri false l 63 (by omega))) gf55 rfl rfl ⟨rfl, rfl, trivial⟩ rfl ?_
      | refine callT [0, 1] (Tri_up (wByte_tri true l 63 (by omega))) gf55 rfl rfl ⟨rfl, rfl, trivial⟩ rfl ?_)
  all_goals try (conv => whnf)
  all_goals first
    | (rintro o' H' ⟨rfl, rfl⟩; (conv => whnf); exact ⟨rfl, rfl⟩)
    | (exfalso; clear hl hb; first | (simp [badN, kidN] at hbad; done) | (simp [badN, kidN] at hbad; simp_all; done))
set_option maxRecDepth 20000 in
set_option maxHeartbeats 2000000 in
theorem typBadOut (k : Int) (n : Int) (ls : List ByteArray) (ks : List TG) (hbad : k < 1 ∨ 11 < k) (s : List Int) (c : Bool) (l : List UInt8) (hl : l.length < 1099511627000) : Tri Tryz.prog GT 29 2 0 [.own 0 0, .d (dG (.mk k n ls ks)), .d (dI s)] (tel c l) (told (l ++ [63])) := by
  have hb := FnR_up (binder_fn (.mk k n ls ks))
  refine tri_of_vc txok mixed [] ((100010, .done) :: [(16, .pure 0 (.pure 1 (.pure 2 (.pure 3 (.pure 4 (.take 5 (.pure 6 (.fin 7 .done)))))))), (11, .pure 0 (.pure 1 (.pure 2 (.pure 3 (.pure 4 (.take 5 (.pure 6 (.pure 7 (.pure 8 (.pure 9 (.pure 10 (.run 11 (.pure 12 (.pure 13 (.fin 14 .done))))))))))))))), (12, .pure 0 (.pure 1 (.take 2 (.pure 3 (.pure 5 (.pure 7 (.take 8 (.three 4 6 9 (.two 6 9 (.run 9 (.run 10 (.fin 11 .done))) (.run 6 (.run 10 (.fin 11 .done)))) (.two 4 9 (.run 9 (.run 10 (.fin 11 .done))) (.two 4 10 (.run 10 (.fin 11 .done)) (.run 4 (.fin 11 .done)))) (.two 4 6 (.run 6 (.run 10 (.fin 11 .done))) (.two 4 10 (.run 10 (.fin 11 .done)) (.run 4 (.fin 11 .done))))))))))))]) Tryz.func29 rfl rfl (by simp) fun b => ?_
  cases c
  all_goals
    conv => whnf
    simp only [g_k, g_n, g_ls, g_kids]
    repeat' ((conv => whnf); first
      | (refine And.intro (fun hf => ?_) (fun hf => ?_) <;> first | exact Bool.noConfusion hf | skip)
      | refine callF hb gf48 rfl rfl ?_
      | refine CutC.mk (fun _ => False) ?_ (fun _ h => h.elim)
      | refine callT [0, 1] (Tri_up (wByte_tri false l 63 (by omega))) gf55 rfl rfl ⟨rfl, rfl, trivial⟩ rfl ?_
      | refine callT [0, 1] (Tri_up (wByte_tri true l 63 (by omega))) gf55 rfl rfl ⟨rfl, rfl, trivial⟩ rfl ?_)
  all_goals try (conv => whnf)
  all_goals first
    | (rintro o' H' ⟨rfl, rfl⟩; (conv => whnf); exact ⟨rfl, rfl⟩)
    | (exfalso; clear hl hb; (have q1 := of_decide_eq_false (by assumption : decide (k < 1) = false)); (have q2 := of_decide_eq_false (by assumption : decide (k > 11) = false)); omega)
end Go.Proofs.YtohmeplcjgmedaaGreatDoor

/- Text: variables, functions, pairs. -/
set_option linter.unusedSimpArgs false
set_option linter.unusedVariables false
namespace Go.Proofs.YtohmeplcjgmedaaGreatDoor
open Go.Vx Go.Vc Go.RowKit Go.Lib

theorem tel_cases {c : Bool} {P : Bool → Prop} (h1 : P true) (h2 : P false) : P c := by cases c <;> assumption
set_option maxRecDepth 20000 in
theorem typ6_tri (n : Int) (hn : -9223372036854775808 ≤ n ∧ n ≤ 9223372036854775807) (ls : List ByteArray) (s : List Int) (c : Bool) (l : List UInt8) (hl : l.length < 1099511627000) (hs : s.length < 1099511627776) : Tri Tryz.prog GT 29 2 0 [.own 0 0, .d (dG (.mk 6 n ls [])), .d (dI s)] (tel c l) (told (l ++ numA s n)) := by
  have hb := FnR_up (binder_fn (.mk 6 n ls []))
  refine tri_of_vc txok mixed [] [(16, .pure 0 (.pure 1 (.pure 2 (.pure 3 (.pure 4 (.take 5 (.pure 6 (.fin 7 .done)))))))), (11, .pure 0 (.pure 1 (.pure 2 (.pure 3 (.pure 4 (.take 5 (.pure 6 (.pure 7 (.pure 8 (.pure 9 (.pure 10 (.run 11 (.pure 12 (.pure 13 (.fin 14 .done))))))))))))))), (12, .pure 0 (.pure 1 (.take 2 (.pure 3 (.pure 5 (.pure 7 (.take 8 (.three 4 6 9 (.two 6 9 (.run 9 (.run 10 (.fin 11 .done))) (.run 6 (.run 10 (.fin 11 .done)))) (.two 4 9 (.run 9 (.run 10 (.fin 11 .done))) (.two 4 10 (.run 10 (.fin 11 .done)) (.run 4 (.fin 11 .done)))) (.two 4 6 (.run 6 (.run 10 (.fin 11 .done))) (.two 4 10 (.run 10 (.fin 11 .done)) (.run 4 (.fin 11 .done))))))))))))] Tryz.func29 rfl rfl (by simp) fun b => ?_
  cases c
  all_goals
    conv => whnf
    simp only [g_k, g_n, g_ls, g_kids]
    repeat' ((conv => whnf); first
      | (refine And.intro (fun hf => ?_) (fun hf => ?_) <;> first | exact Bool.noConfusion hf | skip)
      | refine callF hb gf48 rfl rfl ?_
      | refine callT [0, 1] (numberT_tri false l s n hl hs hn) gf57 rfl rfl ⟨rfl, rfl, trivial⟩ rfl ?_
      | refine callT [0, 1] (numberT_tri true l s n hl hs hn) gf57 rfl rfl ⟨rfl, rfl, trivial⟩ rfl ?_)
  all_goals rintro o' H' ⟨rfl, rfl⟩
  all_goals (conv => whnf)
  all_goals exact ⟨rfl, rfl⟩
set_option maxRecDepth 20000 in
theorem typ4_tri (n : Int) (ls : List ByteArray) (u v : TG) (hu : InOk u) (hv : TypOk v) (s : List Int) (c : Bool) (l : List UInt8) (hs : s.length + szB u + szB v < 1099511627776) (hl : l.length + 100 * szB u + 100 * szB v < 1099511625900) (hlu : (parW (u.k, txG u s)).length ≤ 100 * szB u) : Tri Tryz.prog GT 29 2 0 [.own 0 0, .d (dG (.mk 4 n ls [u, v])), .d (dI s)] (tel c l) (told (l ++ (parW (u.k, txG u s) ++ ([32, 45, 62, 32] ++ txG v s)))) := by
  have hu1 := hu s
  have hv1 := hv s true (l ++ parW (u.k, txG u s) ++ [32, 45, 62, 32]) (by omega) (by simp only [List.length_append, List.length_cons, List.length_nil]; omega)
  have hu0 : ∀ c, Tri Tryz.prog GT 58 2 0 [.own 0 0, .d (dG u), .d (dI s)] (tel c l) (told (l ++ parW (u.k, txG u s))) := fun c => hu1 c l (by omega) (by omega)
  generalize parW (u.k, txG u s) = x at *
  generalize txG v s = y at *
  refine tri_of_vc txok mixed [] [(16, .pure 0 (.pure 1 (.pure 2 (.pure 3 (.pure 4 (.take 5 (.pure 6 (.fin 7 .done)))))))), (11, .pure 0 (.pure 1 (.pure 2 (.pure 3 (.pure 4 (.take 5 (.pure 6 (.pure 7 (.pure 8 (.pure 9 (.pure 10 (.run 11 (.pure 12 (.pure 13 (.fin 14 .done))))))))))))))), (12, .pure 0 (.pure 1 (.take 2 (.pure 3 (.pure 5 (.pure 7 (.take 8 (.three 4 6 9 (.two 6 9 (.run 9 (.run 10 (.fin 11 .done))) (.run 6 (.run 10 (.fin 11 .done)))) (.two 4 9 (.run 9 (.run 10 (.fin 11 .done))) (.two 4 10 (.run 10 (.fin 11 .done)) (.run 4 (.fin 11 .done)))) (.two 4 6 (.run 6 (.run 10 (.fin 11 .done))) (.two 4 10 (.run 10 (.fin 11 .done)) (.run 4 (.fin 11 .done))))))))))))] Tryz.func29 rfl rfl (by simp) fun b => ?_
  cases c
  all_goals
    conv => whnf
    simp only [g_k, g_n, g_ls, g_kids]
    repeat' ((conv => whnf); first
      | (refine And.intro (fun hf => ?_) (fun hf => ?_) <;> first | exact Bool.noConfusion hf | skip)
      | refine IdxC.encGs (l := [u, v]) 0 (by show 0 < 2; decide) rfl ?_
      | refine callT [0, 1] (hu0 false) gf58 rfl rfl ⟨rfl, rfl, trivial⟩ rfl ?_
      | refine callT [0, 1] (hu0 true) gf58 rfl rfl ⟨rfl, rfl, trivial⟩ rfl ?_)
    rintro o' H' ⟨rfl, rfl⟩
    conv => whnf
    refine callT [0, 1] (Tri_up (wStr_tri true (l ++ x) ⟨#[32, 45, 62, 32]⟩ (by simp only [List.length_append]; omega) (by decide))) gf56 rfl rfl ⟨rfl, rfl, trivial⟩ rfl ?_
    rintro o' H' ⟨rfl, rfl⟩
    conv => whnf
    refine IdxC.encGs (l := [u, v]) 1 (by show 1 < 2; decide) rfl ?_
    conv => whnf
    refine callT [0, 1] hv1 gf29 rfl rfl ⟨rfl, rfl, trivial⟩ rfl ?_
    rintro o' H' ⟨rfl, rfl⟩
    conv => whnf
    refine ⟨rfl, ?_⟩
    simp only [List.append_assoc]
    rfl
end Go.Proofs.YtohmeplcjgmedaaGreatDoor

/- Text: pairs. -/
set_option linter.unusedSimpArgs false
set_option linter.unusedVariables false
namespace Go.Proofs.YtohmeplcjgmedaaGreatDoor
open Go.Vx Go.Vc Go.RowKit Go.Lib

set_option maxRecDepth 20000 in
theorem typ5_tri (n : Int) (ls : List ByteArray) (u v : TG) (hu : InOk u) (hv : InOk v) (s : List Int) (c : Bool) (l : List UInt8) (hs : s.length + szB u + szB v < 1099511627776) (hl : l.length + 100 * szB u + 100 * szB v < 1099511625900) (hlu : (parW (u.k, txG u s)).length ≤ 100 * szB u) (hlv : (parW (v.k, txG v s)).length ≤ 100 * szB v) : Tri Tryz.prog GT 29 2 0 [.own 0 0, .d (dG (.mk 5 n ls [u, v])), .d (dI s)] (tel c l) (told (l ++ ([40] ++ (parW (u.k, txG u s) ++ ([32, 42, 32] ++ (parW (v.k, txG v s) ++ [41])))))) := by
  have hu0 := hu s true (l ++ [40]) (by omega) (by simp only [List.length_append, List.length_cons, List.length_nil]; omega)
  have hv1 := hv s true (l ++ [40] ++ parW (u.k, txG u s) ++ [32, 42, 32]) (by omega) (by simp only [List.length_append, List.length_cons, List.length_nil]; omega)
  generalize parW (u.k, txG u s) = x at *
  generalize parW (v.k, txG v s) = y at *
  refine tri_of_wk (N := 166) txok mixed [] Tryz.func29 rfl rfl (by simp) fun b => ?_
  refine wk_seq ⟨[(0, .own 0 0), (2, .d (dI s)), (4, .own 2 0)], tel c l ++ [(2, .blk 25 [.d (.int .i64 5), .d (.int .i64 n), .d (slD 16 ls.length (encS ls)), .d (slD 64 2 (encGs [u, v]))])], 3⟩ (wk_vc txok mixed [] ?_) ?_
  · cases c
    all_goals
      repeat' ((conv => whnf); first | (refine And.intro (fun hf => ?_) (fun hf => ?_) <;> first | exact Bool.noConfusion hf | skip))
      exact weak_of rfl (by repeat ((conv => whnf); first | exact trivial | refine And.intro rfl ?_ | refine And.intro (incD (by omega)) ?_)) (by repeat ((conv => whnf); first | exact trivial | refine And.intro rfl ?_ | refine And.intro (incD (by omega)) ?_))
  refine wk_seq ⟨[(6, .d (.int .i64 0)), (0, .own 0 0), (2, .d (dI s)), (4, .own 2 0)], tel c l ++ [(2, .blk 25 [.d (.int .i64 5), .d (.int .i64 n), .d (slD 16 ls.length (encS ls)), .d (slD 64 2 (encGs [u, v]))])], 3⟩ (wk_vc txok mixed [] ?_) ?_
  · cases c
    all_goals
      repeat' ((conv => whnf); first | (refine And.intro (fun hf => ?_) (fun hf => ?_) <;> first | exact Bool.noConfusion hf | skip))
      exact weak_of rfl (by repeat ((conv => whnf); first | exact trivial | refine And.intro rfl ?_ | refine And.intro (incD (by omega)) ?_)) (by repeat ((conv => whnf); first | exact trivial | refine And.intro rfl ?_ | refine And.intro (incD (by omega)) ?_))
  refine wk_seq ⟨[(6, .d (.int .i64 2)), (0, .own 0 0), (2, .d (dI s)), (4, .own 2 0)], tel c l ++ [(2, .blk 25 [.d (.int .i64 5), .d (.int .i64 n), .d (slD 16 ls.length (encS ls)), .d (slD 64 2 (encGs [u, v]))])], 3⟩ (wk_vc txok mixed [] ?_) ?_
  · cases c
    all_goals
      repeat' ((conv => whnf); first | (refine And.intro (fun hf => ?_) (fun hf => ?_) <;> first | exact Bool.noConfusion hf | skip))
      exact weak_of rfl (by repeat ((conv => whnf); first | exact trivial | refine And.intro rfl ?_ | refine And.intro (incD (by omega)) ?_)) (by repeat ((conv => whnf); first | exact trivial | refine And.intro rfl ?_ | refine And.intro (incD (by omega)) ?_))
  refine wk_seq ⟨[(7, .d (.bool false)), (6, .d (.int .i64 2)), (0, .own 0 0), (2, .d (dI s)), (4, .own 2 0)], tel c l ++ [(2, .blk 25 [.d (.int .i64 5), .d (.int .i64 n), .d (slD 16 ls.length (encS ls)), .d (slD 64 2 (encGs [u, v]))])], 3⟩ (wk_vc txok mixed [] ?_) ?_
  · cases c
    all_goals
      repeat' ((conv => whnf); first | (refine And.intro (fun hf => ?_) (fun hf => ?_) <;> first | exact Bool.noConfusion hf | skip))
      exact weak_of rfl (by repeat ((conv => whnf); first | exact trivial | refine And.intro rfl ?_ | refine And.intro (incD (by omega)) ?_)) (by repeat ((conv => whnf); first | exact trivial | refine And.intro rfl ?_ | refine And.intro (incD (by omega)) ?_))
  refine wk_seq ⟨[(0, .own 0 0), (2, .d (dI s)), (4, .own 2 0)], tel c l ++ [(2, .blk 25 [.d (.int .i64 5), .d (.int .i64 n), .d (slD 16 ls.length (encS ls)), .d (slD 64 2 (encGs [u, v]))])], 3⟩ (wk_vc txok mixed [] ?_) ?_
  · cases c
    all_goals
      repeat' ((conv => whnf); first | (refine And.intro (fun hf => ?_) (fun hf => ?_) <;> first | exact Bool.noConfusion hf | skip))
      exact weak_of rfl (by repeat ((conv => whnf); first | exact trivial | refine And.intro rfl ?_ | refine And.intro (incD (by omega)) ?_)) (by repeat ((conv => whnf); first | exact trivial | refine And.intro rfl ?_ | refine And.intro (incD (by omega)) ?_))
  refine wk_seq ⟨[(64, .d (.int .i64 5)), (0, .own 0 0), (2, .d (dI s)), (4, .own 2 0)], tel c l ++ [(2, .blk 25 [.d (.int .i64 5), .d (.int .i64 n), .d (slD 16 ls.length (encS ls)), .d (slD 64 2 (encGs [u, v]))])], 3⟩ (wk_vc txok mixed [] ?_) ?_
  · cases c
    all_goals
      repeat' ((conv => whnf); first | (refine And.intro (fun hf => ?_) (fun hf => ?_) <;> first | exact Bool.noConfusion hf | skip))
      exact weak_of rfl (by repeat ((conv => whnf); first | exact trivial | refine And.intro rfl ?_ | refine And.intro (incD (by omega)) ?_)) (by repeat ((conv => whnf); first | exact trivial | refine And.intro rfl ?_ | refine And.intro (incD (by omega)) ?_))
  refine wk_block (fun j s h => h) ?_
  refine wk_seq ⟨[(92, .d (.bool false)), (64, .d (.int .i64 5)), (0, .own 0 0), (2, .d (dI s)), (4, .own 2 0)], tel c l ++ [(2, .blk 25 [.d (.int .i64 5), .d (.int .i64 n), .d (slD 16 ls.length (encS ls)), .d (slD 64 2 (encGs [u, v]))])], 3⟩ (wk_vc txok mixed [] ?_) ?_
  · cases c
    all_goals
      repeat' ((conv => whnf); first | (refine And.intro (fun hf => ?_) (fun hf => ?_) <;> first | exact Bool.noConfusion hf | skip))
      exact weak_of rfl (by repeat ((conv => whnf); first | exact trivial | refine And.intro rfl ?_ | refine And.intro (incD (by omega)) ?_)) (by repeat ((conv => whnf); first | exact trivial | refine And.intro rfl ?_ | refine And.intro (incD (by omega)) ?_))
  refine wk_false rfl ?_
  refine wk_seq ⟨[(104, .d (.bool false)), (64, .d (.int .i64 5)), (0, .own 0 0), (2, .d (dI s)), (4, .own 2 0)], tel c l ++ [(2, .blk 25 [.d (.int .i64 5), .d (.int .i64 n), .d (slD 16 ls.length (encS ls)), .d (slD 64 2 (encGs [u, v]))])], 3⟩ (wk_vc txok mixed [] ?_) ?_
  · cases c
    all_goals
      repeat' ((conv => whnf); first | (refine And.intro (fun hf => ?_) (fun hf => ?_) <;> first | exact Bool.noConfusion hf | skip))
      exact weak_of rfl (by repeat ((conv => whnf); first | exact trivial | refine And.intro rfl ?_ | refine And.intro (incD (by omega)) ?_)) (by repeat ((conv => whnf); first | exact trivial | refine And.intro rfl ?_ | refine And.intro (incD (by omega)) ?_))
  refine wk_false rfl ?_
  refine wk_seq ⟨[(111, .d (.bool false)), (64, .d (.int .i64 5)), (0, .own 0 0), (2, .d (dI s)), (4, .own 2 0)], tel c l ++ [(2, .blk 25 [.d (.int .i64 5), .d (.int .i64 n), .d (slD 16 ls.length (encS ls)), .d (slD 64 2 (encGs [u, v]))])], 3⟩ (wk_vc txok mixed [] ?_) ?_
  · cases c
    all_goals
      repeat' ((conv => whnf); first | (refine And.intro (fun hf => ?_) (fun hf => ?_) <;> first | exact Bool.noConfusion hf | skip))
      exact weak_of rfl (by repeat ((conv => whnf); first | exact trivial | refine And.intro rfl ?_ | refine And.intro (incD (by omega)) ?_)) (by repeat ((conv => whnf); first | exact trivial | refine And.intro rfl ?_ | refine And.intro (incD (by omega)) ?_))
  refine wk_false rfl ?_
  refine wk_seq ⟨[(131, .d (.bool true)), (64, .d (.int .i64 5)), (0, .own 0 0), (2, .d (dI s)), (4, .own 2 0)], tel c l ++ [(2, .blk 25 [.d (.int .i64 5), .d (.int .i64 n), .d (slD 16 ls.length (encS ls)), .d (slD 64 2 (encGs [u, v]))])], 3⟩ (wk_vc txok mixed [] ?_) ?_
  · cases c
    all_goals
      repeat' ((conv => whnf); first | (refine And.intro (fun hf => ?_) (fun hf => ?_) <;> first | exact Bool.noConfusion hf | skip))
      exact weak_of rfl (by repeat ((conv => whnf); first | exact trivial | refine And.intro rfl ?_ | refine And.intro (incD (by omega)) ?_)) (by repeat ((conv => whnf); first | exact trivial | refine And.intro rfl ?_ | refine And.intro (incD (by omega)) ?_))
  refine wk_true rfl ?_
  refine wk_seq ⟨[(0, .own 0 0), (2, .d (dI s)), (4, .own 2 0)], tel true (l ++ [40]) ++ [(2, .blk 25 [.d (.int .i64 5), .d (.int .i64 n), .d (slD 16 ls.length (encS ls)), .d (slD 64 2 (encGs [u, v]))])], 3⟩ (wk_vc txok mixed [] ?_) ?_
  · cases c
    all_goals
      conv => whnf
      first | refine callT [0, 1] (Tri_up (wByte_tri false l 40 (by omega))) gf55 rfl rfl ⟨rfl, rfl, trivial⟩ rfl ?_ | refine callT [0, 1] (Tri_up (wByte_tri true l 40 (by omega))) gf55 rfl rfl ⟨rfl, rfl, trivial⟩ rfl ?_
      rintro o' H' ⟨rfl, rfl⟩
      conv => whnf
      exact weak_of rfl (by repeat ((conv => whnf); first | exact trivial | refine And.intro rfl ?_ | refine And.intro (incD (by omega)) ?_)) (by repeat ((conv => whnf); first | exact trivial | refine And.intro rfl ?_ | refine And.intro (incD (by omega)) ?_))
  refine wk_seq ⟨[(0, .own 0 0), (2, .d (dI s)), (4, .own 2 0)], tel true (l ++ [40] ++ x) ++ [(2, .blk 25 [.d (.int .i64 5), .d (.int .i64 n), .d (slD 16 ls.length (encS ls)), .d (slD 64 2 (encGs [u, v]))])], 3⟩ (wk_vc txok mixed [] ?_) ?_
  · conv => whnf
    refine IdxC.encGs (l := [u, v]) 0 (by show 0 < 2; decide) rfl ?_
    conv => whnf
    refine callT [0, 1] hu0 gf58 rfl rfl ⟨rfl, rfl, trivial⟩ rfl ?_
    rintro o' H' ⟨rfl, rfl⟩
    conv => whnf
    exact weak_of rfl (by repeat ((conv => whnf); first | exact trivial | refine And.intro rfl ?_ | refine And.intro (incD (by omega)) ?_)) (by repeat ((conv => whnf); first | exact trivial | refine And.intro rfl ?_ | refine And.intro (incD (by omega)) ?_))
  refine wk_seq ⟨[(0, .own 0 0), (2, .d (dI s)), (4, .own 2 0)], tel true (l ++ [40] ++ x ++ [32, 42, 32]) ++ [(2, .blk 25 [.d (.int .i64 5), .d (.int .i64 n), .d (slD 16 ls.length (encS ls)), .d (slD 64 2 (encGs [u, v]))])], 3⟩ (wk_vc txok mixed [] ?_) ?_
  · conv => whnf
    refine callT [0, 1] (Tri_up (wStr_tri true (l ++ [40] ++ x) ⟨#[32, 42, 32]⟩ (by simp only [List.length_append, List.length_cons, List.length_nil]; omega) (by decide))) gf56 rfl rfl ⟨rfl, rfl, trivial⟩ rfl ?_
    rintro o' H' ⟨rfl, rfl⟩
    conv => whnf
    exact weak_of rfl (by repeat ((conv => whnf); first | exact trivial | refine And.intro rfl ?_ | refine And.intro (incD (by omega)) ?_)) (by repeat ((conv => whnf); first | exact trivial | refine And.intro rfl ?_ | refine And.intro (incD (by omega)) ?_))
  refine wk_seq ⟨[(0, .own 0 0), (2, .d (dI s)), (4, .own 2 0)], tel true (l ++ [40] ++ x ++ [32, 42, 32] ++ y) ++ [(2, .blk 25 [.d (.int .i64 5), .d (.int .i64 n), .d (slD 16 ls.length (encS ls)), .d (slD 64 2 (encGs [u, v]))])], 3⟩ (wk_vc txok mixed [] ?_) ?_
  · conv => whnf
    refine IdxC.encGs (l := [u, v]) 1 (by show 1 < 2; decide) rfl ?_
    conv => whnf
    refine callT [0, 1] hv1 gf58 rfl rfl ⟨rfl, rfl, trivial⟩ rfl ?_
    rintro o' H' ⟨rfl, rfl⟩
    conv => whnf
    exact weak_of rfl (by repeat ((conv => whnf); first | exact trivial | refine And.intro rfl ?_ | refine And.intro (incD (by omega)) ?_)) (by repeat ((conv => whnf); first | exact trivial | refine And.intro rfl ?_ | refine And.intro (incD (by omega)) ?_))
  refine wk_vc txok mixed [] ?_
  conv => whnf
  refine callT [0, 1] (Tri_up (wByte_tri true (l ++ [40] ++ x ++ [32, 42, 32] ++ y) 41 (by simp only [List.length_append, List.length_cons, List.length_nil]; omega))) gf55 rfl rfl ⟨rfl, rfl, trivial⟩ rfl ?_
  rintro o' H' ⟨rfl, rfl⟩
  conv => whnf
  exact ⟨rfl, congrArg (tel true) (by simp only [List.append_assoc])⟩
end Go.Proofs.YtohmeplcjgmedaaGreatDoor

/- Text: int, bool, unit. -/
set_option linter.unusedSimpArgs false
set_option linter.unusedVariables false
namespace Go.Proofs.YtohmeplcjgmedaaGreatDoor
open Go.Vx Go.Vc Go.RowKit Go.Lib

def arr86 : Value := .agg #[.string ⟨#[]⟩, .string ⟨#[105, 110, 116]⟩, .string ⟨#[98, 111, 111, 108]⟩, .string ⟨#[117, 110, 105, 116]⟩]
theorem bld86 {dst : Option Tmp} {ty : TypeId} {pos : String} {after : Array Edge} {gd : Option (Nat × Bool)} (a : Act) (w : World) : (execOp a.eval { dst := dst, op := .build 86 #[(0, .const (.string ⟨#[]⟩)), (1, .const (.string ⟨#[105, 110, 116]⟩)), (2, .const (.string ⟨#[98, 111, 111, 108]⟩)), (3, .const (.string ⟨#[117, 110, 105, 116]⟩))], type := ty, pos := pos, after := after, guard := gd }).run Tryz.prog w = .ok (.value arr86) w := by
  simp only [execOp]
  exact run_val (run_build w 86 _ _ (by kernel_rfl))
theorem idx86_1 (w : World) : (Instr.index 86 (.agg #[.string ⟨#[]⟩, .string ⟨#[105, 110, 116]⟩, .string ⟨#[98, 111, 111, 108]⟩, .string ⟨#[117, 110, 105, 116]⟩]) (.int .i64 1)).run Tryz.prog w = .ok (.string ⟨#[105, 110, 116]⟩) w := by
  simp [Instr.index, asIntOf, Go.run_underlying Tryz.underlying86, part, Tryz.sizeOf9, Tryz.isAgg9]
theorem idx86_2 (w : World) : (Instr.index 86 (.agg #[.string ⟨#[]⟩, .string ⟨#[105, 110, 116]⟩, .string ⟨#[98, 111, 111, 108]⟩, .string ⟨#[117, 110, 105, 116]⟩]) (.int .i64 2)).run Tryz.prog w = .ok (.string ⟨#[98, 111, 111, 108]⟩) w := by
  simp [Instr.index, asIntOf, Go.run_underlying Tryz.underlying86, part, Tryz.sizeOf9, Tryz.isAgg9]
theorem idx86_3 (w : World) : (Instr.index 86 (.agg #[.string ⟨#[]⟩, .string ⟨#[105, 110, 116]⟩, .string ⟨#[98, 111, 111, 108]⟩, .string ⟨#[117, 110, 105, 116]⟩]) (.int .i64 3)).run Tryz.prog w = .ok (.string ⟨#[117, 110, 105, 116]⟩) w := by
  simp [Instr.index, asIntOf, Go.run_underlying Tryz.underlying86, part, Tryz.sizeOf9, Tryz.isAgg9]
set_option maxRecDepth 20000 in
theorem typ1_tri (n : Int) (ls : List ByteArray) (s : List Int) (c : Bool) (l : List UInt8) (hl : l.length < 1099511625900) : Tri Tryz.prog GT 29 2 0 [.own 0 0, .d (dG (.mk 1 n ls [])), .d (dI s)] (tel c l) (told (l ++ [105, 110, 116])) := by
  have hb := FnR_up (binder_fn (.mk 1 n ls []))
  refine tri_of_wk (N := 166) txok mixed [] Tryz.func29 rfl rfl (by simp) fun b => ?_
  refine wk_seq ⟨[(0, .own 0 0), (2, .d (dI s)), (4, .own 2 0)], tel c l ++ [(2, .blk 25 [.d (.int .i64 1), .d (.int .i64 n), .d (slD 16 ls.length (encS ls)), .d (slD 64 0 (encGs []))])], 3⟩ (wk_vc txok mixed [] ?_) ?_
  · cases c
    all_goals
      repeat' ((conv => whnf); first | (refine And.intro (fun hf => ?_) (fun hf => ?_) <;> first | exact Bool.noConfusion hf | skip))
      exact weak_of rfl (by repeat ((conv => whnf); first | exact trivial | refine And.intro rfl ?_ | refine And.intro (incD (by omega)) ?_)) (by repeat ((conv => whnf); first | exact trivial | refine And.intro rfl ?_ | refine And.intro (incD (by omega)) ?_))
  refine wk_seq ⟨[(6, .d (.int .i64 0)), (0, .own 0 0), (2, .d (dI s)), (4, .own 2 0)], tel c l ++ [(2, .blk 25 [.d (.int .i64 1), .d (.int .i64 n), .d (slD 16 ls.length (encS ls)), .d (slD 64 0 (encGs []))])], 3⟩ (wk_vc txok mixed [] ?_) ?_
  · cases c
    all_goals
      repeat' ((conv => whnf); first | (refine And.intro (fun hf => ?_) (fun hf => ?_) <;> first | exact Bool.noConfusion hf | skip))
      exact weak_of rfl (by repeat ((conv => whnf); first | exact trivial | refine And.intro rfl ?_ | refine And.intro (incD (by omega)) ?_)) (by repeat ((conv => whnf); first | exact trivial | refine And.intro rfl ?_ | refine And.intro (incD (by omega)) ?_))
  refine wk_seq ⟨[(6, .d (.int .i64 0)), (0, .own 0 0), (2, .d (dI s)), (4, .own 2 0)], tel c l ++ [(2, .blk 25 [.d (.int .i64 1), .d (.int .i64 n), .d (slD 16 ls.length (encS ls)), .d (slD 64 0 (encGs []))])], 3⟩ (wk_vc txok mixed [] ?_) ?_
  · cases c
    all_goals
      repeat' ((conv => whnf); first | (refine And.intro (fun hf => ?_) (fun hf => ?_) <;> first | exact Bool.noConfusion hf | skip) | refine callF hb gf48 rfl rfl ?_)
      exact weak_of rfl (by repeat ((conv => whnf); first | exact trivial | refine And.intro rfl ?_ | refine And.intro (incD (by omega)) ?_)) (by repeat ((conv => whnf); first | exact trivial | refine And.intro rfl ?_ | refine And.intro (incD (by omega)) ?_))
  refine wk_seq ⟨[(7, .d (.bool false)), (6, .d (.int .i64 0)), (0, .own 0 0), (2, .d (dI s)), (4, .own 2 0)], tel c l ++ [(2, .blk 25 [.d (.int .i64 1), .d (.int .i64 n), .d (slD 16 ls.length (encS ls)), .d (slD 64 0 (encGs []))])], 3⟩ (wk_vc txok mixed [] ?_) ?_
  · cases c
    all_goals
      repeat' ((conv => whnf); first | (refine And.intro (fun hf => ?_) (fun hf => ?_) <;> first | exact Bool.noConfusion hf | skip))
      exact weak_of rfl (by repeat ((conv => whnf); first | exact trivial | refine And.intro rfl ?_ | refine And.intro (incD (by omega)) ?_)) (by repeat ((conv => whnf); first | exact trivial | refine And.intro rfl ?_ | refine And.intro (incD (by omega)) ?_))
  refine wk_seq ⟨[(0, .own 0 0), (2, .d (dI s)), (4, .own 2 0)], tel c l ++ [(2, .blk 25 [.d (.int .i64 1), .d (.int .i64 n), .d (slD 16 ls.length (encS ls)), .d (slD 64 0 (encGs []))])], 3⟩ (wk_vc txok mixed [] ?_) ?_
  · cases c
    all_goals
      repeat' ((conv => whnf); first | (refine And.intro (fun hf => ?_) (fun hf => ?_) <;> first | exact Bool.noConfusion hf | skip))
      exact weak_of rfl (by repeat ((conv => whnf); first | exact trivial | refine And.intro rfl ?_ | refine And.intro (incD (by omega)) ?_)) (by repeat ((conv => whnf); first | exact trivial | refine And.intro rfl ?_ | refine And.intro (incD (by omega)) ?_))
  refine wk_seq ⟨[(64, .d (.int .i64 1)), (0, .own 0 0), (2, .d (dI s)), (4, .own 2 0)], tel c l ++ [(2, .blk 25 [.d (.int .i64 1), .d (.int .i64 n), .d (slD 16 ls.length (encS ls)), .d (slD 64 0 (encGs []))])], 3⟩ (wk_vc txok mixed [] ?_) ?_
  · cases c
    all_goals
      repeat' ((conv => whnf); first | (refine And.intro (fun hf => ?_) (fun hf => ?_) <;> first | exact Bool.noConfusion hf | skip))
      exact weak_of rfl (by repeat ((conv => whnf); first | exact trivial | refine And.intro rfl ?_ | refine And.intro (incD (by omega)) ?_)) (by repeat ((conv => whnf); first | exact trivial | refine And.intro rfl ?_ | refine And.intro (incD (by omega)) ?_))
  refine wk_block (fun j s h => h) ?_
  refine wk_seq ⟨[(92, .d (.bool true)), (64, .d (.int .i64 1)), (0, .own 0 0), (2, .d (dI s)), (4, .own 2 0)], tel c l ++ [(2, .blk 25 [.d (.int .i64 1), .d (.int .i64 n), .d (slD 16 ls.length (encS ls)), .d (slD 64 0 (encGs []))])], 3⟩ (wk_vc txok mixed [] ?_) ?_
  · cases c
    all_goals
      repeat' ((conv => whnf); first | (refine And.intro (fun hf => ?_) (fun hf => ?_) <;> first | exact Bool.noConfusion hf | skip))
      first | refine (weak_kbT 92 true (by exact rfl)).trans (weak_of rfl (by repeat ((conv => whnf); first | exact trivial | refine And.intro rfl ?_ | refine And.intro (incD (by omega)) ?_)) (by repeat ((conv => whnf); first | exact trivial | refine And.intro rfl ?_ | refine And.intro (incD (by omega)) ?_))) | exact weak_of rfl (by repeat ((conv => whnf); first | exact trivial | refine And.intro rfl ?_ | refine And.intro (incD (by omega)) ?_)) (by repeat ((conv => whnf); first | exact trivial | refine And.intro rfl ?_ | refine And.intro (incD (by omega)) ?_))
  refine wk_true rfl ?_
  refine wk_vc txok mixed [(16, .pure 0 (.pure 1 (.pure 2 (.pure 4 (.take 5 (.run 3 (.run 6 (.fin 7 .done))))))))] ?_
  cases c
  all_goals
    conv => whnf
    refine And.intro (by kernel_rfl) ?_
    conv => whnf
    refine valKC arr86 bld86 ?_
    conv => whnf
    refine idxKC (j := 1) ⟨#[105, 110, 116]⟩ (by exact rfl) (by exact rfl) (by exact rfl) Tryz.underlying86 idx86_1 ?_
    conv => whnf
    first
      | refine callT [0, 1] (Tri_up (wStr_tri false l ⟨#[105, 110, 116]⟩ (by omega) (by decide))) gf56 (by exact rfl) (by exact rfl) ⟨rfl, rfl, trivial⟩ rfl ?_
      | refine callT [0, 1] (Tri_up (wStr_tri true l ⟨#[105, 110, 116]⟩ (by omega) (by decide))) gf56 (by exact rfl) (by exact rfl) ⟨rfl, rfl, trivial⟩ rfl ?_
    rintro o' H' ⟨rfl, rfl⟩
    conv => whnf
    exact ⟨rfl, rfl⟩
set_option maxRecDepth 20000 in
theorem typ2_tri (n : Int) (ls : List ByteArray) (s : List Int) (c : Bool) (l : List UInt8) (hl : l.length < 1099511625900) : Tri Tryz.prog GT 29 2 0 [.own 0 0, .d (dG (.mk 2 n ls [])), .d (dI s)] (tel c l) (told (l ++ [98, 111, 111, 108])) := by
  have hb := FnR_up (binder_fn (.mk 2 n ls []))
  refine tri_of_wk (N := 166) txok mixed [] Tryz.func29 rfl rfl (by simp) fun b => ?_
  refine wk_seq ⟨[(0, .own 0 0), (2, .d (dI s)), (4, .own 2 0)], tel c l ++ [(2, .blk 25 [.d (.int .i64 2), .d (.int .i64 n), .d (slD 16 ls.length (encS ls)), .d (slD 64 0 (encGs []))])], 3⟩ (wk_vc txok mixed [] ?_) ?_
  · cases c
    all_goals
      repeat' ((conv => whnf); first | (refine And.intro (fun hf => ?_) (fun hf => ?_) <;> first | exact Bool.noConfusion hf | skip))
      exact weak_of rfl (by repeat ((conv => whnf); first | exact trivial | refine And.intro rfl ?_ | refine And.intro (incD (by omega)) ?_)) (by repeat ((conv => whnf); first | exact trivial | refine And.intro rfl ?_ | refine And.intro (incD (by omega)) ?_))
  refine wk_seq ⟨[(6, .d (.int .i64 0)), (0, .own 0 0), (2, .d (dI s)), (4, .own 2 0)], tel c l ++ [(2, .blk 25 [.d (.int .i64 2), .d (.int .i64 n), .d (slD 16 ls.length (encS ls)), .d (slD 64 0 (encGs []))])], 3⟩ (wk_vc txok mixed [] ?_) ?_
  · cases c
    all_goals
      repeat' ((conv => whnf); first | (refine And.intro (fun hf => ?_) (fun hf => ?_) <;> first | exact Bool.noConfusion hf | skip))
      exact weak_of rfl (by repeat ((conv => whnf); first | exact trivial | refine And.intro rfl ?_ | refine And.intro (incD (by omega)) ?_)) (by repeat ((conv => whnf); first | exact trivial | refine And.intro rfl ?_ | refine And.intro (incD (by omega)) ?_))
  refine wk_seq ⟨[(6, .d (.int .i64 0)), (0, .own 0 0), (2, .d (dI s)), (4, .own 2 0)], tel c l ++ [(2, .blk 25 [.d (.int .i64 2), .d (.int .i64 n), .d (slD 16 ls.length (encS ls)), .d (slD 64 0 (encGs []))])], 3⟩ (wk_vc txok mixed [] ?_) ?_
  · cases c
    all_goals
      repeat' ((conv => whnf); first | (refine And.intro (fun hf => ?_) (fun hf => ?_) <;> first | exact Bool.noConfusion hf | skip) | refine callF hb gf48 rfl rfl ?_)
      exact weak_of rfl (by repeat ((conv => whnf); first | exact trivial | refine And.intro rfl ?_ | refine And.intro (incD (by omega)) ?_)) (by repeat ((conv => whnf); first | exact trivial | refine And.intro rfl ?_ | refine And.intro (incD (by omega)) ?_))
  refine wk_seq ⟨[(7, .d (.bool false)), (6, .d (.int .i64 0)), (0, .own 0 0), (2, .d (dI s)), (4, .own 2 0)], tel c l ++ [(2, .blk 25 [.d (.int .i64 2), .d (.int .i64 n), .d (slD 16 ls.length (encS ls)), .d (slD 64 0 (encGs []))])], 3⟩ (wk_vc txok mixed [] ?_) ?_
  · cases c
    all_goals
      repeat' ((conv => whnf); first | (refine And.intro (fun hf => ?_) (fun hf => ?_) <;> first | exact Bool.noConfusion hf | skip))
      exact weak_of rfl (by repeat ((conv => whnf); first | exact trivial | refine And.intro rfl ?_ | refine And.intro (incD (by omega)) ?_)) (by repeat ((conv => whnf); first | exact trivial | refine And.intro rfl ?_ | refine And.intro (incD (by omega)) ?_))
  refine wk_seq ⟨[(0, .own 0 0), (2, .d (dI s)), (4, .own 2 0)], tel c l ++ [(2, .blk 25 [.d (.int .i64 2), .d (.int .i64 n), .d (slD 16 ls.length (encS ls)), .d (slD 64 0 (encGs []))])], 3⟩ (wk_vc txok mixed [] ?_) ?_
  · cases c
    all_goals
      repeat' ((conv => whnf); first | (refine And.intro (fun hf => ?_) (fun hf => ?_) <;> first | exact Bool.noConfusion hf | skip))
      exact weak_of rfl (by repeat ((conv => whnf); first | exact trivial | refine And.intro rfl ?_ | refine And.intro (incD (by omega)) ?_)) (by repeat ((conv => whnf); first | exact trivial | refine And.intro rfl ?_ | refine And.intro (incD (by omega)) ?_))
  refine wk_seq ⟨[(64, .d (.int .i64 2)), (0, .own 0 0), (2, .d (dI s)), (4, .own 2 0)], tel c l ++ [(2, .blk 25 [.d (.int .i64 2), .d (.int .i64 n), .d (slD 16 ls.length (encS ls)), .d (slD 64 0 (encGs []))])], 3⟩ (wk_vc txok mixed [] ?_) ?_
  · cases c
    all_goals
      repeat' ((conv => whnf); first | (refine And.intro (fun hf => ?_) (fun hf => ?_) <;> first | exact Bool.noConfusion hf | skip))
      exact weak_of rfl (by repeat ((conv => whnf); first | exact trivial | refine And.intro rfl ?_ | refine And.intro (incD (by omega)) ?_)) (by repeat ((conv => whnf); first | exact trivial | refine And.intro rfl ?_ | refine And.intro (incD (by omega)) ?_))
  refine wk_block (fun j s h => h) ?_
  refine wk_seq ⟨[(92, .d (.bool true)), (64, .d (.int .i64 2)), (0, .own 0 0), (2, .d (dI s)), (4, .own 2 0)], tel c l ++ [(2, .blk 25 [.d (.int .i64 2), .d (.int .i64 n), .d (slD 16 ls.length (encS ls)), .d (slD 64 0 (encGs []))])], 3⟩ (wk_vc txok mixed [] ?_) ?_
  · cases c
    all_goals
      repeat' ((conv => whnf); first | (refine And.intro (fun hf => ?_) (fun hf => ?_) <;> first | exact Bool.noConfusion hf | skip))
      first | refine (weak_kbT 92 true (by exact rfl)).trans (weak_of rfl (by repeat ((conv => whnf); first | exact trivial | refine And.intro rfl ?_ | refine And.intro (incD (by omega)) ?_)) (by repeat ((conv => whnf); first | exact trivial | refine And.intro rfl ?_ | refine And.intro (incD (by omega)) ?_))) | exact weak_of rfl (by repeat ((conv => whnf); first | exact trivial | refine And.intro rfl ?_ | refine And.intro (incD (by omega)) ?_)) (by repeat ((conv => whnf); first | exact trivial | refine And.intro rfl ?_ | refine And.intro (incD (by omega)) ?_))
  refine wk_true rfl ?_
  refine wk_vc txok mixed [(16, .pure 0 (.pure 1 (.pure 2 (.pure 4 (.take 5 (.run 3 (.run 6 (.fin 7 .done))))))))] ?_
  cases c
  all_goals
    conv => whnf
    refine And.intro (by kernel_rfl) ?_
    conv => whnf
    refine valKC arr86 bld86 ?_
    conv => whnf
    refine idxKC (j := 2) ⟨#[98, 111, 111, 108]⟩ (by exact rfl) (by exact rfl) (by exact rfl) Tryz.underlying86 idx86_2 ?_
    conv => whnf
    first
      | refine callT [0, 1] (Tri_up (wStr_tri false l ⟨#[98, 111, 111, 108]⟩ (by omega) (by decide))) gf56 (by exact rfl) (by exact rfl) ⟨rfl, rfl, trivial⟩ rfl ?_
      | refine callT [0, 1] (Tri_up (wStr_tri true l ⟨#[98, 111, 111, 108]⟩ (by omega) (by decide))) gf56 (by exact rfl) (by exact rfl) ⟨rfl, rfl, trivial⟩ rfl ?_
    rintro o' H' ⟨rfl, rfl⟩
    conv => whnf
    exact ⟨rfl, rfl⟩
set_option maxRecDepth 20000 in
theorem typ3_tri (n : Int) (ls : List ByteArray) (s : List Int) (c : Bool) (l : List UInt8) (hl : l.length < 1099511625900) : Tri Tryz.prog GT 29 2 0 [.own 0 0, .d (dG (.mk 3 n ls [])), .d (dI s)] (tel c l) (told (l ++ [117, 110, 105, 116])) := by
  have hb := FnR_up (binder_fn (.mk 3 n ls []))
  refine tri_of_wk (N := 166) txok mixed [] Tryz.func29 rfl rfl (by simp) fun b => ?_
  refine wk_seq ⟨[(0, .own 0 0), (2, .d (dI s)), (4, .own 2 0)], tel c l ++ [(2, .blk 25 [.d (.int .i64 3), .d (.int .i64 n), .d (slD 16 ls.length (encS ls)), .d (slD 64 0 (encGs []))])], 3⟩ (wk_vc txok mixed [] ?_) ?_
  · cases c
    all_goals
      repeat' ((conv => whnf); first | (refine And.intro (fun hf => ?_) (fun hf => ?_) <;> first | exact Bool.noConfusion hf | skip))
      exact weak_of rfl (by repeat ((conv => whnf); first | exact trivial | refine And.intro rfl ?_ | refine And.intro (incD (by omega)) ?_)) (by repeat ((conv => whnf); first | exact trivial | refine And.intro rfl ?_ | refine And.intro (incD (by omega)) ?_))
  refine wk_seq ⟨[(6, .d (.int .i64 0)), (0, .own 0 0), (2, .d (dI s)), (4, .own 2 0)], tel c l ++ [(2, .blk 25 [.d (.int .i64 3), .d (.int .i64 n), .d (slD 16 ls.length (encS ls)), .d (slD 64 0 (encGs []))])], 3⟩ (wk_vc txok mixed [] ?_) ?_
  · cases c
    all_goals
      repeat' ((conv => whnf); first | (refine And.intro (fun hf => ?_) (fun hf => ?_) <;> first | exact Bool.noConfusion hf | skip))
      exact weak_of rfl (by repeat ((conv => whnf); first | exact trivial | refine And.intro rfl ?_ | refine And.intro (incD (by omega)) ?_)) (by repeat ((conv => whnf); first | exact trivial | refine And.intro rfl ?_ | refine And.intro (incD (by omega)) ?_))
  refine wk_seq ⟨[(6, .d (.int .i64 0)), (0, .own 0 0), (2, .d (dI s)), (4, .own 2 0)], tel c l ++ [(2, .blk 25 [.d (.int .i64 3), .d (.int .i64 n), .d (slD 16 ls.length (encS ls)), .d (slD 64 0 (encGs []))])], 3⟩ (wk_vc txok mixed [] ?_) ?_
  · cases c
    all_goals
      repeat' ((conv => whnf); first | (refine And.intro (fun hf => ?_) (fun hf => ?_) <;> first | exact Bool.noConfusion hf | skip) | refine callF hb gf48 rfl rfl ?_)
      exact weak_of rfl (by repeat ((conv => whnf); first | exact trivial | refine And.intro rfl ?_ | refine And.intro (incD (by omega)) ?_)) (by repeat ((conv => whnf); first | exact trivial | refine And.intro rfl ?_ | refine And.intro (incD (by omega)) ?_))
  refine wk_seq ⟨[(7, .d (.bool false)), (6, .d (.int .i64 0)), (0, .own 0 0), (2, .d (dI s)), (4, .own 2 0)], tel c l ++ [(2, .blk 25 [.d (.int .i64 3), .d (.int .i64 n), .d (slD 16 ls.length (encS ls)), .d (slD 64 0 (encGs []))])], 3⟩ (wk_vc txok mixed [] ?_) ?_
  · cases c
    all_goals
      repeat' ((conv => whnf); first | (refine And.intro (fun hf => ?_) (fun hf => ?_) <;> first | exact Bool.noConfusion hf | skip))
      exact weak_of rfl (by repeat ((conv => whnf); first | exact trivial | refine And.intro rfl ?_ | refine And.intro (incD (by omega)) ?_)) (by repeat ((conv => whnf); first | exact trivial | refine And.intro rfl ?_ | refine And.intro (incD (by omega)) ?_))
  refine wk_seq ⟨[(0, .own 0 0), (2, .d (dI s)), (4, .own 2 0)], tel c l ++ [(2, .blk 25 [.d (.int .i64 3), .d (.int .i64 n), .d (slD 16 ls.length (encS ls)), .d (slD 64 0 (encGs []))])], 3⟩ (wk_vc txok mixed [] ?_) ?_
  · cases c
    all_goals
      repeat' ((conv => whnf); first | (refine And.intro (fun hf => ?_) (fun hf => ?_) <;> first | exact Bool.noConfusion hf | skip))
      exact weak_of rfl (by repeat ((conv => whnf); first | exact trivial | refine And.intro rfl ?_ | refine And.intro (incD (by omega)) ?_)) (by repeat ((conv => whnf); first | exact trivial | refine And.intro rfl ?_ | refine And.intro (incD (by omega)) ?_))
  refine wk_seq ⟨[(64, .d (.int .i64 3)), (0, .own 0 0), (2, .d (dI s)), (4, .own 2 0)], tel c l ++ [(2, .blk 25 [.d (.int .i64 3), .d (.int .i64 n), .d (slD 16 ls.length (encS ls)), .d (slD 64 0 (encGs []))])], 3⟩ (wk_vc txok mixed [] ?_) ?_
  · cases c
    all_goals
      repeat' ((conv => whnf); first | (refine And.intro (fun hf => ?_) (fun hf => ?_) <;> first | exact Bool.noConfusion hf | skip))
      exact weak_of rfl (by repeat ((conv => whnf); first | exact trivial | refine And.intro rfl ?_ | refine And.intro (incD (by omega)) ?_)) (by repeat ((conv => whnf); first | exact trivial | refine And.intro rfl ?_ | refine And.intro (incD (by omega)) ?_))
  refine wk_block (fun j s h => h) ?_
  refine wk_seq ⟨[(92, .d (.bool true)), (64, .d (.int .i64 3)), (0, .own 0 0), (2, .d (dI s)), (4, .own 2 0)], tel c l ++ [(2, .blk 25 [.d (.int .i64 3), .d (.int .i64 n), .d (slD 16 ls.length (encS ls)), .d (slD 64 0 (encGs []))])], 3⟩ (wk_vc txok mixed [] ?_) ?_
  · cases c
    all_goals
      repeat' ((conv => whnf); first | (refine And.intro (fun hf => ?_) (fun hf => ?_) <;> first | exact Bool.noConfusion hf | skip))
      first | refine (weak_kbT 92 true (by exact rfl)).trans (weak_of rfl (by repeat ((conv => whnf); first | exact trivial | refine And.intro rfl ?_ | refine And.intro (incD (by omega)) ?_)) (by repeat ((conv => whnf); first | exact trivial | refine And.intro rfl ?_ | refine And.intro (incD (by omega)) ?_))) | exact weak_of rfl (by repeat ((conv => whnf); first | exact trivial | refine And.intro rfl ?_ | refine And.intro (incD (by omega)) ?_)) (by repeat ((conv => whnf); first | exact trivial | refine And.intro rfl ?_ | refine And.intro (incD (by omega)) ?_))
  refine wk_true rfl ?_
  refine wk_vc txok mixed [(16, .pure 0 (.pure 1 (.pure 2 (.pure 4 (.take 5 (.run 3 (.run 6 (.fin 7 .done))))))))] ?_
  cases c
  all_goals
    conv => whnf
    refine And.intro (by kernel_rfl) ?_
    conv => whnf
    refine valKC arr86 bld86 ?_
    conv => whnf
    refine idxKC (j := 3) ⟨#[117, 110, 105, 116]⟩ (by exact rfl) (by exact rfl) (by exact rfl) Tryz.underlying86 idx86_3 ?_
    conv => whnf
    first
      | refine callT [0, 1] (Tri_up (wStr_tri false l ⟨#[117, 110, 105, 116]⟩ (by omega) (by decide))) gf56 (by exact rfl) (by exact rfl) ⟨rfl, rfl, trivial⟩ rfl ?_
      | refine callT [0, 1] (Tri_up (wStr_tri true l ⟨#[117, 110, 105, 116]⟩ (by omega) (by decide))) gf56 (by exact rfl) (by exact rfl) ⟨rfl, rfl, trivial⟩ rfl ?_
    rintro o' H' ⟨rfl, rfl⟩
    conv => whnf
    exact ⟨rfl, rfl⟩
end Go.Proofs.YtohmeplcjgmedaaGreatDoor

/- Text: the list of a record, of a sum. -/
set_option linter.unusedSimpArgs false
set_option linter.unusedVariables false
namespace Go.Proofs.YtohmeplcjgmedaaGreatDoor
open Go.Vx Go.Vc Go.RowKit Go.Lib

theorem szs_takele {α : Type} (f : α → Nat) (l : List α) (i : Nat) : szs f (l.take i) ≤ szs f l := by
  conv => rhs; rw [← List.take_append_drop i l]
  simp [szs, -List.take_append_drop]
theorem sumX_take (ks : List TG) (hi : ∀ t ∈ ks, i64G t) (s : List Int) (hs : s.length + szs szB ks < 9223372036854775807) (i : Nat) : sumX ((txs ks s).take i) ≤ 100 * szs szB (ks.take i) := by
  have : ∀ m : List TG, (∀ t ∈ m, t ∈ ks) → sumX (txs m s) ≤ 100 * szs szB m := by
    intro m
    induction m with
    | nil => intro _; simp [txs, sumX, szs]
    | cons t r ihr =>
      intro hm
      have h1 := ihr fun u hu => hm u (by simp [hu])
      have h2 := szs_mem (sz := szB) (hm t (by simp))
      have h3 := txG_len t (hi t (hm t (by simp))) s (by omega)
      have e : sumX (txs (t :: r) s) = ((txG t s).length + 8) + sumX (txs r s) := by rw [txs]; simp [sumX, szs]
      rw [e, szs_cons, Nat.mul_add]
      omega
  rw [show (txs ks s).take i = txs (ks.take i) s from by rw [txs_map, txs_map, List.map_take]]
  exact this _ fun t ht => List.mem_of_mem_take ht
set_option maxRecDepth 20000 in
theorem list7_tri (n : Int) (ls : List ByteArray) (ks : List TG) (hin : ∀ t ∈ ks, InOk t) (hi : ∀ t ∈ ks, i64G t) (hll : ls.length = ks.length) (s : List Int) (c : Bool) (l : List UInt8) (hs : s.length + szs szB ks + szs ByteArray.size ls < 1099511627775) (hl : l.length + 100 * szs szB ks + szs ByteArray.size ls < 1099511625900) : Tri Tryz.prog GT 59 2 0 [.own 0 0, .d (dG (.mk 7 n ls ks)), .d (dI s)] (tel c l) (told (l ++ ([123] ++ (itemsTo true ls (txs ks s) (txs ks s).length ++ [125])))) := by
  refine tri_sz fun hsz => ?_
  have hkl := (szOk_G (t := .mk 7 n ls ks) (hsz (.d (dG (.mk 7 n ls ks))) (by simp))).1
  simp only [g_kids, LB] at hkl
  rw [txs_len]
  have hI := fun i hi' => itemsTo_len true ls (txs ks s) (fun h => by rw [txs_len]; exact hll) i hi'
  have hX := sumX_take ks hi s (by omega)
  rw [txs_len] at hI
  refine tri_of_wk (N := 58) txok mixed [] Tryz.func59 rfl rfl (by simp) fun b => ?_
  refine wk_seq ⟨[(0, .own 0 0), (2, .d (dI s)), (4, .own 2 0)], tel c l ++ [(2, .blk 25 [.d (.int .i64 7), .d (.int .i64 n), .d (slD 16 ls.length (encS ls)), .d (slD 64 ks.length (encGs ks))])], 3⟩ (wk_vc txok mixed [] ?_) ?_
  · cases c
    all_goals
      repeat' ((conv => whnf); first | (refine And.intro (fun hf => ?_) (fun hf => ?_) <;> first | exact Bool.noConfusion hf | skip))
      exact weak_of rfl (by repeat ((conv => whnf); first | exact trivial | refine And.intro rfl ?_ | refine And.intro (incD (by omega)) ?_)) (by repeat ((conv => whnf); first | exact trivial | refine And.intro rfl ?_ | refine And.intro (incD (by omega)) ?_))
  refine wk_seq ⟨[(6, .d (.str ⟨#[123, 125]⟩)), (7, .d (.str ⟨#[44, 32]⟩)), (0, .own 0 0), (2, .d (dI s)), (4, .own 2 0)], tel c l ++ [(2, .blk 25 [.d (.int .i64 7), .d (.int .i64 n), .d (slD 16 ls.length (encS ls)), .d (slD 64 ks.length (encGs ks))])], 3⟩ (wk_vc txok mixed [] ?_) ?_
  · cases c
    all_goals
      repeat' ((conv => whnf); first | (refine And.intro (fun hf => ?_) (fun hf => ?_) <;> first | exact Bool.noConfusion hf | skip))
      exact weak_of rfl (by repeat ((conv => whnf); first | exact trivial | refine And.intro rfl ?_ | refine And.intro (incD (by omega)) ?_)) (by repeat ((conv => whnf); first | exact trivial | refine And.intro rfl ?_ | refine And.intro (incD (by omega)) ?_))
  refine wk_seq ⟨[(6, .d (.str ⟨#[123, 125]⟩)), (7, .d (.str ⟨#[44, 32]⟩)), (0, .own 0 0), (2, .d (dI s)), (4, .own 2 0)], tel c l ++ [(2, .blk 25 [.d (.int .i64 7), .d (.int .i64 n), .d (slD 16 ls.length (encS ls)), .d (slD 64 ks.length (encGs ks))])], 3⟩ (wk_vc txok mixed [] ?_) ?_
  · cases c
    all_goals
      repeat' ((conv => whnf); first | (refine And.intro (fun hf => ?_) (fun hf => ?_) <;> first | exact Bool.noConfusion hf | skip))
      exact weak_of rfl (by repeat ((conv => whnf); first | exact trivial | refine And.intro rfl ?_ | refine And.intro (incD (by omega)) ?_)) (by repeat ((conv => whnf); first | exact trivial | refine And.intro rfl ?_ | refine And.intro (incD (by omega)) ?_))
  refine wk_seq ⟨[(6, .d (.str ⟨#[123, 125]⟩)), (7, .d (.str ⟨#[44, 32]⟩)), (0, .own 0 0), (2, .d (dI s)), (4, .own 2 0)], tel true (l ++ [123]) ++ [(2, .blk 25 [.d (.int .i64 7), .d (.int .i64 n), .d (slD 16 ls.length (encS ls)), .d (slD 64 ks.length (encGs ks))])], 3⟩ (wk_vc txok mixed [(4, .pure 0 (.pure 1 (.pure 2 (.pure 3 (.pure 4 (.fin 5 .done)))))), (11, .pure 0 (.pure 1 (.pure 2 (.pure 3 (.take 4 (.pure 5 (.pure 6 (.fin 7 (.pure 8 (.fin 9 .done)))))))))), (14, .pure 0 (.pure 1 (.pure 2 (.pure 3 (.pure 4 (.fin 5 .done))))))] ?_) ?_
  · cases c
    all_goals
      conv => whnf
      refine And.intro (by kernel_rfl) ?_
      conv => whnf
      refine ⟨123, by decide, rfl, ?_⟩
      conv => whnf
      first | refine callT [0, 1] (Tri_up (wByte_tri false (l) 123 (by first | omega | (simp only [List.length_append, List.length_cons, List.length_nil]; omega)))) gf55 rfl rfl ⟨rfl, rfl, trivial⟩ rfl ?_ | refine callT [0, 1] (Tri_up (wByte_tri true (l) 123 (by first | omega | (simp only [List.length_append, List.length_cons, List.length_nil]; omega)))) gf55 rfl rfl ⟨rfl, rfl, trivial⟩ rfl ?_
      rintro o' H' ⟨rfl, rfl⟩
      conv => whnf
      exact weak_of rfl (by repeat ((conv => whnf); first | exact trivial | refine And.intro rfl ?_ | refine And.intro (incD (by omega)) ?_)) (by repeat ((conv => whnf); first | exact trivial | refine And.intro rfl ?_ | refine And.intro (incD (by omega)) ?_))
  refine wk_seq ⟨[(6, .d (.str ⟨#[123, 125]⟩)), (7, .d (.str ⟨#[44, 32]⟩)), (0, .own 0 0), (2, .d (dI s)), (4, .own 2 0)], tel true (l ++ [123] ++ itemsTo true ls (txs ks s) ks.length) ++ [(2, .blk 25 [.d (.int .i64 7), .d (.int .i64 n), .d (slD 16 ls.length (encS ls)), .d (slD 64 ks.length (encGs ks))])], 3⟩ (wk_vc txok mixed [(4, .pure 0 (.pure 1 (.pure 2 (.pure 3 (.pure 4 (.fin 5 .done)))))), (11, .pure 0 (.pure 1 (.pure 2 (.pure 3 (.take 4 (.pure 5 (.pure 6 (.fin 7 (.pure 8 (.fin 9 .done)))))))))), (14, .pure 0 (.pure 1 (.pure 2 (.pure 3 (.pure 4 (.fin 5 .done))))))] ?_) ?_
  · conv => whnf
    refine loopH (fun i : Nat => i ≤ ks.length) (fun i => ks.length - i) (fun i => [(22, .d (.int .i64 i))]) (fun i => tel true (l ++ [123] ++ itemsTo true ls (txs ks s) i) ++ [(2, .blk 25 [.d (.int .i64 7), .d (.int .i64 n), .d (slD 16 ls.length (encS ls)), .d (slD 64 ks.length (encGs ks))])]) 3 0 (by omega) ?_ ?_
    · rw [show l ++ [123] ++ itemsTo true ls (txs ks s) 0 = l ++ [123] from by simp [itemsTo]]
      exact weak_of rfl (by repeat ((conv => whnf); first | exact trivial | refine And.intro rfl ?_ | refine And.intro (incD (by omega)) ?_)) (by repeat ((conv => whnf); first | exact trivial | refine And.intro rfl ?_ | refine And.intro (incD (by omega)) ?_))
    intro i hi
    conv => whnf
    refine And.intro (fun hb => ?_) (fun hb => ?_)
    · have hil : i < ks.length := by have := of_decide_eq_true hb; omega
      have h1 := hI i hi
      have h2 := hX i
      have h3 : szs szB (ks.take (i + 1)) = szs szB (ks.take i) + szB ks[i] := by rw [List.take_succ_eq_append_getElem hil]; simp only [szs, List.map_append, List.sum_append, List.map_cons, List.map_nil, List.sum_cons, List.sum_nil, Nat.add_zero]
      have h4 := szs_takele szB ks (i + 1)
      have h5 := szs_takele ByteArray.size ls (i + 1)
      have hx := txs_at ks s i hil
      have hil7 : i < ls.length := by omega
      have h6 : szs ByteArray.size (ls.take (i + 1)) = szs ByteArray.size (ls.take i) + ls[i].size := by rw [List.take_succ_eq_append_getElem hil7]; simp only [szs, List.map_append, List.sum_append, List.map_cons, List.map_nil, List.sum_cons, List.sum_nil, Nat.add_zero]
      have hlb : ls[i].size < 1099511627000 := by omega
      have hlz : (ls[i] ++ ⟨#[58, 32]⟩ : ByteArray).data.toList.length = ls[i].size + 2 := by
        rw [Array.length_toList]
        show (ls[i] ++ ⟨#[58, 32]⟩ : ByteArray).size = _
        rw [ByteArray.size_append]; rfl
      have hla : labA true ls i = (ls[i] ++ ⟨#[58, 32]⟩ : ByteArray).data.toList := by
        unfold labA; rw [if_pos rfl, List.getD_eq_getElem?_getD, List.getElem?_eq_getElem hil7]; simp
      conv => whnf
      refine IdxC.encGs i hil rfl ?_
      conv => whnf
      refine And.intro (fun hp => ?_) (fun hp => ?_)
      · have hp : i > 0 := by have := of_decide_eq_true hp; omega
        have he : l ++ [123] ++ itemsTo true ls (txs ks s) (i + 1) = l ++ [123] ++ itemsTo true ls (txs ks s) i ++ [44, 32] ++ (ls[i] ++ ⟨#[58, 32]⟩ : ByteArray).data.toList ++ parW (ks[i].k, txG ks[i] s) := by rw [itemsTo, hla, hx]; unfold sepA; rw [if_pos hp]; simp
        conv => whnf
        refine callT [0, 1] (Tri_up (wStr_tri true (l ++ [123] ++ itemsTo true ls (txs ks s) i) ⟨#[44, 32]⟩ (by first | omega | (simp only [List.length_append, List.length_cons, List.length_nil]; omega)) (by decide))) gf56 rfl rfl ⟨rfl, rfl, trivial⟩ rfl ?_
        rintro o' H' ⟨rfl, rfl⟩
        conv => whnf
        refine And.intro (fun hf => ?_) (fun hf => Bool.noConfusion hf)
        conv => whnf
        refine And.intro (by kernel_rfl) ?_
        conv => whnf
        refine IdxC.encS i hil7 rfl ?_
        conv => whnf
        refine ⟨by have := hlb; show ls[i].size + 2 ≤ _; omega, ?_⟩
        conv => whnf
        refine callT [0, 1] (Tri_up (wStr_tri true (l ++ [123] ++ itemsTo true ls (txs ks s) i ++ [44, 32]) (ls[i] ++ ⟨#[58, 32]⟩) (by first | omega | (simp only [List.length_append, List.length_cons, List.length_nil]; omega)) (by rw [ByteArray.size_append]; show ls[i].size + 2 < _; omega))) gf56 rfl rfl ⟨rfl, rfl, trivial⟩ rfl ?_
        rintro o' H' ⟨rfl, rfl⟩
        conv => whnf
        refine callT [0, 1] (hin ks[i] (List.getElem_mem hil) s true (l ++ [123] ++ itemsTo true ls (txs ks s) i ++ [44, 32] ++ (ls[i] ++ ⟨#[58, 32]⟩ : ByteArray).data.toList) (by omega) (by simp only [List.length_append, List.length_cons, List.length_nil, hlz]; omega)) gf58 rfl rfl ⟨rfl, rfl, trivial⟩ rfl ?_
        rintro o' H' ⟨rfl, rfl⟩
        conv => whnf
        rw [incD (by omega)]
        refine again (i + 1) (by omega) (by omega) ?_
        rw [he]
        exact weak_of rfl (by repeat ((conv => whnf); first | exact trivial | refine And.intro rfl ?_ | refine And.intro (incD (by omega)) ?_)) (by repeat ((conv => whnf); first | exact trivial | refine And.intro rfl ?_ | refine And.intro (incD (by omega)) ?_))
      · have hp : ¬ i > 0 := by have := of_decide_eq_false hp; omega
        have he : l ++ [123] ++ itemsTo true ls (txs ks s) (i + 1) = l ++ [123] ++ itemsTo true ls (txs ks s) i ++ (ls[i] ++ ⟨#[58, 32]⟩ : ByteArray).data.toList ++ parW (ks[i].k, txG ks[i] s) := by rw [itemsTo, hla, hx]; unfold sepA; rw [if_neg hp]; simp
        conv => whnf
        refine And.intro (fun hf => ?_) (fun hf => Bool.noConfusion hf)
        conv => whnf
        refine And.intro (by kernel_rfl) ?_
        conv => whnf
        refine IdxC.encS i hil7 rfl ?_
        conv => whnf
        refine ⟨by have := hlb; show ls[i].size + 2 ≤ _; omega, ?_⟩
        conv => whnf
        refine callT [0, 1] (Tri_up (wStr_tri true (l ++ [123] ++ itemsTo true ls (txs ks s) i) (ls[i] ++ ⟨#[58, 32]⟩) (by first | omega | (simp only [List.length_append, List.length_cons, List.length_nil]; omega)) (by rw [ByteArray.size_append]; show ls[i].size + 2 < _; omega))) gf56 rfl rfl ⟨rfl, rfl, trivial⟩ rfl ?_
        rintro o' H' ⟨rfl, rfl⟩
        conv => whnf
        refine callT [0, 1] (hin ks[i] (List.getElem_mem hil) s true (l ++ [123] ++ itemsTo true ls (txs ks s) i ++ (ls[i] ++ ⟨#[58, 32]⟩ : ByteArray).data.toList) (by omega) (by simp only [List.length_append, List.length_cons, List.length_nil, hlz]; omega)) gf58 rfl rfl ⟨rfl, rfl, trivial⟩ rfl ?_
        rintro o' H' ⟨rfl, rfl⟩
        conv => whnf
        rw [incD (by omega)]
        refine again (i + 1) (by omega) (by omega) ?_
        rw [he]
        exact weak_of rfl (by repeat ((conv => whnf); first | exact trivial | refine And.intro rfl ?_ | refine And.intro (incD (by omega)) ?_)) (by repeat ((conv => whnf); first | exact trivial | refine And.intro rfl ?_ | refine And.intro (incD (by omega)) ?_))
    · have hil : i = ks.length := by have := of_decide_eq_false hb; omega
      subst hil
      conv => whnf
      exact weak_of rfl (by repeat ((conv => whnf); first | exact trivial | refine And.intro rfl ?_ | refine And.intro (incD (by omega)) ?_)) (by repeat ((conv => whnf); first | exact trivial | refine And.intro rfl ?_ | refine And.intro (incD (by omega)) ?_))
  have h1 := hI ks.length (Nat.le_refl _)
  have h2 := hX ks.length
  rw [List.take_length] at h2
  have h5 := szs_takele ByteArray.size ls ks.length
  refine wk_vc txok mixed [(4, .pure 0 (.pure 1 (.pure 2 (.pure 3 (.pure 4 (.fin 5 .done)))))), (11, .pure 0 (.pure 1 (.pure 2 (.pure 3 (.take 4 (.pure 5 (.pure 6 (.fin 7 (.pure 8 (.fin 9 .done)))))))))), (14, .pure 0 (.pure 1 (.pure 2 (.pure 3 (.pure 4 (.fin 5 .done))))))] ?_
  conv => whnf
  refine And.intro (by kernel_rfl) ?_
  conv => whnf
  refine ⟨125, by decide, rfl, ?_⟩
  conv => whnf
  refine callT [0, 1] (Tri_up (wByte_tri true (l ++ [123] ++ itemsTo true ls (txs ks s) ks.length) 125 (by first | omega | (simp only [List.length_append, List.length_cons, List.length_nil]; omega)))) gf55 rfl rfl ⟨rfl, rfl, trivial⟩ rfl ?_
  rintro o' H' ⟨rfl, rfl⟩
  conv => whnf
  exact ⟨rfl, congrArg (tel true) (by simp only [List.append_assoc])⟩
set_option maxRecDepth 20000 in
theorem list8_tri (n : Int) (ls : List ByteArray) (ks : List TG) (hin : ∀ t ∈ ks, InOk t) (hi : ∀ t ∈ ks, i64G t) (s : List Int) (c : Bool) (l : List UInt8) (hs : s.length + szs szB ks + szs ByteArray.size ls < 1099511627775) (hl : l.length + 100 * szs szB ks + szs ByteArray.size ls < 1099511625900) : Tri Tryz.prog GT 59 2 0 [.own 0 0, .d (dG (.mk 8 n ls ks)), .d (dI s)] (tel c l) (told (l ++ ([91] ++ (itemsTo false ls (txs ks s) (txs ks s).length ++ [93])))) := by
  refine tri_sz fun hsz => ?_
  have hkl := (szOk_G (t := .mk 8 n ls ks) (hsz (.d (dG (.mk 8 n ls ks))) (by simp))).1
  simp only [g_kids, LB] at hkl
  rw [txs_len]
  have hI := fun i hi' => itemsTo_len false ls (txs ks s) (fun h => by cases h) i hi'
  have hX := sumX_take ks hi s (by omega)
  rw [txs_len] at hI
  refine tri_of_wk (N := 58) txok mixed [] Tryz.func59 rfl rfl (by simp) fun b => ?_
  refine wk_seq ⟨[(0, .own 0 0), (2, .d (dI s)), (4, .own 2 0)], tel c l ++ [(2, .blk 25 [.d (.int .i64 8), .d (.int .i64 n), .d (slD 16 ls.length (encS ls)), .d (slD 64 ks.length (encGs ks))])], 3⟩ (wk_vc txok mixed [] ?_) ?_
  · cases c
    all_goals
      repeat' ((conv => whnf); first | (refine And.intro (fun hf => ?_) (fun hf => ?_) <;> first | exact Bool.noConfusion hf | skip))
      exact weak_of rfl (by repeat ((conv => whnf); first | exact trivial | refine And.intro rfl ?_ | refine And.intro (incD (by omega)) ?_)) (by repeat ((conv => whnf); first | exact trivial | refine And.intro rfl ?_ | refine And.intro (incD (by omega)) ?_))
  refine wk_seq ⟨[(6, .d (.str ⟨#[123, 125]⟩)), (7, .d (.str ⟨#[44, 32]⟩)), (0, .own 0 0), (2, .d (dI s)), (4, .own 2 0)], tel c l ++ [(2, .blk 25 [.d (.int .i64 8), .d (.int .i64 n), .d (slD 16 ls.length (encS ls)), .d (slD 64 ks.length (encGs ks))])], 3⟩ (wk_vc txok mixed [] ?_) ?_
  · cases c
    all_goals
      repeat' ((conv => whnf); first | (refine And.intro (fun hf => ?_) (fun hf => ?_) <;> first | exact Bool.noConfusion hf | skip))
      exact weak_of rfl (by repeat ((conv => whnf); first | exact trivial | refine And.intro rfl ?_ | refine And.intro (incD (by omega)) ?_)) (by repeat ((conv => whnf); first | exact trivial | refine And.intro rfl ?_ | refine And.intro (incD (by omega)) ?_))
  refine wk_seq ⟨[(6, .d (.str ⟨#[91, 93]⟩)), (7, .d (.str ⟨#[32, 124, 32]⟩)), (0, .own 0 0), (2, .d (dI s)), (4, .own 2 0)], tel c l ++ [(2, .blk 25 [.d (.int .i64 8), .d (.int .i64 n), .d (slD 16 ls.length (encS ls)), .d (slD 64 ks.length (encGs ks))])], 3⟩ (wk_vc txok mixed [] ?_) ?_
  · cases c
    all_goals
      repeat' ((conv => whnf); first | (refine And.intro (fun hf => ?_) (fun hf => ?_) <;> first | exact Bool.noConfusion hf | skip))
      exact weak_of rfl (by repeat ((conv => whnf); first | exact trivial | refine And.intro rfl ?_ | refine And.intro (incD (by omega)) ?_)) (by repeat ((conv => whnf); first | exact trivial | refine And.intro rfl ?_ | refine And.intro (incD (by omega)) ?_))
  refine wk_seq ⟨[(6, .d (.str ⟨#[91, 93]⟩)), (7, .d (.str ⟨#[32, 124, 32]⟩)), (0, .own 0 0), (2, .d (dI s)), (4, .own 2 0)], tel true (l ++ [91]) ++ [(2, .blk 25 [.d (.int .i64 8), .d (.int .i64 n), .d (slD 16 ls.length (encS ls)), .d (slD 64 ks.length (encGs ks))])], 3⟩ (wk_vc txok mixed [(4, .pure 0 (.pure 1 (.pure 2 (.pure 3 (.pure 4 (.fin 5 .done)))))), (11, .pure 0 (.pure 1 (.pure 2 (.pure 3 (.take 4 (.pure 5 (.pure 6 (.fin 7 (.pure 8 (.fin 9 .done)))))))))), (14, .pure 0 (.pure 1 (.pure 2 (.pure 3 (.pure 4 (.fin 5 .done))))))] ?_) ?_
  · cases c
    all_goals
      conv => whnf
      refine And.intro (by kernel_rfl) ?_
      conv => whnf
      refine ⟨91, by decide, rfl, ?_⟩
      conv => whnf
      first | refine callT [0, 1] (Tri_up (wByte_tri false (l) 91 (by first | omega | (simp only [List.length_append, List.length_cons, List.length_nil]; omega)))) gf55 rfl rfl ⟨rfl, rfl, trivial⟩ rfl ?_ | refine callT [0, 1] (Tri_up (wByte_tri true (l) 91 (by first | omega | (simp only [List.length_append, List.length_cons, List.length_nil]; omega)))) gf55 rfl rfl ⟨rfl, rfl, trivial⟩ rfl ?_
      rintro o' H' ⟨rfl, rfl⟩
      conv => whnf
      exact weak_of rfl (by repeat ((conv => whnf); first | exact trivial | refine And.intro rfl ?_ | refine And.intro (incD (by omega)) ?_)) (by repeat ((conv => whnf); first | exact trivial | refine And.intro rfl ?_ | refine And.intro (incD (by omega)) ?_))
  refine wk_seq ⟨[(6, .d (.str ⟨#[91, 93]⟩)), (7, .d (.str ⟨#[32, 124, 32]⟩)), (0, .own 0 0), (2, .d (dI s)), (4, .own 2 0)], tel true (l ++ [91] ++ itemsTo false ls (txs ks s) ks.length) ++ [(2, .blk 25 [.d (.int .i64 8), .d (.int .i64 n), .d (slD 16 ls.length (encS ls)), .d (slD 64 ks.length (encGs ks))])], 3⟩ (wk_vc txok mixed [(4, .pure 0 (.pure 1 (.pure 2 (.pure 3 (.pure 4 (.fin 5 .done)))))), (11, .pure 0 (.pure 1 (.pure 2 (.pure 3 (.take 4 (.pure 5 (.pure 6 (.fin 7 (.pure 8 (.fin 9 .done)))))))))), (14, .pure 0 (.pure 1 (.pure 2 (.pure 3 (.pure 4 (.fin 5 .done))))))] ?_) ?_
  · conv => whnf
    refine loopH (fun i : Nat => i ≤ ks.length) (fun i => ks.length - i) (fun i => [(22, .d (.int .i64 i))]) (fun i => tel true (l ++ [91] ++ itemsTo false ls (txs ks s) i) ++ [(2, .blk 25 [.d (.int .i64 8), .d (.int .i64 n), .d (slD 16 ls.length (encS ls)), .d (slD 64 ks.length (encGs ks))])]) 3 0 (by omega) ?_ ?_
    · rw [show l ++ [91] ++ itemsTo false ls (txs ks s) 0 = l ++ [91] from by simp [itemsTo]]
      exact weak_of rfl (by repeat ((conv => whnf); first | exact trivial | refine And.intro rfl ?_ | refine And.intro (incD (by omega)) ?_)) (by repeat ((conv => whnf); first | exact trivial | refine And.intro rfl ?_ | refine And.intro (incD (by omega)) ?_))
    intro i hi
    conv => whnf
    refine And.intro (fun hb => ?_) (fun hb => ?_)
    · have hil : i < ks.length := by have := of_decide_eq_true hb; omega
      have h1 := hI i hi
      have h2 := hX i
      have h3 : szs szB (ks.take (i + 1)) = szs szB (ks.take i) + szB ks[i] := by rw [List.take_succ_eq_append_getElem hil]; simp only [szs, List.map_append, List.sum_append, List.map_cons, List.map_nil, List.sum_cons, List.sum_nil, Nat.add_zero]
      have h4 := szs_takele szB ks (i + 1)
      have h5 := szs_takele ByteArray.size ls (i + 1)
      have hx := txs_at ks s i hil
      have h6 : szs ByteArray.size (ls.take i) ≤ szs ByteArray.size ls := szs_takele ByteArray.size ls i
      have hla : labA false ls i = [] := by unfold labA; rw [if_neg (by decide)]
      conv => whnf
      refine IdxC.encGs i hil rfl ?_
      conv => whnf
      refine And.intro (fun hp => ?_) (fun hp => ?_)
      · have hp : i > 0 := by have := of_decide_eq_true hp; omega
        have he : l ++ [91] ++ itemsTo false ls (txs ks s) (i + 1) = l ++ [91] ++ itemsTo false ls (txs ks s) i ++ [32, 124, 32] ++ parW (ks[i].k, txG ks[i] s) := by rw [itemsTo, hla, hx]; unfold sepA; rw [if_pos hp]; simp
        conv => whnf
        refine callT [0, 1] (Tri_up (wStr_tri true (l ++ [91] ++ itemsTo false ls (txs ks s) i) ⟨#[32, 124, 32]⟩ (by first | omega | (simp only [List.length_append, List.length_cons, List.length_nil]; omega)) (by decide))) gf56 rfl rfl ⟨rfl, rfl, trivial⟩ rfl ?_
        rintro o' H' ⟨rfl, rfl⟩
        conv => whnf
        refine And.intro (fun hf => Bool.noConfusion hf) (fun hf => ?_)
        conv => whnf
        refine callT [0, 1] (hin ks[i] (List.getElem_mem hil) s true (l ++ [91] ++ itemsTo false ls (txs ks s) i ++ [32, 124, 32]) (by omega) (by first | omega | (simp only [List.length_append, List.length_cons, List.length_nil]; omega))) gf58 rfl rfl ⟨rfl, rfl, trivial⟩ rfl ?_
        rintro o' H' ⟨rfl, rfl⟩
        conv => whnf
        rw [incD (by omega)]
        refine again (i + 1) (by omega) (by omega) ?_
        rw [he]
        exact weak_of rfl (by repeat ((conv => whnf); first | exact trivial | refine And.intro rfl ?_ | refine And.intro (incD (by omega)) ?_)) (by repeat ((conv => whnf); first | exact trivial | refine And.intro rfl ?_ | refine And.intro (incD (by omega)) ?_))
      · have hp : ¬ i > 0 := by have := of_decide_eq_false hp; omega
        have he : l ++ [91] ++ itemsTo false ls (txs ks s) (i + 1) = l ++ [91] ++ itemsTo false ls (txs ks s) i ++ parW (ks[i].k, txG ks[i] s) := by rw [itemsTo, hla, hx]; unfold sepA; rw [if_neg hp]; simp
        conv => whnf
        refine And.intro (fun hf => Bool.noConfusion hf) (fun hf => ?_)
        conv => whnf
        refine callT [0, 1] (hin ks[i] (List.getElem_mem hil) s true (l ++ [91] ++ itemsTo false ls (txs ks s) i) (by omega) (by first | omega | (simp only [List.length_append, List.length_cons, List.length_nil]; omega))) gf58 rfl rfl ⟨rfl, rfl, trivial⟩ rfl ?_
        rintro o' H' ⟨rfl, rfl⟩
        conv => whnf
        rw [incD (by omega)]
        refine again (i + 1) (by omega) (by omega) ?_
        rw [he]
        exact weak_of rfl (by repeat ((conv => whnf); first | exact trivial | refine And.intro rfl ?_ | refine And.intro (incD (by omega)) ?_)) (by repeat ((conv => whnf); first | exact trivial | refine And.intro rfl ?_ | refine And.intro (incD (by omega)) ?_))
    · have hil : i = ks.length := by have := of_decide_eq_false hb; omega
      subst hil
      conv => whnf
      exact weak_of rfl (by repeat ((conv => whnf); first | exact trivial | refine And.intro rfl ?_ | refine And.intro (incD (by omega)) ?_)) (by repeat ((conv => whnf); first | exact trivial | refine And.intro rfl ?_ | refine And.intro (incD (by omega)) ?_))
  have h1 := hI ks.length (Nat.le_refl _)
  have h2 := hX ks.length
  rw [List.take_length] at h2
  have h5 := szs_takele ByteArray.size ls ks.length
  refine wk_vc txok mixed [(4, .pure 0 (.pure 1 (.pure 2 (.pure 3 (.pure 4 (.fin 5 .done)))))), (11, .pure 0 (.pure 1 (.pure 2 (.pure 3 (.take 4 (.pure 5 (.pure 6 (.fin 7 (.pure 8 (.fin 9 .done)))))))))), (14, .pure 0 (.pure 1 (.pure 2 (.pure 3 (.pure 4 (.fin 5 .done))))))] ?_
  conv => whnf
  refine And.intro (by kernel_rfl) ?_
  conv => whnf
  refine ⟨93, by decide, rfl, ?_⟩
  conv => whnf
  refine callT [0, 1] (Tri_up (wByte_tri true (l ++ [91] ++ itemsTo false ls (txs ks s) ks.length) 93 (by first | omega | (simp only [List.length_append, List.length_cons, List.length_nil]; omega)))) gf55 rfl rfl ⟨rfl, rfl, trivial⟩ rfl ?_
  rintro o' H' ⟨rfl, rfl⟩
  conv => whnf
  exact ⟨rfl, congrArg (tel true) (by simp only [List.append_assoc])⟩
end Go.Proofs.YtohmeplcjgmedaaGreatDoor

/- Text: records, sums; what binds. -/
set_option linter.unusedSimpArgs false
set_option linter.unusedVariables false
namespace Go.Proofs.YtohmeplcjgmedaaGreatDoor
open Go.Vx Go.Vc Go.RowKit Go.Lib

set_option maxRecDepth 20000 in
theorem typ7_tri (n : Int) (ls : List ByteArray) (ks : List TG) (hin : ∀ t ∈ ks, InOk t) (hi : ∀ t ∈ ks, i64G t) (hll : ls.length = ks.length) (s : List Int) (c : Bool) (l : List UInt8) (hs : s.length + szs szB ks + szs ByteArray.size ls < 1099511627775) (hl : l.length + 100 * szs szB ks + szs ByteArray.size ls < 1099511625900) : Tri Tryz.prog GT 29 2 0 [.own 0 0, .d (dG (.mk 7 n ls ks)), .d (dI s)] (tel c l) (told (l ++ ([123] ++ (itemsTo true ls (txs ks s) (txs ks s).length ++ [125])))) := by
  have hb := FnR_up (binder_fn (.mk 7 n ls ks))
  have hL := fun c => list7_tri n ls ks hin hi hll s c l hs hl
  generalize itemsTo true ls (txs ks s) (txs ks s).length = x at *
  have hne : ((ls.length : Int) != (ks.length : Int)) = false := by rw [hll]; simp
  refine tri_of_wk (N := 166) txok mixed [] Tryz.func29 rfl rfl (by simp) fun b => ?_
  refine wk_seq ⟨[(0, .own 0 0), (2, .d (dI s)), (4, .own 2 0)], tel c l ++ [(2, .blk 25 [.d (.int .i64 7), .d (.int .i64 n), .d (slD 16 ls.length (encS ls)), .d (slD 64 ks.length (encGs ks))])], 3⟩ (wk_vc txok mixed [] ?_) ?_
  · cases c
    all_goals
      repeat' ((conv => whnf); first | (refine And.intro (fun hf => ?_) (fun hf => ?_) <;> first | exact Bool.noConfusion hf | skip))
      exact weak_of rfl (by repeat ((conv => whnf); first | exact trivial | refine And.intro rfl ?_ | refine And.intro (incD (by omega)) ?_)) (by repeat ((conv => whnf); first | exact trivial | refine And.intro rfl ?_ | refine And.intro (incD (by omega)) ?_))
  refine wk_seq ⟨[(6, .d (.int .i64 0)), (0, .own 0 0), (2, .d (dI s)), (4, .own 2 0)], tel c l ++ [(2, .blk 25 [.d (.int .i64 7), .d (.int .i64 n), .d (slD 16 ls.length (encS ls)), .d (slD 64 ks.length (encGs ks))])], 3⟩ (wk_vc txok mixed [] ?_) ?_
  · cases c
    all_goals
      repeat' ((conv => whnf); first | (refine And.intro (fun hf => ?_) (fun hf => ?_) <;> first | exact Bool.noConfusion hf | skip))
      exact weak_of rfl (by repeat ((conv => whnf); first | exact trivial | refine And.intro rfl ?_ | refine And.intro (incD (by omega)) ?_)) (by repeat ((conv => whnf); first | exact trivial | refine And.intro rfl ?_ | refine And.intro (incD (by omega)) ?_))
  refine wk_seq ⟨[(6, .d (.int .i64 0)), (0, .own 0 0), (2, .d (dI s)), (4, .own 2 0)], tel c l ++ [(2, .blk 25 [.d (.int .i64 7), .d (.int .i64 n), .d (slD 16 ls.length (encS ls)), .d (slD 64 ks.length (encGs ks))])], 3⟩ (wk_vc txok mixed [] ?_) ?_
  · cases c
    all_goals
      repeat' ((conv => whnf); first | (refine And.intro (fun hf => ?_) (fun hf => ?_) <;> first | exact Bool.noConfusion hf | skip) | refine callF hb gf48 rfl rfl ?_)
      exact weak_of rfl (by repeat ((conv => whnf); first | exact trivial | refine And.intro rfl ?_ | refine And.intro (incD (by omega)) ?_)) (by repeat ((conv => whnf); first | exact trivial | refine And.intro rfl ?_ | refine And.intro (incD (by omega)) ?_))
  refine wk_seq ⟨[(7, .d (.bool true)), (6, .d (.int .i64 0)), (0, .own 0 0), (2, .d (dI s)), (4, .own 2 0)], tel c l ++ [(2, .blk 25 [.d (.int .i64 7), .d (.int .i64 n), .d (slD 16 ls.length (encS ls)), .d (slD 64 ks.length (encGs ks))])], 3⟩ (wk_vc txok mixed [] ?_) ?_
  · cases c
    all_goals
      repeat' ((conv => whnf); first | (refine And.intro (fun hf => ?_) (fun hf => ?_) <;> first | exact Bool.noConfusion hf | skip) | refine callF hb gf48 rfl rfl ?_)
      first | refine (weak_kbT 7 true (by exact rfl)).trans (weak_of rfl (by repeat ((conv => whnf); first | exact trivial | refine And.intro rfl ?_ | refine And.intro (incD (by omega)) ?_)) (by repeat ((conv => whnf); first | exact trivial | refine And.intro rfl ?_ | refine And.intro (incD (by omega)) ?_))) | exact weak_of rfl (by repeat ((conv => whnf); first | exact trivial | refine And.intro rfl ?_ | refine And.intro (incD (by omega)) ?_)) (by repeat ((conv => whnf); first | exact trivial | refine And.intro rfl ?_ | refine And.intro (incD (by omega)) ?_))
  refine wk_seq ⟨[(0, .own 0 0), (2, .d (dI s)), (4, .own 2 0)], tel c l ++ [(2, .blk 25 [.d (.int .i64 7), .d (.int .i64 n), .d (slD 16 ls.length (encS ls)), .d (slD 64 ks.length (encGs ks))])], 3⟩ (wk_vc txok mixed [] ?_) ?_
  · cases c
    all_goals
      repeat' ((conv => whnf); first | (refine And.intro (fun hf => ?_) (fun hf => ?_) <;> first | exact Bool.noConfusion hf | (rw [hne] at hf; exact Bool.noConfusion hf) | skip) | refine callF hb gf48 rfl rfl ?_)
      exact weak_of rfl (by repeat ((conv => whnf); first | exact trivial | refine And.intro rfl ?_ | refine And.intro (incD (by omega)) ?_)) (by repeat ((conv => whnf); first | exact trivial | refine And.intro rfl ?_ | refine And.intro (incD (by omega)) ?_))
  refine wk_seq ⟨[(64, .d (.int .i64 7)), (0, .own 0 0), (2, .d (dI s)), (4, .own 2 0)], tel c l ++ [(2, .blk 25 [.d (.int .i64 7), .d (.int .i64 n), .d (slD 16 ls.length (encS ls)), .d (slD 64 ks.length (encGs ks))])], 3⟩ (wk_vc txok mixed [] ?_) ?_
  · cases c
    all_goals
      repeat' ((conv => whnf); first | (refine And.intro (fun hf => ?_) (fun hf => ?_) <;> first | exact Bool.noConfusion hf | skip))
      exact weak_of rfl (by repeat ((conv => whnf); first | exact trivial | refine And.intro rfl ?_ | refine And.intro (incD (by omega)) ?_)) (by repeat ((conv => whnf); first | exact trivial | refine And.intro rfl ?_ | refine And.intro (incD (by omega)) ?_))
  refine wk_block (fun j s h => h) ?_
  refine wk_seq ⟨[(92, .d (.bool false)), (64, .d (.int .i64 7)), (0, .own 0 0), (2, .d (dI s)), (4, .own 2 0)], tel c l ++ [(2, .blk 25 [.d (.int .i64 7), .d (.int .i64 n), .d (slD 16 ls.length (encS ls)), .d (slD 64 ks.length (encGs ks))])], 3⟩ (wk_vc txok mixed [] ?_) ?_
  · cases c
    all_goals
      repeat' ((conv => whnf); first | (refine And.intro (fun hf => ?_) (fun hf => ?_) <;> first | exact Bool.noConfusion hf | skip) | refine callF hb gf48 rfl rfl ?_)
      first | refine (weak_kbT 92 false (by exact rfl)).trans (weak_of rfl (by repeat ((conv => whnf); first | exact trivial | refine And.intro rfl ?_ | refine And.intro (incD (by omega)) ?_)) (by repeat ((conv => whnf); first | exact trivial | refine And.intro rfl ?_ | refine And.intro (incD (by omega)) ?_))) | exact weak_of rfl (by repeat ((conv => whnf); first | exact trivial | refine And.intro rfl ?_ | refine And.intro (incD (by omega)) ?_)) (by repeat ((conv => whnf); first | exact trivial | refine And.intro rfl ?_ | refine And.intro (incD (by omega)) ?_))
  refine wk_false rfl ?_
  refine wk_seq ⟨[(104, .d (.bool false)), (64, .d (.int .i64 7)), (0, .own 0 0), (2, .d (dI s)), (4, .own 2 0)], tel c l ++ [(2, .blk 25 [.d (.int .i64 7), .d (.int .i64 n), .d (slD 16 ls.length (encS ls)), .d (slD 64 ks.length (encGs ks))])], 3⟩ (wk_vc txok mixed [] ?_) ?_
  · cases c
    all_goals
      repeat' ((conv => whnf); first | (refine And.intro (fun hf => ?_) (fun hf => ?_) <;> first | exact Bool.noConfusion hf | skip) | refine callF hb gf48 rfl rfl ?_)
      first | refine (weak_kbT 104 false (by exact rfl)).trans (weak_of rfl (by repeat ((conv => whnf); first | exact trivial | refine And.intro rfl ?_ | refine And.intro (incD (by omega)) ?_)) (by repeat ((conv => whnf); first | exact trivial | refine And.intro rfl ?_ | refine And.intro (incD (by omega)) ?_))) | exact weak_of rfl (by repeat ((conv => whnf); first | exact trivial | refine And.intro rfl ?_ | refine And.intro (incD (by omega)) ?_)) (by repeat ((conv => whnf); first | exact trivial | refine And.intro rfl ?_ | refine And.intro (incD (by omega)) ?_))
  refine wk_false rfl ?_
  refine wk_seq ⟨[(111, .d (.bool false)), (64, .d (.int .i64 7)), (0, .own 0 0), (2, .d (dI s)), (4, .own 2 0)], tel c l ++ [(2, .blk 25 [.d (.int .i64 7), .d (.int .i64 n), .d (slD 16 ls.length (encS ls)), .d (slD 64 ks.length (encGs ks))])], 3⟩ (wk_vc txok mixed [] ?_) ?_
  · cases c
    all_goals
      repeat' ((conv => whnf); first | (refine And.intro (fun hf => ?_) (fun hf => ?_) <;> first | exact Bool.noConfusion hf | skip) | refine callF hb gf48 rfl rfl ?_)
      first | refine (weak_kbT 111 false (by exact rfl)).trans (weak_of rfl (by repeat ((conv => whnf); first | exact trivial | refine And.intro rfl ?_ | refine And.intro (incD (by omega)) ?_)) (by repeat ((conv => whnf); first | exact trivial | refine And.intro rfl ?_ | refine And.intro (incD (by omega)) ?_))) | exact weak_of rfl (by repeat ((conv => whnf); first | exact trivial | refine And.intro rfl ?_ | refine And.intro (incD (by omega)) ?_)) (by repeat ((conv => whnf); first | exact trivial | refine And.intro rfl ?_ | refine And.intro (incD (by omega)) ?_))
  refine wk_false rfl ?_
  refine wk_seq ⟨[(131, .d (.bool false)), (64, .d (.int .i64 7)), (0, .own 0 0), (2, .d (dI s)), (4, .own 2 0)], tel c l ++ [(2, .blk 25 [.d (.int .i64 7), .d (.int .i64 n), .d (slD 16 ls.length (encS ls)), .d (slD 64 ks.length (encGs ks))])], 3⟩ (wk_vc txok mixed [] ?_) ?_
  · cases c
    all_goals
      repeat' ((conv => whnf); first | (refine And.intro (fun hf => ?_) (fun hf => ?_) <;> first | exact Bool.noConfusion hf | skip) | refine callF hb gf48 rfl rfl ?_)
      first | refine (weak_kbT 131 false (by exact rfl)).trans (weak_of rfl (by repeat ((conv => whnf); first | exact trivial | refine And.intro rfl ?_ | refine And.intro (incD (by omega)) ?_)) (by repeat ((conv => whnf); first | exact trivial | refine And.intro rfl ?_ | refine And.intro (incD (by omega)) ?_))) | exact weak_of rfl (by repeat ((conv => whnf); first | exact trivial | refine And.intro rfl ?_ | refine And.intro (incD (by omega)) ?_)) (by repeat ((conv => whnf); first | exact trivial | refine And.intro rfl ?_ | refine And.intro (incD (by omega)) ?_))
  refine wk_false rfl ?_
  refine wk_seq ⟨[(159, .d (.bool true)), (64, .d (.int .i64 7)), (0, .own 0 0), (2, .d (dI s)), (4, .own 2 0)], tel c l ++ [(2, .blk 25 [.d (.int .i64 7), .d (.int .i64 n), .d (slD 16 ls.length (encS ls)), .d (slD 64 ks.length (encGs ks))])], 3⟩ (wk_vc txok mixed [] ?_) ?_
  · cases c
    all_goals
      repeat' ((conv => whnf); first | (refine And.intro (fun hf => ?_) (fun hf => ?_) <;> first | exact Bool.noConfusion hf | skip) | refine callF hb gf48 rfl rfl ?_)
      first | refine (weak_kbT 159 true (by exact rfl)).trans (weak_of rfl (by repeat ((conv => whnf); first | exact trivial | refine And.intro rfl ?_ | refine And.intro (incD (by omega)) ?_)) (by repeat ((conv => whnf); first | exact trivial | refine And.intro rfl ?_ | refine And.intro (incD (by omega)) ?_))) | exact weak_of rfl (by repeat ((conv => whnf); first | exact trivial | refine And.intro rfl ?_ | refine And.intro (incD (by omega)) ?_)) (by repeat ((conv => whnf); first | exact trivial | refine And.intro rfl ?_ | refine And.intro (incD (by omega)) ?_))
  refine wk_true rfl ?_
  refine wk_vc txok mixed [] ?_
  cases c
  all_goals
    conv => whnf
    first
      | refine callT [0, 1] (hL false) gf59 rfl rfl ⟨rfl, rfl, trivial⟩ rfl ?_
      | refine callT [0, 1] (hL true) gf59 rfl rfl ⟨rfl, rfl, trivial⟩ rfl ?_
    rintro o' H' ⟨rfl, rfl⟩
    conv => whnf
    exact ⟨rfl, rfl⟩
set_option maxRecDepth 20000 in
theorem typ8_tri (n : Int) (ls : List ByteArray) (ks : List TG) (hin : ∀ t ∈ ks, InOk t) (hi : ∀ t ∈ ks, i64G t) (s : List Int) (c : Bool) (l : List UInt8) (hs : s.length + szs szB ks + szs ByteArray.size ls < 1099511627775) (hl : l.length + 100 * szs szB ks + szs ByteArray.size ls < 1099511625900) : Tri Tryz.prog GT 29 2 0 [.own 0 0, .d (dG (.mk 8 n ls ks)), .d (dI s)] (tel c l) (told (l ++ ([91] ++ (itemsTo false ls (txs ks s) (txs ks s).length ++ [93])))) := by
  have hb := FnR_up (binder_fn (.mk 8 n ls ks))
  have hL := fun c => list8_tri n ls ks hin hi s c l hs hl
  generalize itemsTo false ls (txs ks s) (txs ks s).length = x at *
  refine tri_of_wk (N := 166) txok mixed [] Tryz.func29 rfl rfl (by simp) fun b => ?_
  refine wk_seq ⟨[(0, .own 0 0), (2, .d (dI s)), (4, .own 2 0)], tel c l ++ [(2, .blk 25 [.d (.int .i64 8), .d (.int .i64 n), .d (slD 16 ls.length (encS ls)), .d (slD 64 ks.length (encGs ks))])], 3⟩ (wk_vc txok mixed [] ?_) ?_
  · cases c
    all_goals
      repeat' ((conv => whnf); first | (refine And.intro (fun hf => ?_) (fun hf => ?_) <;> first | exact Bool.noConfusion hf | skip))
      exact weak_of rfl (by repeat ((conv => whnf); first | exact trivial | refine And.intro rfl ?_ | refine And.intro (incD (by omega)) ?_)) (by repeat ((conv => whnf); first | exact trivial | refine And.intro rfl ?_ | refine And.intro (incD (by omega)) ?_))
  refine wk_seq ⟨[(6, .d (.int .i64 0)), (0, .own 0 0), (2, .d (dI s)), (4, .own 2 0)], tel c l ++ [(2, .blk 25 [.d (.int .i64 8), .d (.int .i64 n), .d (slD 16 ls.length (encS ls)), .d (slD 64 ks.length (encGs ks))])], 3⟩ (wk_vc txok mixed [] ?_) ?_
  · cases c
    all_goals
      repeat' ((conv => whnf); first | (refine And.intro (fun hf => ?_) (fun hf => ?_) <;> first | exact Bool.noConfusion hf | skip))
      exact weak_of rfl (by repeat ((conv => whnf); first | exact trivial | refine And.intro rfl ?_ | refine And.intro (incD (by omega)) ?_)) (by repeat ((conv => whnf); first | exact trivial | refine And.intro rfl ?_ | refine And.intro (incD (by omega)) ?_))
  refine wk_seq ⟨[(6, .d (.int .i64 0)), (0, .own 0 0), (2, .d (dI s)), (4, .own 2 0)], tel c l ++ [(2, .blk 25 [.d (.int .i64 8), .d (.int .i64 n), .d (slD 16 ls.length (encS ls)), .d (slD 64 ks.length (encGs ks))])], 3⟩ (wk_vc txok mixed [] ?_) ?_
  · cases c
    all_goals
      repeat' ((conv => whnf); first | (refine And.intro (fun hf => ?_) (fun hf => ?_) <;> first | exact Bool.noConfusion hf | skip) | refine callF hb gf48 rfl rfl ?_)
      exact weak_of rfl (by repeat ((conv => whnf); first | exact trivial | refine And.intro rfl ?_ | refine And.intro (incD (by omega)) ?_)) (by repeat ((conv => whnf); first | exact trivial | refine And.intro rfl ?_ | refine And.intro (incD (by omega)) ?_))
  refine wk_seq ⟨[(7, .d (.bool true)), (6, .d (.int .i64 0)), (0, .own 0 0), (2, .d (dI s)), (4, .own 2 0)], tel c l ++ [(2, .blk 25 [.d (.int .i64 8), .d (.int .i64 n), .d (slD 16 ls.length (encS ls)), .d (slD 64 ks.length (encGs ks))])], 3⟩ (wk_vc txok mixed [] ?_) ?_
  · cases c
    all_goals
      repeat' ((conv => whnf); first | (refine And.intro (fun hf => ?_) (fun hf => ?_) <;> first | exact Bool.noConfusion hf | skip) | refine callF hb gf48 rfl rfl ?_)
      first | refine (weak_kbT 7 true (by exact rfl)).trans (weak_of rfl (by repeat ((conv => whnf); first | exact trivial | refine And.intro rfl ?_ | refine And.intro (incD (by omega)) ?_)) (by repeat ((conv => whnf); first | exact trivial | refine And.intro rfl ?_ | refine And.intro (incD (by omega)) ?_))) | exact weak_of rfl (by repeat ((conv => whnf); first | exact trivial | refine And.intro rfl ?_ | refine And.intro (incD (by omega)) ?_)) (by repeat ((conv => whnf); first | exact trivial | refine And.intro rfl ?_ | refine And.intro (incD (by omega)) ?_))
  refine wk_seq ⟨[(0, .own 0 0), (2, .d (dI s)), (4, .own 2 0)], tel c l ++ [(2, .blk 25 [.d (.int .i64 8), .d (.int .i64 n), .d (slD 16 ls.length (encS ls)), .d (slD 64 ks.length (encGs ks))])], 3⟩ (wk_vc txok mixed [] ?_) ?_
  · cases c
    all_goals
      repeat' ((conv => whnf); first | (refine And.intro (fun hf => ?_) (fun hf => ?_) <;> first | exact Bool.noConfusion hf | skip) | refine callF hb gf48 rfl rfl ?_)
      exact weak_of rfl (by repeat ((conv => whnf); first | exact trivial | refine And.intro rfl ?_ | refine And.intro (incD (by omega)) ?_)) (by repeat ((conv => whnf); first | exact trivial | refine And.intro rfl ?_ | refine And.intro (incD (by omega)) ?_))
  refine wk_seq ⟨[(64, .d (.int .i64 8)), (0, .own 0 0), (2, .d (dI s)), (4, .own 2 0)], tel c l ++ [(2, .blk 25 [.d (.int .i64 8), .d (.int .i64 n), .d (slD 16 ls.length (encS ls)), .d (slD 64 ks.length (encGs ks))])], 3⟩ (wk_vc txok mixed [] ?_) ?_
  · cases c
    all_goals
      repeat' ((conv => whnf); first | (refine And.intro (fun hf => ?_) (fun hf => ?_) <;> first | exact Bool.noConfusion hf | skip))
      exact weak_of rfl (by repeat ((conv => whnf); first | exact trivial | refine And.intro rfl ?_ | refine And.intro (incD (by omega)) ?_)) (by repeat ((conv => whnf); first | exact trivial | refine And.intro rfl ?_ | refine And.intro (incD (by omega)) ?_))
  refine wk_block (fun j s h => h) ?_
  refine wk_seq ⟨[(92, .d (.bool false)), (64, .d (.int .i64 8)), (0, .own 0 0), (2, .d (dI s)), (4, .own 2 0)], tel c l ++ [(2, .blk 25 [.d (.int .i64 8), .d (.int .i64 n), .d (slD 16 ls.length (encS ls)), .d (slD 64 ks.length (encGs ks))])], 3⟩ (wk_vc txok mixed [] ?_) ?_
  · cases c
    all_goals
      repeat' ((conv => whnf); first | (refine And.intro (fun hf => ?_) (fun hf => ?_) <;> first | exact Bool.noConfusion hf | skip) | refine callF hb gf48 rfl rfl ?_)
      first | refine (weak_kbT 92 false (by exact rfl)).trans (weak_of rfl (by repeat ((conv => whnf); first | exact trivial | refine And.intro rfl ?_ | refine And.intro (incD (by omega)) ?_)) (by repeat ((conv => whnf); first | exact trivial | refine And.intro rfl ?_ | refine And.intro (incD (by omega)) ?_))) | exact weak_of rfl (by repeat ((conv => whnf); first | exact trivial | refine And.intro rfl ?_ | refine And.intro (incD (by omega)) ?_)) (by repeat ((conv => whnf); first | exact trivial | refine And.intro rfl ?_ | refine And.intro (incD (by omega)) ?_))
  refine wk_false rfl ?_
  refine wk_seq ⟨[(104, .d (.bool false)), (64, .d (.int .i64 8)), (0, .own 0 0), (2, .d (dI s)), (4, .own 2 0)], tel c l ++ [(2, .blk 25 [.d (.int .i64 8), .d (.int .i64 n), .d (slD 16 ls.length (encS ls)), .d (slD 64 ks.length (encGs ks))])], 3⟩ (wk_vc txok mixed [] ?_) ?_
  · cases c
    all_goals
      repeat' ((conv => whnf); first | (refine And.intro (fun hf => ?_) (fun hf => ?_) <;> first | exact Bool.noConfusion hf | skip) | refine callF hb gf48 rfl rfl ?_)
      first | refine (weak_kbT 104 false (by exact rfl)).trans (weak_of rfl (by repeat ((conv => whnf); first | exact trivial | refine And.intro rfl ?_ | refine And.intro (incD (by omega)) ?_)) (by repeat ((conv => whnf); first | exact trivial | refine And.intro rfl ?_ | refine And.intro (incD (by omega)) ?_))) | exact weak_of rfl (by repeat ((conv => whnf); first | exact trivial | refine And.intro rfl ?_ | refine And.intro (incD (by omega)) ?_)) (by repeat ((conv => whnf); first | exact trivial | refine And.intro rfl ?_ | refine And.intro (incD (by omega)) ?_))
  refine wk_false rfl ?_
  refine wk_seq ⟨[(111, .d (.bool false)), (64, .d (.int .i64 8)), (0, .own 0 0), (2, .d (dI s)), (4, .own 2 0)], tel c l ++ [(2, .blk 25 [.d (.int .i64 8), .d (.int .i64 n), .d (slD 16 ls.length (encS ls)), .d (slD 64 ks.length (encGs ks))])], 3⟩ (wk_vc txok mixed [] ?_) ?_
  · cases c
    all_goals
      repeat' ((conv => whnf); first | (refine And.intro (fun hf => ?_) (fun hf => ?_) <;> first | exact Bool.noConfusion hf | skip) | refine callF hb gf48 rfl rfl ?_)
      first | refine (weak_kbT 111 false (by exact rfl)).trans (weak_of rfl (by repeat ((conv => whnf); first | exact trivial | refine And.intro rfl ?_ | refine And.intro (incD (by omega)) ?_)) (by repeat ((conv => whnf); first | exact trivial | refine And.intro rfl ?_ | refine And.intro (incD (by omega)) ?_))) | exact weak_of rfl (by repeat ((conv => whnf); first | exact trivial | refine And.intro rfl ?_ | refine And.intro (incD (by omega)) ?_)) (by repeat ((conv => whnf); first | exact trivial | refine And.intro rfl ?_ | refine And.intro (incD (by omega)) ?_))
  refine wk_false rfl ?_
  refine wk_seq ⟨[(131, .d (.bool false)), (64, .d (.int .i64 8)), (0, .own 0 0), (2, .d (dI s)), (4, .own 2 0)], tel c l ++ [(2, .blk 25 [.d (.int .i64 8), .d (.int .i64 n), .d (slD 16 ls.length (encS ls)), .d (slD 64 ks.length (encGs ks))])], 3⟩ (wk_vc txok mixed [] ?_) ?_
  · cases c
    all_goals
      repeat' ((conv => whnf); first | (refine And.intro (fun hf => ?_) (fun hf => ?_) <;> first | exact Bool.noConfusion hf | skip) | refine callF hb gf48 rfl rfl ?_)
      first | refine (weak_kbT 131 false (by exact rfl)).trans (weak_of rfl (by repeat ((conv => whnf); first | exact trivial | refine And.intro rfl ?_ | refine And.intro (incD (by omega)) ?_)) (by repeat ((conv => whnf); first | exact trivial | refine And.intro rfl ?_ | refine And.intro (incD (by omega)) ?_))) | exact weak_of rfl (by repeat ((conv => whnf); first | exact trivial | refine And.intro rfl ?_ | refine And.intro (incD (by omega)) ?_)) (by repeat ((conv => whnf); first | exact trivial | refine And.intro rfl ?_ | refine And.intro (incD (by omega)) ?_))
  refine wk_false rfl ?_
  refine wk_seq ⟨[(159, .d (.bool true)), (64, .d (.int .i64 8)), (0, .own 0 0), (2, .d (dI s)), (4, .own 2 0)], tel c l ++ [(2, .blk 25 [.d (.int .i64 8), .d (.int .i64 n), .d (slD 16 ls.length (encS ls)), .d (slD 64 ks.length (encGs ks))])], 3⟩ (wk_vc txok mixed [] ?_) ?_
  · cases c
    all_goals
      repeat' ((conv => whnf); first | (refine And.intro (fun hf => ?_) (fun hf => ?_) <;> first | exact Bool.noConfusion hf | skip) | refine callF hb gf48 rfl rfl ?_)
      first | refine (weak_kbT 159 true (by exact rfl)).trans (weak_of rfl (by repeat ((conv => whnf); first | exact trivial | refine And.intro rfl ?_ | refine And.intro (incD (by omega)) ?_)) (by repeat ((conv => whnf); first | exact trivial | refine And.intro rfl ?_ | refine And.intro (incD (by omega)) ?_))) | exact weak_of rfl (by repeat ((conv => whnf); first | exact trivial | refine And.intro rfl ?_ | refine And.intro (incD (by omega)) ?_)) (by repeat ((conv => whnf); first | exact trivial | refine And.intro rfl ?_ | refine And.intro (incD (by omega)) ?_))
  refine wk_true rfl ?_
  refine wk_vc txok mixed [] ?_
  cases c
  all_goals
    conv => whnf
    first
      | refine callT [0, 1] (hL false) gf59 rfl rfl ⟨rfl, rfl, trivial⟩ rfl ?_
      | refine callT [0, 1] (hL true) gf59 rfl rfl ⟨rfl, rfl, trivial⟩ rfl ?_
    rintro o' H' ⟨rfl, rfl⟩
    conv => whnf
    exact ⟨rfl, rfl⟩
theorem idx80_9 (w : World) : (Instr.index 88 (.agg #[.string ⟨#[109, 117]⟩, .string ⟨#[97, 108, 108]⟩, .string ⟨#[115, 111, 109, 101]⟩]) (.int .i64 0)).run Tryz.prog w = .ok (.string ⟨#[109, 117]⟩) w := by
  simp [Instr.index, asIntOf, Go.run_underlying Tryz.underlying88, part, Tryz.sizeOf9, Tryz.isAgg9]
theorem idx80_10 (w : World) : (Instr.index 88 (.agg #[.string ⟨#[109, 117]⟩, .string ⟨#[97, 108, 108]⟩, .string ⟨#[115, 111, 109, 101]⟩]) (.int .i64 1)).run Tryz.prog w = .ok (.string ⟨#[97, 108, 108]⟩) w := by
  simp [Instr.index, asIntOf, Go.run_underlying Tryz.underlying88, part, Tryz.sizeOf9, Tryz.isAgg9]
theorem idx80_11 (w : World) : (Instr.index 88 (.agg #[.string ⟨#[109, 117]⟩, .string ⟨#[97, 108, 108]⟩, .string ⟨#[115, 111, 109, 101]⟩]) (.int .i64 2)).run Tryz.prog w = .ok (.string ⟨#[115, 111, 109, 101]⟩) w := by
  simp [Instr.index, asIntOf, Go.run_underlying Tryz.underlying88, part, Tryz.sizeOf9, Tryz.isAgg9]
def bndS (w : ByteArray) (n : Int) : ByteArray := w ++ ⟨#[32, 116]⟩ ++ itA n ++ ⟨#[46, 32]⟩
theorem bndS_toList (w : ByteArray) (n : Int) : (bndS w n).data.toList = w.data.toList ++ ([32, 116] ++ (itoa n ++ [46, 32])) := by
  unfold bndS; simp [itA]
theorem bndS_size (w : ByteArray) (n : Int) (hn : -9223372036854775808 ≤ n ∧ n ≤ 9223372036854775807) : (bndS w n).size ≤ w.size + 24 := by
  unfold bndS
  have h1 := itA_size n
  have h2 := itoa_len20 (n := n) hn
  have h3 : (⟨#[32, 116]⟩ : ByteArray).size = 2 := rfl
  have h4 : (⟨#[46, 32]⟩ : ByteArray).size = 2 := rfl
  simp only [ByteArray.size_append]
  omega
theorem snocT {G : Glob} {n0 N : Nat} {b : Bs G n0} {kp : Bool} {o : Oper} {st : Go.Vx.St} {K : SExit → Go.Vx.St → Prop} {y : Go.Vx.SV} {eb' : Nat} (s : List Int) (n : Int) (ho : appOf st.T o.op = some (.d (.csl eb' s.length (Go.Vx.encI s)), y, 29)) (hy : slOf st.H y = some (1, [.int .i64 n])) (hlen : s.length < 2199023255552)
    (hk : match st with
      | ⟨T, H, q⟩ => Go.Vx.putK N o.dst (.row q) ⟨T, (q, .row 3 8 1 (s ++ [n]).length (Go.Vx.encI (s ++ [n]))) :: H, q + 1⟩ (K .normal)) : OpC Tryz.prog b N kp o st K :=
  appC (el := 3) (eb := 8) (sz := 1) txok (s ++ [n]).length (Go.Vx.encI (s ++ [n])) ho hy (by kernel_rfl) (by decide) (by rw [encI_len, Nat.mul_one]) (encI_scal s) rfl (fun d hd => by simp at hd; subst hd; rfl) (by simp only [LB]; omega) (by simp) (encI_snoc s n) hk
set_option maxRecDepth 20000 in
set_option maxHeartbeats 2000000 in
theorem typ9_tri (n : Int) (ls : List ByteArray) (u : TG) (hu : TypOk u) (s : List Int) (c : Bool) (l : List UInt8) (hs : s.length + szB u < 1099511627775) (hl : l.length + 100 * szB u < 1099511625900) : Tri Tryz.prog GT 29 2 0 [.own 0 0, .d (dG (.mk 9 n ls [u])), .d (dI s)] (tel c l) (told (l ++ ([109, 117] ++ ([32, 116] ++ (itoa s.length ++ ([46, 32] ++ txG u (s ++ [n]))))))) := by
  have hb := FnR_up (binder_fn (.mk 9 n ls [u]))
  have hz := itA_size (s.length : Int)
  have hz2 := itoa_len20 (n := (s.length : Int)) ⟨by omega, by omega⟩
  have hw := bndS_toList ⟨#[109, 117]⟩ (s.length : Int)
  have hw2 := bndS_size ⟨#[109, 117]⟩ (s.length : Int) ⟨by omega, by omega⟩
  have hw3 : (⟨#[109, 117]⟩ : ByteArray).size ≤ 4 := by decide
  have hw4 : (⟨#[32, 116]⟩ : ByteArray).size = 2 := rfl
  have hw5 : (⟨#[46, 32]⟩ : ByteArray).size = 2 := rfl
  have hwl : (bndS ⟨#[109, 117]⟩ (s.length : Int)).data.toList.length ≤ 30 := by rw [Array.length_toList]; show (bndS ⟨#[109, 117]⟩ (s.length : Int)).size ≤ _; omega
  have hT := hu (s ++ [n]) true (l ++ (bndS ⟨#[109, 117]⟩ (s.length : Int)).data.toList) (by simp only [List.length_append, List.length_cons, List.length_nil]; omega) (by simp only [List.length_append]; omega)
  have hi := FnR_up (clip_fn s)
  have hI := itoaT_fn (s.length : Int) (by omega) (by omega)
  refine tri_of_wk (N := 166) txok mixed [] Tryz.func29 rfl rfl (by simp) fun b => ?_
  refine wk_seq ⟨[(0, .own 0 0), (2, .d (dI s)), (4, .own 2 0)], tel c l ++ [(2, .blk 25 [.d (.int .i64 9), .d (.int .i64 n), .d (slD 16 ls.length (encS ls)), .d (slD 64 1 (encGs [u]))])], 3⟩ (wk_vc txok mixed [] ?_) ?_
  · cases c
    all_goals
      repeat' ((conv => whnf); first | (refine And.intro (fun hf => ?_) (fun hf => ?_) <;> first | exact Bool.noConfusion hf | skip))
      exact weak_of rfl (by repeat ((conv => whnf); first | exact trivial | refine And.intro rfl ?_ | refine And.intro (incD (by omega)) ?_)) (by repeat ((conv => whnf); first | exact trivial | refine And.intro rfl ?_ | refine And.intro (incD (by omega)) ?_))
  refine wk_seq ⟨[(6, .d (.int .i64 0)), (0, .own 0 0), (2, .d (dI s)), (4, .own 2 0)], tel c l ++ [(2, .blk 25 [.d (.int .i64 9), .d (.int .i64 n), .d (slD 16 ls.length (encS ls)), .d (slD 64 1 (encGs [u]))])], 3⟩ (wk_vc txok mixed [] ?_) ?_
  · cases c
    all_goals
      repeat' ((conv => whnf); first | (refine And.intro (fun hf => ?_) (fun hf => ?_) <;> first | exact Bool.noConfusion hf | skip))
      exact weak_of rfl (by repeat ((conv => whnf); first | exact trivial | refine And.intro rfl ?_ | refine And.intro (incD (by omega)) ?_)) (by repeat ((conv => whnf); first | exact trivial | refine And.intro rfl ?_ | refine And.intro (incD (by omega)) ?_))
  refine wk_seq ⟨[(6, .d (.int .i64 1)), (0, .own 0 0), (2, .d (dI s)), (4, .own 2 0)], tel c l ++ [(2, .blk 25 [.d (.int .i64 9), .d (.int .i64 n), .d (slD 16 ls.length (encS ls)), .d (slD 64 1 (encGs [u]))])], 3⟩ (wk_vc txok mixed [] ?_) ?_
  · cases c
    all_goals
      repeat' ((conv => whnf); first | (refine And.intro (fun hf => ?_) (fun hf => ?_) <;> first | exact Bool.noConfusion hf | skip) | refine callF hb gf48 rfl rfl ?_)
      exact weak_of rfl (by repeat ((conv => whnf); first | exact trivial | refine And.intro rfl ?_ | refine And.intro (incD (by omega)) ?_)) (by repeat ((conv => whnf); first | exact trivial | refine And.intro rfl ?_ | refine And.intro (incD (by omega)) ?_))
  refine wk_seq ⟨[(7, .d (.bool false)), (6, .d (.int .i64 1)), (0, .own 0 0), (2, .d (dI s)), (4, .own 2 0)], tel c l ++ [(2, .blk 25 [.d (.int .i64 9), .d (.int .i64 n), .d (slD 16 ls.length (encS ls)), .d (slD 64 1 (encGs [u]))])], 3⟩ (wk_vc txok mixed [] ?_) ?_
  · cases c
    all_goals
      repeat' ((conv => whnf); first | (refine And.intro (fun hf => ?_) (fun hf => ?_) <;> first | exact Bool.noConfusion hf | skip) | refine callF hb gf48 rfl rfl ?_)
      first | refine (weak_kbT 7 false (by exact rfl)).trans (weak_of rfl (by repeat ((conv => whnf); first | exact trivial | refine And.intro rfl ?_ | refine And.intro (incD (by omega)) ?_)) (by repeat ((conv => whnf); first | exact trivial | refine And.intro rfl ?_ | refine And.intro (incD (by omega)) ?_))) | exact weak_of rfl (by repeat ((conv => whnf); first | exact trivial | refine And.intro rfl ?_ | refine And.intro (incD (by omega)) ?_)) (by repeat ((conv => whnf); first | exact trivial | refine And.intro rfl ?_ | refine And.intro (incD (by omega)) ?_))
  refine wk_seq ⟨[(0, .own 0 0), (2, .d (dI s)), (4, .own 2 0)], tel c l ++ [(2, .blk 25 [.d (.int .i64 9), .d (.int .i64 n), .d (slD 16 ls.length (encS ls)), .d (slD 64 1 (encGs [u]))])], 3⟩ (wk_vc txok mixed [] ?_) ?_
  · cases c
    all_goals
      repeat' ((conv => whnf); first | (refine And.intro (fun hf => ?_) (fun hf => ?_) <;> first | exact Bool.noConfusion hf | skip) | refine callF hb gf48 rfl rfl ?_)
      exact weak_of rfl (by repeat ((conv => whnf); first | exact trivial | refine And.intro rfl ?_ | refine And.intro (incD (by omega)) ?_)) (by repeat ((conv => whnf); first | exact trivial | refine And.intro rfl ?_ | refine And.intro (incD (by omega)) ?_))
  refine wk_seq ⟨[(64, .d (.int .i64 9)), (0, .own 0 0), (2, .d (dI s)), (4, .own 2 0)], tel c l ++ [(2, .blk 25 [.d (.int .i64 9), .d (.int .i64 n), .d (slD 16 ls.length (encS ls)), .d (slD 64 1 (encGs [u]))])], 3⟩ (wk_vc txok mixed [] ?_) ?_
  · cases c
    all_goals
      repeat' ((conv => whnf); first | (refine And.intro (fun hf => ?_) (fun hf => ?_) <;> first | exact Bool.noConfusion hf | skip))
      exact weak_of rfl (by repeat ((conv => whnf); first | exact trivial | refine And.intro rfl ?_ | refine And.intro (incD (by omega)) ?_)) (by repeat ((conv => whnf); first | exact trivial | refine And.intro rfl ?_ | refine And.intro (incD (by omega)) ?_))
  refine wk_block (fun j s h => h) ?_
  refine wk_seq ⟨[(92, .d (.bool false)), (64, .d (.int .i64 9)), (0, .own 0 0), (2, .d (dI s)), (4, .own 2 0)], tel c l ++ [(2, .blk 25 [.d (.int .i64 9), .d (.int .i64 n), .d (slD 16 ls.length (encS ls)), .d (slD 64 1 (encGs [u]))])], 3⟩ (wk_vc txok mixed [] ?_) ?_
  · cases c
    all_goals
      repeat' ((conv => whnf); first | (refine And.intro (fun hf => ?_) (fun hf => ?_) <;> first | exact Bool.noConfusion hf | skip) | refine callF hb gf48 rfl rfl ?_)
      first | refine (weak_kbT 92 false (by exact rfl)).trans (weak_of rfl (by repeat ((conv => whnf); first | exact trivial | refine And.intro rfl ?_ | refine And.intro (incD (by omega)) ?_)) (by repeat ((conv => whnf); first | exact trivial | refine And.intro rfl ?_ | refine And.intro (incD (by omega)) ?_))) | exact weak_of rfl (by repeat ((conv => whnf); first | exact trivial | refine And.intro rfl ?_ | refine And.intro (incD (by omega)) ?_)) (by repeat ((conv => whnf); first | exact trivial | refine And.intro rfl ?_ | refine And.intro (incD (by omega)) ?_))
  refine wk_false rfl ?_
  refine wk_seq ⟨[(104, .d (.bool false)), (64, .d (.int .i64 9)), (0, .own 0 0), (2, .d (dI s)), (4, .own 2 0)], tel c l ++ [(2, .blk 25 [.d (.int .i64 9), .d (.int .i64 n), .d (slD 16 ls.length (encS ls)), .d (slD 64 1 (encGs [u]))])], 3⟩ (wk_vc txok mixed [] ?_) ?_
  · cases c
    all_goals
      repeat' ((conv => whnf); first | (refine And.intro (fun hf => ?_) (fun hf => ?_) <;> first | exact Bool.noConfusion hf | skip) | refine callF hb gf48 rfl rfl ?_)
      first | refine (weak_kbT 104 false (by exact rfl)).trans (weak_of rfl (by repeat ((conv => whnf); first | exact trivial | refine And.intro rfl ?_ | refine And.intro (incD (by omega)) ?_)) (by repeat ((conv => whnf); first | exact trivial | refine And.intro rfl ?_ | refine And.intro (incD (by omega)) ?_))) | exact weak_of rfl (by repeat ((conv => whnf); first | exact trivial | refine And.intro rfl ?_ | refine And.intro (incD (by omega)) ?_)) (by repeat ((conv => whnf); first | exact trivial | refine And.intro rfl ?_ | refine And.intro (incD (by omega)) ?_))
  refine wk_false rfl ?_
  refine wk_seq ⟨[(111, .d (.bool false)), (64, .d (.int .i64 9)), (0, .own 0 0), (2, .d (dI s)), (4, .own 2 0)], tel c l ++ [(2, .blk 25 [.d (.int .i64 9), .d (.int .i64 n), .d (slD 16 ls.length (encS ls)), .d (slD 64 1 (encGs [u]))])], 3⟩ (wk_vc txok mixed [] ?_) ?_
  · cases c
    all_goals
      repeat' ((conv => whnf); first | (refine And.intro (fun hf => ?_) (fun hf => ?_) <;> first | exact Bool.noConfusion hf | skip) | refine callF hb gf48 rfl rfl ?_)
      first | refine (weak_kbT 111 false (by exact rfl)).trans (weak_of rfl (by repeat ((conv => whnf); first | exact trivial | refine And.intro rfl ?_ | refine And.intro (incD (by omega)) ?_)) (by repeat ((conv => whnf); first | exact trivial | refine And.intro rfl ?_ | refine And.intro (incD (by omega)) ?_))) | exact weak_of rfl (by repeat ((conv => whnf); first | exact trivial | refine And.intro rfl ?_ | refine And.intro (incD (by omega)) ?_)) (by repeat ((conv => whnf); first | exact trivial | refine And.intro rfl ?_ | refine And.intro (incD (by omega)) ?_))
  refine wk_false rfl ?_
  refine wk_seq ⟨[(131, .d (.bool false)), (64, .d (.int .i64 9)), (0, .own 0 0), (2, .d (dI s)), (4, .own 2 0)], tel c l ++ [(2, .blk 25 [.d (.int .i64 9), .d (.int .i64 n), .d (slD 16 ls.length (encS ls)), .d (slD 64 1 (encGs [u]))])], 3⟩ (wk_vc txok mixed [] ?_) ?_
  · cases c
    all_goals
      repeat' ((conv => whnf); first | (refine And.intro (fun hf => ?_) (fun hf => ?_) <;> first | exact Bool.noConfusion hf | skip) | refine callF hb gf48 rfl rfl ?_)
      first | refine (weak_kbT 131 false (by exact rfl)).trans (weak_of rfl (by repeat ((conv => whnf); first | exact trivial | refine And.intro rfl ?_ | refine And.intro (incD (by omega)) ?_)) (by repeat ((conv => whnf); first | exact trivial | refine And.intro rfl ?_ | refine And.intro (incD (by omega)) ?_))) | exact weak_of rfl (by repeat ((conv => whnf); first | exact trivial | refine And.intro rfl ?_ | refine And.intro (incD (by omega)) ?_)) (by repeat ((conv => whnf); first | exact trivial | refine And.intro rfl ?_ | refine And.intro (incD (by omega)) ?_))
  refine wk_false rfl ?_
  refine wk_seq ⟨[(159, .d (.bool false)), (64, .d (.int .i64 9)), (0, .own 0 0), (2, .d (dI s)), (4, .own 2 0)], tel c l ++ [(2, .blk 25 [.d (.int .i64 9), .d (.int .i64 n), .d (slD 16 ls.length (encS ls)), .d (slD 64 1 (encGs [u]))])], 3⟩ (wk_vc txok mixed [] ?_) ?_
  · cases c
    all_goals
      repeat' ((conv => whnf); first | (refine And.intro (fun hf => ?_) (fun hf => ?_) <;> first | exact Bool.noConfusion hf | skip) | refine callF hb gf48 rfl rfl ?_)
      first | refine (weak_kbT 159 false (by exact rfl)).trans (weak_of rfl (by repeat ((conv => whnf); first | exact trivial | refine And.intro rfl ?_ | refine And.intro (incD (by omega)) ?_)) (by repeat ((conv => whnf); first | exact trivial | refine And.intro rfl ?_ | refine And.intro (incD (by omega)) ?_))) | exact weak_of rfl (by repeat ((conv => whnf); first | exact trivial | refine And.intro rfl ?_ | refine And.intro (incD (by omega)) ?_)) (by repeat ((conv => whnf); first | exact trivial | refine And.intro rfl ?_ | refine And.intro (incD (by omega)) ?_))
  refine wk_false rfl ?_
  refine wk_seq ⟨[(0, .own 0 0), (2, .d (dI s)), (4, .own 2 0)], tel true (l ++ (bndS ⟨#[109, 117]⟩ (s.length : Int)).data.toList) ++ [(2, .blk 25 [.d (.int .i64 9), .d (.int .i64 n), .d (slD 16 ls.length (encS ls)), .d (slD 64 1 (encGs [u]))])], 3⟩ (wk_vc txok mixed [(11, .pure 0 (.pure 1 (.pure 2 (.pure 4 (.take 5 (.pure 6 (.pure 9 (.pure 10 (.two 3 11 (.two 7 11 (.pure 8 (.run 11 (.pure 12 (.pure 13 (.fin 14 .done))))) (.run 7 (.pure 8 (.pure 12 (.pure 13 (.fin 14 .done)))))) (.run 3 (.run 7 (.pure 8 (.pure 12 (.pure 13 (.fin 14 .done))))))))))))))), (16, .pure 0 (.pure 1 (.pure 2 (.pure 3 (.pure 4 (.take 5 (.pure 6 (.fin 7 .done)))))))), (11, .pure 0 (.pure 1 (.pure 2 (.pure 3 (.pure 4 (.take 5 (.pure 6 (.pure 7 (.pure 8 (.pure 9 (.pure 10 (.run 11 (.pure 12 (.pure 13 (.fin 14 .done))))))))))))))), (12, .pure 0 (.pure 1 (.take 2 (.pure 3 (.pure 5 (.pure 7 (.take 8 (.three 4 6 9 (.two 6 9 (.run 9 (.run 10 (.fin 11 .done))) (.run 6 (.run 10 (.fin 11 .done)))) (.two 4 9 (.run 9 (.run 10 (.fin 11 .done))) (.two 4 10 (.run 10 (.fin 11 .done)) (.run 4 (.fin 11 .done)))) (.two 4 6 (.run 6 (.run 10 (.fin 11 .done))) (.two 4 10 (.run 10 (.fin 11 .done)) (.run 4 (.fin 11 .done))))))))))))] ?_) ?_
  · cases c
    all_goals
      conv => whnf
      refine And.intro (by kernel_rfl) ?_
      repeat'
        first
          | exact Nat.le_of_ble_eq_true rfl
          | (simp only [ByteArray.size_append]; omega)
          | ((conv => whnf); first
          | refine And.intro ?_ ?_
          | refine valKC arr80 bld80 ?_
          | refine idxKC (j := 0) ⟨#[109, 117]⟩ (by exact rfl) (by exact rfl) (by exact rfl) Tryz.underlying88 idx80_9 ?_
          | refine callF hI gf60 (by exact rfl) (by exact rfl) ?_
          | refine callT [0, 1] (Tri_up (wStr_tri false l (bndS ⟨#[109, 117]⟩ (s.length : Int)) (by omega) (by omega))) gf56 (by exact rfl) (by exact rfl) ⟨rfl, rfl, trivial⟩ rfl ?_
          | refine callT [0, 1] (Tri_up (wStr_tri true l (bndS ⟨#[109, 117]⟩ (s.length : Int)) (by omega) (by omega))) gf56 (by exact rfl) (by exact rfl) ⟨rfl, rfl, trivial⟩ rfl ?_)
      all_goals rintro o' H' ⟨rfl, rfl⟩
      all_goals (conv => whnf)
      all_goals exact weak_of rfl (by repeat ((conv => whnf); first | exact trivial | refine And.intro rfl ?_ | refine And.intro (incD (by omega)) ?_)) (by repeat ((conv => whnf); first | exact trivial | refine And.intro rfl ?_ | refine And.intro (incD (by omega)) ?_))
  refine wk_vc txok mixed [(16, .pure 0 (.pure 1 (.pure 2 (.pure 3 (.pure 4 (.take 5 (.pure 6 (.fin 7 .done)))))))), (11, .pure 0 (.pure 1 (.pure 2 (.pure 3 (.pure 4 (.take 5 (.pure 6 (.pure 7 (.pure 8 (.pure 9 (.pure 10 (.run 11 (.pure 12 (.pure 13 (.fin 14 .done))))))))))))))), (12, .pure 0 (.pure 1 (.take 2 (.pure 3 (.pure 5 (.pure 7 (.take 8 (.three 4 6 9 (.two 6 9 (.run 9 (.run 10 (.fin 11 .done))) (.run 6 (.run 10 (.fin 11 .done)))) (.two 4 9 (.run 9 (.run 10 (.fin 11 .done))) (.two 4 10 (.run 10 (.fin 11 .done)) (.run 4 (.fin 11 .done)))) (.two 4 6 (.run 6 (.run 10 (.fin 11 .done))) (.two 4 10 (.run 10 (.fin 11 .done)) (.run 4 (.fin 11 .done))))))))))))] ?_
  conv => whnf
  refine And.intro (by kernel_rfl) ?_
  repeat'
    ((conv => whnf); first
      | refine And.intro ?_ ?_
      | refine IdxC.encGs (l := [u]) 0 (by show 0 < 1; decide) rfl ?_
      | refine callF hi gf49 rfl rfl ?_
      | refine snocT s n rfl rfl (by omega) ?_)
  all_goals (conv => whnf)
  all_goals refine pubC (fun i => Nat.ble 3 i) ?_
  all_goals (conv => whnf)
  all_goals refine callT [0, 1] hT gf29 rfl rfl ⟨rfl, rfl, trivial⟩ rfl ?_
  all_goals rintro o' H' ⟨rfl, rfl⟩
  all_goals (conv => whnf)
  all_goals exact ⟨rfl, congrArg (tel true) (by rw [hw]; simp only [List.append_assoc, List.cons_append, List.nil_append])⟩
set_option maxRecDepth 20000 in
set_option maxHeartbeats 2000000 in
theorem typ10_tri (n : Int) (ls : List ByteArray) (u : TG) (hu : TypOk u) (s : List Int) (c : Bool) (l : List UInt8) (hs : s.length + szB u < 1099511627775) (hl : l.length + 100 * szB u < 1099511625900) : Tri Tryz.prog GT 29 2 0 [.own 0 0, .d (dG (.mk 10 n ls [u])), .d (dI s)] (tel c l) (told (l ++ ([97, 108, 108] ++ ([32, 116] ++ (itoa s.length ++ ([46, 32] ++ txG u (s ++ [n]))))))) := by
  have hb := FnR_up (binder_fn (.mk 10 n ls [u]))
  have hz := itA_size (s.length : Int)
  have hz2 := itoa_len20 (n := (s.length : Int)) ⟨by omega, by omega⟩
  have hw := bndS_toList ⟨#[97, 108, 108]⟩ (s.length : Int)
  have hw2 := bndS_size ⟨#[97, 108, 108]⟩ (s.length : Int) ⟨by omega, by omega⟩
  have hw3 : (⟨#[97, 108, 108]⟩ : ByteArray).size ≤ 4 := by decide
  have hw4 : (⟨#[32, 116]⟩ : ByteArray).size = 2 := rfl
  have hw5 : (⟨#[46, 32]⟩ : ByteArray).size = 2 := rfl
  have hwl : (bndS ⟨#[97, 108, 108]⟩ (s.length : Int)).data.toList.length ≤ 30 := by rw [Array.length_toList]; show (bndS ⟨#[97, 108, 108]⟩ (s.length : Int)).size ≤ _; omega
  have hT := hu (s ++ [n]) true (l ++ (bndS ⟨#[97, 108, 108]⟩ (s.length : Int)).data.toList) (by simp only [List.length_append, List.length_cons, List.length_nil]; omega) (by simp only [List.length_append]; omega)
  have hi := FnR_up (clip_fn s)
  have hI := itoaT_fn (s.length : Int) (by omega) (by omega)
  refine tri_of_wk (N := 166) txok mixed [] Tryz.func29 rfl rfl (by simp) fun b => ?_
  refine wk_seq ⟨[(0, .own 0 0), (2, .d (dI s)), (4, .own 2 0)], tel c l ++ [(2, .blk 25 [.d (.int .i64 10), .d (.int .i64 n), .d (slD 16 ls.length (encS ls)), .d (slD 64 1 (encGs [u]))])], 3⟩ (wk_vc txok mixed [] ?_) ?_
  · cases c
    all_goals
      repeat' ((conv => whnf); first | (refine And.intro (fun hf => ?_) (fun hf => ?_) <;> first | exact Bool.noConfusion hf | skip))
      exact weak_of rfl (by repeat ((conv => whnf); first | exact trivial | refine And.intro rfl ?_ | refine And.intro (incD (by omega)) ?_)) (by repeat ((conv => whnf); first | exact trivial | refine And.intro rfl ?_ | refine And.intro (incD (by omega)) ?_))
  refine wk_seq ⟨[(6, .d (.int .i64 0)), (0, .own 0 0), (2, .d (dI s)), (4, .own 2 0)], tel c l ++ [(2, .blk 25 [.d (.int .i64 10), .d (.int .i64 n), .d (slD 16 ls.length (encS ls)), .d (slD 64 1 (encGs [u]))])], 3⟩ (wk_vc txok mixed [] ?_) ?_
  · cases c
    all_goals
      repeat' ((conv => whnf); first | (refine And.intro (fun hf => ?_) (fun hf => ?_) <;> first | exact Bool.noConfusion hf | skip))
      exact weak_of rfl (by repeat ((conv => whnf); first | exact trivial | refine And.intro rfl ?_ | refine And.intro (incD (by omega)) ?_)) (by repeat ((conv => whnf); first | exact trivial | refine And.intro rfl ?_ | refine And.intro (incD (by omega)) ?_))
  refine wk_seq ⟨[(6, .d (.int .i64 1)), (0, .own 0 0), (2, .d (dI s)), (4, .own 2 0)], tel c l ++ [(2, .blk 25 [.d (.int .i64 10), .d (.int .i64 n), .d (slD 16 ls.length (encS ls)), .d (slD 64 1 (encGs [u]))])], 3⟩ (wk_vc txok mixed [] ?_) ?_
  · cases c
    all_goals
      repeat' ((conv => whnf); first | (refine And.intro (fun hf => ?_) (fun hf => ?_) <;> first | exact Bool.noConfusion hf | skip) | refine callF hb gf48 rfl rfl ?_)
      exact weak_of rfl (by repeat ((conv => whnf); first | exact trivial | refine And.intro rfl ?_ | refine And.intro (incD (by omega)) ?_)) (by repeat ((conv => whnf); first | exact trivial | refine And.intro rfl ?_ | refine And.intro (incD (by omega)) ?_))
  refine wk_seq ⟨[(7, .d (.bool false)), (6, .d (.int .i64 1)), (0, .own 0 0), (2, .d (dI s)), (4, .own 2 0)], tel c l ++ [(2, .blk 25 [.d (.int .i64 10), .d (.int .i64 n), .d (slD 16 ls.length (encS ls)), .d (slD 64 1 (encGs [u]))])], 3⟩ (wk_vc txok mixed [] ?_) ?_
  · cases c
    all_goals
      repeat' ((conv => whnf); first | (refine And.intro (fun hf => ?_) (fun hf => ?_) <;> first | exact Bool.noConfusion hf | skip) | refine callF hb gf48 rfl rfl ?_)
      first | refine (weak_kbT 7 false (by exact rfl)).trans (weak_of rfl (by repeat ((conv => whnf); first | exact trivial | refine And.intro rfl ?_ | refine And.intro (incD (by omega)) ?_)) (by repeat ((conv => whnf); first | exact trivial | refine And.intro rfl ?_ | refine And.intro (incD (by omega)) ?_))) | exact weak_of rfl (by repeat ((conv => whnf); first | exact trivial | refine And.intro rfl ?_ | refine And.intro (incD (by omega)) ?_)) (by repeat ((conv => whnf); first | exact trivial | refine And.intro rfl ?_ | refine And.intro (incD (by omega)) ?_))
  refine wk_seq ⟨[(0, .own 0 0), (2, .d (dI s)), (4, .own 2 0)], tel c l ++ [(2, .blk 25 [.d (.int .i64 10), .d (.int .i64 n), .d (slD 16 ls.length (encS ls)), .d (slD 64 1 (encGs [u]))])], 3⟩ (wk_vc txok mixed [] ?_) ?_
  · cases c
    all_goals
      repeat' ((conv => whnf); first | (refine And.intro (fun hf => ?_) (fun hf => ?_) <;> first | exact Bool.noConfusion hf | skip) | refine callF hb gf48 rfl rfl ?_)
      exact weak_of rfl (by repeat ((conv => whnf); first | exact trivial | refine And.intro rfl ?_ | refine And.intro (incD (by omega)) ?_)) (by repeat ((conv => whnf); first | exact trivial | refine And.intro rfl ?_ | refine And.intro (incD (by omega)) ?_))
  refine wk_seq ⟨[(64, .d (.int .i64 10)), (0, .own 0 0), (2, .d (dI s)), (4, .own 2 0)], tel c l ++ [(2, .blk 25 [.d (.int .i64 10), .d (.int .i64 n), .d (slD 16 ls.length (encS ls)), .d (slD 64 1 (encGs [u]))])], 3⟩ (wk_vc txok mixed [] ?_) ?_
  · cases c
    all_goals
      repeat' ((conv => whnf); first | (refine And.intro (fun hf => ?_) (fun hf => ?_) <;> first | exact Bool.noConfusion hf | skip))
      exact weak_of rfl (by repeat ((conv => whnf); first | exact trivial | refine And.intro rfl ?_ | refine And.intro (incD (by omega)) ?_)) (by repeat ((conv => whnf); first | exact trivial | refine And.intro rfl ?_ | refine And.intro (incD (by omega)) ?_))
  refine wk_block (fun j s h => h) ?_
  refine wk_seq ⟨[(92, .d (.bool false)), (64, .d (.int .i64 10)), (0, .own 0 0), (2, .d (dI s)), (4, .own 2 0)], tel c l ++ [(2, .blk 25 [.d (.int .i64 10), .d (.int .i64 n), .d (slD 16 ls.length (encS ls)), .d (slD 64 1 (encGs [u]))])], 3⟩ (wk_vc txok mixed [] ?_) ?_
  · cases c
    all_goals
      repeat' ((conv => whnf); first | (refine And.intro (fun hf => ?_) (fun hf => ?_) <;> first | exact Bool.noConfusion hf | skip) | refine callF hb gf48 rfl rfl ?_)
      first | refine (weak_kbT 92 false (by exact rfl)).trans (weak_of rfl (by repeat ((conv => whnf); first | exact trivial | refine And.intro rfl ?_ | refine And.intro (incD (by omega)) ?_)) (by repeat ((conv => whnf); first | exact trivial | refine And.intro rfl ?_ | refine And.intro (incD (by omega)) ?_))) | exact weak_of rfl (by repeat ((conv => whnf); first | exact trivial | refine And.intro rfl ?_ | refine And.intro (incD (by omega)) ?_)) (by repeat ((conv => whnf); first | exact trivial | refine And.intro rfl ?_ | refine And.intro (incD (by omega)) ?_))
  refine wk_false rfl ?_
  refine wk_seq ⟨[(104, .d (.bool false)), (64, .d (.int .i64 10)), (0, .own 0 0), (2, .d (dI s)), (4, .own 2 0)], tel c l ++ [(2, .blk 25 [.d (.int .i64 10), .d (.int .i64 n), .d (slD 16 ls.length (encS ls)), .d (slD 64 1 (encGs [u]))])], 3⟩ (wk_vc txok mixed [] ?_) ?_
  · cases c
    all_goals
      repeat' ((conv => whnf); first | (refine And.intro (fun hf => ?_) (fun hf => ?_) <;> first | exact Bool.noConfusion hf | skip) | refine callF hb gf48 rfl rfl ?_)
      first | refine (weak_kbT 104 false (by exact rfl)).trans (weak_of rfl (by repeat ((conv => whnf); first | exact trivial | refine And.intro rfl ?_ | refine And.intro (incD (by omega)) ?_)) (by repeat ((conv => whnf); first | exact trivial | refine And.intro rfl ?_ | refine And.intro (incD (by omega)) ?_))) | exact weak_of rfl (by repeat ((conv => whnf); first | exact trivial | refine And.intro rfl ?_ | refine And.intro (incD (by omega)) ?_)) (by repeat ((conv => whnf); first | exact trivial | refine And.intro rfl ?_ | refine And.intro (incD (by omega)) ?_))
  refine wk_false rfl ?_
  refine wk_seq ⟨[(111, .d (.bool false)), (64, .d (.int .i64 10)), (0, .own 0 0), (2, .d (dI s)), (4, .own 2 0)], tel c l ++ [(2, .blk 25 [.d (.int .i64 10), .d (.int .i64 n), .d (slD 16 ls.length (encS ls)), .d (slD 64 1 (encGs [u]))])], 3⟩ (wk_vc txok mixed [] ?_) ?_
  · cases c
    all_goals
      repeat' ((conv => whnf); first | (refine And.intro (fun hf => ?_) (fun hf => ?_) <;> first | exact Bool.noConfusion hf | skip) | refine callF hb gf48 rfl rfl ?_)
      first | refine (weak_kbT 111 false (by exact rfl)).trans (weak_of rfl (by repeat ((conv => whnf); first | exact trivial | refine And.intro rfl ?_ | refine And.intro (incD (by omega)) ?_)) (by repeat ((conv => whnf); first | exact trivial | refine And.intro rfl ?_ | refine And.intro (incD (by omega)) ?_))) | exact weak_of rfl (by repeat ((conv => whnf); first | exact trivial | refine And.intro rfl ?_ | refine And.intro (incD (by omega)) ?_)) (by repeat ((conv => whnf); first | exact trivial | refine And.intro rfl ?_ | refine And.intro (incD (by omega)) ?_))
  refine wk_false rfl ?_
  refine wk_seq ⟨[(131, .d (.bool false)), (64, .d (.int .i64 10)), (0, .own 0 0), (2, .d (dI s)), (4, .own 2 0)], tel c l ++ [(2, .blk 25 [.d (.int .i64 10), .d (.int .i64 n), .d (slD 16 ls.length (encS ls)), .d (slD 64 1 (encGs [u]))])], 3⟩ (wk_vc txok mixed [] ?_) ?_
  · cases c
    all_goals
      repeat' ((conv => whnf); first | (refine And.intro (fun hf => ?_) (fun hf => ?_) <;> first | exact Bool.noConfusion hf | skip) | refine callF hb gf48 rfl rfl ?_)
      first | refine (weak_kbT 131 false (by exact rfl)).trans (weak_of rfl (by repeat ((conv => whnf); first | exact trivial | refine And.intro rfl ?_ | refine And.intro (incD (by omega)) ?_)) (by repeat ((conv => whnf); first | exact trivial | refine And.intro rfl ?_ | refine And.intro (incD (by omega)) ?_))) | exact weak_of rfl (by repeat ((conv => whnf); first | exact trivial | refine And.intro rfl ?_ | refine And.intro (incD (by omega)) ?_)) (by repeat ((conv => whnf); first | exact trivial | refine And.intro rfl ?_ | refine And.intro (incD (by omega)) ?_))
  refine wk_false rfl ?_
  refine wk_seq ⟨[(159, .d (.bool false)), (64, .d (.int .i64 10)), (0, .own 0 0), (2, .d (dI s)), (4, .own 2 0)], tel c l ++ [(2, .blk 25 [.d (.int .i64 10), .d (.int .i64 n), .d (slD 16 ls.length (encS ls)), .d (slD 64 1 (encGs [u]))])], 3⟩ (wk_vc txok mixed [] ?_) ?_
  · cases c
    all_goals
      repeat' ((conv => whnf); first | (refine And.intro (fun hf => ?_) (fun hf => ?_) <;> first | exact Bool.noConfusion hf | skip) | refine callF hb gf48 rfl rfl ?_)
      first | refine (weak_kbT 159 false (by exact rfl)).trans (weak_of rfl (by repeat ((conv => whnf); first | exact trivial | refine And.intro rfl ?_ | refine And.intro (incD (by omega)) ?_)) (by repeat ((conv => whnf); first | exact trivial | refine And.intro rfl ?_ | refine And.intro (incD (by omega)) ?_))) | exact weak_of rfl (by repeat ((conv => whnf); first | exact trivial | refine And.intro rfl ?_ | refine And.intro (incD (by omega)) ?_)) (by repeat ((conv => whnf); first | exact trivial | refine And.intro rfl ?_ | refine And.intro (incD (by omega)) ?_))
  refine wk_false rfl ?_
  refine wk_seq ⟨[(0, .own 0 0), (2, .d (dI s)), (4, .own 2 0)], tel true (l ++ (bndS ⟨#[97, 108, 108]⟩ (s.length : Int)).data.toList) ++ [(2, .blk 25 [.d (.int .i64 10), .d (.int .i64 n), .d (slD 16 ls.length (encS ls)), .d (slD 64 1 (encGs [u]))])], 3⟩ (wk_vc txok mixed [(11, .pure 0 (.pure 1 (.pure 2 (.pure 4 (.take 5 (.pure 6 (.pure 9 (.pure 10 (.two 3 11 (.two 7 11 (.pure 8 (.run 11 (.pure 12 (.pure 13 (.fin 14 .done))))) (.run 7 (.pure 8 (.pure 12 (.pure 13 (.fin 14 .done)))))) (.run 3 (.run 7 (.pure 8 (.pure 12 (.pure 13 (.fin 14 .done))))))))))))))), (16, .pure 0 (.pure 1 (.pure 2 (.pure 3 (.pure 4 (.take 5 (.pure 6 (.fin 7 .done)))))))), (11, .pure 0 (.pure 1 (.pure 2 (.pure 3 (.pure 4 (.take 5 (.pure 6 (.pure 7 (.pure 8 (.pure 9 (.pure 10 (.run 11 (.pure 12 (.pure 13 (.fin 14 .done))))))))))))))), (12, .pure 0 (.pure 1 (.take 2 (.pure 3 (.pure 5 (.pure 7 (.take 8 (.three 4 6 9 (.two 6 9 (.run 9 (.run 10 (.fin 11 .done))) (.run 6 (.run 10 (.fin 11 .done)))) (.two 4 9 (.run 9 (.run 10 (.fin 11 .done))) (.two 4 10 (.run 10 (.fin 11 .done)) (.run 4 (.fin 11 .done)))) (.two 4 6 (.run 6 (.run 10 (.fin 11 .done))) (.two 4 10 (.run 10 (.fin 11 .done)) (.run 4 (.fin 11 .done))))))))))))] ?_) ?_
  · cases c
    all_goals
      conv => whnf
      refine And.intro (by kernel_rfl) ?_
      repeat'
        first
          | exact Nat.le_of_ble_eq_true rfl
          | (simp only [ByteArray.size_append]; omega)
          | ((conv => whnf); first
          | refine And.intro ?_ ?_
          | refine valKC arr80 bld80 ?_
          | refine idxKC (j := 1) ⟨#[97, 108, 108]⟩ (by exact rfl) (by exact rfl) (by exact rfl) Tryz.underlying88 idx80_10 ?_
          | refine callF hI gf60 (by exact rfl) (by exact rfl) ?_
          | refine callT [0, 1] (Tri_up (wStr_tri false l (bndS ⟨#[97, 108, 108]⟩ (s.length : Int)) (by omega) (by omega))) gf56 (by exact rfl) (by exact rfl) ⟨rfl, rfl, trivial⟩ rfl ?_
          | refine callT [0, 1] (Tri_up (wStr_tri true l (bndS ⟨#[97, 108, 108]⟩ (s.length : Int)) (by omega) (by omega))) gf56 (by exact rfl) (by exact rfl) ⟨rfl, rfl, trivial⟩ rfl ?_)
      all_goals rintro o' H' ⟨rfl, rfl⟩
      all_goals (conv => whnf)
      all_goals exact weak_of rfl (by repeat ((conv => whnf); first | exact trivial | refine And.intro rfl ?_ | refine And.intro (incD (by omega)) ?_)) (by repeat ((conv => whnf); first | exact trivial | refine And.intro rfl ?_ | refine And.intro (incD (by omega)) ?_))
  refine wk_vc txok mixed [(16, .pure 0 (.pure 1 (.pure 2 (.pure 3 (.pure 4 (.take 5 (.pure 6 (.fin 7 .done)))))))), (11, .pure 0 (.pure 1 (.pure 2 (.pure 3 (.pure 4 (.take 5 (.pure 6 (.pure 7 (.pure 8 (.pure 9 (.pure 10 (.run 11 (.pure 12 (.pure 13 (.fin 14 .done))))))))))))))), (12, .pure 0 (.pure 1 (.take 2 (.pure 3 (.pure 5 (.pure 7 (.take 8 (.three 4 6 9 (.two 6 9 (.run 9 (.run 10 (.fin 11 .done))) (.run 6 (.run 10 (.fin 11 .done)))) (.two 4 9 (.run 9 (.run 10 (.fin 11 .done))) (.two 4 10 (.run 10 (.fin 11 .done)) (.run 4 (.fin 11 .done)))) (.two 4 6 (.run 6 (.run 10 (.fin 11 .done))) (.two 4 10 (.run 10 (.fin 11 .done)) (.run 4 (.fin 11 .done))))))))))))] ?_
  conv => whnf
  refine And.intro (by kernel_rfl) ?_
  repeat'
    ((conv => whnf); first
      | refine And.intro ?_ ?_
      | refine IdxC.encGs (l := [u]) 0 (by show 0 < 1; decide) rfl ?_
      | refine callF hi gf49 rfl rfl ?_
      | refine snocT s n rfl rfl (by omega) ?_)
  all_goals (conv => whnf)
  all_goals refine pubC (fun i => Nat.ble 3 i) ?_
  all_goals (conv => whnf)
  all_goals refine callT [0, 1] hT gf29 rfl rfl ⟨rfl, rfl, trivial⟩ rfl ?_
  all_goals rintro o' H' ⟨rfl, rfl⟩
  all_goals (conv => whnf)
  all_goals exact ⟨rfl, congrArg (tel true) (by rw [hw]; simp only [List.append_assoc, List.cons_append, List.nil_append])⟩
set_option maxRecDepth 20000 in
set_option maxHeartbeats 2000000 in
theorem typ11_tri (n : Int) (ls : List ByteArray) (u : TG) (hu : TypOk u) (s : List Int) (c : Bool) (l : List UInt8) (hs : s.length + szB u < 1099511627775) (hl : l.length + 100 * szB u < 1099511625900) : Tri Tryz.prog GT 29 2 0 [.own 0 0, .d (dG (.mk 11 n ls [u])), .d (dI s)] (tel c l) (told (l ++ ([115, 111, 109, 101] ++ ([32, 116] ++ (itoa s.length ++ ([46, 32] ++ txG u (s ++ [n]))))))) := by
  have hb := FnR_up (binder_fn (.mk 11 n ls [u]))
  have hz := itA_size (s.length : Int)
  have hz2 := itoa_len20 (n := (s.length : Int)) ⟨by omega, by omega⟩
  have hw := bndS_toList ⟨#[115, 111, 109, 101]⟩ (s.length : Int)
  have hw2 := bndS_size ⟨#[115, 111, 109, 101]⟩ (s.length : Int) ⟨by omega, by omega⟩
  have hw3 : (⟨#[115, 111, 109, 101]⟩ : ByteArray).size ≤ 4 := by decide
  have hw4 : (⟨#[32, 116]⟩ : ByteArray).size = 2 := rfl
  have hw5 : (⟨#[46, 32]⟩ : ByteArray).size = 2 := rfl
  have hwl : (bndS ⟨#[115, 111, 109, 101]⟩ (s.length : Int)).data.toList.length ≤ 30 := by rw [Array.length_toList]; show (bndS ⟨#[115, 111, 109, 101]⟩ (s.length : Int)).size ≤ _; omega
  have hT := hu (s ++ [n]) true (l ++ (bndS ⟨#[115, 111, 109, 101]⟩ (s.length : Int)).data.toList) (by simp only [List.length_append, List.length_cons, List.length_nil]; omega) (by simp only [List.length_append]; omega)
  have hi := FnR_up (clip_fn s)
  have hI := itoaT_fn (s.length : Int) (by omega) (by omega)
  refine tri_of_wk (N := 166) txok mixed [] Tryz.func29 rfl rfl (by simp) fun b => ?_
  refine wk_seq ⟨[(0, .own 0 0), (2, .d (dI s)), (4, .own 2 0)], tel c l ++ [(2, .blk 25 [.d (.int .i64 11), .d (.int .i64 n), .d (slD 16 ls.length (encS ls)), .d (slD 64 1 (encGs [u]))])], 3⟩ (wk_vc txok mixed [] ?_) ?_
  · cases c
    all_goals
      repeat' ((conv => whnf); first | (refine And.intro (fun hf => ?_) (fun hf => ?_) <;> first | exact Bool.noConfusion hf | skip))
      exact weak_of rfl (by repeat ((conv => whnf); first | exact trivial | refine And.intro rfl ?_ | refine And.intro (incD (by omega)) ?_)) (by repeat ((conv => whnf); first | exact trivial | refine And.intro rfl ?_ | refine And.intro (incD (by omega)) ?_))
  refine wk_seq ⟨[(6, .d (.int .i64 0)), (0, .own 0 0), (2, .d (dI s)), (4, .own 2 0)], tel c l ++ [(2, .blk 25 [.d (.int .i64 11), .d (.int .i64 n), .d (slD 16 ls.length (encS ls)), .d (slD 64 1 (encGs [u]))])], 3⟩ (wk_vc txok mixed [] ?_) ?_
  · cases c
    all_goals
      repeat' ((conv => whnf); first | (refine And.intro (fun hf => ?_) (fun hf => ?_) <;> first | exact Bool.noConfusion hf | skip))
      exact weak_of rfl (by repeat ((conv => whnf); first | exact trivial | refine And.intro rfl ?_ | refine And.intro (incD (by omega)) ?_)) (by repeat ((conv => whnf); first | exact trivial | refine And.intro rfl ?_ | refine And.intro (incD (by omega)) ?_))
  refine wk_seq ⟨[(6, .d (.int .i64 1)), (0, .own 0 0), (2, .d (dI s)), (4, .own 2 0)], tel c l ++ [(2, .blk 25 [.d (.int .i64 11), .d (.int .i64 n), .d (slD 16 ls.length (encS ls)), .d (slD 64 1 (encGs [u]))])], 3⟩ (wk_vc txok mixed [] ?_) ?_
  · cases c
    all_goals
      repeat' ((conv => whnf); first | (refine And.intro (fun hf => ?_) (fun hf => ?_) <;> first | exact Bool.noConfusion hf | skip) | refine callF hb gf48 rfl rfl ?_)
      exact weak_of rfl (by repeat ((conv => whnf); first | exact trivial | refine And.intro rfl ?_ | refine And.intro (incD (by omega)) ?_)) (by repeat ((conv => whnf); first | exact trivial | refine And.intro rfl ?_ | refine And.intro (incD (by omega)) ?_))
  refine wk_seq ⟨[(7, .d (.bool false)), (6, .d (.int .i64 1)), (0, .own 0 0), (2, .d (dI s)), (4, .own 2 0)], tel c l ++ [(2, .blk 25 [.d (.int .i64 11), .d (.int .i64 n), .d (slD 16 ls.length (encS ls)), .d (slD 64 1 (encGs [u]))])], 3⟩ (wk_vc txok mixed [] ?_) ?_
  · cases c
    all_goals
      repeat' ((conv => whnf); first | (refine And.intro (fun hf => ?_) (fun hf => ?_) <;> first | exact Bool.noConfusion hf | skip) | refine callF hb gf48 rfl rfl ?_)
      first | refine (weak_kbT 7 false (by exact rfl)).trans (weak_of rfl (by repeat ((conv => whnf); first | exact trivial | refine And.intro rfl ?_ | refine And.intro (incD (by omega)) ?_)) (by repeat ((conv => whnf); first | exact trivial | refine And.intro rfl ?_ | refine And.intro (incD (by omega)) ?_))) | exact weak_of rfl (by repeat ((conv => whnf); first | exact trivial | refine And.intro rfl ?_ | refine And.intro (incD (by omega)) ?_)) (by repeat ((conv => whnf); first | exact trivial | refine And.intro rfl ?_ | refine And.intro (incD (by omega)) ?_))
  refine wk_seq ⟨[(0, .own 0 0), (2, .d (dI s)), (4, .own 2 0)], tel c l ++ [(2, .blk 25 [.d (.int .i64 11), .d (.int .i64 n), .d (slD 16 ls.length (encS ls)), .d (slD 64 1 (encGs [u]))])], 3⟩ (wk_vc txok mixed [] ?_) ?_
  · cases c
    all_goals
      repeat' ((conv => whnf); first | (refine And.intro (fun hf => ?_) (fun hf => ?_) <;> first | exact Bool.noConfusion hf | skip) | refine callF hb gf48 rfl rfl ?_)
      exact weak_of rfl (by repeat ((conv => whnf); first | exact trivial | refine And.intro rfl ?_ | refine And.intro (incD (by omega)) ?_)) (by repeat ((conv => whnf); first | exact trivial | refine And.intro rfl ?_ | refine And.intro (incD (by omega)) ?_))
  refine wk_seq ⟨[(64, .d (.int .i64 11)), (0, .own 0 0), (2, .d (dI s)), (4, .own 2 0)], tel c l ++ [(2, .blk 25 [.d (.int .i64 11), .d (.int .i64 n), .d (slD 16 ls.length (encS ls)), .d (slD 64 1 (encGs [u]))])], 3⟩ (wk_vc txok mixed [] ?_) ?_
  · cases c
    all_goals
      repeat' ((conv => whnf); first | (refine And.intro (fun hf => ?_) (fun hf => ?_) <;> first | exact Bool.noConfusion hf | skip))
      exact weak_of rfl (by repeat ((conv => whnf); first | exact trivial | refine And.intro rfl ?_ | refine And.intro (incD (by omega)) ?_)) (by repeat ((conv => whnf); first | exact trivial | refine And.intro rfl ?_ | refine And.intro (incD (by omega)) ?_))
  refine wk_block (fun j s h => h) ?_
  refine wk_seq ⟨[(92, .d (.bool false)), (64, .d (.int .i64 11)), (0, .own 0 0), (2, .d (dI s)), (4, .own 2 0)], tel c l ++ [(2, .blk 25 [.d (.int .i64 11), .d (.int .i64 n), .d (slD 16 ls.length (encS ls)), .d (slD 64 1 (encGs [u]))])], 3⟩ (wk_vc txok mixed [] ?_) ?_
  · cases c
    all_goals
      repeat' ((conv => whnf); first | (refine And.intro (fun hf => ?_) (fun hf => ?_) <;> first | exact Bool.noConfusion hf | skip) | refine callF hb gf48 rfl rfl ?_)
      first | refine (weak_kbT 92 false (by exact rfl)).trans (weak_of rfl (by repeat ((conv => whnf); first | exact trivial | refine And.intro rfl ?_ | refine And.intro (incD (by omega)) ?_)) (by repeat ((conv => whnf); first | exact trivial | refine And.intro rfl ?_ | refine And.intro (incD (by omega)) ?_))) | exact weak_of rfl (by repeat ((conv => whnf); first | exact trivial | refine And.intro rfl ?_ | refine And.intro (incD (by omega)) ?_)) (by repeat ((conv => whnf); first | exact trivial | refine And.intro rfl ?_ | refine And.intro (incD (by omega)) ?_))
  refine wk_false rfl ?_
  refine wk_seq ⟨[(104, .d (.bool false)), (64, .d (.int .i64 11)), (0, .own 0 0), (2, .d (dI s)), (4, .own 2 0)], tel c l ++ [(2, .blk 25 [.d (.int .i64 11), .d (.int .i64 n), .d (slD 16 ls.length (encS ls)), .d (slD 64 1 (encGs [u]))])], 3⟩ (wk_vc txok mixed [] ?_) ?_
  · cases c
    all_goals
      repeat' ((conv => whnf); first | (refine And.intro (fun hf => ?_) (fun hf => ?_) <;> first | exact Bool.noConfusion hf | skip) | refine callF hb gf48 rfl rfl ?_)
      first | refine (weak_kbT 104 false (by exact rfl)).trans (weak_of rfl (by repeat ((conv => whnf); first | exact trivial | refine And.intro rfl ?_ | refine And.intro (incD (by omega)) ?_)) (by repeat ((conv => whnf); first | exact trivial | refine And.intro rfl ?_ | refine And.intro (incD (by omega)) ?_))) | exact weak_of rfl (by repeat ((conv => whnf); first | exact trivial | refine And.intro rfl ?_ | refine And.intro (incD (by omega)) ?_)) (by repeat ((conv => whnf); first | exact trivial | refine And.intro rfl ?_ | refine And.intro (incD (by omega)) ?_))
  refine wk_false rfl ?_
  refine wk_seq ⟨[(111, .d (.bool false)), (64, .d (.int .i64 11)), (0, .own 0 0), (2, .d (dI s)), (4, .own 2 0)], tel c l ++ [(2, .blk 25 [.d (.int .i64 11), .d (.int .i64 n), .d (slD 16 ls.length (encS ls)), .d (slD 64 1 (encGs [u]))])], 3⟩ (wk_vc txok mixed [] ?_) ?_
  · cases c
    all_goals
      repeat' ((conv => whnf); first | (refine And.intro (fun hf => ?_) (fun hf => ?_) <;> first | exact Bool.noConfusion hf | skip) | refine callF hb gf48 rfl rfl ?_)
      first | refine (weak_kbT 111 false (by exact rfl)).trans (weak_of rfl (by repeat ((conv => whnf); first | exact trivial | refine And.intro rfl ?_ | refine And.intro (incD (by omega)) ?_)) (by repeat ((conv => whnf); first | exact trivial | refine And.intro rfl ?_ | refine And.intro (incD (by omega)) ?_))) | exact weak_of rfl (by repeat ((conv => whnf); first | exact trivial | refine And.intro rfl ?_ | refine And.intro (incD (by omega)) ?_)) (by repeat ((conv => whnf); first | exact trivial | refine And.intro rfl ?_ | refine And.intro (incD (by omega)) ?_))
  refine wk_false rfl ?_
  refine wk_seq ⟨[(131, .d (.bool false)), (64, .d (.int .i64 11)), (0, .own 0 0), (2, .d (dI s)), (4, .own 2 0)], tel c l ++ [(2, .blk 25 [.d (.int .i64 11), .d (.int .i64 n), .d (slD 16 ls.length (encS ls)), .d (slD 64 1 (encGs [u]))])], 3⟩ (wk_vc txok mixed [] ?_) ?_
  · cases c
    all_goals
      repeat' ((conv => whnf); first | (refine And.intro (fun hf => ?_) (fun hf => ?_) <;> first | exact Bool.noConfusion hf | skip) | refine callF hb gf48 rfl rfl ?_)
      first | refine (weak_kbT 131 false (by exact rfl)).trans (weak_of rfl (by repeat ((conv => whnf); first | exact trivial | refine And.intro rfl ?_ | refine And.intro (incD (by omega)) ?_)) (by repeat ((conv => whnf); first | exact trivial | refine And.intro rfl ?_ | refine And.intro (incD (by omega)) ?_))) | exact weak_of rfl (by repeat ((conv => whnf); first | exact trivial | refine And.intro rfl ?_ | refine And.intro (incD (by omega)) ?_)) (by repeat ((conv => whnf); first | exact trivial | refine And.intro rfl ?_ | refine And.intro (incD (by omega)) ?_))
  refine wk_false rfl ?_
  refine wk_seq ⟨[(159, .d (.bool false)), (64, .d (.int .i64 11)), (0, .own 0 0), (2, .d (dI s)), (4, .own 2 0)], tel c l ++ [(2, .blk 25 [.d (.int .i64 11), .d (.int .i64 n), .d (slD 16 ls.length (encS ls)), .d (slD 64 1 (encGs [u]))])], 3⟩ (wk_vc txok mixed [] ?_) ?_
  · cases c
    all_goals
      repeat' ((conv => whnf); first | (refine And.intro (fun hf => ?_) (fun hf => ?_) <;> first | exact Bool.noConfusion hf | skip) | refine callF hb gf48 rfl rfl ?_)
      first | refine (weak_kbT 159 false (by exact rfl)).trans (weak_of rfl (by repeat ((conv => whnf); first | exact trivial | refine And.intro rfl ?_ | refine And.intro (incD (by omega)) ?_)) (by repeat ((conv => whnf); first | exact trivial | refine And.intro rfl ?_ | refine And.intro (incD (by omega)) ?_))) | exact weak_of rfl (by repeat ((conv => whnf); first | exact trivial | refine And.intro rfl ?_ | refine And.intro (incD (by omega)) ?_)) (by repeat ((conv => whnf); first | exact trivial | refine And.intro rfl ?_ | refine And.intro (incD (by omega)) ?_))
  refine wk_false rfl ?_
  refine wk_seq ⟨[(0, .own 0 0), (2, .d (dI s)), (4, .own 2 0)], tel true (l ++ (bndS ⟨#[115, 111, 109, 101]⟩ (s.length : Int)).data.toList) ++ [(2, .blk 25 [.d (.int .i64 11), .d (.int .i64 n), .d (slD 16 ls.length (encS ls)), .d (slD 64 1 (encGs [u]))])], 3⟩ (wk_vc txok mixed [(11, .pure 0 (.pure 1 (.pure 2 (.pure 4 (.take 5 (.pure 6 (.pure 9 (.pure 10 (.two 3 11 (.two 7 11 (.pure 8 (.run 11 (.pure 12 (.pure 13 (.fin 14 .done))))) (.run 7 (.pure 8 (.pure 12 (.pure 13 (.fin 14 .done)))))) (.run 3 (.run 7 (.pure 8 (.pure 12 (.pure 13 (.fin 14 .done))))))))))))))), (16, .pure 0 (.pure 1 (.pure 2 (.pure 3 (.pure 4 (.take 5 (.pure 6 (.fin 7 .done)))))))), (11, .pure 0 (.pure 1 (.pure 2 (.pure 3 (.pure 4 (.take 5 (.pure 6 (.pure 7 (.pure 8 (.pure 9 (.pure 10 (.run 11 (.pure 12 (.pure 13 (.fin 14 .done))))))))))))))), (12, .pure 0 (.pure 1 (.take 2 (.pure 3 (.pure 5 (.pure 7 (.take 8 (.three 4 6 9 (.two 6 9 (.run 9 (.run 10 (.fin 11 .done))) (.run 6 (.run 10 (.fin 11 .done)))) (.two 4 9 (.run 9 (.run 10 (.fin 11 .done))) (.two 4 10 (.run 10 (.fin 11 .done)) (.run 4 (.fin 11 .done)))) (.two 4 6 (.run 6 (.run 10 (.fin 11 .done))) (.two 4 10 (.run 10 (.fin 11 .done)) (.run 4 (.fin 11 .done))))))))))))] ?_) ?_
  · cases c
    all_goals
      conv => whnf
      refine And.intro (by kernel_rfl) ?_
      repeat'
        first
          | exact Nat.le_of_ble_eq_true rfl
          | (simp only [ByteArray.size_append]; omega)
          | ((conv => whnf); first
          | refine And.intro ?_ ?_
          | refine valKC arr80 bld80 ?_
          | refine idxKC (j := 2) ⟨#[115, 111, 109, 101]⟩ (by exact rfl) (by exact rfl) (by exact rfl) Tryz.underlying88 idx80_11 ?_
          | refine callF hI gf60 (by exact rfl) (by exact rfl) ?_
          | refine callT [0, 1] (Tri_up (wStr_tri false l (bndS ⟨#[115, 111, 109, 101]⟩ (s.length : Int)) (by omega) (by omega))) gf56 (by exact rfl) (by exact rfl) ⟨rfl, rfl, trivial⟩ rfl ?_
          | refine callT [0, 1] (Tri_up (wStr_tri true l (bndS ⟨#[115, 111, 109, 101]⟩ (s.length : Int)) (by omega) (by omega))) gf56 (by exact rfl) (by exact rfl) ⟨rfl, rfl, trivial⟩ rfl ?_)
      all_goals rintro o' H' ⟨rfl, rfl⟩
      all_goals (conv => whnf)
      all_goals exact weak_of rfl (by repeat ((conv => whnf); first | exact trivial | refine And.intro rfl ?_ | refine And.intro (incD (by omega)) ?_)) (by repeat ((conv => whnf); first | exact trivial | refine And.intro rfl ?_ | refine And.intro (incD (by omega)) ?_))
  refine wk_vc txok mixed [(16, .pure 0 (.pure 1 (.pure 2 (.pure 3 (.pure 4 (.take 5 (.pure 6 (.fin 7 .done)))))))), (11, .pure 0 (.pure 1 (.pure 2 (.pure 3 (.pure 4 (.take 5 (.pure 6 (.pure 7 (.pure 8 (.pure 9 (.pure 10 (.run 11 (.pure 12 (.pure 13 (.fin 14 .done))))))))))))))), (12, .pure 0 (.pure 1 (.take 2 (.pure 3 (.pure 5 (.pure 7 (.take 8 (.three 4 6 9 (.two 6 9 (.run 9 (.run 10 (.fin 11 .done))) (.run 6 (.run 10 (.fin 11 .done)))) (.two 4 9 (.run 9 (.run 10 (.fin 11 .done))) (.two 4 10 (.run 10 (.fin 11 .done)) (.run 4 (.fin 11 .done)))) (.two 4 6 (.run 6 (.run 10 (.fin 11 .done))) (.two 4 10 (.run 10 (.fin 11 .done)) (.run 4 (.fin 11 .done))))))))))))] ?_
  conv => whnf
  refine And.intro (by kernel_rfl) ?_
  repeat'
    ((conv => whnf); first
      | refine And.intro ?_ ?_
      | refine IdxC.encGs (l := [u]) 0 (by show 0 < 1; decide) rfl ?_
      | refine callF hi gf49 rfl rfl ?_
      | refine snocT s n rfl rfl (by omega) ?_)
  all_goals (conv => whnf)
  all_goals refine pubC (fun i => Nat.ble 3 i) ?_
  all_goals (conv => whnf)
  all_goals refine callT [0, 1] hT gf29 rfl rfl ⟨rfl, rfl, trivial⟩ rfl ?_
  all_goals rintro o' H' ⟨rfl, rfl⟩
  all_goals (conv => whnf)
  all_goals exact ⟨rfl, congrArg (tel true) (by rw [hw]; simp only [List.append_assoc, List.cons_append, List.nil_append])⟩
end Go.Proofs.YtohmeplcjgmedaaGreatDoor

/- Text of any type. -/
set_option linter.unusedSimpArgs false
set_option linter.unusedVariables false
namespace Go.Proofs.YtohmeplcjgmedaaGreatDoor
open Go.Vx Go.Vc Go.RowKit Go.Lib

theorem len0 {l : List TG} (h : l.length = 0) : l = [] := List.length_eq_zero_iff.1 h
theorem len1 {l : List TG} (h : l.length = 1) : ∃ u, l = [u] := List.length_eq_one_iff.1 h
theorem len2 {l : List TG} (h : l.length = 2) : ∃ u v, l = [u, v] := by
  match l, h with
  | [u, v], _ => exact ⟨u, v, rfl⟩
theorem good_kid {k : Int} {a b : Nat} (h : badN k a b = false) (hk : kidN k ≥ 0) : (b : Int) = kidN k := by
  unfold badN at h
  simp only [Bool.or_eq_false_iff, Bool.and_eq_false_iff, decide_eq_false_iff_not, bne_eq_false_iff_eq] at h
  rcases h.1.2 with h | h
  · exact absurd hk h
  · exact h
theorem good_rec {a b : Nat} (h : badN 7 a b = false) : a = b := by
  unfold badN at h
  simp only [Bool.or_eq_false_iff, Bool.and_eq_false_iff, decide_eq_false_iff_not, bne_eq_false_iff_eq] at h
  rcases h.2 with h | h
  · cases h
  · omega
theorem txN_bad {k n : Int} {ls : List ByteArray} {xs : List (Int × List UInt8)} {s : List Int} (h : badN k ls.length xs.length = true) : txN k n ls xs s = [63] := by unfold txN; rw [if_pos h]
theorem typ_ok : ∀ t : TG, i64G t → TypOk t := by
  refine TG.ind fun k n ls ks ih hi s c l h1 h2 => ?_
  rw [i64G, i64Gs_iff] at hi
  obtain ⟨_, hn, hik⟩ := hi
  rw [szB, szBs_eq] at h1 h2
  rw [txG]
  have hty : ∀ t ∈ ks, TypOk t := fun t ht => ih t ht (hik t ht)
  have hin : ∀ t ∈ ks, InOk t := fun t ht => in_ok t (hik t ht) (hty t ht)
  clear ih
  by_cases hb : badN k ls.length ks.length = true
  · rw [txN_bad (by rw [txs_len]; exact hb)]
    by_cases hk : k < 1 ∨ 11 < k
    · exact typBadOut k n ls ks hk s c l (by omega)
    have hk' : k = 1 ∨ k = 2 ∨ k = 3 ∨ k = 4 ∨ k = 5 ∨ k = 6 ∨ k = 7 ∨ k = 8 ∨ k = 9 ∨ k = 10 ∨ k = 11 := by omega
    rcases hk' with rfl | rfl | rfl | rfl | rfl | rfl | rfl | rfl | rfl | rfl | rfl
    · exact typBad1 n ls ks hb s c l (by omega)
    · exact typBad2 n ls ks hb s c l (by omega)
    · exact typBad3 n ls ks hb s c l (by omega)
    · exact typBad4 n ls ks hb s c l (by omega)
    · exact typBad5 n ls ks hb s c l (by omega)
    · exact typBad6 n ls ks hb s c l (by omega)
    · exact typBad7 n ls ks hb s c l (by omega)
    · exact typBad8 n ls ks hb s c l (by omega)
    · exact typBad9 n ls ks hb s c l (by omega)
    · exact typBad10 n ls ks hb s c l (by omega)
    · exact typBad11 n ls ks hb s c l (by omega)
  have hb : badN k ls.length ks.length = false := by simpa using hb
  have hN : badN k ls.length (txs ks (if bndG k = true then s ++ [n] else s)).length = false := by rw [txs_len]; exact hb
  have hk' : k = 1 ∨ k = 2 ∨ k = 3 ∨ k = 4 ∨ k = 5 ∨ k = 6 ∨ k = 7 ∨ k = 8 ∨ k = 9 ∨ k = 10 ∨ k = 11 := by
    by_cases hk : k < 1 ∨ 11 < k
    · exfalso
      have : kidN k = -2 := by unfold kidN; rw [if_neg (by omega), if_neg (by omega), if_neg (by omega), if_neg (by omega)]
      unfold badN at hb
      rw [this] at hb
      exact absurd hb (by simp)
    · omega
  rcases hk' with rfl | rfl | rfl | rfl | rfl | rfl | rfl | rfl | rfl | rfl | rfl
  · have := len0 (l := ks) (by have h3 := good_kid hb (by decide); rw [show kidN 1 = 0 from by decide] at h3; omega)
    subst this
    unfold txN
    rw [if_neg (by rw [hN]; decide)]
    exact typ1_tri n ls s c l (by omega)
  · have := len0 (l := ks) (by have h3 := good_kid hb (by decide); rw [show kidN 2 = 0 from by decide] at h3; omega)
    subst this
    unfold txN
    rw [if_neg (by rw [hN]; decide)]
    exact typ2_tri n ls s c l (by omega)
  · have := len0 (l := ks) (by have h3 := good_kid hb (by decide); rw [show kidN 3 = 0 from by decide] at h3; omega)
    subst this
    unfold txN
    rw [if_neg (by rw [hN]; decide)]
    exact typ3_tri n ls s c l (by omega)
  · obtain ⟨u, v, rfl⟩ := len2 (l := ks) (by have h3 := good_kid hb (by decide); rw [show kidN 4 = 2 from by decide] at h3; omega)
    have hlu := txG_len u (hik u (by simp)) s (by simp only [szs, List.map_cons, List.map_nil, List.sum_cons, List.sum_nil] at h1; omega)
    have hlv := txG_len v (hik v (by simp)) s (by simp only [szs, List.map_cons, List.map_nil, List.sum_cons, List.sum_nil] at h1; omega)
    have hpu := parW_len (u.k, txG u s)
    have hpv := parW_len (v.k, txG v s)
    simp only [szs, List.map_cons, List.map_nil, List.sum_cons, List.sum_nil] at h1 h2
    unfold txN
    rw [if_neg (by rw [hN]; decide)]
    exact typ4_tri n ls u v (hin u (by simp)) (hty v (by simp)) s c l (by omega) (by omega) (by simp only at hpu; omega)
  · obtain ⟨u, v, rfl⟩ := len2 (l := ks) (by have h3 := good_kid hb (by decide); rw [show kidN 5 = 2 from by decide] at h3; omega)
    have hlu := txG_len u (hik u (by simp)) s (by simp only [szs, List.map_cons, List.map_nil, List.sum_cons, List.sum_nil] at h1; omega)
    have hlv := txG_len v (hik v (by simp)) s (by simp only [szs, List.map_cons, List.map_nil, List.sum_cons, List.sum_nil] at h1; omega)
    have hpu := parW_len (u.k, txG u s)
    have hpv := parW_len (v.k, txG v s)
    simp only [szs, List.map_cons, List.map_nil, List.sum_cons, List.sum_nil] at h1 h2
    unfold txN
    rw [if_neg (by rw [hN]; decide)]
    exact typ5_tri n ls u v (hin u (by simp)) (hin v (by simp)) s c l (by omega) (by omega) (by simp only at hpu; omega) (by simp only at hpv; omega)
  · have := len0 (l := ks) (by have h3 := good_kid hb (by decide); rw [show kidN 6 = 0 from by decide] at h3; omega)
    subst this
    unfold txN
    rw [if_neg (by rw [hN]; decide)]
    exact typ6_tri n hn ls s c l (by omega) (by omega)
  · unfold txN
    rw [if_neg (by rw [hN]; decide)]
    exact typ7_tri n ls ks hin hik (good_rec hb) s c l (by omega) (by omega)
  · unfold txN
    rw [if_neg (by rw [hN]; decide)]
    exact typ8_tri n ls ks hin hik s c l (by omega) (by omega)
  · obtain ⟨u, rfl⟩ := len1 (l := ks) (by have h3 := good_kid hb (by decide); rw [show kidN 9 = 1 from by decide] at h3; omega)
    simp only [szs, List.map_cons, List.map_nil, List.sum_cons, List.sum_nil] at h1 h2
    unfold txN
    rw [if_neg (by rw [hN]; decide)]
    exact typ9_tri n ls u (hty u (by simp)) s c l (by omega) (by omega)
  · obtain ⟨u, rfl⟩ := len1 (l := ks) (by have h3 := good_kid hb (by decide); rw [show kidN 10 = 1 from by decide] at h3; omega)
    simp only [szs, List.map_cons, List.map_nil, List.sum_cons, List.sum_nil] at h1 h2
    unfold txN
    rw [if_neg (by rw [hN]; decide)]
    exact typ10_tri n ls u (hty u (by simp)) s c l (by omega) (by omega)
  · obtain ⟨u, rfl⟩ := len1 (l := ks) (by have h3 := good_kid hb (by decide); rw [show kidN 11 = 1 from by decide] at h3; omega)
    simp only [szs, List.map_cons, List.map_nil, List.sum_cons, List.sum_nil] at h1 h2
    unfold txN
    rw [if_neg (by rw [hN]; decide)]
    exact typ11_tri n ls u (hty u (by simp)) s c l (by omega) (by omega)
theorem txG_pos (t : TG) (s : List Int) : 0 < (txG t s).length := by
  obtain ⟨k, n, ls, l⟩ := t
  rw [txG]
  unfold txN
  repeat' split
  all_goals try (simp only [List.length_cons, List.length_nil, List.length_append]; omega)
  all_goals (unfold numA; split <;> simp)
theorem typ_nl (t : TG) (hi : i64G t) (hz : szB t < 10995116000) : Tri Tryz.prog GT 29 2 0 [.own 0 0, .d (dG t), .nl] (tel false []) (told (txG t [])) := by
  intro e w vs hlen hargs hH hG
  refine typ_ok t hi [] false [] (by simp only [List.length_nil]; omega) (by simp only [List.length_nil]; omega) e w vs hlen ?_ hH hG
  simp only [RepSVs] at hargs ⊢
  obtain ⟨v, s, rfl, a1, v2, s2, rfl, a2, v3, s3, rfl, a3, rfl⟩ := hargs
  exact ⟨v, _, rfl, a1, v2, _, rfl, a2, v3, _, rfl, nl_dI _ _ _ a3, rfl⟩
theorem text_fn (t : TG) (hi : i64G t) (hz : szB t < 10995116000) : FnR Tryz.prog GT 12 [dG t] (.str (bs (txG t []))) := by
  have hl := txG_len t hi [] (by simp only [List.length_nil]; omega)
  refine fnQ_of_vc txok mixed [] Tryz.func12 rfl rfl (by simp) fun b => ?_
  conv => whnf
  refine weakC _ (weak_nlC 1 1 5 1 1 rfl rfl) ?_
  refine callT [1, 2] (typ_nl t hi hz) gf29 rfl rfl ⟨rfl, rfl, trivial⟩ rfl ?_
  rintro o' H' ⟨rfl, rfl⟩
  conv => whnf
  refine callT [1, 2] (Tri_up (bStr_tri true (txG t []) (List.ne_nil_of_length_pos (txG_pos t [])))) gf30 rfl rfl ⟨rfl, rfl, trivial⟩ rfl ?_
  rintro o' H' ⟨rfl, rfl⟩
  conv => whnf
  try exact rfl
end Go.Proofs.YtohmeplcjgmedaaGreatDoor

/- The reference: numbers in decimal digits. -/
set_option linter.unusedSimpArgs false
set_option linter.unusedVariables false
namespace Go.Proofs.YtohmeplcjgmedaaGreatDoor
open Go.Vx Go.Vc Go.RowKit Go.Lib

theorem bs_size (l : List UInt8) : (bs l).size = l.length := by simp [bs, ByteArray.size]
theorem bs_app (l m : List UInt8) : bs l ++ bs m = bs (l ++ m) := by
  apply ByteArray.ext
  simp [bs, ByteArray.data_append]
theorem digU : ∀ d : Nat, d < 10 → bytesOf [IntKind.u8.wrap (IntKind.u64.wrap (48 + (d : Int)))] = bs [UInt8.ofNat (48 + d)] := by
  intro d hd
  match d, hd with
  | 0, _ => rfl
  | 1, _ => rfl
  | 2, _ => rfl
  | 3, _ => rfl
  | 4, _ => rfl
  | 5, _ => rfl
  | 6, _ => rfl
  | 7, _ => rfl
  | 8, _ => rfl
  | 9, _ => rfl
theorem natural_fn : ∀ (m n : Nat), n ≤ m → n < 18446744073709551616 → FnR Tryz.prog G0 92 [.int .u64 n] (.str (bs (decDigits n))) := by
  intro m
  induction m using Nat.strongRecOn with
  | _ m ih =>
  intro n hm hn
  have hlen := (decDigits_len (n / 10)).2
  refine fnQ_of_vc txok mixed [(3, .pure 0 (.pure 1 (.pure 3 (.pure 4 (.pure 5 (.two 2 6 (.fin 6 (.fin 7 (.fin 8 (.pure 9 (.pure 10 .done))))) (.two 2 7 (.fin 7 (.fin 8 (.pure 9 (.pure 10 .done)))) (.two 2 8 (.fin 8 (.pure 9 (.pure 10 .done))) (.fin 2 (.pure 9 (.pure 10 .done)))))))))))] Tryz.func92 rfl rfl (by simp) fun b => ?_
  conv => whnf
  refine And.intro (fun h => ?_) (fun h => ?_)
  · have h : n < 10 := by have := of_decide_eq_true h; omega
    conv => whnf
    refine bsC (n := 1) txok [IntKind.u8.wrap (IntKind.u64.wrap (48 + (n : Int)))] rfl rfl rfl rfl rfl rfl rfl rfl rfl rfl ?_
    rw [digU _ h]
    conv => whnf
    rw [decDigits, dif_pos h]
  · have h : ¬ n < 10 := by have := of_decide_eq_false h; omega
    have hlen1 := (decDigits_len n).2
    have hd20 := itoa_len20 (n := ((n / 10 : Nat) : Int)) ⟨by omega, by omega⟩
    rw [itoa_nonneg] at hd20
    have hc := ih (n / 10) (by omega) (n / 10) (Nat.le_refl _) (by omega)
    have e1 : IntKind.u64.wrap ((n : Int).tdiv 10) = ((n / 10 : Nat) : Int) := IntWalk.u64_in _ ⟨by show (0 : Int) ≤ ((n / 10 : Nat) : Int); omega, by show ((n / 10 : Nat) : Int) ≤ _; omega⟩
    have e4 : bs (decDigits n) = bs (decDigits (n / 10)) ++ bs [UInt8.ofNat (48 + n % 10)] := by rw [bs_app]; conv => lhs; rw [decDigits, dif_neg h]
    have e5 : (bs (decDigits (n / 10))).size + (bs [UInt8.ofNat (48 + n % 10)]).size ≤ 9223372036854775807 := by rw [bs_size, bs_size]; simp only [List.length_cons, List.length_nil]; omega
    rw [← e1] at hc
    rw [e4]
    conv => whnf
    refine And.intro (by kernel_rfl) ?_
    conv => whnf
    refine ⟨by decide, ?_⟩
    conv => whnf
    refine ⟨by decide, ?_⟩
    repeat' ((conv => whnf); first
      | refine And.intro e5 ?_
      | refine And.intro ?_ ?_
      | refine callF hc gf92 rfl rfl ?_
      | (refine bsC (n := 1) txok [IntKind.u8.wrap (IntKind.u64.wrap (48 + (((n % 10 : Nat)) : Int)))] rfl rfl rfl rfl rfl rfl rfl rfl rfl rfl ?_; rw [digU _ (Nat.mod_lt _ (by decide))]))
    all_goals first | rfl | trace_state
end Go.Proofs.YtohmeplcjgmedaaGreatDoor

/- The reference: level, with, wide, decimal numbers. -/
set_option linter.unusedSimpArgs false
set_option linter.unusedVariables false
namespace Go.Proofs.YtohmeplcjgmedaaGreatDoor
open Go.Vx Go.Vc Go.RowKit Go.Lib

def lvlN (l : List Int) (n : Int) : Nat → Int
  | 0 => -1
  | k + 1 => if l.getD k 0 = n then k else lvlN l n k
theorem rlevel_fn (l : List Int) (n : Int) (hl : l.length < 1099511627776) : FnR Tryz.prog G0 52 [dI l, .int .i64 n] (.int .i64 (lvlN l n l.length)) := by
  refine fnQ_of_vc txok mixed [] Tryz.func52 rfl rfl (by simp) fun b => ?_
  conv => whnf
  refine loopH (fun k : Nat => k ≤ l.length ∧ lvlN l n l.length = lvlN l n k) (fun k => k) (fun k => [(5, .d (.int .i64 ((k : Int) - 1)))]) (fun _ => []) 0 l.length ⟨by omega, rfl⟩ (weak_of rfl (by (conv => whnf); first | done | (refine And.intro (by rw [Go.Vc.wrap_small (by omega) (by omega)]) ?_; first | done | repeat ((conv => whnf); first | exact trivial | refine And.intro rfl ?_ | refine And.intro (incD (by omega)) ?_))) (by repeat ((conv => whnf); first | exact trivial | refine And.intro rfl ?_ | refine And.intro (incD (by omega)) ?_))) ?_
  rintro k ⟨hk, hx⟩
  conv => whnf
  refine And.intro (fun hb => ?_) (fun hb => ?_)
  · have hk0 : 1 ≤ k := by have := of_decide_eq_true hb; omega
    obtain ⟨j, rfl⟩ : ∃ j, k = j + 1 := ⟨k - 1, by omega⟩
    have hjl : j < l.length := by omega
    have hj : (((j + 1 : Nat) : Int) - 1) = (j : Int) := by omega
    rw [hj]
    conv => whnf
    refine IdxC.encI j hjl rfl ?_
    have hg : l.getD j 0 = l[j] := by rw [List.getD_eq_getElem?_getD, List.getElem?_eq_getElem hjl]; rfl
    rw [lvlN, hg] at hx
    conv => whnf
    refine And.intro (fun h => ?_) (fun h => ?_)
    · rw [if_pos (by simpa using h)] at hx
      conv => whnf
      rw [hx]
    · rw [if_neg (by simpa using h)] at hx
      conv => whnf
      refine again j (by omega) ⟨by omega, hx⟩ (weak_of rfl (by (conv => whnf); refine And.intro (by rw [Go.Vc.wrap_small (by omega) (by omega)]) ?_; first | done | repeat ((conv => whnf); first | exact trivial | refine And.intro rfl ?_ | refine And.intro (incD (by omega)) ?_)) (by repeat ((conv => whnf); first | exact trivial | refine And.intro rfl ?_ | refine And.intro (incD (by omega)) ?_)))
  · have hk0 : k = 0 := by have := of_decide_eq_false hb; omega
    subst hk0
    conv => whnf
    rw [hx]
    rfl
theorem rwith_fn (l : List Int) (n : Int) (hl : l.length < 1099511627776) : FnR Tryz.prog G0 54 [dI l, .int .i64 n] (dI (l ++ [n])) := by
  refine fnQ_of_vc txok mixed [] Tryz.func54 rfl rfl (by simp) fun b => ?_
  conv => whnf
  refine appR (i := 0) (sz := 1) (n := 0) (m := l.length) (xs := []) (ys := Vx.encI l) txok (fun _ => false) l.length (Vx.encI l) (by exact rfl) (by exact rfl) (by exact rfl) (by kernel_rfl) (by simp [Vx.encI]) (Vx.encI_scal l) (by simp) (by simp) (by simp only [LB]; omega) ?_
  conv => whnf
  refine appR (i := 0) (sz := 1) (n := l.length) (m := 1) (xs := Vx.encI l) (ys := Vx.encI [n]) txok (fun k => Nat.ble 1 k) (l ++ [n]).length (Vx.encI (l ++ [n])) (by exact rfl) (by exact rfl) (by exact rfl) (by kernel_rfl) (by exact rfl) (Vx.encI_scal _) (by simp) (by simp [Vx.encI]) (by simp only [LB, List.length_append, List.length_cons, List.length_nil]; omega) ?_
  conv => whnf
  try exact rfl
theorem lvlN_app (l m : List Int) (n : Int) : ∀ k, k ≤ l.length → lvlN (l ++ m) n k = lvlN l n k
  | 0, _ => rfl
  | k + 1, h => by
    have e : (l ++ m).getD k 0 = l.getD k 0 := by
      rw [List.getD_eq_getElem?_getD, List.getD_eq_getElem?_getD, List.getElem?_append_left (by omega)]
    rw [lvlN, lvlN, e, lvlN_app l m n k (by omega)]
theorem lvl_last (n : Int) (l : List Int) : lvlN l n l.length = lastI l n := by
  have key : ∀ r : List Int, lvlN r.reverse n r.reverse.length = lastI r.reverse n := by
    intro r
    induction r with
    | nil => rfl
    | cons x r ih =>
      rw [List.reverse_cons, List.length_append, List.length_cons, List.length_nil, lvlN]
      have e : (r.reverse ++ [x]).getD r.reverse.length 0 = x := by
        rw [List.getD_eq_getElem?_getD, List.getElem?_append_right (Nat.le_refl _)]; simp
      rw [e, lvlN_app _ _ _ _ (Nat.le_refl _), ih]
      by_cases h : x = n
      · rw [if_pos h]; subst h; rw [lastI_end]
      · rw [if_neg h, lastI_snoc _ (fun h' => h h'.symm)]
  have := key l.reverse
  rwa [List.reverse_reverse] at this
theorem level_fn (l : List Int) (n : Int) (hl : l.length < 1099511627776) : FnR Tryz.prog G0 52 [dI l, .int .i64 n] (.int .i64 (lastI l n)) := by
  have := rlevel_fn l n hl
  rwa [lvl_last] at this
theorem wide_fn (k : Int) : FnR Tryz.prog G0 93 [.int .i64 k] (.bool (k == 4 || bndG k)) := by
  refine fnQ_of_vc txok mixed [] Tryz.func93 rfl rfl (by simp) fun b => ?_
  conv => whnf
  refine And.intro (fun h => ?_) (fun h => ?_)
  · rw [h]
    conv => whnf
    refine callF (bindsR_fn k) gf45 rfl rfl ?_
    conv => whnf
    rfl
  · rw [h]
    conv => whnf
    rfl
theorem decimal_fn (n : Int) (hn : -9223372036854775808 ≤ n ∧ n ≤ 9223372036854775807) : FnR Tryz.prog G0 61 [.int .i64 n] (.str (bs (itoa n))) := by
  refine fnQ_of_vc txok mixed [] Tryz.func61 rfl rfl (by simp) fun b => ?_
  conv => whnf
  refine And.intro (fun h => ?_) (fun h => ?_)
  · have h : n < 0 := of_decide_eq_true h
    have e1 : IntKind.i64.wrap (n + 1) = n + 1 := Go.Vc.wrap_small (by omega) (by omega)
    have hN := natural_fn n.natAbs n.natAbs (Nat.le_refl _) (by omega)
    have h20 := itoa_len20 hn
    have e2 : itoa n = 45 :: decDigits n.natAbs := by unfold itoa; rw [if_pos h]
    conv => whnf
    rw [e1]
    refine And.intro (fun h2 => ?_) (fun h2 => absurd (of_decide_eq_false h2) (by omega))
    have e3 : IntKind.u64.wrap (IntKind.u64.wrap (IntKind.i64.wrap (0 - IntKind.i64.wrap (n + 1))) + 1) = (n.natAbs : Int) := by
      rw [e1, Go.Vc.wrap_small (by omega) (by omega)]
      have a1 : IntKind.u64.wrap (0 - (n + 1)) = 0 - (n + 1) := IntWalk.u64_in _ ⟨by omega, by omega⟩
      rw [a1, IntWalk.u64_in _ ⟨by omega, by omega⟩]; omega
    rw [← e3] at hN
    conv => whnf
    refine callF hN gf92 rfl rfl ?_
    conv => whnf
    refine ⟨by rw [bs_size]; rw [e2] at h20; simp only [List.length_cons] at h20; show 1 + _ ≤ _; omega, ?_⟩
    conv => whnf
    rw [e2, show (45 :: decDigits n.natAbs) = [45] ++ decDigits n.natAbs from rfl, ← bs_app]
    rfl
  · have h : ¬ n < 0 := of_decide_eq_false h
    have hN := natural_fn n.toNat n.toNat (Nat.le_refl _) (by omega)
    have e3 : IntKind.u64.wrap n = (n.toNat : Int) := by rw [IntWalk.u64_in _ ⟨by omega, by omega⟩]; omega
    rw [← e3] at hN
    conv => whnf
    refine callF hN gf92 rfl rfl ?_
    conv => whnf
    have e2 : itoa n = decDigits n.toNat := by unfold itoa; rw [if_neg h]
    rw [e2]
end Go.Proofs.YtohmeplcjgmedaaGreatDoor

