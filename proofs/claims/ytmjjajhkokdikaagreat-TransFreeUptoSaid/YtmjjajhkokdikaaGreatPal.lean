/- Texts of mine, joined: Vxz Bb Bc Ea. -/
import Derived.Test.YtmjjajhkokdikaaGreatPaj
import Derived.ArgAppend
import Derived.Test.YtmjjajhkokdikaaGreatPak
import Derived.Test.YtmjjajhkokdikaaGreatPag
import Derived.Test.YtmjjajhkokdikaaGreatPaf
/- Laws: max; s[:n:n]; append to a slice that has no room left. -/
set_option linter.unusedVariables false
set_option linter.unusedSimpArgs false
namespace Go.Vx
open Go.RowKit Go.Vc

section
variable {P : Program} {G : Glob} {ty : List (Nat × TY)} {N n0 : Nat} {b : Bs G n0}

/-- max(x, y), of numbers. -/
theorem maxC {kp : Bool} {o : Oper} {st : St} {K : SExit → St → Prop} {x y : Operand} {ts : Array TypeId} {k : IntKind} {i j : Int} (ho : o.op = .call { callee := .builtin .max, args := #[x, y], argTypes := ts }) (hx : ev st.T x = some (.d (.int k i))) (hy : ev st.T y = some (.d (.int k j)))
    (hk : putK N o.dst (.d (.int k (max i j))) st (K .normal)) : OpC P b N kp o st K := by
  refine valC _ (fun e a w hok => ?_) hk
  have h1 := hok.tmok _ _ hx
  have h2 := hok.tmok _ _ hy
  simp only [RepSV, RepD] at h1 h2 ⊢
  refine ⟨_, rfl, ?_⟩
  obtain ⟨dst, op, type, pos, after, guard⟩ := o
  simp only at ho; subst ho
  simp only [execOp, resolve, invoke, builtin, Sem.run_bind, Sem.run_pure, Result.andThen_ok]
  have : (Builtin.max_ ts type (#[x, y].map a.eval)).run P w = .ok (.int k (max i j)) w := by
    simp only [List.map_toArray, List.map_cons, List.map_nil, h1, h2, Builtin.max_]
    simp only [List.foldlM, Builtin.max2, Sem.run_bind]
    have : max i j = if j > i then j else i := by split <;> omega
    rw [this]
    rfl
  rw [this]
  rfl
/-- x[:n:n], the whole. -/
theorem clipC (hty : Tys P ty) {kp : Bool} {o : Oper} {st : St} {K : SExit → St → Prop} {t el : TypeId} {y ye : TY} {x hi mx : Operand} {eb n : Nat} {cs : List D} {k1 k2 : IntKind} (ho : o.op = .slice t x none (some hi) (some mx)) (hy : lk ty t = some y) (hyk : y.kd = .slice el) (hye : lk ty el = some ye)
    (hx : ev st.T x = some (.d (.sl eb n cs))) (hh : ev st.T hi = some (.d (.int k1 n))) (hm : ev st.T mx = some (.d (.int k2 n))) (hk : putK N o.dst (.d (.csl eb n cs)) st (K .normal)) : OpC P b N kp o st K := by
  refine valC _ (fun e a w hok => ?_) hk
  have h1 := hok.tmok _ _ hx
  have h2 := hok.tmok _ _ hh
  have h3 := hok.tmok _ _ hm
  simp only [RepSV, RepD] at h1 h2 h3
  obtain ⟨A, c, hv, hnc, hlb, hsome, hrep⟩ := h1
  refine ⟨.slice A n n, by simp only [RepSV, RepD]; exact ⟨A, rfl, hlb, hsome, hrep⟩, ?_⟩
  have hu := (hty _ _ hy).slice hyk
  have hsz := Vc.run_sizeOf (P := P) (w := w) (hty _ _ hye).i
  obtain ⟨dst, op, type, pos, after, guard⟩ := o
  simp only at ho; subst ho
  simp only [execOp]
  refine run_val ?_
  rw [hv]
  simp only [Option.map_some, Option.map_none, h2, h3, Instr.sliceAt, Sem.run_bind, run_under hu, Result.andThen_ok, Instr.slice, Instr.sliceBounds, Sem.run_pure, if_true]
  have hcap : (Instr.sliceBound (.int k2 (n : Int)) c .slice3Acap).run P w = .ok n w := by rw [run_sliceBound' (by omega) (by omega)]; simp
  have hhi : (Instr.sliceBound (.int k1 (n : Int)) n .slice3B).run P w = .ok n w := by rw [run_sliceBound' (by omega) (by omega)]; simp
  rw [hcap]
  simp only [Result.andThen_ok]
  rw [hhi]
  simp only [Result.andThen_ok, Sem.run_pure, Sem.run_bind, hsz, Nat.zero_mul, Nat.sub_zero]
  have : A.map (·.add 0) = A := by cases A <;> simp [Addr.add]
  simp [this]
/-- append, to data whose slice has no room left: a new own slice. -/
theorem appC (hty : Tys P ty) {kp : Bool} {o : Oper} {st : St} {K : SExit → St → Prop} {y : SV} {t el : TypeId} {eb eb' sz n m : Nat} {cs ys : List D} (n' : Nat) (xs' : List D) (ho : appOf st.T o.op = some (.d (.csl eb' n cs), y, t)) (hy : slOf st.H y = some (m, ys)) (hB : rowB ty t el eb sz = true) (hm : 0 < m)
    (hc : cs.length = n * sz) (hcs : ∀ d ∈ cs, scalD d = true) (hl : ys.length = m * sz) (hs : ∀ d ∈ ys, scalD d = true) (hlim : (n + m) * eb ≤ LB) (hn : n + m = n') (hx : cs ++ ys = xs')
    (hk : match st with
      | ⟨T, H, q⟩ => putK N o.dst (.row q) ⟨T, (q, .row el eb sz n' xs') :: H, q + 1⟩ (K .normal)) : OpC P b N kp o st K := by
  subst hn; subst hx
  obtain ⟨T, H, q⟩ := st
  refine ⟨fun e a w hok => ?_⟩
  obtain ⟨u, v, h1, h2, h3⟩ := appOf_run (P := P) hok.tmok ho
  obtain ⟨B, d, S, yv, rfl, hcc, hys⟩ := slOf_rep hok.hp hy h2
  obtain ⟨y', ye, hy', hk', hye, hsz, heb, hzc, h0, hb0, hte⟩ := rowB_get hB
  have hu := (hty _ _ hy').slice hk'
  have hyi := (hty _ _ hye).i
  obtain ⟨x', dd, hx', hd, g1, g2, g3, g4, g5, g6, g7, g8⟩ := hyi.get
  simp only [RepSV, RepD] at h1
  obtain ⟨A, rfl, hlb', hsome, hrep⟩ := h1
  have hyl : yv.length = m * sz := by rw [hys.len, hl]
  have hmsz : 0 < m * sz := Nat.mul_pos hm h0
  obtain ⟨bd, rfl, hbc⟩ : ∃ bd, B = some bd ∧ ∀ (j : Nat) u, yv[j]? = some u → w.cell? (bd.add j) = some u := by
    rcases hcc with hcc | ⟨bd, rfl, _, h⟩
    · rw [hcc] at hyl; simp at hyl; omega
    · exact ⟨bd, rfl, h⟩
  have hlim' : (n + m) * ye.i.bytes ≤ 140737488355328 := by rw [heb]; exact hlim
  have hmx : n + m ≤ maxLen := by
    have : n + m ≤ (n + m) * ye.i.bytes := Nat.le_mul_of_pos_right _ (by omega)
    simp only [maxLen]; omega
  have run : ∃ v' w' vs, RepDs e.pub w cs vs ∧ (Builtin.append_ #[t, t] o.type #[.slice A n n, .slice (some bd) m d]).run P w = .ok v' w' ∧ w'.ownsRow w.heap.size el ye.i.size v' (n + m) (vs ++ yv) ∧ w.grownBy w' none := by
    cases A with
    | some ad =>
      obtain ⟨vs, k1, k2⟩ := hrep.cells
      obtain ⟨v', w', r1, r2, r3⟩ := run_append_arg_grows (P := P) w t o.type el x' ye.i.z ye.i.size ye.i.bytes hu hx' g3 g1 g2 (by rw [hzc, hsz]) (by omega) ad n n vs (by rw [k1.len, hc, hsz]) (fun j u hj => by have := (k2 j u hj).2; simpa using this) bd m d yv (by rw [hyl, hsz]) hbc (by omega) hmx hlim'
      exact ⟨v', w', vs, k1, r1, r2, r3⟩
    | none =>
      have hn0 : n = 0 := by
        rcases Nat.eq_zero_or_pos n with h | h
        · exact h
        · obtain ⟨ad, h'⟩ := hsome (by omega); cases h'
      subst hn0
      obtain rfl : cs = [] := List.eq_nil_of_length_eq_zero (by simpa using hc)
      obtain ⟨v', w', r1, r2, r3, _⟩ := run_append_own (P := P) w w.heap.size t o.type el x' ye.i.z ye.i.size ye.i.bytes hu hx' g3 g1 g2 (by rw [hzc, hsz]) (by omega) (.slice none 0 0) 0 [] (World.ownsRow_nil w _ el ye.i.size) bd m d yv (by rw [hyl, hsz]) hbc (hys.scal hs) (by simpa using hmx) (by simpa using hlim') (Nat.le_refl _)
      exact ⟨v', w', [], by simp [RepDs], r1, by simpa using r2, r3⟩
  obtain ⟨v', w', vs, hvs, hrun, hown, hgrow⟩ := run
  rw [h3 w _ w' hrun]
  obtain ⟨hlen, ⟨rfl, hz⟩ | ⟨g, cap, cur, rfl, hg, hh, hnc, hcm, hcs', htk⟩⟩ := hown
  · omega
  have hbl : Below w.heap.size w w' := ⟨hgrow.os, hgrow.tape, hgrow.output, hgrow.size, fun k hk => hgrow.block k hk (by simp)⟩
  have hrow : RowOk w' ⟨.slice (some ⟨g, 0, none⟩) (n + m) cap, el, sz, vs ++ yv⟩ := by
    rw [hsz] at hlen hcs' htk
    exact ⟨n + m, hlen, .inr ⟨g, 0, cap, cur, rfl, hh, hnc, hcm, by simp [hcs'], by rw [List.drop_zero]; exact htk⟩⟩
  obtain ⟨e', g1', kw, hm', _⟩ := hok.addOb (v := .slice (some ⟨g, 0, none⟩) (n + m) cap) (o := .row el eb sz (n + m) (cs ++ ys)) hbl (run_drawn hrun) (fun k hk => by injection hk with hk; subst hk; exact hg)
    (fun e' kw hm => ⟨_, _, vs ++ yv, hm, hrow, (hvs.kept kw).app (hys.kept kw), hlim⟩)
  obtain ⟨st', g2', g3', _⟩ := putK_sound (v := .slice (some ⟨g, 0, none⟩) (n + m) cap) g1' (by simp only [RepSV]; exact ⟨_, _, _, rfl, hm'⟩) hk
  exact ⟨e', st', .of ⟨kw, Agr.below hok.hp hbl⟩, g2', g3'⟩
end
end Go.Vx


/- Size, RightType, and what they use. -/
set_option linter.unusedSimpArgs false
set_option linter.unusedVariables false
namespace Go.Proofs.YtmjjajhkokdikaaGreat
open Go.Vx Go.Vc Go.RowKit

def sizeG (t : TG) (most : Int) : Int := if most < 0 then 0 else if (szG t : Int) ≤ most then szG t else most + 1
/-! ### slices.IndexFunc, ContainsFunc, at target types -/
def idxG (p : TG → Bool) : List TG → Int → Int
  | [], _ => -1
  | t :: r, i => if p t then i else idxG p r (i + 1)
theorem idxG_nonneg (p : TG → Bool) : ∀ (l : List TG) (i : Int), 0 ≤ i → (0 ≤ idxG p l i ↔ l.any p = true)
  | [], i, h => by simp [idxG]
  | t :: r, i, h => by
    simp only [idxG, List.any_cons]
    by_cases hp : p t = true
    · rw [if_pos hp, hp]; simp [h]
    · rw [if_neg hp, idxG_nonneg p r (i + 1) (by omega)]; simp [hp]
theorem indexFuncG_fn (f : FuncId) (c : D) (p : TG → Bool) (l : List TG) (hg : Goes Tryz.prog f) (ih : ∀ t ∈ l, FnR Tryz.prog G0 f [dG t, c] (.bool (p t))) : FnR Tryz.prog G0 150 [dGs l, .fn f [] [c]] (.int .i64 (idxG p l 0)) := by
  refine fnQ_sz fun hs => ?_
  have hl := (szOk_sl hs.1).1
  simp only [LB] at hl
  refine fnQ_of_vc txok mixed [] Tryz.func150 rfl rfl (by simp) fun b => ?_
  conv => whnf
  refine loopH (fun i : Nat => i ≤ l.length ∧ idxG p l 0 = idxG p (l.drop i) i) (fun i => l.length - i) (fun i => [(8, .d (.int .i64 i))]) (fun _ => []) 0 0 ⟨by omega, rfl⟩ (weak_of rfl (by repeat ((conv => whnf); first | exact trivial | refine And.intro rfl ?_ | refine And.intro (incD (by omega)) ?_)) (by repeat ((conv => whnf); first | exact trivial | refine And.intro rfl ?_ | refine And.intro (incD (by omega)) ?_))) ?_
  rintro i ⟨hi, hx⟩
  conv => whnf
  refine And.intro (fun hb => ?_) (fun hb => ?_)
  · have hb := of_decide_eq_true hb
    have hil : i < l.length := by omega
    rw [List.drop_eq_getElem_cons hil, idxG] at hx
    conv => whnf
    refine IdxC.encGs i hil rfl ?_
    conv => whnf
    refine callF (ih l[i] (by simp)) hg rfl rfl ?_
    conv => whnf
    refine And.intro (fun he => ?_) (fun he => ?_)
    · conv => whnf
      rw [hx, if_pos he]
    · conv => whnf
      rw [if_neg (by simp [he])] at hx
      exact again (i + 1) (by omega) ⟨by omega, by rw [hx]; rfl⟩ (weak_of rfl (by repeat ((conv => whnf); first | exact trivial | refine And.intro rfl ?_ | refine And.intro (incD (by omega)) ?_)) (by repeat ((conv => whnf); first | exact trivial | refine And.intro rfl ?_ | refine And.intro (incD (by omega)) ?_)))
  · have hb := of_decide_eq_false hb
    conv => whnf
    rw [hx, List.drop_eq_nil_of_le (by omega)]; rfl
theorem containsFuncG_fn (f : FuncId) (c : D) (p : TG → Bool) (l : List TG) (hg : Goes Tryz.prog f) (ih : ∀ t ∈ l, FnR Tryz.prog G0 f [dG t, c] (.bool (p t))) : FnR Tryz.prog G0 105 [dGs l, .fn f [] [c]] (.bool (l.any p)) := by
  refine fnQ_of_vc txok mixed [] Tryz.func105 rfl rfl (by simp) fun b => ?_
  conv => whnf
  refine callF (indexFuncG_fn f c p l hg ih) gf150 rfl rfl ?_
  conv => whnf
  refine congrArg D.bool ?_
  rw [Bool.eq_iff_iff, decide_eq_true_iff]
  exact idxG_nonneg p l 0 (by omega)
/-! ### Shapes -/
def ordS : List ByteArray → Bool
  | a :: b :: r => Op.bytesLess a.toList b.toList && ordS (b :: r)
  | _ => true
theorem ordS_drop {l : List ByteArray} {i : Nat} (h : i + 1 < l.length) : ordS (l.drop i) = (Op.bytesLess (l[i]'(by omega)).toList l[i + 1].toList && ordS (l.drop (i + 1))) := by
  rw [List.drop_eq_getElem_cons (by omega), List.drop_eq_getElem_cons h, ordS]
theorem ordered_fn (l : List ByteArray) : FnR Tryz.prog G0 107 [dL l] (.bool (ordS l)) := by
  refine fnQ_sz fun hs => ?_
  have hl := (szOk_sl hs.1).1
  simp only [LB] at hl
  refine fnQ_of_vc txok mixed [(4, .pure 0 (.pure 1 (.pure 2 (.pure 3 (.take 4 (.pure 5 (.pure 6 (.pure 7 (.take 8 (.pure 9 .done))))))))))] Tryz.func107 rfl rfl (by simp) fun b => ?_
  conv => whnf
  refine loopH (fun i : Nat => (i ≤ l.length ∨ i = 0) ∧ ordS l = ordS (l.drop i)) (fun i => l.length - i) (fun i => [(3, .d (.int .i64 ((i + 1 : Nat) : Int)))]) (fun _ => []) 0 0 ⟨by omega, rfl⟩ (weak_of rfl (by repeat ((conv => whnf); first | exact trivial | refine And.intro rfl ?_ | refine And.intro (incD (by omega)) ?_)) (by repeat ((conv => whnf); first | exact trivial | refine And.intro rfl ?_ | refine And.intro (incD (by omega)) ?_))) ?_
  rintro i ⟨hi, hx⟩
  conv => whnf
  refine And.intro (fun hb => ?_) (fun hb => ?_)
  · have hb : i + 1 < l.length := by have := of_decide_eq_true hb; omega
    rw [ordS_drop hb] at hx
    conv => whnf
    refine And.intro (by kernel_rfl) ?_
    conv => whnf
    have e1 : IntKind.i64.wrap (((i + 1 : Nat) : Int) - 1) = (i : Int) := (Go.Vc.wrap_small (by omega) (by omega)).trans (by omega)
    rw [e1]
    refine IdxC.encS i (by omega) rfl ?_
    conv => whnf
    refine IdxC.encS (i + 1) hb rfl ?_
    conv => whnf
    refine And.intro (fun he => ?_) (fun he => ?_)
    · conv => whnf
      refine congrArg D.bool ?_
      rw [hx]
      simp only [Bool.not_eq_true'] at he
      rw [he]; rfl
    · conv => whnf
      simp only [Bool.not_eq_false'] at he
      rw [he, Bool.true_and] at hx
      rw [incD (by omega)]
      exact again (i + 1) (by omega) ⟨by omega, hx⟩ (weak_of rfl (by repeat ((conv => whnf); first | exact trivial | refine And.intro rfl ?_ | refine And.intro (incD (by omega)) ?_)) (by repeat ((conv => whnf); first | exact trivial | refine And.intro rfl ?_ | refine And.intro (incD (by omega)) ?_)))
  · have hb : ¬ i + 1 < l.length := by have := of_decide_eq_false hb; omega
    conv => whnf
    refine congrArg D.bool ?_
    rw [hx]
    have : (l.drop i).length ≤ 1 := by simp; omega
    match h : l.drop i, this with
    | [], _ => rfl
    | [_], _ => rfl
/-- Has a node just what its kind has? -/
def shpG (t : TG) : Bool :=
  if t.k = 1 ∨ t.k = 2 ∨ t.k = 3 then t.n == 0 && (t.ls.length : Int) == 0 && (t.kids.length : Int) == 0
  else if t.k = 4 ∨ t.k = 5 then t.n == 0 && (t.ls.length : Int) == 0 && (t.kids.length : Int) == 2
  else if t.k = 6 then (t.ls.length : Int) == 0 && (t.kids.length : Int) == 0
  else if t.k = 7 then t.n == 0 && ordS t.ls && (t.ls.length : Int) == (t.kids.length : Int)
  else if t.k = 8 then t.n == 0 && (t.ls.length : Int) == 0
  else if t.k = 9 ∨ t.k = 10 ∨ t.k = 11 then (t.ls.length : Int) == 0 && (t.kids.length : Int) == 1
  else false
theorem typeShape_fn (t : TG) : FnR Tryz.prog G0 68 [dG t] (.bool (shpG t)) := by
  refine fnQ_of_vc txok mixed [] Tryz.func68 rfl rfl (by simp) fun b => ?_
  (repeat' ((conv => whnf); first | refine And.intro (fun _ => ?_) (fun _ => ?_))) <;> (conv => whnf)
  all_goals try (refine congrArg D.bool ?_; first | (simp only [shpG, *, Bool.or_self, Bool.true_or, Bool.or_true, Bool.false_or, Bool.or_false, Bool.false_and, Bool.and_false, Bool.true_and, Bool.and_true, Bool.and_self, Bool.not_true, Bool.not_false]; done) | (simp_all [shpG]; done) | (simp_all [shpG]; omega))
  all_goals try (refine callF (ordered_fn t.ls) gf107 rfl rfl ?_)
  all_goals try ((repeat' ((conv => whnf); first | refine And.intro (fun _ => ?_) (fun _ => ?_))) <;> (conv => whnf))
  all_goals try (refine congrArg D.bool ?_; first | (simp only [shpG, *, Bool.or_self, Bool.true_or, Bool.or_true, Bool.false_or, Bool.or_false, Bool.false_and, Bool.and_false, Bool.true_and, Bool.and_true, Bool.and_self, Bool.not_true, Bool.not_false]; done) | (simp_all [shpG]; done) | (simp_all [shpG]; omega))
mutual
/-- Are all nodes such as they should be? -/
def allG : TG → Bool
  | .mk k n ls l => shpG (.mk k n ls l) && allGs l
def allGs : List TG → Bool
  | [] => true
  | t :: r => allG t && allGs r
end
theorem allGs_any : ∀ l : List TG, allGs l = !l.any fun t => !allG t
  | [] => rfl
  | t :: r => by simp only [allGs, List.any_cons, allGs_any r, Bool.not_or, Bool.not_not]
abbrev capS : D := .ptr [.fn 68 [] []] 0
theorem everyType_fn : ∀ t : TG, FnR Tryz.prog G0 67 [dG t, .fn 68 [] []] (.bool (allG t)) := by
  refine TG.ind fun k n ls ks ih => ?_
  have hc : ∀ t ∈ ks, FnR Tryz.prog G0 106 [dG t, capS] (.bool (!allG t)) := by
    intro t ht
    refine fnQ_of_vc txok mixed [] Tryz.func106 rfl rfl (by simp) fun b => ?_
    conv => whnf
    refine callF (ih t ht) gf67 rfl rfl ?_
    conv => whnf
    try exact rfl
  refine fnQ_of_vc txok mixed [] Tryz.func67 rfl rfl (by simp) fun b => ?_
  conv => whnf
  refine callF (typeShape_fn (.mk k n ls ks)) gf68 rfl rfl ?_
  conv => whnf
  refine And.intro (fun h => ?_) (fun h => ?_)
  · conv => whnf
    refine pubC (fun i => Nat.beq i 1) ?_
    conv => whnf
    refine callF (containsFuncG_fn 106 capS (fun t => !allG t) ks gf106 hc) gf105 rfl rfl ?_
    conv => whnf
    refine congrArg D.bool ?_
    simp only [allG, allGs_any, h, Bool.true_and]
  · conv => whnf
    refine congrArg D.bool ?_
    simp [allG, h]
/-! ### How deep -/
mutual
def depG : TG → Nat
  | .mk _ _ _ l => depGs l + 1
def depGs : List TG → Nat
  | [] => 0
  | t :: r => max (depG t) (depGs r)
end
theorem depGs_app : ∀ l m : List TG, depGs (l ++ m) = max (depGs l) (depGs m)
  | [], m => by simp [depGs]
  | t :: r, m => by simp only [List.cons_append, depGs, depGs_app r m]; omega
theorem depGs_take {l : List TG} {i : Nat} (h : i < l.length) : depGs (l.take (i + 1)) = max (depGs (l.take i)) (depG l[i]) := by
  rw [List.take_succ_eq_append_getElem h, depGs_app]; simp [depGs]
theorem depthType_fn : ∀ (t : TG) (at' : Nat), 1 ≤ at' → at' ≤ 100001 → FnR Tryz.prog G0 66 [dG t, .int .i64 at'] (.int .i64 (min (at' + depG t - 1) 100001 : Nat)) := by
  refine TG.ind fun k n ls ks ih q hq0 hq => ?_
  refine fnQ_sz fun hs => ?_
  have hl := (szOk_G (t := .mk k n ls ks) hs.1).1
  simp only [g_kids, LB] at hl
  have hd : depG (.mk k n ls ks) = depGs ks + 1 := by simp only [depG]
  rw [hd]
  refine fnQ_of_vc txok mixed [] Tryz.func66 rfl rfl (by simp) fun b => ?_
  conv => whnf
  refine And.intro (fun h => ?_) (fun h => ?_)
  · have h := of_decide_eq_true h
    conv => whnf
    rw [show min (q + (depGs ks + 1) - 1) 100001 = q from by omega]
  have h := of_decide_eq_false h
  conv => whnf
  simp only [g_kids]
  refine loopH (fun i : Nat => i ≤ ks.length) (fun i => ks.length - i) (fun i => [(15, .d (.int .i64 i)), (5, .d (.int .i64 (min (q + depGs (ks.take i)) 100001 : Nat)))]) (fun _ => [(0, .blk 30 [.d (.int .i64 k), .d (.int .i64 n), .d (dL ls), .d (dGs ks)])]) 1 0 (by omega) ?_ ?_
  · rw [show min (q + depGs (ks.take 0)) 100001 = q from by simp [depGs]; omega]
    exact weak_of rfl (by repeat ((conv => whnf); first | exact trivial | refine And.intro rfl ?_ | refine And.intro (incD (by omega)) ?_)) (by repeat ((conv => whnf); first | exact trivial | refine And.intro rfl ?_ | refine And.intro (incD (by omega)) ?_))
  intro i hi
  conv => whnf
  refine And.intro (fun hb => ?_) (fun hb => ?_)
  · have hil : i < ks.length := by have := of_decide_eq_true hb; omega
    have ht := depGs_take hil
    conv => whnf
    refine IdxC.encGs i hil rfl ?_
    conv => whnf
    rw [incD (by omega)]
    refine callF (ih ks[i] (by simp) (q + 1) (by omega) (by omega)) gf66 rfl rfl ?_
    conv => whnf
    refine maxC rfl rfl rfl ?_
    conv => whnf
    rw [incD (by omega)]
    refine again (i + 1) (by omega) (by omega) ?_
    rw [ht, show (max ((min (q + depGs (ks.take i)) 100001 : Nat) : Int) ((min (q + 1 + depG ks[i] - 1) 100001 : Nat) : Int)) = ((min (q + max (depGs (ks.take i)) (depG ks[i])) 100001 : Nat) : Int) from by omega]
    exact weak_of rfl (by repeat ((conv => whnf); first | exact trivial | refine And.intro rfl ?_ | refine And.intro (incD (by omega)) ?_)) (by repeat ((conv => whnf); first | exact trivial | refine And.intro rfl ?_ | refine And.intro (incD (by omega)) ?_))
  · have hil : i = ks.length := by have := of_decide_eq_false hb; omega
    subst hil
    rw [List.take_length]
    conv => whnf
    rw [show min (q + (depGs ks + 1) - 1) 100001 = min (q + depGs ks) 100001 from by omega]
def rightG (t : TG) : Int := if depG t > 100000 then 4 else if allG t then 0 else 1
theorem rightType_fn (t : TG) : FnR Tryz.prog G0 29 [dG t] (.int .i64 (rightG t)) := by
  refine fnQ_of_vc txok mixed [] Tryz.func29 rfl rfl (by simp) fun b => ?_
  conv => whnf
  refine callF (depthType_fn t 1 (by omega) (by omega)) gf66 rfl rfl ?_
  conv => whnf
  refine And.intro (fun h => ?_) (fun h => ?_)
  · have h : depG t > 100000 := by have := of_decide_eq_true h; omega
    conv => whnf
    rw [rightG, if_pos h]
  have h : ¬ depG t > 100000 := by have := of_decide_eq_false h; omega
  conv => whnf
  refine callF (everyType_fn t) gf67 rfl rfl ?_
  conv => whnf
  refine And.intro (fun h2 => ?_) (fun h2 => ?_)
  · conv => whnf
    rw [rightG, if_neg h, if_neg (by simpa using h2)]
  · conv => whnf
    rw [rightG, if_neg h, if_pos (by simpa using h2)]
end Go.Proofs.YtmjjajhkokdikaaGreat

/- slices.Index, Contains, Equal, Clip, Clone. -/
set_option linter.unusedSimpArgs false
set_option linter.unusedVariables false
namespace Go.Proofs.YtmjjajhkokdikaaGreat
open Go.Vx Go.Vc Go.RowKit

theorem index_fn (l : List Int) (x : Int) : FnR Tryz.prog G0 108 [dI l, .int .i64 x] (.int .i64 (idxFrom l x 0)) := by
  refine fnQ_sz fun hs => ?_
  have hl := (szOk_sl hs.1).1
  simp only [LB] at hl
  refine fnQ_of_vc txok mixed [] Tryz.func108 rfl rfl (by simp) fun b => ?_
  conv => whnf
  refine loopH (fun i : Nat => i ≤ l.length ∧ idxFrom l x 0 = idxFrom (l.drop i) x i) (fun i => l.length - i) (fun i => [(8, .d (.int .i64 i))]) (fun _ => []) 0 0 ⟨by omega, rfl⟩ (weak_of rfl (by repeat ((conv => whnf); first | exact trivial | refine And.intro rfl ?_ | refine And.intro (incD (by omega)) ?_)) (by repeat ((conv => whnf); first | exact trivial | refine And.intro rfl ?_ | refine And.intro (incD (by omega)) ?_))) ?_
  rintro i ⟨hi, hx⟩
  conv => whnf
  refine And.intro (fun hb => ?_) (fun hb => ?_)
  · have hb := of_decide_eq_true hb
    have hil : i < l.length := by omega
    rw [List.drop_eq_getElem_cons hil, idxFrom] at hx
    conv => whnf
    refine IdxC.encI i hil rfl ?_
    conv => whnf
    refine And.intro (fun he => ?_) (fun he => ?_)
    · conv => whnf
      rw [hx, if_pos (eq_of_beq he)]
    · conv => whnf
      rw [if_neg (by simpa using he)] at hx
      exact again (i + 1) (by omega) ⟨by omega, by rw [hx]; rfl⟩ (weak_of rfl (by repeat ((conv => whnf); first | exact trivial | refine And.intro rfl ?_ | refine And.intro (incD (by omega)) ?_)) (by repeat ((conv => whnf); first | exact trivial | refine And.intro rfl ?_ | refine And.intro (incD (by omega)) ?_)))
  · have hb := of_decide_eq_false hb
    conv => whnf
    rw [hx, List.drop_eq_nil_of_le (by omega)]; rfl
theorem contains_fn (l : List Int) (x : Int) : FnR Tryz.prog G0 112 [dI l, .int .i64 x] (.bool (decide (x ∈ l))) := by
  refine fnQ_of_vc txok mixed [] Tryz.func112 rfl rfl (by simp) fun b => ?_
  conv => whnf
  refine callF (index_fn l x) gf108 rfl rfl ?_
  conv => whnf
  refine congrArg D.bool ?_
  rw [decide_eq_decide]
  exact idxFrom_nonneg l x 0 (by omega)
theorem beqB' (a c : ByteArray) : (a.toList == c.toList) = decide (a = c) := by
  rw [Bool.eq_iff_iff, beq_iff_eq, decide_eq_true_iff]
  exact ⟨toList_inj, fun h => by rw [h]⟩
theorem eqS_drop {l m : List ByteArray} {i : Nat} (hl : i < l.length) (hm : i < m.length) : (l.drop i = m.drop i) ↔ (l[i] = m[i] ∧ l.drop (i + 1) = m.drop (i + 1)) := by
  rw [List.drop_eq_getElem_cons hl, List.drop_eq_getElem_cons hm, List.cons.injEq]
theorem equalS_fn (l m : List ByteArray) : FnR Tryz.prog G0 101 [dL l, dL m] (.bool (decide (l = m))) := by
  refine fnQ_sz fun hs => ?_
  have hl := (szOk_sl hs.1).1
  simp only [LB] at hl
  refine fnQ_of_vc txok mixed [(6, .pure 0 (.pure 1 (.pure 2 (.take 3 (.pure 4 (.pure 5 (.pure 6 (.take 7 (.pure 8 .done)))))))))] Tryz.func101 rfl rfl (by simp) fun b => ?_
  conv => whnf
  refine And.intro (fun h => ?_) (fun h => ?_)
  · conv => whnf
    refine congrArg D.bool ?_
    rw [eq_comm, decide_eq_false_iff_not]
    rintro rfl
    simp at h
  have h : l.length = m.length := by simp at h; omega
  conv => whnf
  refine loopH (fun i : Nat => i ≤ l.length ∧ (l = m ↔ l.drop i = m.drop i)) (fun i => l.length - i) (fun i => [(13, .d (.int .i64 i))]) (fun _ => []) 0 0 ⟨by omega, by simp⟩ (weak_of rfl (by repeat ((conv => whnf); first | exact trivial | refine And.intro rfl ?_ | refine And.intro (incD (by omega)) ?_)) (by repeat ((conv => whnf); first | exact trivial | refine And.intro rfl ?_ | refine And.intro (incD (by omega)) ?_))) ?_
  rintro i ⟨hi, hx⟩
  conv => whnf
  refine And.intro (fun hb => ?_) (fun hb => ?_)
  · have hil : i < l.length := by have := of_decide_eq_true hb; omega
    have him : i < m.length := by omega
    rw [eqS_drop hil him] at hx
    conv => whnf
    refine And.intro (by kernel_rfl) ?_
    conv => whnf
    refine IdxC.encS i hil rfl ?_
    conv => whnf
    refine IdxC.encS i him rfl ?_
    conv => whnf
    rw [beqB']
    refine And.intro (fun he => ?_) (fun he => ?_)
    · conv => whnf
      refine congrArg D.bool ?_
      rw [eq_comm, decide_eq_false_iff_not, hx]
      simp at he
      exact fun h' => he h'.1
    · conv => whnf
      simp at he
      exact again (i + 1) (by omega) ⟨by omega, by rw [hx]; simp [he]⟩ (weak_of rfl (by repeat ((conv => whnf); first | exact trivial | refine And.intro rfl ?_ | refine And.intro (incD (by omega)) ?_)) (by repeat ((conv => whnf); first | exact trivial | refine And.intro rfl ?_ | refine And.intro (incD (by omega)) ?_)))
  · have hb : ¬ i < l.length := by have := of_decide_eq_false hb; omega
    conv => whnf
    refine congrArg D.bool ?_
    rw [eq_comm, decide_eq_true_iff, hx, List.drop_eq_nil_of_le (by omega), List.drop_eq_nil_of_le (by omega)]
theorem clip_fn (l : List Int) : FnR Tryz.prog G0 95 [dI l] (.csl (ebn 8 l.length) l.length (encI l)) := by
  refine fnQ_of_vc txok mixed [] Tryz.func95 rfl rfl (by simp) fun b => ?_
  conv => whnf
  refine clipC (el := 3) txok rfl rfl rfl rfl rfl rfl rfl ?_
  conv => whnf
  try exact rfl
theorem clone_tri (l : List TG) : Tri Tryz.prog G0 114 0 1 [.d (dGs l)] [] (fun o H' => o = .ret (.row 0) ∧ H' = [(0, .row 30 64 4 l.length (encGs l))]) := by
  refine tri_sz fun hs => ?_
  have hl := (szOk_sl (hs (.d (dGs l)) (by simp))).1
  refine triNil (args := [.d (dGs l)]) (Q := fun o H' => (o = .ret (.row 0) ∧ H' = [(0, .row 30 64 4 l.length (encGs l))]) ∨ (o = .ret .nl ∧ l = [])) 30 64 4 ?_ ?_
  · refine tri_of_vc (args := [.d (dGs l)]) txok mixed [0] [] Tryz.func114 rfl rfl (by simp) fun b => ?_
    conv => whnf
    intro c hc
    conv => whnf
    refine And.intro (fun h => ?_) (fun h => ?_)
    · conv => whnf
      exact .inr ⟨rfl, List.eq_nil_of_length_eq_zero (hc h)⟩
    · conv => whnf
      refine appR (i := 0) (sz := 4) (n := 0) (m := l.length) (xs := []) (ys := encGs l) txok (fun _ => false) l.length (encGs l) rfl rfl rfl (by kernel_rfl) (encGs_len l) (encGs_scal l) (by simp) (by simp) hl ?_
      conv => whnf
      exact .inl ⟨rfl, rfl⟩
  · rintro o H' (h | ⟨rfl, rfl⟩)
    · exact .inl h
    · exact .inr ⟨rfl, rfl, rfl⟩
end Go.Proofs.YtmjjajhkokdikaaGreat

/- trans.made: what something makes, or the error that it gives up with. -/
set_option linter.unusedSimpArgs false
set_option linter.unusedVariables false
namespace Go.Proofs.YtmjjajhkokdikaaGreat
open Go.Vx Go.Vc Go.RowKit

abbrev madeH (er : Int) : Hp := [(0, .blk 30 [.d (.int .i64 0), .d (.int .i64 0), .nl, .nl]), (1, .blk 31 [.d (.int .i64 er)])]
abbrev madeH0 : Hp := [(1, .blk 31 [.d (.int .i64 0)]), (0, .blk 30 [.d (.int .i64 0), .d (.int .i64 0), .nl, .nl])]
set_option maxRecDepth 100000 in
/-- The deferred closure, where the error is one of these. -/
theorem madeCatch (er : Int) (e : Env) (w : World) (hlen : e.m.length = 2) (g0 g1 : Nat) (hp : e.m[0]? = some (.pointer (some ⟨g0, 0, none⟩))) (hq : e.m[1]? = some (.pointer (some ⟨g1, 0, none⟩))) (hH : HpOk e w madeH0) :
    CallsD Tryz.prog 72 #[.pointer (some ⟨g0, 0, none⟩), .pointer (some ⟨g1, 0, none⟩)] (.panicking [{ v := .iface 105 (.int .i64 er), recovered := false }]) w fun en u' w' => en = .returned (.tuple #[]) ∧ u' = .panicking [{ v := .iface 105 (.int .i64 er), recovered := true }] ∧
      ∃ e', Vx.Left G0 0 e w madeH0 e' w' (madeH er) := by
  refine callsD_of_wpS Tryz.func72 rfl fun c₀ cs hu => ?_
  apply wpS_seq
  apply wpS_region
  simp [wpOpsS, go_sem, recoverD, hu, Tryz.ntmps72, Exit.thenS]
  apply wpS_seq
  apply wpS_region
  simp [wpOpsS, go_sem, Exit.thenS]
  refine wpS_cond (t := true) (by simp [Act.eval, Array.replicate]) ?_
  simp only [if_true]
  refine wpS_of_wp ?_
  let b : Bs G0 2 := ⟨w, e.pub, feet e madeH0, e.m, hlen, []⟩
  refine wp_mono (vcCode_sound (b := b) (N := 18) (plans := []) txok mixed _ e ⟨[(0, .own 0 0), (1, .own 1 0), (2, .ifc 105 (.d (.int .i64 er)))], madeH0, 2⟩ (fun x st => match x with
    | .normal => match st with
      | ⟨T, H, n⟩ => leftK 2 [] H [0, 1] fun H' => H' = madeH er
    | _ => False) _ _ ⟨?_, ?_, hlen, ?_, hH, Only.refl _ _, trivial, fun i k hi hk => .inl ⟨i, hi, hk⟩, fun k hk => .inl hk, ⟨fun i v h _ => h, Nat.le_refl _, fun k hk => hk⟩, trivial⟩ ?_) ?_
  · simp
  · rfl
  · intro t sv ht
    simp only [lk] at ht
    split at ht
    · rename_i h; obtain rfl := nbeq.1 h
      injection ht with ht; subst ht
      simp only [RepSV]
      exact ⟨g0, hp, by simp [Array.replicate]⟩
    split at ht
    · rename_i h; obtain rfl := nbeq.1 h
      injection ht with ht; subst ht
      simp only [RepSV]
      exact ⟨g1, hq, by simp [Array.replicate]⟩
    split at ht
    · rename_i h; obtain rfl := nbeq.1 h
      injection ht with ht; subst ht
      simp only [RepSV, RepD]
      exact ⟨_, by simp [Array.replicate], rfl⟩
    · cases ht
  · conv => whnf
    refine tassC rfl rfl Tryz.underlying105 (by intro m h; cases h) ?_
    conv => whnf
    try exact rfl
  · intro ex a w' hq'
    cases ex with
    | normal =>
      obtain ⟨e', ⟨T, H, n⟩, h1, h2⟩ := hq'
      simp only at h2
      obtain ⟨H', rfl, k2⟩ := leftK_get _ _ h2
      obtain ⟨e2, _, f2⟩ := left_of h1 hlen rfl hlen k2
      refine ⟨h1.df, _, rfl, .tuple #[], ?_, rfl, ?_, e2, f2⟩
      · simp [results, Tryz.results72, go_sem]
      · rfl
    | panic c => obtain ⟨_, _, _, _, _, _, _, h⟩ := hq'; exact h.elim
    | outgrown => exact hq'.elim
    | ret => obtain ⟨_, _, _, h⟩ := hq'; exact h.elim
    | exit id => obtain ⟨_, _, _, h⟩ := hq'; exact h.elim
    | goto l => obtain ⟨_, _, _, h⟩ := hq'; exact h.elim

def madeOut : DOut → D
  | .ret x => .tup [x, .int .i64 0]
  | .pan (.ifc _ (.int _ er)) => .tup [dG (.mk 0 0 [] []), .int .i64 er]
  | .pan _ => .tup []
set_option maxRecDepth 100000 in
theorem made_out {g : FuncId} {caps : List D} {o0 : DOut} (hgo : Goes Tryz.prog g) (hf : FnQ Tryz.prog G0 g caps (fun o => o = o0)) (h0 : (∃ t : TG, o0 = .ret (dG t)) ∨ ∃ er, o0 = .pan (.ifc 105 (.int .i64 er))) :
    FnR Tryz.prog G0 32 [.fn g [] caps] (madeOut o0) := by
  refine fnQ_of_tri fun e w vs hlen hargs hH hG => ?_
  have ok0 := tri_start (G := G0) (fn := Tryz.f32) (N := 7) (args := [.d (.fn g [] caps)]) (f := 0) rfl (by simp) hlen hargs hH hG
  refine calls_of_wp_defers Tryz.func32 rfl ?_
  refine wp_seq (wp_mono (vcCode_sound (plans := []) txok mixed _ e _ (fun x st => match x with
    | .normal => st = ⟨[(3, .own 1 0), (2, .own 0 0), (0, .d (.fn g [] caps))], [(1, .blk 31 [.d (.int .i64 0)]), (0, .blk 30 [.d (.int .i64 0), .d (.int .i64 0), .nl, .nl])], 2⟩
    | _ => False) _ _ ok0 ?_) ?_)
  · conv => whnf
    try exact rfl
  rintro ex a1 w1 hq
  cases ex with
  | panic c => obtain ⟨_, _, _, _, _, _, _, h⟩ := hq; exact h.elim
  | outgrown => exact hq.elim
  | ret => obtain ⟨_, _, _, h⟩ := hq; exact h.elim
  | exit id => obtain ⟨_, _, _, h⟩ := hq; exact h.elim
  | goto l => obtain ⟨_, _, _, h⟩ := hq; exact h.elim
  | normal =>
  obtain ⟨e1, st1, ok1, rfl⟩ := hq
  have hz1 := ok1.sz
  have t2 := ok1.tm 2 _ rfl
  have t3 := ok1.tm 3 _ rfl
  simp only [RepSV] at t2 t3
  obtain ⟨g0, m0, t2⟩ := t2
  obtain ⟨g1, m1, t3⟩ := t3
  have ok2 := (ok1.put (d := 4) (sv := .any) (v := .func (.func 72) #[] (#[Operand.tmp 2, Operand.tmp 3].map a1.eval)) (by decide) (by simp only [RepSV])).defers' [{ target := .fn (.func 72) (#[Operand.tmp 2, Operand.tmp 3].map a1.eval), args := #[] }]
  have ev2 : #[Operand.tmp 2, Operand.tmp 3].map a1.eval = #[.pointer (some ⟨g0, 0, none⟩), .pointer (some ⟨g1, 0, none⟩)] := by
    simp only [List.map_toArray, List.map_cons, List.map_nil, Act.eval]
    rw [t2, t3]
  refine wp_seq (wp_defer2 (by rw [hz1]; decide) ?_)
  have df1 := ok1.df
  simp only at df1
  rw [df1]
  simp only [Exit.then]
  generalize hb2 : Bs.mk _ _ _ _ _ _ = b2 at ok2
  generalize ha2 : Act.mk _ _ = a2 at ok2 ⊢
  have hbb : b2 = ⟨w, e.pub, feet e [], e.m, hlen, [{ target := .fn (.func 72) #[.pointer (some ⟨g0, 0, none⟩), .pointer (some ⟨g1, 0, none⟩)], args := #[] }]⟩ := by
    rw [← hb2, ev2]
  clear hb2 ha2
  have tm0 := ok2.tm 0 _ rfl
  refine wp_seq (wp_region_list ?_)
  refine wpList_go (v := a2.tmps.getD 0 undef) (w' := w1) (by rfl) (by simp only [execOp]; rfl) ?_
  have ok3 := ok2.put (d := 5) (sv := .d (.fn g [] caps)) (v := a2.tmps.getD 0 undef) (by decide) tm0
  generalize ha3 : a2.put _ _ = a3 at ok3 ⊢
  obtain ⟨vs2, hvs2, hrun⟩ := callOf_run (o := { dst := some 6, op := .call { callee := .value (.tmp 5), args := #[], argTypes := #[] }, type := 30, pos := "trans.go:41", after := #[{ on := 0, ground := Ground.data }], guard := none }) ok3.tmok rfl hgo
  refine wpList_call (by rfl) hrun ?_
  refine (hf e1.pub w1 vs2 (dOfs_rep (by simpa [Vx.dL] using dOfs_dL caps) hvs2) ok3.hp.pubLt trivial).mono ?_
  rintro en w2 ⟨o', S', rfl, ho, ⟨hb, hdr⟩, hup, hfr, hlt⟩
  obtain ⟨ok4, kw, _⟩ := ok3.below' hb hdr hup hfr hlt
  rcases h0 with ⟨⟨k, n, l, m⟩, rfl⟩ | ⟨er, rfl⟩
  · obtain ⟨v, rfl, hv⟩ := ho
    simp only
    have hv' : RepSV ⟨e1.m, S'⟩ w2 (.agg [.d (.int .i64 k), .d (.int .i64 n), .d (slD 16 l.length (encS l)), .d (slD 64 m.length (encGs m))]) v := by
      obtain ⟨y, hy, hr⟩ := nrm_eq (e := ⟨e1.m, S'⟩) (svD (dG (.mk k n l m))) (fun y => y = .agg [.d (.int .i64 k), .d (.int .i64 n), .d (slD 16 l.length (encS l)), .d (slD 64 m.length (encGs m))]) (by rfl) (svD_rep hv)
      subst hy; exact hr
    have ok5 := ok4.put (d := 6) (by decide) hv'
    refine wpList_mono ?_ _ _ _ (vcSeq_sound (K := fun x st => match x with
      | .normal => endK tx 0 [] Tryz.f32.results.toList (closeQ (retD (madeOut (.ret (dG (.mk k n l m)))))) st
      | _ => False) txok _ _ _ _ _ ok5 ?_)
    · rintro ex a5 w5 hq
      cases ex with
      | exit id => obtain ⟨_, _, _, h⟩ := hq; exact h.elim
      | goto l => obtain ⟨_, _, _, h⟩ := hq; exact h.elim
      | ret => obtain ⟨_, _, _, h⟩ := hq; exact h.elim
      | outgrown => exact hq.elim
      | panic c => obtain ⟨_, _, _, _, _, _, _, h⟩ := hq; exact h.elim
      | normal =>
        obtain ⟨e6, st6, ok6, hk⟩ := hq
        simp only [Exit.then]
        refine wp_ret ?_
        obtain ⟨v', hv6, hR⟩ := tri_fin (fn := Tryz.f32) (kp := []) txok hlen hbb ok6 hk
        have df6 := ok6.df
        rw [hbb] at df6
        simp only at df6
        simp only [bodyPostD]
        rw [df6]
        refine leaves_cons (f := 72) (args := #[.pointer (some ⟨g0, 0, none⟩), .pointer (some ⟨g1, 0, none⟩)]) (by simp) (by simp [go_sem]) ?_
        refine (madeIdle ⟨g0, 0, none⟩ ⟨g1, 0, none⟩ _).mono ?_
        rintro en u' w' ⟨rfl, rfl, rfl⟩
        exact ⟨v', hv6, hR⟩
    · conv => whnf
      try exact rfl
  · obtain ⟨v, rfl, hv⟩ := ho
    simp only [RepD] at hv
    obtain ⟨y, rfl, rfl⟩ := hv
    simp only [Exit.then, bodyPostD]
    have df4 := ok4.df
    rw [hbb] at df4
    simp only at df4
    rw [df4]
    refine leaves_cons (f := 72) (args := #[.pointer (some ⟨g0, 0, none⟩), .pointer (some ⟨g1, 0, none⟩)]) (by simp) (by simp [go_sem]) ?_
    refine (madeCatch er ⟨e1.m, S'⟩ w2 ok4.len g0 g1 m0 m1 ok4.hp).mono ?_
    rintro en u' w' ⟨rfl, rfl, e5, hl⟩
    have ok5 := Ok.left (st := ⟨[(5, .d (.fn g [] caps)), (4, .any), (3, .own 1 0), (2, .own 0 0), (0, .d (.fn g [] caps))], madeH0, 2⟩) ok4 hl
    have hk5 : endK tx 0 [] Tryz.f32.results.toList (closeQ (retD (madeOut (.pan (.ifc 105 (.int .i64 er)))))) ⟨scrubT (fun _ => true) [(5, .d (.fn g [] caps)), (4, .any), (3, .own 1 0), (2, .own 0 0), (0, .d (.fn g [] caps))], madeH er, 2⟩ := by
      conv => whnf
      try exact rfl
    obtain ⟨v, hv, hR⟩ := tri_fin (fn := Tryz.f32) (kp := []) txok hlen hbb ok5 hk5
    exact ⟨v, hv, hR⟩
end Go.Proofs.YtmjjajhkokdikaaGreat

