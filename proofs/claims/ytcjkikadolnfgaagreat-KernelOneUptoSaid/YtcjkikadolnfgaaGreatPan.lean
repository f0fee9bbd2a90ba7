/- Texts of mine, joined: Vxz. -/
import Derived.Test.YtcjkikadolnfgaaGreatPam
import Derived.ArgAppend
/- Laws: max; s[:n:n]; append to a slice that has no room left. -/
set_option linter.unusedVariables false
set_option linter.unusedSimpArgs false
namespace Go.Vx
open Go.RowKit Go.Vc
section
variable {P : Program} {G : Glob} {ty : List (Nat × TY)} {N n0 : Nat} {b : Bs G n0}
theorem maxC {kp : Bool} {o : Oper} {st : St} {K : SExit → St → Prop} {x y : Operand} {ts : Array TypeId} {k : IntKind} {i j : Int} (ho : o.op = .call { callee := .builtin .max, args := #[x, y], argTypes := ts }) (hx : ev st.T x = some (.d (.int k i))) (hy : ev st.T y = some (.d (.int k j)))
    (hk : putK N o.dst (.d (.int k (max i j))) st (K .normal)) : OpC P b N kp o st K := by
  refine valC _ (fun e a w hok => ?_) hk
  have h1 := hok.tmok _ _ hx
  have h2 := hok.tmok _ _ hy
  simp only [RepSV, RepD] at h1 h2 ⊢
  refine ⟨_, rfl, ?_⟩
  obtain ⟨dst, op, type, pos, after, guard⟩ := o
  simp only at ho; subst ho
  simp only [execOp, resolve, invoke, builtin, Sem.run_bind, Sem.run_pure, Result.andThen_ok]
  have : (Builtin.max_ ts type (#[x, y].map a.eval)).run P w = .ok (.int k (max i j)) w := by
    simp only [List.map_toArray, List.map_cons, List.map_nil, h1, h2, Builtin.max_]
    simp only [List.foldlM, Builtin.max2, Sem.run_bind]
    have : max i j = if j > i then j else i := by split <;> omega
    rw [this]
    rfl
  rw [this]
  rfl
theorem clipC (hty : Tys P ty) {kp : Bool} {o : Oper} {st : St} {K : SExit → St → Prop} {t el : TypeId} {y ye : TY} {x hi mx : Operand} {eb n : Nat} {cs : List D} {k1 k2 : IntKind} (ho : o.op = .slice t x none (some hi) (some mx)) (hy : lk ty t = some y) (hyk : y.kd = .slice el) (hye : lk ty el = some ye)
    (hx : ev st.T x = some (.d (.sl eb n cs))) (hh : ev st.T hi = some (.d (.int k1 n))) (hm : ev st.T mx = some (.d (.int k2 n))) (hk : putK N o.dst (.d (.csl eb n cs)) st (K .normal)) : OpC P b N kp o st K := by
  refine valC _ (fun e a w hok => ?_) hk
  have h1 := hok.tmok _ _ hx
  have h2 := hok.tmok _ _ hh
  have h3 := hok.tmok _ _ hm
  simp only [RepSV, RepD] at h1 h2 h3
  obtain ⟨A, c, hv, hnc, hlb, hsome, hrep⟩ := h1
  refine ⟨.slice A n n, by simp only [RepSV, RepD]; exact ⟨A, rfl, hlb, hsome, hrep⟩, ?_⟩
  have hu := (hty _ _ hy).slice hyk
  have hsz := Vc.run_sizeOf (P := P) (w := w) (hty _ _ hye).i
  obtain ⟨dst, op, type, pos, after, guard⟩ := o
  simp only at ho; subst ho
  simp only [execOp]
  refine run_val ?_
  rw [hv]
  simp only [Option.map_some, Option.map_none, h2, h3, Instr.sliceAt, Sem.run_bind, run_under hu, Result.andThen_ok, Instr.slice, Instr.sliceBounds, Sem.run_pure, if_true]
  have hcap : (Instr.sliceBound (.int k2 (n : Int)) c .slice3Acap).run P w = .ok n w := by rw [run_sliceBound' (by omega) (by omega)]; simp
  have hhi : (Instr.sliceBound (.int k1 (n : Int)) n .slice3B).run P w = .ok n w := by rw [run_sliceBound' (by omega) (by omega)]; simp
  rw [hcap]
  simp only [Result.andThen_ok]
  rw [hhi]
  simp only [Result.andThen_ok, Sem.run_pure, Sem.run_bind, hsz, Nat.zero_mul, Nat.sub_zero]
  have : A.map (·.add 0) = A := by cases A <;> simp [Addr.add]
  simp [this]
theorem appC (hty : Tys P ty) {kp : Bool} {o : Oper} {st : St} {K : SExit → St → Prop} {y : SV} {t el : TypeId} {eb eb' sz n m : Nat} {cs ys : List D} (n' : Nat) (xs' : List D) (ho : appOf st.T o.op = some (.d (.csl eb' n cs), y, t)) (hy : slOf st.H y = some (m, ys)) (hB : rowB ty t el eb sz = true) (hm : 0 < m)
    (hc : cs.length = n * sz) (hcs : ∀ d ∈ cs, scalD d = true) (hl : ys.length = m * sz) (hs : ∀ d ∈ ys, scalD d = true) (hlim : (n + m) * eb ≤ LB) (hn : n + m = n') (hx : cs ++ ys = xs')
    (hk : match st with
      | ⟨T, H, q⟩ => putK N o.dst (.row q) ⟨T, (q, .row el eb sz n' xs') :: H, q + 1⟩ (K .normal)) : OpC P b N kp o st K := by
  subst hn; subst hx
  obtain ⟨T, H, q⟩ := st
  refine ⟨fun e a w hok => ?_⟩
  obtain ⟨u, v, h1, h2, h3⟩ := appOf_run (P := P) hok.tmok ho
  obtain ⟨B, d, S, yv, rfl, hcc, hys⟩ := slOf_rep hok.hp hy h2
  obtain ⟨y', ye, hy', hk', hye, hsz, heb, hzc, h0, hb0, hte⟩ := rowB_get hB
  have hu := (hty _ _ hy').slice hk'
  have hyi := (hty _ _ hye).i
  obtain ⟨x', dd, hx', hd, g1, g2, g3, g4, g5, g6, g7, g8⟩ := hyi.get
  simp only [RepSV, RepD] at h1
  obtain ⟨A, rfl, hlb', hsome, hrep⟩ := h1
  have hyl : yv.length = m * sz := by rw [hys.len, hl]
  have hmsz : 0 < m * sz := Nat.mul_pos hm h0
  obtain ⟨bd, rfl, hbc⟩ : ∃ bd, B = some bd ∧ ∀ (j : Nat) u, yv[j]? = some u → w.cell? (bd.add j) = some u := by
    rcases hcc with hcc | ⟨bd, rfl, _, h⟩
    · rw [hcc] at hyl; simp at hyl; omega
    · exact ⟨bd, rfl, h⟩
  have hlim' : (n + m) * ye.i.bytes ≤ 140737488355328 := by rw [heb]; exact hlim
  have hmx : n + m ≤ maxLen := by
    have : n + m ≤ (n + m) * ye.i.bytes := Nat.le_mul_of_pos_right _ (by omega)
    simp only [maxLen]; omega
  have run : ∃ v' w' vs, RepDs e.pub w cs vs ∧ (Builtin.append_ #[t, t] o.type #[.slice A n n, .slice (some bd) m d]).run P w = .ok v' w' ∧ w'.ownsRow w.heap.size el ye.i.size v' (n + m) (vs ++ yv) ∧ w.grownBy w' none := by
    cases A with
    | some ad =>
      obtain ⟨vs, k1, k2⟩ := hrep.cells
      obtain ⟨v', w', r1, r2, r3⟩ := run_append_arg_grows (P := P) w t o.type el x' ye.i.z ye.i.size ye.i.bytes hu hx' g3 g1 g2 (by rw [hzc, hsz]) (by omega) ad n n vs (by rw [k1.len, hc, hsz]) (fun j u hj => by have := (k2 j u hj).2; simpa using this) bd m d yv (by rw [hyl, hsz]) hbc (by omega) hmx hlim'
      exact ⟨v', w', vs, k1, r1, r2, r3⟩
    | none =>
      have hn0 : n = 0 := by
        rcases Nat.eq_zero_or_pos n with h | h
        · exact h
        · obtain ⟨ad, h'⟩ := hsome (by omega); cases h'
      subst hn0
      obtain rfl : cs = [] := List.eq_nil_of_length_eq_zero (by simpa using hc)
      obtain ⟨v', w', r1, r2, r3, _⟩ := run_append_own (P := P) w w.heap.size t o.type el x' ye.i.z ye.i.size ye.i.bytes hu hx' g3 g1 g2 (by rw [hzc, hsz]) (by omega) (.slice none 0 0) 0 [] (World.ownsRow_nil w _ el ye.i.size) bd m d yv (by rw [hyl, hsz]) hbc (hys.scal hs) (by simpa using hmx) (by simpa using hlim') (Nat.le_refl _)
      exact ⟨v', w', [], by simp [RepDs], r1, by simpa using r2, r3⟩
  obtain ⟨v', w', vs, hvs, hrun, hown, hgrow⟩ := run
  rw [h3 w _ w' hrun]
  obtain ⟨hlen, ⟨rfl, hz⟩ | ⟨g, cap, cur, rfl, hg, hh, hnc, hcm, hcs', htk⟩⟩ := hown
  · omega
  have hbl : Below w.heap.size w w' := ⟨hgrow.os, hgrow.tape, hgrow.output, hgrow.size, fun k hk => hgrow.block k hk (by simp)⟩
  have hrow : RowOk w' ⟨.slice (some ⟨g, 0, none⟩) (n + m) cap, el, sz, vs ++ yv⟩ := by
    rw [hsz] at hlen hcs' htk
    exact ⟨n + m, hlen, .inr ⟨g, 0, cap, cur, rfl, hh, hnc, hcm, by simp [hcs'], by rw [List.drop_zero]; exact htk⟩⟩
  obtain ⟨e', g1', kw, hm', _⟩ := hok.addOb (v := .slice (some ⟨g, 0, none⟩) (n + m) cap) (o := .row el eb sz (n + m) (cs ++ ys)) hbl (run_drawn hrun) (fun k hk => by injection hk with hk; subst hk; exact hg)
    (fun e' kw hm => ⟨_, _, vs ++ yv, hm, hrow, (hvs.kept kw).app (hys.kept kw), hlim⟩)
  obtain ⟨st', g2', g3', _⟩ := putK_sound (v := .slice (some ⟨g, 0, none⟩) (n + m) cap) g1' (by simp only [RepSV]; exact ⟨_, _, _, rfl, hm'⟩) hk
  exact ⟨e', st', .of ⟨kw, Agr.below hok.hp hbl⟩, g2', g3'⟩
end
end Go.Vx


