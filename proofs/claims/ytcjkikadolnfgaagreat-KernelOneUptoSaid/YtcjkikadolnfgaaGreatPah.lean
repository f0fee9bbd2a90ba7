/- Texts of mine, joined: Vpj. -/
import Derived.Test.YtcjkikadolnfgaaGreatPaf
import Derived.Defers
/- A call in pieces: another base, other deferred calls, what a call's end comes to. -/
namespace Go.Vx
open Go.RowKit Go.Vc
set_option linter.unusedVariables false
set_option linter.unusedSimpArgs false
section
variable {P : Program} {G : Glob} {ty : List (Nat × TY)} {n0 : Nat} {b : Bs G n0} {N : Nat} {e : Env} {st : St} {a : Act} {w : World}
theorem Ok.defers' (h : Ok b N e st a w) (ds : List Deferred) : Ok (G := G) (n0 := n0) { b with ds := ds } N e st { a with defers := ds } w :=
  ⟨h.sz, rfl, h.len, h.tm, h.hp, h.below, h.dr, h.mine, h.frm, ⟨h.pre.m, h.pre.le, h.pre.up⟩, h.gl⟩
def baseOf (h : Ok b N e st a w) (ds : List Deferred) : Bs G st.n := ⟨w, e.pub, feet e st.H, e.m, h.len, ds⟩
theorem Ok.start' (h : Ok b N e st a w) {ds : List Deferred} (hds : a.defers = ds) : Ok (baseOf h ds) N e st a w :=
  ⟨h.sz, hds, h.len, h.tm, h.hp, Only.refl _ _, G.dm (Nat.le_refl _), fun i k hi hk => .inl ⟨i, hi, hk⟩, fun k hk => .inl hk, ⟨fun i v h _ => h, Nat.le_refl _, fun k hk => hk⟩, h.gl⟩
theorem Ok.rebase (h : Ok b N e st a w) {ds : List Deferred} {N' : Nat} {e' : Env} {st' : St} {a' : Act} {w' : World} (h' : Ok (baseOf h ds) N' e' st' a' w') : Ok (G := G) (n0 := n0) { b with ds := ds } N' e' st' a' w' := by
  have hm : ∀ k, (baseOf h ds).mine k → b.mine k := by
    rintro k (⟨i, hi, hk⟩ | hk)
    · exact h.mine i k hi hk
    · exact .inr (Nat.le_trans h.below.size hk)
  refine ⟨h'.sz, h'.df, h'.len, h'.tm, h'.hp, ⟨h'.below.os.trans h.below.os, h'.below.tape.trans h.below.tape, h'.below.output.trans h.below.output, Nat.le_trans h.below.size h'.below.size, fun k hk hn => ?_⟩, G.dt h.dr h'.dr, fun i k hi hk => hm k (h'.mine i k hi hk), fun k hk => ?_, ⟨fun i v hi hv => h'.pre.m i v (h.pre.m i v hi hv) hv, Nat.le_trans h.pre.le (show e.m.length ≤ _ from h'.pre.le), fun k hk => h'.pre.up k (h.pre.up k hk)⟩, h'.gl⟩
  · rw [h'.below.block k (Nat.lt_of_lt_of_le hk h.below.size) ?_]
    · exact h.below.block k hk hn
    · rintro ⟨i, hi, hf⟩
      rcases h.mine i k hi hf with h1 | h1
      · exact hn h1
      · exact absurd hk (Nat.not_lt.2 h1)
  · rcases h'.frm k hk with h1 | h1
    · exact h.frm k h1
    · exact .inr (hm k h1)
theorem without_all : ∀ H : Hp, without (fun _ => true) H = []
  | [] => rfl
  | (i, o) :: l => by simp only [without]; exact without_all l
theorem Ok.left (h : Ok b N e st a w) {q : Nat} {e' : Env} {w' : World} {H' : Hp} (hl : Left G q e w st.H e' w' H') : Ok b N e' ⟨scrubT (fun _ => true) st.T, H', st.n + q⟩ a w' := by
  have := h.frame (r := fun _ => true) (s := fun _ => true) (fun _ h => h) (e' := e') (w' := w') (H' := H') q hl.len
    (hl.only.mono fun k _ ⟨i, hi, hk⟩ => ⟨i, rfl, hi, hk⟩) hl.dr (fun i v hi hv => hl.m i v hi fun A n c e1 => Bool.noConfusion (hv A n c e1)) hl.up
    (fun k hk => by
      rcases hl.frm k hk with h1 | ⟨i, hi, h1⟩ | h1
      · exact .inl h1
      · exact .inr (.inl ⟨i, rfl, hi, h1⟩)
      · exact .inr (.inr h1)) hl.hp (fun i k hi hk => by
      rcases hl.ft i k hi hk with ⟨j, hj, h1⟩ | h1
      · exact .inl ⟨j, rfl, hj, h1⟩
      · exact .inr h1)
  rwa [without_all, show scrubH (fun _ => true) [] = [] from rfl, List.append_nil] at this
theorem wpList_go {ops : Array Oper} {Q : Exit → Act → World → Prop} {a : Act} {w w' : World} {o : Oper} {rest : List Oper} {v : Value} (hw : Region.wanted o (yielded ops a.tmps) = true) (hr : (execOp a.eval o).run P w = .ok (.value v) w') (h : wpList P ops Q rest (a.put o.dst v) w') : wpList P ops Q (o :: rest) a w := by
  unfold wpList
  rw [if_pos hw]
  refine .inl ?_
  unfold Oper.wp
  rw [hr]
  exact h
theorem wpList_call {ops : Array Oper} {Q : Exit → Act → World → Prop} {a : Act} {w w' : World} {o : Oper} {rest : List Oper} {f : FuncId} {args : Array Value} (hw : Region.wanted o (yielded ops a.tmps) = true) (hr : (execOp a.eval o).run P w = .ok (.enter f args) w')
    (h : Calls P f args w' fun
      | .returned v, w'' => wpList P ops Q rest (a.put o.dst v) w''
      | .panicked c, w'' => Q (.panic c) a w''
      | .outgrown, _ => LetsOut Q) : wpList P ops Q (o :: rest) a w := by
  unfold wpList
  rw [if_pos hw]
  refine .inl ?_
  unfold Oper.wp
  rw [hr]
  exact h
theorem upon_mono {Q Q' : Exit → Act → World → Prop} (hq : ∀ e a w, Q e a w → Q' e a w) {o : Oper} {a : Act} {n n' : Act → World → Prop} (hn : ∀ a w, n a w → n' a w) : ∀ r : Result Next, o.upon P a n Q r → o.upon P a n' Q' r := by
  intro r h
  unfold Oper.upon at h ⊢
  split at h
  · exact hn _ _ h
  · exact hn _ _ h
  · exact hn _ _ h
  · refine h.mono fun en w' he => ?_
    cases en with
    | returned v => exact hn _ _ he
    | panicked c => exact hq _ _ _ he
    | outgrown => obtain ⟨a, w, he⟩ := he; exact ⟨a, w, hq _ _ _ he⟩
  · exact h.mono fun v w' he => hn _ _ he
  · exact hq _ _ _ h
  · exact h.elim
theorem wpList_mono {ops : Array Oper} {Q Q' : Exit → Act → World → Prop} (hq : ∀ e a w, Q e a w → Q' e a w) : ∀ (l : List Oper) (a : Act) (w : World), wpList P ops Q l a w → wpList P ops Q' l a w
  | [], a, w, h => hq _ _ _ h
  | o :: r, a, w, h => by
    unfold wpList at h ⊢
    split at h
    · rename_i hw
      rw [if_pos hw]
      rcases h with h | ⟨h, a', w', h'⟩
      · exact .inl (upon_mono hq (fun a w h => wpList_mono hq r a w h) _ h)
      · exact .inr ⟨h, a', w', hq _ _ _ h'⟩
    · rename_i hw
      rw [if_neg hw]
      exact wpList_mono hq r _ _ h
theorem dOfs_dL : ∀ l : List D, dOf.dOfs (dL l) = some l
  | [] => rfl
  | x :: r => by simp only [dL, dOf.dOfs, dOfs_dL r]; rfl
theorem wp_defer2 {Q : Exit → Act → World → Prop} {a : Act} {w : World} {id : Nat} {g : FuncId} {d1 : Nat} {bs : Array Operand} {t1 t2 : TypeId} {p1 p2 : String} {af : Array Edge}
    (hd : d1 < a.tmps.size) (h : Q .normal { a.put (some d1) (.func (.func g) #[] (bs.map a.eval)) with defers := { target := .fn (.func g) (bs.map a.eval), args := #[] } :: a.defers } w) :
    (Code.region id #[{ dst := some d1, op := .makeFunc (.func g) #[] bs, type := t1, pos := p1, after := #[], guard := none }, { dst := none, op := .defer { callee := .value (.tmp d1), args := #[], argTypes := #[] }, type := t2, pos := p2, after := af, guard := none }] false).wp P Q a w := by
  refine wp_region_list ?_
  simp only [wpList]
  rw [if_pos (by rfl)]
  left
  unfold Oper.wp
  have h1 : (execOp a.eval { dst := some d1, op := .makeFunc (.func g) #[] bs, type := t1, pos := p1, after := #[], guard := none }).run P w = .ok (.value (.func (.func g) #[] (bs.map a.eval))) w := by
    simp only [execOp]
    exact run_val (by simp only [List.map_toArray, List.map_nil]; rfl)
  rw [h1]
  simp only [Oper.upon]
  rw [if_pos (by rfl)]
  left
  have h2 : (a.put (some d1) (.func (.func g) #[] (bs.map a.eval))).eval (.tmp d1) = .func (.func g) #[] (bs.map a.eval) := by
    simp only [Act.eval, Act.put]
    simp [hd]
  have h3 : (execOp (a.put (some d1) (.func (.func g) #[] (bs.map a.eval))).eval { dst := none, op := .defer { callee := .value (.tmp d1), args := #[], argTypes := #[] }, type := t2, pos := p2, after := af, guard := none }).run P w = .ok (.defer { target := .fn (.func g) (bs.map a.eval), args := #[] }) w := by
    simp only [execOp, resolve, h2, Deferred.ofValue, Sem.run_bind, Sem.run_pure, Result.andThen_ok]
    simp
  rw [h3]
  exact h
theorem tri_fin (hty : Tys P ty) {fn : Func} {n : Nat} {kp : List Nat} {H0 : Hp} {e0 : Env} {w0 : World} {Q : Out → Hp → Prop} (hn0 : e0.m.length = n) {ds : List Deferred} {b : Bs G n} (hb : b = ⟨w0, e0.pub, feet e0 H0, e0.m, hn0, ds⟩)
    (hok : Ok b N e st a w) (hk : endK ty n kp fn.results.toList Q st) : ∃ v, (results fn a.tmps).run P w = .ok v w ∧ ∃ o H' e'', Q o H' ∧ OutOk e'' w o (.returned v) ∧ Left G kp.length e0 w0 H0 e'' w H' := by
  unfold endK at hk
  split at hk <;> try (exact hk.elim)
  rename_i l hl
  split at hk <;> try (exact hk.elim)
  rename_i x hx
  obtain ⟨vs', r1, r2⟩ := resL_sound hty hok _ _ hl
  obtain ⟨H', q1, q2⟩ := leftK_get _ _ hk
  have hone : RepSV e w (one l) (match vs' with | [v] => v | l => .tuple l.toArray) := by
    have := r2.len
    match l, vs', r2 with
    | [], [], _ => simp only [one, RepSV]; exact ⟨_, rfl, by simp [RepSVs]⟩
    | [x], [v], r2 =>
      simp only [RepSVs] at r2
      obtain ⟨v', s, e1, h1, h2⟩ := r2
      injection e1 with e1 e2; subst e1
      exact h1
    | x :: y :: r, v :: u :: s, r2 => simp only [one, RepSV]; exact ⟨_, rfl, r2⟩
    | [], _ :: _, r2 => simp [RepSVs] at r2
    | [_], [], r2 => simp at this
    | [_], _ :: _ :: _, r2 => simp at this
    | _ :: _ :: _, [], r2 => simp at this
    | _ :: _ :: _, [_], r2 => simp at this
  obtain ⟨e2, f1, f2⟩ := left_of hok hn0 hb hn0 q2
  refine ⟨_, ?_, .ret x, H', e2, q1, ⟨_, rfl, f1 _ _ _ hx hone⟩, f2⟩
  unfold results
  rw [Array.mapM_eq_mapM_toList, map_eq_pure_bind]
  simp only [Sem.run_bind]
  have this' : ∀ g : ResultVar → Sem Value, g = resR a.tmps → (fn.results.toList.mapM g).run P w = .ok vs' w := fun g hg => by rw [hg]; exact r1
  rw [this' _ (by funext x; cases x <;> rfl)]
  simp only [Result.andThen_ok, Sem.run_pure]
  match vs' with
  | [] => simp
  | [x] => simp
  | x :: y :: r => simp
theorem tri_start {f : FuncId} {fn : Func} {n : Nat} {args : List SV} {H : Hp} (hn : fn.ntmps = N) (ha : args.length ≤ N) {e : Env} {w : World} {vs : List Value} (hlen : e.m.length = n) (hargs : RepSVs e w args vs) (hH : HpOk e w H) (hG : G.p e.pub w) :
    Ok (G := G) (n0 := n) ⟨w, e.pub, feet e H, e.m, hlen, []⟩ N e ⟨numbS' 0 args, H, n⟩ { tmps := vs.toArray ++ Array.replicate (fn.ntmps - vs.toArray.size) undef, defers := [] } w := by
  have hal := hargs.len
  refine ⟨by simp; omega, rfl, hlen, ?_, hH, Only.refl _ _, G.dm (Nat.le_refl _), fun i k hi hk => .inl ⟨i, hi, hk⟩, fun k hk => .inl hk, ⟨fun i v h _ => h, Nat.le_refl _, fun k hk => hk⟩, hG⟩
  intro t sv ht
  obtain ⟨_, hv⟩ := numbS_getS args 0 t sv ht
  simp only [Nat.sub_zero] at hv
  obtain ⟨v, hv1, hv2⟩ := hargs.get hv
  have hlt : t < vs.length := (List.getElem?_eq_some_iff.1 hv1).1
  simp only [Array.getD_eq_getD_getElem?]
  rw [Array.getElem?_append_left (by simpa using hlt), List.getElem?_toArray, hv1]
  exact hv2
end
end Go.Vx


