/- Texts of mine, joined: Vxo Vxp Vxq. -/
import Derived.Test.YtcjkikadolnfgaaGreatPaf
/- Laws: append, make. -/
namespace Go.Vx
open Go.RowKit Go.Vc
section
variable {P : Program} {G : Glob} {ty : List (Nat × TY)} {N : Nat} {n0 : Nat} {b : Bs G n0}
theorem scalD_cell {S : Nat → Prop} {w : World} {x : D} {v : Value} (h : scalD x = true) (hx : RepD S w x v) : v.oneCell' = true := by
  cases x <;> first | (simp [scalD] at h; done) | skip
  case val u => simp only [RepD] at hx; subst hx; cases v <;> first | rfl | (simp [scalD] at h; done)
  all_goals simp only [RepD] at hx
  all_goals first | (subst hx; rfl) | (obtain ⟨_, _, rfl, _⟩ := hx; rfl) | (obtain ⟨_, rfl, _⟩ := hx; rfl)
theorem scalDs_mem : ∀ {l : List D}, scalDs l = true → ∀ d ∈ l, scalD d = true
  | [], _, d, h => by cases h
  | x :: r, hs, d, h => by
    simp only [scalDs] at hs
    split at hs <;> try (cases hs; done)
    rename_i hx
    rcases List.mem_cons.1 h with rfl | h
    · exact hx
    · exact scalDs_mem hs d h
theorem RepDs.scal {S : Nat → Prop} {w : World} : ∀ {l : List D} {v : List Value}, RepDs S w l v → (∀ d ∈ l, scalD d = true) → ∀ u ∈ v, u.oneCell' = true
  | [], v, h, _, u, hu => by simp only [RepDs] at h; subst h; cases hu
  | x :: r, v, h, hs, u, hu => by
    simp only [RepDs] at h
    obtain ⟨y, s, rfl, h1, h2⟩ := h
    rcases List.mem_cons.1 hu with rfl | hu
    · exact scalD_cell (hs x (by simp)) h1
    · exact RepDs.scal h2 (fun d hd => hs d (by simp [hd])) u hu
def rowB (ty : List (Nat × TY)) (t e : TypeId) (eb sz : Nat) : Bool :=
  match lk ty t with
  | some y => match y.kd with
    | .slice e' => match Nat.beq e' e, lk ty e with
      | true, some ye => !Nat.beq e t && Nat.beq ye.i.size sz && Nat.beq ye.i.bytes eb && Nat.beq ye.i.z.cells.size sz && Nat.ble 1 sz && Nat.ble 1 eb
      | _, _ => false
    | _ => false
  | none => false
theorem rowB_get {t e : TypeId} {eb sz : Nat} (h : rowB ty t e eb sz = true) : ∃ y ye, lk ty t = some y ∧ y.kd = .slice e ∧ lk ty e = some ye ∧ ye.i.size = sz ∧ ye.i.bytes = eb ∧ ye.i.z.cells.size = sz ∧ 0 < sz ∧ 0 < eb ∧ e ≠ t := by
  unfold rowB at h
  split at h <;> try (cases h; done)
  rename_i y hy
  split at h <;> try (cases h; done)
  rename_i e' hk
  split at h <;> try (cases h; done)
  rename_i ye he1 he2
  obtain rfl := nbeq.1 he1
  simp only [Bool.and_eq_true, nbeq, Bool.not_eq_true', nbeq_ne] at h
  obtain ⟨⟨⟨⟨⟨h0, h1⟩, h2⟩, h3⟩, h4⟩, h5⟩ := h
  exact ⟨y, ye, hy, hk, he2, h1, h2, h3, Nat.le_of_ble_eq_true h4, Nat.le_of_ble_eq_true h5, h0⟩
def slOf (H : Hp) : SV → Option (Nat × List D)
  | .d (.sl _ n cs) => some (n, cs)
  | .d (.csl _ n cs) => some (n, cs)
  | .nl => some (0, [])
  | .row i => match lk H i with
    | some (.row _ _ _ n xs) => some (n, xs)
    | _ => none
  | _ => none
theorem slOf_rep {e : Env} {w : World} {H : Hp} (hH : HpOk e w H) {x : SV} {n : Nat} {xs : List D} {v : Value} (h : slOf H x = some (n, xs)) (hx : RepSV e w x v) :
    ∃ A c S vs, v = .slice A n c ∧ Cells S w A vs ∧ RepDs e.pub w xs vs := by
  unfold slOf at h
  split at h
  · injection h with h; injection h with h1 h2; subst h1; subst h2
    simp only [RepSV, RepD] at hx
    obtain ⟨A, c, rfl, _, _, _, h3⟩ := hx
    obtain ⟨vs, h4, h5⟩ := h3.cells0
    exact ⟨A, c, _, vs, rfl, h5, h4⟩
  · injection h with h; injection h with h1 h2; subst h1; subst h2
    simp only [RepSV, RepD] at hx
    obtain ⟨A, rfl, _, _, h3⟩ := hx
    obtain ⟨vs, h4, h5⟩ := h3.cells0
    exact ⟨A, _, _, vs, rfl, h5, h4⟩
  · injection h with h; injection h with h1 h2; subst h1; subst h2
    simp only [RepSV] at hx
    exact ⟨none, 0, fun _ => True, [], hx, .inl rfl, by simp [RepDs]⟩
  · rename_i i
    split at h <;> try (cases h; done)
    rename_i t eb sz m ys hi
    injection h with h; injection h with h1 h2; subst h1; subst h2
    simp only [RepSV] at hx
    obtain ⟨A, n', c, rfl, hm⟩ := hx
    obtain ⟨A', c', vs, hm', hr, hxs, _⟩ := hH.ob _ _ hi
    rw [hm] at hm'; injection hm' with hm'; injection hm' with e1 e2 e3
    subst e1; subst e2; subst e3
    exact ⟨A, c, _, vs, rfl, hr.cells rfl (fun _ => True) (fun _ _ => trivial), hxs⟩
  · cases h
def appOf (T : Tl) : Op → Option (SV × SV × TypeId)
  | .call { callee := .builtin .append, args := as, argTypes := ts } => match as.toList, ts.toList with
    | [x, y], [t, t'] => match Nat.beq t t', ev T x, ev T y with
      | true, some a, some b => some (a, b, t)
      | _, _, _ => none
    | _, _ => none
  | _ => none
theorem appOf_run {e : Env} {w : World} {T : Tl} {g : Operand → Value} (hT : TmOk e w T g) {o : Oper} {x y : SV} {t : TypeId} (h : appOf T o.op = some (x, y, t)) :
    ∃ u v, RepSV e w x u ∧ RepSV e w y v ∧ ∀ (w0 : World) r w', (Builtin.append_ #[t, t] o.type #[u, v]).run P w0 = .ok r w' → (execOp g o).run P w0 = .ok (.value r) w' := by
  obtain ⟨dst, op, type, pos, after, guard⟩ := o
  simp only at h
  unfold appOf at h
  split at h <;> try (cases h; done)
  rename_i as ts
  split at h <;> try (cases h; done)
  rename_i p q t1 t2 has hts
  split at h <;> try (cases h; done)
  rename_i a b hbe ha hb
  obtain rfl := nbeq.1 hbe
  injection h with h; injection h with h1 h2; injection h2 with h2 h3; subst h1; subst h2; subst h3
  have e1 : as = #[p, q] := by apply Array.ext'; rw [has]
  have e2 : ts = #[t1, t1] := by apply Array.ext'; rw [hts]
  subst e1; subst e2
  refine ⟨_, _, hT _ _ ha, hT _ _ hb, fun w0 r w' hr => ?_⟩
  simp only [execOp, resolve, invoke, builtin, Sem.run_bind, Sem.run_pure, Result.andThen_ok, List.map_toArray, List.map_cons, List.map_nil, hr]
theorem appCore (hty : Tys P ty) {e : Env} {st : St} {a : Act} {w : World} (h : Ok b N e st a w) {i : Nat} {t el : TypeId} {eb sz n m : Nat} {xs ys : List D} (hB : rowB ty t el eb sz = true) (hi : lk st.H i = some (.row el eb sz n xs)) {u : Value} (hu : e.m[i]? = some u)
    {B : Option Addr} {d : Nat} {S : Nat → Prop} {yv : List Value} (hc : Cells S w B yv) (hys : RepDs e.pub w ys yv) (hl : ys.length = m * sz) (hs : ∀ d ∈ ys, scalD d = true) (hlim : (n + m) * eb ≤ LB) (dr : Nat → Bool) (ty' : TypeId) :
    ∃ A' c' w' e', (Builtin.append_ #[t, t] ty' #[u, .slice B m d]).run P w = .ok (.slice A' (n + m) c') w' ∧ e'.m[i]? = some (.slice A' (n + m) c') ∧ KeptP e w e' w' ∧
      Ok b N e' ⟨scrubT (fun k => Nat.beq k i || dr k) st.T, (i, .row el eb sz (n + m) (xs ++ ys)) :: scrubH (fun k => Nat.beq k i || dr k) (without (fun k => Nat.beq k i || dr k) st.H), st.n⟩ a w' := by
  obtain ⟨y, ye, hy, hk, hye, hsz, heb, hzc, h0, hb0, hte⟩ := rowB_get hB
  obtain ⟨A, c, vs, hm, hrow, hxs, hlb⟩ := h.hp.ob _ _ hi
  rw [hu] at hm; injection hm with hm; subst hm
  have hlk : lk (ty.map fun p => (p.1, p.2.i)) t = some y.i := by rw [lk_map, hy]; rfl
  have hlk' : lk (ty.map fun p => (p.1, p.2.i)) el = some ye.i := by rw [lk_map, hye]; rfl
  have hel : y.i.elem = some el ∨ y.i.elem = none := by
    obtain ⟨_, dd, _, hd, _, _, _, _, _, h6, _⟩ := (hty _ _ hy).i.get
    have hu' := (hty _ _ hy).slice hk
    rw [hd] at hu'; injection hu' with hu'; subst hu'
    cases he : y.i.elem with
    | none => exact .inr rfl
    | some q => rw [he] at h6; simp only [elB] at h6; exact .inl (by rw [nbeq.1 h6])
  -- the table's entry for the slice's type, with its element told
  have hty' : TyOk P [(t, { y.i with elem := some el }), (el, ye.i)] := by
    intro q j hj
    simp only [lk] at hj
    split at hj
    · rename_i e'; obtain rfl := nbeq.1 e'
      injection hj with hj; subst hj
      have hti := (hty _ _ hy).i
      obtain ⟨x', dd, hx', hd, h1, h2, h3, h4, h5, h6, h7, h8⟩ := hti.get
      have hu' := (hty _ _ hy).slice hk
      rw [hd] at hu'; injection hu' with hu'; subst hu'
      refine ⟨?_, hti.z⟩
      unfold TI.chk
      rw [hx', hd]
      simp only [Bool.and_eq_true, nbeq, beq_iff_eq]
      exact ⟨⟨⟨⟨⟨⟨h1, h2⟩, h4⟩, h5⟩, nbeq.2 rfl⟩, h7⟩, h8⟩
    · split at hj
      · rename_i e'; obtain rfl := nbeq.1 e'
        injection hj with hj; subst hj
        exact (hty _ _ hye).i
      · cases hj
  have l1 : lk [(t, { y.i with elem := some el }), (el, ye.i)] t = some { y.i with elem := some el } := by simp [lk]
  have l2 : lk [(t, { y.i with elem := some el }), (el, ye.i)] el = some ye.i := by simp [lk, nbeq_ne.2 (Ne.symm hte)]
  have hlim' : (n + m) * ye.i.bytes ≤ 140737488355328 := by rw [heb]; exact hlim
  rw [← hsz] at hrow
  have hyl : yv.length = m * ye.i.size := by rw [hys.len, hl, hsz]
  obtain ⟨A', c', w', r1, r2, r3, r4⟩ := append_run (P := P) hty' l1 rfl l2 (by rw [hzc, hsz]) (by omega) hrow hyl hc (hys.scal hs) hlim' (by rw [heb]; exact hb0) ty'
  have hil : i < e.m.length := (List.getElem?_eq_some_iff.1 hu).1
  have hne : ∀ (j : Nat) v, j ≠ i → e.m[j]? = some v → (e.m.set i (.slice A' (n + m) c'))[j]? = some v := fun j v hj hv => by
    rw [List.getElem?_set_ne (Ne.symm hj)]; exact hv
  have hnew : (e.m.set i (.slice A' (n + m) c'))[i]? = some (.slice A' (n + m) c') := by simp [hil]
  have ho : Only (fun k => ∃ j, (Nat.beq j i || dr j) = true ∧ has st.H j ∧ foot e j k) w w' := by
    refine ⟨r3.os, r3.tape, r3.output, r3.size, fun k hk hn => r3.block k hk fun e' => hn ⟨i, by simp, by simp [has, hi], _, hu, ?_⟩⟩
    rw [footB_slice, ← e']
  have hft : ∀ k, foot ⟨e.m.set i (.slice A' (n + m) c'), e.pub⟩ i k → foot e i k ∨ w.heap.size ≤ k := by
    rintro k ⟨v, h1, h2⟩
    have h1 : (e.m.set i (.slice A' (n + m) c'))[i]? = some v := h1
    rw [hnew] at h1; injection h1 with h1; subst h1
    rw [footB_slice] at h2
    rcases r4 with r4 | r4
    · rw [r4] at h2
      exact .inl ⟨_, hu, by rw [footB_slice]; exact h2⟩
    · rw [r4] at h2; injection h2 with h2; exact .inr (Nat.le_of_eq h2)
  have hsame : Same e.pub w w' := fun k hk hl => ho.block k hl (by rintro ⟨j, _, h2, h3⟩; exact h.hp.npub j k h2 h3 hk)
  have one : ∀ q, has [(i, Ob.row el eb sz (n + m) (xs ++ ys))] q → q = i := by
    intro q hq
    unfold has at hq
    simp only [lk] at hq
    split at hq
    · rename_i e'; exact (nbeq.1 e').symm
    · cases hq
  have hmm : ∀ (j : Nat) v, e.m[j]? = some v → (∀ A n c, v = .slice A n c → (Nat.beq j i || dr j) = false) → (e.m.set i (.slice A' (n + m) c'))[j]? = some v := by
    intro j v hj hv
    rcases Decidable.em (j = i) with hji | hji
    · rw [hji, hu] at hj
      injection hj with hj
      have hfalse := hv A n c hj.symm
      rw [hji, Nat.beq_refl] at hfalse
      cases hfalse
    · exact hne j v hji hj
  have h1 := h.frame (r := fun k => Nat.beq k i || dr k) (s := fun k => Nat.beq k i || dr k) (fun _ h => h) (e' := ⟨e.m.set i (.slice A' (n + m) c'), e.pub⟩) (w' := w') (H' := [(i, .row el eb sz (n + m) (xs ++ ys))]) 0 (by simp) ho (G.dm (run_drawn r1))
    hmm (fun _ h => h) (fun _ h => .inl h)
    ⟨fun j o' hj => ?_, fun j j' k hj hj' hne _ _ => absurd ((one j hj).trans (one j' hj').symm) hne, fun j k hj hk hp => ?_, fun k hk => Nat.lt_of_lt_of_le (h.hp.pubLt k hk) r3.size⟩ (fun j k hj hk => ?_)
  · exact ⟨A', c', w', ⟨e.m.set i (.slice A' (n + m) c'), e.pub⟩, r1, hnew, ⟨fun _ h => h, hsame, r3.size⟩, h1⟩
  · obtain rfl := one j (by simp [has, hj])
    simp only [lk, Nat.beq_refl] at hj
    injection hj with hj; subst hj
    rw [hsz] at r2
    exact ⟨A', c', vs ++ yv, hnew, r2, (hxs.to hsame fun k hk _ => hk).app (hys.to hsame fun k hk _ => hk), hlim⟩
  · obtain rfl := one j hj
    rcases hft k hk with h2 | h2
    · exact h.hp.npub j k (by simp [has, hi]) h2 hp
    · have := h.hp.pubLt k hp; omega
  · obtain rfl := one j hj
    rcases hft k hk with h2 | h2
    · exact .inl ⟨j, by simp, by simp [has, hi], h2⟩
    · exact .inr h2
theorem appR (hty : Tys P ty) {o : Oper} {st : St} {K : SExit → St → Prop} {i : Nat} {y : SV} {t el : TypeId} {eb sz n m : Nat} {xs ys : List D} (dr : Nat → Bool) (n' : Nat) (xs' : List D) (ho : appOf st.T o.op = some (.row i, y, t)) (hi : lk st.H i = some (.row el eb sz n xs)) (hy : slOf st.H y = some (m, ys)) (hB : rowB ty t el eb sz = true)
    (hl : ys.length = m * sz) (hs : ∀ d ∈ ys, scalD d = true) (hn : n + m = n') (hx : xs ++ ys = xs') (hlim : n' * eb ≤ LB)
    (hk : match st with
      | ⟨T, H, q⟩ => scrubTK (fun k => Nat.beq k i || dr k) T fun T' => withoutK (fun k => Nat.beq k i || dr k) H fun H1 => scrubHK (fun k => Nat.beq k i || dr k) H1 fun H2 => putK N o.dst (.row i) ⟨T', (i, .row el eb sz n' xs') :: H2, q⟩ (K .normal)) : OpC P b N false o st K := by
  subst hn; subst hx
  obtain ⟨T, H, q⟩ := st
  simp only [scrubTK_eq, withoutK_eq, scrubHK_eq] at hk
  refine ⟨fun e a w hok => ?_⟩
  obtain ⟨u, v, h1, h2, h3⟩ := appOf_run (P := P) hok.tmok ho
  obtain ⟨B, d, S, yv, rfl, hc, hys⟩ := slOf_rep hok.hp hy h2
  simp only [RepSV] at h1
  obtain ⟨A, n0, c0, rfl, hm⟩ := h1
  obtain ⟨A', c', w', e', r1, r2, kpp, r3⟩ := appCore hty hok hB hi hm hc hys hl hs hlim dr o.type
  rw [h3 w _ w' r1]
  obtain ⟨st', g1, g2, _⟩ := putK_sound (v := .slice A' (n + m) c') r3 (by simp only [RepSV]; exact ⟨_, _, _, rfl, r2⟩) hk
  exact ⟨e', st', ⟨fun h => by (cases h), kpp⟩, g1, g2⟩
end
end Go.Vx


/- Laws: weaker states, loops; calls that are handed own objects. -/
set_option linter.unusedSimpArgs false
set_option linter.unusedVariables false
namespace Go.Vx
open Go.RowKit Go.Vc
section
variable {P : Program} {G : Glob} {ty : List (Nat × TY)} {N n0 : Nat} {b : Bs G n0}
theorem Weak.trans {st st1 st2 : St} (h : Weak b N st st1) (h' : Weak b N st1 st2) : Weak b N st st2 := by
  intro e a w hok
  obtain ⟨e1, up1, ok1⟩ := h e a w hok
  obtain ⟨e2, up2, ok2⟩ := h' e1 a w ok1
  exact ⟨e2, fun k hk => up2 k (up1 k hk), ok2⟩
def lowB (n : Nat) : SV → Bool
  | .own i _ => Nat.blt i n
  | .row i => Nat.blt i n
  | .nm i => Nat.blt i n
  | .osl i _ => Nat.blt i n
  | .rowp i _ => Nat.blt i n
  | .agg l => lowBs n l
  | .tup l => lowBs n l
  | .fn _ a b => lowBs n a && lowBs n b
  | .ifc _ x => lowB n x
  | _ => true
where lowBs (n : Nat) : List SV → Bool
  | [] => true
  | x :: r => lowB n x && lowBs n r
mutual
theorem lowB_rep {e : Env} {w : World} {n : Nat} : ∀ {x : SV} {v : Value}, lowB n x = true → RepSV e w x v → RepSV ⟨e.m.take n, e.pub⟩ w x v
  | .d x, v, _, hx => by simpa only [RepSV] using hx
  | .kb b, v, _, hx => by simpa only [RepSV] using hx
  | .osl i m, v, h, hx => by
    simp only [lowB, Nat.blt_eq] at h
    simp only [RepSV] at hx ⊢
    obtain ⟨g, h1, h2⟩ := hx
    exact ⟨g, take_get h1 h, h2⟩
  | .nm i, v, h, hx => by
    simp only [RepSV] at hx ⊢
    obtain ⟨g, h1, h2⟩ := hx
    exact ⟨g, h1, take_get h2 (Nat.le_of_ble_eq_true h)⟩
  | .nl, v, _, hx => by simpa only [RepSV] using hx
  | .any, v, _, hx => by simp only [RepSV]
  | .own i off, v, h, hx => by
    simp only [lowB, Nat.blt_eq] at h
    simp only [RepSV] at hx ⊢
    obtain ⟨g, h1, h2⟩ := hx
    exact ⟨g, take_get h1 h, h2⟩
  | .row i, v, h, hx => by
    simp only [lowB, Nat.blt_eq] at h
    simp only [RepSV] at hx ⊢
    obtain ⟨A, n, c, h1, h2⟩ := hx
    exact ⟨A, n, c, h1, take_get h2 h⟩
  | .rowp i off, v, h, hx => by
    simp only [lowB, Nat.blt_eq] at h
    simp only [RepSV] at hx ⊢
    obtain ⟨ad, n, c, h1, h2⟩ := hx
    exact ⟨ad, n, c, take_get h1 h, h2⟩
  | .agg l, v, h, hx => by
    simp only [lowB] at h
    simp only [RepSV] at hx ⊢
    obtain ⟨l', e', h1⟩ := hx
    exact ⟨l', e', lowBs_rep h h1⟩
  | .tup l, v, h, hx => by
    simp only [lowB] at h
    simp only [RepSV] at hx ⊢
    obtain ⟨l', e', h1⟩ := hx
    exact ⟨l', e', lowBs_rep h h1⟩
  | .fn f a b, v, h, hx => by
    simp only [lowB, Bool.and_eq_true] at h
    simp only [RepSV] at hx ⊢
    obtain ⟨a', b', e', h1, h2⟩ := hx
    exact ⟨a', b', e', lowBs_rep h.1 h1, lowBs_rep h.2 h2⟩
  | .ifc t x, v, h, hx => by
    simp only [lowB] at h
    simp only [RepSV] at hx ⊢
    obtain ⟨y, e', h1⟩ := hx
    exact ⟨y, e', lowB_rep h h1⟩
theorem lowBs_rep {e : Env} {w : World} {n : Nat} : ∀ {l : List SV} {v : List Value}, lowB.lowBs n l = true → RepSVs e w l v → RepSVs ⟨e.m.take n, e.pub⟩ w l v
  | [], v, _, hx => by simpa only [RepSVs] using hx
  | x :: r, v, h, hx => by
    simp only [lowB.lowBs, Bool.and_eq_true] at h
    simp only [RepSVs] at hx ⊢
    obtain ⟨u, s, e', h1, h2⟩ := hx
    exact ⟨u, s, e', lowB_rep h.1 h1, lowBs_rep h.2 h2⟩
end
def weakT (n : Nat) (T : Tl) : Tl → Prop
  | [] => True
  | (t, x) :: r => match lk T t, lowB n x with
    | some y, true => y = x ∧ weakT n T r
    | _, _ => False
def weakH (n : Nat) (H : Hp) : Hp → Prop
  | [] => True
  | (i, .blk t cs) :: r => match lk H i, Nat.blt i n, lowB.lowBs n cs with
    | some (.blk t' cs'), true, true => t' = t ∧ cs' = cs ∧ weakH n H r
    | _, _, _ => False
  | (i, .row t eb sz m xs) :: r => match lk H i, Nat.blt i n with
    | some (.row t' eb' sz' m' xs'), true => t' = t ∧ eb' = eb ∧ sz' = sz ∧ m' = m ∧ xs' = xs ∧ weakH n H r
    | _, _ => False
  | (i, .ab φ) :: r => match lk H i, Nat.blt i n with
    | some (.ab φ'), true => φ' = φ ∧ weakH n H r
    | _, _ => False
theorem weakT_get {n : Nat} {T : Tl} : ∀ {T' : Tl}, weakT n T T' → ∀ t x, lk T' t = some x → lk T t = some x ∧ lowB n x = true
  | [], _, t, x, h => by simp [lk] at h
  | (k, z) :: r, hw, t, x, h => by
    simp only [weakT] at hw
    split at hw <;> try (exact hw.elim)
    rename_i y hy hl
    simp only [lk] at h
    split at h
    · rename_i e
      obtain rfl := nbeq.1 e
      injection h with h; subst h
      exact ⟨by rw [hy, hw.1], hl⟩
    · exact weakT_get hw.2 t x h
def lowO (n : Nat) : Ob → Bool
  | .blk _ cs => lowB.lowBs n cs
  | .row _ _ _ _ _ => true
  | .ab _ => true
theorem weakH_get {n : Nat} {H : Hp} : ∀ {H' : Hp}, weakH n H H' → ∀ i o, lk H' i = some o → lk H i = some o ∧ i < n ∧ lowO n o = true
  | [], _, i, o, h => by simp [lk] at h
  | (k, .blk t cs) :: r, hw, i, o, h => by
    simp only [weakH] at hw
    split at hw <;> try (exact hw.elim)
    rename_i t' cs' hk hb hl
    obtain ⟨rfl, rfl, hw⟩ := hw
    simp only [lk] at h
    split at h
    · rename_i e
      obtain rfl := nbeq.1 e
      injection h with h; subst h
      exact ⟨hk, by simpa using hb, hl⟩
    · exact weakH_get hw i o h
  | (k, .row t eb sz m xs) :: r, hw, i, o, h => by
    simp only [weakH] at hw
    split at hw <;> try (exact hw.elim)
    rename_i t' eb' sz' m' xs' hk hb
    obtain ⟨rfl, rfl, rfl, rfl, rfl, hw⟩ := hw
    simp only [lk] at h
    split at h
    · rename_i e
      obtain rfl := nbeq.1 e
      injection h with h; subst h
      exact ⟨hk, by simpa using hb, rfl⟩
    · exact weakH_get hw i o h
  | (k, .ab φ) :: r, hw, i, o, h => by
    simp only [weakH] at hw
    split at hw <;> try (exact hw.elim)
    rename_i φ' hk hb
    obtain ⟨rfl, hw⟩ := hw
    simp only [lk] at h
    split at h
    · rename_i e
      obtain rfl := nbeq.1 e
      injection h with h; subst h
      exact ⟨hk, by simpa using hb, rfl⟩
    · exact weakH_get hw i o h
theorem weak_of {st st' : St} (hn : (Nat.ble st'.n st.n && Nat.ble n0 st'.n) = true) (hT : weakT st'.n st.T st'.T) (hH : weakH st'.n st.H st'.H) : Weak b N st st' := by
  intro e a w h
  simp only [Bool.and_eq_true] at hn
  have h1 := Nat.le_of_ble_eq_true hn.1
  have h2 := Nat.le_of_ble_eq_true hn.2
  have hlen := h.len
  have ft : ∀ i k, foot ⟨e.m.take st'.n, e.pub⟩ i k → foot e i k := by
    rintro i k ⟨v, q1, q2⟩
    have q1 : (e.m.take st'.n)[i]? = some v := q1
    rw [List.getElem?_take] at q1
    split at q1
    · exact ⟨v, q1, q2⟩
    · cases q1
  have hd : ∀ i, has st'.H i → has st.H i := by
    intro i hi
    obtain ⟨o, ho⟩ := Option.isSome_iff_exists.1 hi
    simp [has, (weakH_get hH i o ho).1]
  refine ⟨⟨e.m.take st'.n, e.pub⟩, fun _ h => h, h.sz, h.df, by simp; omega, fun t x ht => ?_, ⟨fun i o ho => ?_, fun i j k hi hj hne q1 q2 => h.hp.sep i j k (hd i hi) (hd j hj) hne (ft i k q1) (ft j k q2), fun i k hi q1 q2 => h.hp.npub i k (hd i hi) (ft i k q1) q2, h.hp.pubLt⟩, h.below, h.dr, fun i k hi q1 => h.mine i k (hd i hi) (ft i k q1), h.frm, ⟨fun i v hi hv => ?_, by simp; have := b.hm; omega, h.pre.up⟩, h.gl⟩
  · obtain ⟨q1, q2⟩ := weakT_get hT t x ht
    exact lowB_rep q2 (h.tm t x q1)
  · obtain ⟨q1, q2, q3⟩ := weakH_get hH i o ho
    have := h.hp.ob i o q1
    cases o with
    | blk t cs =>
      obtain ⟨g, vs, r1, r2, r3⟩ := this
      exact ⟨g, vs, take_get r1 q2, r2, lowBs_rep q3 r3⟩
    | row t eb sz m xs =>
      obtain ⟨A, c, vs, r1, r2, r3, r4⟩ := this
      exact ⟨A, c, vs, take_get r1 q2, r2, r3, r4⟩
    | ab φ =>
      obtain ⟨v', g, o', r1, r2, r3, r4, r5⟩ := this
      exact ⟨v', g, o', take_get r1 q2, r2, r3, r4, r5⟩
  · have := (List.getElem?_eq_some_iff.1 hi).1
    have := b.hm
    exact take_get (h.pre.m i v hi hv) (by omega)
theorem weak_nlT {T : Tl} {H : Hp} {n : Nat} (t : Nat) (el : TypeId) (eb sz : Nat) (ht : lk T t = some .nl) : Weak b N ⟨T, H, n⟩ ⟨(t, .row n) :: T, (n, .row el eb sz 0 []) :: H, n + 1⟩ := by
  intro e a w h
  obtain ⟨e1, ok1, kw, hm, hpb⟩ := h.addOb (w' := w) (v := .slice none 0 0) (o := .row el eb sz 0 []) (Below.refl _ _) (Nat.le_refl _) (fun k hk => by cases hk)
    (fun e' _ hm => ⟨none, 0, [], hm, RowOk.nil w el sz, by simp [RepDs], by simp⟩)
  refine ⟨e1, kw.pub, ok1.sz, ok1.df, ok1.len, fun t' x hx => ?_, ok1.hp, ok1.below, ok1.dr, ok1.mine, ok1.frm, ok1.pre, ok1.gl⟩
  simp only [lk] at hx
  split at hx
  · rename_i e'
    obtain rfl := nbeq.1 e'
    injection hx with hx; subst hx
    have := h.tm t _ ht
    simp only [RepSV] at this ⊢
    exact ⟨none, 0, 0, this, by rw [this]; exact hm⟩
  · exact ok1.tm t' x hx
def setC {α : Type} : Nat → α → List α → List α
  | _, _, [] => []
  | 0, x, _ :: r => x :: r
  | n + 1, x, y :: r => y :: setC n x r
theorem setC_get {α : Type} : ∀ (n : Nat) (x : α) (l : List α) (i : Nat), (setC n x l)[i]? = if i = n ∧ n < l.length then some x else l[i]?
  | n, x, [], i => by simp [setC]
  | 0, x, y :: r, 0 => by simp [setC]
  | 0, x, y :: r, i + 1 => by simp [setC]
  | n + 1, x, y :: r, 0 => by simp [setC]
  | n + 1, x, y :: r, i + 1 => by simp [setC, setC_get n x r i]
theorem weak_nlC {T : Tl} {H : Hp} {n : Nat} (i c : Nat) (el : TypeId) (eb sz : Nat) {t : TypeId} {cs : List SV} (hi : lk H i = some (.blk t cs)) (hc : cs[c]? = some .nl) : Weak b N ⟨T, H, n⟩ ⟨T, (i, .blk t (setC c (.row n) cs)) :: (n, .row el eb sz 0 []) :: H, n + 1⟩ := by
  intro e a w h
  obtain ⟨e1, ok1, kw, hm, hpb⟩ := h.addOb (w' := w) (v := .slice none 0 0) (o := .row el eb sz 0 []) (Below.refl _ _) (Nat.le_refl _) (fun k hk => by cases hk)
    (fun e' _ hm => ⟨none, 0, [], hm, RowOk.nil w el sz, by simp [RepDs], by simp⟩)
  have hin : i ≠ n := by
    rintro rfl
    obtain ⟨g, vs, h1, _⟩ := h.hp.ob _ _ hi
    have := (List.getElem?_eq_some_iff.1 h1).1
    have := h.len
    simp only at this; omega
  have hl : lk ((n, Ob.row el eb sz 0 []) :: H) i = some (.blk t cs) := by
    simp only [lk, nbeq_ne.2 (Ne.symm hin)]; exact hi
  have hb := ok1.hp.ob i _ hl
  have has' : ∀ j, has ((i, Ob.blk t (setC c (.row n) cs)) :: (n, Ob.row el eb sz 0 []) :: H) j → has ((n, Ob.row el eb sz 0 []) :: H) j := by
    intro j hj
    unfold has at hj ⊢
    rw [lk] at hj
    split at hj
    · rename_i e'; obtain rfl := nbeq.1 e'; rw [hl]; rfl
    · exact hj
  refine ⟨e1, kw.pub, ok1.sz, ok1.df, ok1.len, ok1.tm, ⟨fun j o hj => ?_, fun j j' k h1 h2 => ok1.hp.sep j j' k (has' j h1) (has' j' h2), fun j k h1 => ok1.hp.npub j k (has' j h1), ok1.hp.pubLt⟩, ok1.below, ok1.dr, fun j k h1 => ok1.mine j k (has' j h1), ok1.frm, ok1.pre, ok1.gl⟩
  rw [lk] at hj
  split at hj
  · rename_i e'
    obtain rfl := nbeq.1 e'
    injection hj with hj; subst hj
    obtain ⟨g, vs, h1, h2, h3⟩ := hb
    refine ⟨g, vs, h1, h2, RepSVs.mk ?_ fun q x v hx hv => ?_⟩
    · have := h3.len
      have hlen : (setC c (SV.row n) cs).length = cs.length := by
        have : ∀ (k : Nat) (x : SV) (l : List SV), (setC k x l).length = l.length := by
          intro k x l
          induction l generalizing k with
          | nil => simp [setC]
          | cons y r ih => cases k <;> simp [setC, ih]
        exact this _ _ _
      omega
    · rw [setC_get] at hx
      split at hx
      · rename_i hq
        injection hx with hx; subst hx
        obtain ⟨u, hu1, hu2⟩ := h3.get hc
        rw [hq.1, hu1] at hv; injection hv with hv; subst hv
        simp only [RepSV] at hu2 ⊢
        exact ⟨none, 0, 0, hu2, by rw [hu2]; exact hm⟩
      · obtain ⟨u, hu1, hu2⟩ := h3.get hx
        rw [hu1] at hv; injection hv with hv; subst hv; exact hu2
  · exact ok1.hp.ob j o hj
theorem loopH {α : Type} {T0 : Tl} {body : St → (SExit → St → Prop) → Prop} {st : St} {K : SExit → St → Prop} (I : α → Prop) (μ : α → Nat) (U : α → Tl) (Hs : α → Hp) (n : Nat) (a0 : α) (h0 : I a0) (hw : Weak b N st ⟨U a0 ++ T0, Hs a0, n⟩)
    (h : ∀ x, I x → body ⟨U x ++ T0, Hs x, n⟩ fun e st' => match e with
      | .normal => ∃ m st'', m < μ x ∧ (∃ y, I y ∧ m = μ y ∧ st'' = ⟨U y ++ T0, Hs y, n⟩) ∧ Weak b N st' st''
      | e => K e st') : LoopC b N T0 body st K := by
  refine ⟨fun m s => ∃ x, I x ∧ m = μ x ∧ s = ⟨U x ++ T0, Hs x, n⟩, ⟨_, _, ⟨a0, h0, rfl, rfl⟩, hw⟩, ?_⟩
  rintro m s ⟨x, hx, rfl, rfl⟩
  exact h x hx
theorem again {α : Type} {I : α → Prop} {μ : α → Nat} {U : α → Tl} {Hs : α → Hp} {T0 : Tl} {n k : Nat} {st' : St} (y : α) (hlt : μ y < k) (hI : I y) (hw : Weak b N st' ⟨U y ++ T0, Hs y, n⟩) : ∃ m st'', m < k ∧ (∃ y, I y ∧ m = μ y ∧ st'' = ⟨U y ++ T0, Hs y, n⟩) ∧ Weak b N st' st'' :=
  ⟨_, _, hlt, ⟨y, hI, rfl, rfl⟩, hw⟩
theorem weakC {o : Oper} {st : St} {K : SExit → St → Prop} (st' : St) (hw : Weak b N st st') (h : OpC P b N false o st' K) : OpC P b N false o st K := by
  obtain ⟨h⟩ := h
  refine ⟨fun e a w hok => ?_⟩
  obtain ⟨e', hup, hok'⟩ := hw e a w hok
  have hr := h e' a w hok'
  have aft : ∀ v w', AftS b N false e' st'.H w a o.dst K v w' → AftS b N false e st.H w a o.dst K v w' := by
    rintro v w' ⟨e2, st2, h1, h2, h3⟩
    exact ⟨e2, st2, ⟨fun hkp => (by cases hkp), (KeptP.mk hup (Same.rfl' _ _) (Nat.le_refl _)).trans h1.p⟩, h2, h3⟩
  generalize (execOp a.eval o).run P w = r at hr
  cases r with
  | halt x w' => cases x <;> simp only [OpR] at hr ⊢; exact hr
  | ok n w' =>
    cases n <;> simp only [OpR] at hr ⊢
    · exact aft _ _ hr
    · exact aft _ _ hr
    · refine hr.mono fun en w'' he => ?_
      cases en with
      | returned v => exact aft _ _ he
      | panicked c => exact he
      | outgrown => exact he
mutual
theorem rn_back {f : Nat → Nat} {e e' : Env} {w : World} (hp : e'.pub = e.pub) (hm : ∀ (i : Nat) v, e.m[f i]? = some v → e'.m[i]? = some v) : ∀ {x : SV} {v : Value}, RepSV e w (rn f x) v → RepSV e' w x v
  | .d x, v, hx => by simp only [rn, RepSV] at hx ⊢; rw [hp]; exact hx
  | .kb b, v, hx => by simpa only [rn, RepSV] using hx
  | .osl i n, v, hx => by
    simp only [rn, RepSV] at hx ⊢
    obtain ⟨g, h1, h2⟩ := hx
    exact ⟨g, hm _ _ h1, h2⟩
  | .nm i, v, hx => by
    simp only [rn, RepSV] at hx ⊢
    obtain ⟨g, h1, h2⟩ := hx
    exact ⟨g, h1, hm _ _ h2⟩
  | .nl, v, hx => by simpa only [rn, RepSV] using hx
  | .any, v, hx => by simp only [RepSV]
  | .own i off, v, hx => by
    simp only [rn, RepSV] at hx ⊢
    obtain ⟨g, h1, h2⟩ := hx
    exact ⟨g, hm _ _ h1, h2⟩
  | .row i, v, hx => by
    simp only [rn, RepSV] at hx ⊢
    obtain ⟨A, n, c, h1, h2⟩ := hx
    exact ⟨A, n, c, h1, hm _ _ h2⟩
  | .rowp i off, v, hx => by
    simp only [rn, RepSV] at hx ⊢
    obtain ⟨ad, n, c, h1, h2⟩ := hx
    exact ⟨ad, n, c, hm _ _ h1, h2⟩
  | .agg l, v, hx => by
    simp only [rn, RepSV] at hx ⊢
    obtain ⟨l', e1, h1⟩ := hx
    exact ⟨l', e1, rns_back hp hm h1⟩
  | .tup l, v, hx => by
    simp only [rn, RepSV] at hx ⊢
    obtain ⟨l', e1, h1⟩ := hx
    exact ⟨l', e1, rns_back hp hm h1⟩
  | .fn g a b, v, hx => by
    simp only [rn, RepSV] at hx ⊢
    obtain ⟨a', b', e1, h1, h2⟩ := hx
    exact ⟨a', b', e1, rns_back hp hm h1, rns_back hp hm h2⟩
  | .ifc t x, v, hx => by
    simp only [rn, RepSV] at hx ⊢
    obtain ⟨y, e1, h1⟩ := hx
    exact ⟨y, e1, rn_back hp hm h1⟩
theorem rns_back {f : Nat → Nat} {e e' : Env} {w : World} (hp : e'.pub = e.pub) (hm : ∀ (i : Nat) v, e.m[f i]? = some v → e'.m[i]? = some v) : ∀ {l : List SV} {v : List Value}, RepSVs e w (rns f l) v → RepSVs e' w l v
  | [], v, hx => by simpa only [rns, RepSVs] using hx
  | x :: r, v, hx => by
    simp only [rns, RepSVs] at hx ⊢
    obtain ⟨u, s, e1, h1, h2⟩ := hx
    exact ⟨u, s, e1, rn_back hp hm h1, rns_back hp hm h2⟩
end
def atN (σ : List Nat) (d j : Nat) : Nat :=
  match nth σ j with
  | some k => k
  | none => d
def allB (H : Hp) : List Nat → Bool
  | [] => true
  | k :: r => match lk H k, posN k r with
    | some _, none => allB H r
    | _, _ => false
def matchH (σ : List Nat) (d : Nat) (H : Hp) : Hp → Prop
  | [] => True
  | (j, o) :: r => lk H (atN σ d j) = some (rnO (atN σ d) o) ∧ matchH σ d H r
def rnHK (σ : List Nat) (d : Nat) : Hp → (Hp → Prop) → Prop
  | [], K => K []
  | (i, .blk t cs) :: r, K => match nth σ i with
    | some k => nrmL (rns (atN σ d) cs) fun cs' => rnHK σ d r fun l => K ((k, .blk t cs') :: l)
    | none => rnHK σ d r K
  | (i, .row t eb sz m xs) :: r, K => match nth σ i with
    | some k => rnHK σ d r fun l => K ((k, .row t eb sz m xs) :: l)
    | none => rnHK σ d r K
  | (i, .ab φ) :: r, K => match nth σ i with
    | some k => rnHK σ d r fun l => K ((k, .ab φ) :: l)
    | none => rnHK σ d r K
def inB (σ : List Nat) (k : Nat) : Bool :=
  match posN k σ with
  | some _ => true
  | none => false
def contT (N : Nat) (σ : List Nat) (q : Nat) (dst : Option Tmp) (st : St) (K : SExit → St → Prop) (o : Out) (H' : Hp) : Prop :=
  match st with
  | ⟨T, H, m⟩ => scrubTK (inB σ) T fun T' => withoutK (inB σ) H fun H1 => scrubHK (inB σ) H1 fun H2 => rnHK (σ ++ upN m q) (m + q) H' fun H'' => match o with
    | .ret x => nrm (rn (atN (σ ++ upN m q) (m + q)) x) fun x' => putK N dst x' ⟨T', H'' ++ H2, m + q⟩ (K .normal)
    | .pan x => K (.pan (rn (atN (σ ++ upN m q) (m + q)) x)) ⟨T', H'' ++ H2, m + q⟩
theorem posN_none : ∀ {l : List Nat} {i : Nat}, posN i l = none → i ∉ l
  | [], i, _, h => by cases h
  | k :: r, i, hp, h => by
    simp only [posN] at hp
    split at hp
    · cases hp
    · rename_i e
      split at hp
      · cases hp
      · rename_i e2
        rcases List.mem_cons.1 h with rfl | h
        · rw [Nat.beq_refl] at e; cases e
        · exact posN_none e2 h
theorem allB_get {H : Hp} : ∀ {σ : List Nat}, allB H σ = true → σ.Nodup ∧ ∀ k ∈ σ, has H k
  | [], _ => ⟨List.nodup_nil, fun k hk => by cases hk⟩
  | k :: r, h => by
    simp only [allB] at h
    split at h <;> try (cases h; done)
    rename_i o hk hp
    obtain ⟨h1, h2⟩ := allB_get h
    refine ⟨List.nodup_cons.2 ⟨posN_none hp, h1⟩, fun j hj => ?_⟩
    rcases List.mem_cons.1 hj with rfl | hj
    · simp [has, hk]
    · exact h2 j hj
theorem upN_get : ∀ (q n j : Nat), (upN n q)[j]? = if j < q then some (n + j) else none
  | 0, n, j => by simp [upN]
  | q + 1, n, 0 => by simp [upN]
  | q + 1, n, j + 1 => by
    simp only [upN, List.getElem?_cons_succ, upN_get q (n + 1) j]
    by_cases h : j < q
    · rw [if_pos h, if_pos (by omega)]; congr 1; omega
    · rw [if_neg h, if_neg (by omega)]
theorem upN_len : ∀ q n, (upN n q).length = q
  | 0, _ => rfl
  | q + 1, n => by simp [upN, upN_len q]
theorem inB_iff {σ : List Nat} {k : Nat} : inB σ k = true ↔ k ∈ σ := by
  unfold inB
  cases h : posN k σ with
  | some p => simp only [true_iff]; exact List.mem_of_getElem? (posN_get h)
  | none => simp only [Bool.false_eq_true, false_iff]; exact posN_none h
theorem matchH_get {σ : List Nat} {d : Nat} {H : Hp} : ∀ {H0 : Hp}, matchH σ d H H0 → ∀ j o, lk H0 j = some o → lk H (atN σ d j) = some (rnO (atN σ d) o)
  | [], _, j, o, h => by simp [lk] at h
  | (k, x) :: r, hm, j, o, h => by
    simp only [matchH] at hm
    simp only [lk] at h
    split at h
    · rename_i e; obtain rfl := nbeq.1 e
      injection h with h; subst h; exact hm.1
    · exact matchH_get hm.2 j o h
theorem rnHK_get (σ : List Nat) (d : Nat) (hnd : σ.Nodup) : ∀ (H : Hp) (K : Hp → Prop), rnHK σ d H K → ∃ H', K H' ∧ ∀ k o, lk H' k = some o → ∃ j o0, lk H j = some o0 ∧ σ[j]? = some k ∧ o = rnO (atN σ d) o0
  | [], K, h => ⟨[], h, fun k o ho => by simp [lk] at ho⟩
  | (i, x) :: r, K, h => by
    have step : ∀ k, σ[i]? = some k → rnHK σ d r (fun l => K ((k, rnO (atN σ d) x) :: l)) → ∃ H', K H' ∧ ∀ k o, lk H' k = some o → ∃ j o0, lk ((i, x) :: r) j = some o0 ∧ σ[j]? = some k ∧ o = rnO (atN σ d) o0 := by
      intro k hk h
      obtain ⟨H', h1, h2⟩ := rnHK_get σ d hnd r _ h
      refine ⟨_, h1, fun k' o ho => ?_⟩
      simp only [lk] at ho
      split at ho
      · rename_i e; obtain rfl := nbeq.1 e
        injection ho with ho
        exact ⟨i, x, by simp [lk], hk, ho.symm⟩
      · rename_i e
        obtain ⟨j, o0, q1, q2, q3⟩ := h2 k' o ho
        refine ⟨j, o0, ?_, q2, q3⟩
        simp only [lk]
        rw [nbeq_ne.2 (by rintro rfl; rw [hk] at q2; injection q2 with q2; rw [q2, Nat.beq_refl] at e; cases e)]
        exact q1
    have miss : σ[i]? = none → rnHK σ d r K → ∃ H', K H' ∧ ∀ k o, lk H' k = some o → ∃ j o0, lk ((i, x) :: r) j = some o0 ∧ σ[j]? = some k ∧ o = rnO (atN σ d) o0 := by
      intro hk h
      obtain ⟨H', h1, h2⟩ := rnHK_get σ d hnd r _ h
      refine ⟨H', h1, fun k' o ho => ?_⟩
      obtain ⟨j, o0, q1, q2, q3⟩ := h2 k' o ho
      refine ⟨j, o0, ?_, q2, q3⟩
      simp only [lk]
      rw [nbeq_ne.2 (by rintro rfl; rw [hk] at q2; cases q2)]
      exact q1
    cases x with
    | blk t cs =>
      simp only [rnHK] at h
      split at h
      · rename_i k hk
        rw [nrmL_eq] at h
        rw [nth_eq] at hk
        exact step k hk h
      · rename_i hk
        rw [nth_eq] at hk
        exact miss hk h
    | row t eb sz m xs =>
      simp only [rnHK] at h
      split at h
      · rename_i k hk
        rw [nth_eq] at hk
        exact step k hk h
      · rename_i hk
        rw [nth_eq] at hk
        exact miss hk h
    | ab φ =>
      simp only [rnHK] at h
      split at h
      · rename_i k hk
        rw [nth_eq] at hk
        exact step k hk h
      · rename_i hk
        rw [nth_eq] at hk
        exact miss hk h
def szA : SV → Prop
  | .d x => szOk x
  | _ => True
theorem szA_of {e : Env} {w : World} : ∀ {l : List SV} {v : List Value}, RepSVs e w l v → ∀ x ∈ l, szA x
  | [], v, _, x, hx => by cases hx
  | y :: r, v, h, x, hx => by
    simp only [RepSVs] at h
    obtain ⟨u, s, _, h1, h2⟩ := h
    rcases List.mem_cons.1 hx with rfl | hx
    · cases x with
      | d x => simp only [RepSV] at h1; exact szOk_of h1
      | _ => trivial
    · exact szA_of h2 x hx
theorem tri_sz {f : FuncId} {n q : Nat} {args : List SV} {H : Hp} {Q : Out → Hp → Prop} (h : (∀ x ∈ args, szA x) → Tri P G f n q args H Q) : Tri P G f n q args H Q :=
  fun e w vs hlen hargs hH hG => h (szA_of hargs) e w vs hlen hargs hH hG
def dd (x : SV) : SV :=
  match x with
  | .nl => .nl
  | x => match dOf x with
    | some y => .d y
    | none => x
theorem dd_rep {e : Env} {w : World} {x : SV} {v : Value} (h : RepSV e w x v) : RepSV e w (dd x) v := by
  unfold dd
  split
  · exact h
  split
  · rename_i y hy
    simp only [RepSV]; exact dOf_rep hy h
  · exact h
theorem dds_rep {e : Env} {w : World} : ∀ {l : List SV} {v : List Value}, RepSVs e w l v → RepSVs e w (l.map dd) v
  | [], v, h => h
  | x :: r, v, h => by
    simp only [RepSVs, List.map_cons] at h ⊢
    obtain ⟨u, s, e', h1, h2⟩ := h
    exact ⟨u, s, e', dd_rep h1, dds_rep h2⟩
theorem callTc (σ : List Nat) {o : Oper} {st : St} {K : SExit → St → Prop} {f : FuncId} {l args0 : List SV} {H0 : Hp} {q : Nat} {Q : Out → Hp → Prop} (hc : Tri P G f σ.length q args0 H0 Q) (h : CallTo P b N st o f l)
    (hl : rns (atN σ st.n) args0 = l.map dd) (hH : matchH σ st.n st.H H0) (ha : allB st.H σ = true) (hk : ∀ o' H', Q o' H' → contT N σ q o.dst st K o' H') : OpC P b N false o st K := by
  obtain ⟨T, H, m⟩ := st
  refine ⟨fun e a w hok => ?_⟩
  obtain ⟨vs, h1, h2⟩ := h e a w hok
  rw [h2]
  obtain ⟨hnd, hhas⟩ := allB_get ha
  have hlen : e.m.length = m := hok.len
  have hob : ∀ k, has H k → ∃ v, e.m[k]? = some v := by
    intro k hk
    obtain ⟨o, ho⟩ := Option.isSome_iff_exists.1 hk
    have := hok.hp.ob k o ho
    cases o with
    | blk t cs => obtain ⟨g, vs, h1, _⟩ := this; exact ⟨_, h1⟩
    | row t eb sz n xs => obtain ⟨A, c, vs, h1, _⟩ := this; exact ⟨_, h1⟩
    | ab φ => obtain ⟨v', g, o, h1, _⟩ := this; exact ⟨_, h1⟩
  have hσlt : ∀ k ∈ σ, k < m := by
    intro k hk
    obtain ⟨v, hv⟩ := hob k (hhas k hk)
    have := (List.getElem?_eq_some_iff.1 hv).1
    omega
  -- the callee's names
  let ec : Env := ⟨σ.map fun k => e.m.getD k undef, e.pub⟩
  have hecm : ∀ (j : Nat) v, ec.m[j]? = some v → ∃ k, σ[j]? = some k ∧ e.m[k]? = some v := by
    intro j v hj
    simp only [ec, List.getElem?_map] at hj
    cases hs : σ[j]? with
    | none => rw [hs] at hj; cases hj
    | some k =>
      rw [hs] at hj; injection hj with hj
      obtain ⟨u, hu⟩ := hob k (hhas k (List.mem_of_getElem? hs))
      simp only [List.getD_eq_getElem?_getD, hu, Option.getD_some] at hj
      exact ⟨k, rfl, by rw [hu, hj]⟩
  have hatb : ∀ (j : Nat) v, e.m[atN σ m j]? = some v → ec.m[j]? = some v := by
    intro j v hj
    unfold atN at hj
    rw [nth_eq] at hj
    cases hs : σ[j]? with
    | none =>
      rw [hs] at hj
      simp only at hj
      rw [List.getElem?_eq_none (by omega)] at hj; cases hj
    | some k =>
      rw [hs] at hj
      simp only at hj
      simp only [ec, List.getElem?_map, hs, Option.map_some, List.getD_eq_getElem?_getD, hj, Option.getD_some]
  have hfoot : ∀ j k, foot ec j k → ∃ i, σ[j]? = some i ∧ foot e i k := by
    rintro j k ⟨v, q1, q2⟩
    obtain ⟨i, q3, q4⟩ := hecm j v q1
    exact ⟨i, q3, v, q4, q2⟩
  have hH0 : ∀ j, has H0 j → ∃ k, σ[j]? = some k ∧ has H k := by
    intro j hj
    obtain ⟨o0, ho0⟩ := Option.isSome_iff_exists.1 hj
    have hm := matchH_get hH j o0 ho0
    unfold atN at hm
    rw [nth_eq] at hm
    cases hs : σ[j]? with
    | none =>
      rw [hs] at hm
      simp only at hm
      obtain ⟨v, hv⟩ := hob m (by simp [has, hm])
      have := (List.getElem?_eq_some_iff.1 hv).1
      omega
    | some k => rw [hs] at hm; exact ⟨k, rfl, by simp only at hm; simp [has, hm]⟩
  have hinj : ∀ (i j k : Nat), σ[i]? = some k → σ[j]? = some k → i = j := by
    intro i j k hi hj
    exact (List.getElem?_inj (List.getElem?_eq_some_iff.1 hi).1 hnd).1 (hi.trans hj.symm)
  have hpc : HpOk ec w H0 := by
    refine ⟨fun j o0 ho0 => ?_, fun i j k hi hj hne q1 q2 => ?_, fun j k hj q1 q2 => ?_, hok.hp.pubLt⟩
    · have hm := matchH_get hH j o0 ho0
      have := hok.hp.ob _ _ hm
      cases o0 with
      | blk t cs =>
        obtain ⟨g, vs', r1, r2, r3⟩ := this
        exact ⟨g, vs', hatb j _ r1, r2, rns_back (e := e) (e' := ec) rfl hatb r3⟩
      | row t eb sz n xs =>
        obtain ⟨A, c, vs', r1, r2, r3, r4⟩ := this
        exact ⟨A, c, vs', hatb j _ r1, r2, r3, r4⟩
      | ab φ =>
        obtain ⟨v', g, o', r1, r2, r3, r4, r5⟩ := this
        exact ⟨v', g, o', hatb j _ r1, r2, r3, r4, r5⟩
    · obtain ⟨i', r1, r2⟩ := hfoot i k q1
      obtain ⟨j', r3, r4⟩ := hfoot j k q2
      obtain ⟨i2, r5, r6⟩ := hH0 i hi
      obtain ⟨j2, r7, r8⟩ := hH0 j hj
      rw [r1] at r5; injection r5 with r5; subst r5
      rw [r3] at r7; injection r7 with r7; subst r7
      exact hok.hp.sep i' j' k r6 r8 (by rintro rfl; exact hne (hinj i j i' r1 r3)) r2 r4
    · obtain ⟨i', r1, r2⟩ := hfoot j k q1
      obtain ⟨i2, r5, r6⟩ := hH0 j hj
      rw [r1] at r5; injection r5 with r5; subst r5
      exact hok.hp.npub i' k r6 r2 q2
  have hargs : RepSVs ec w args0 vs := by
    have h1 := dds_rep h1
    rw [← hl] at h1
    exact rns_back (e := e) (e' := ec) rfl hatb h1
  refine (hc ec w vs (by simp [ec]) hargs hpc hok.gl).mono ?_
  rintro en w' ⟨o', H', ec', hq, ho, hL⟩
  have hkk := hk o' H' hq
  simp only [contT, scrubTK_eq, withoutK_eq, scrubHK_eq] at hkk
  have hnd' : (σ ++ upN m q).Nodup := by
    rw [List.nodup_append]
    refine ⟨hnd, ?_, ?_⟩
    · have : ∀ q n, (upN n q).Nodup := by
        intro q
        induction q with
        | zero => intro n; exact List.nodup_nil
        | succ q ih =>
          intro n
          refine List.nodup_cons.2 ⟨fun hm => ?_, ih _⟩
          obtain ⟨j, hj⟩ := List.mem_iff_getElem?.1 hm
          rw [upN_get] at hj
          split at hj
          · injection hj with hj; omega
          · cases hj
      exact this _ _
    · rintro x hx y hy rfl
      have := hσlt x hx
      obtain ⟨j, hj⟩ := List.mem_iff_getElem?.1 hy
      rw [upN_get] at hj
      split at hj
      · injection hj with hj; omega
      · cases hj
  obtain ⟨H'', hkk, hH''⟩ := rnHK_get _ _ hnd' _ _ hkk
  -- the caller's names
  have hlc : ec'.m.length = σ.length + q := by rw [hL.len]; simp [ec]
  let m2 : List Value := (List.range m).map (fun k => match posN k σ with | some j => ec'.m.getD j undef | none => e.m.getD k undef) ++ ec'.m.drop σ.length
  let e2 : Env := ⟨m2, ec'.pub⟩
  have hm2 : ∀ (k : Nat) v, e.m[k]? = some v → k ∉ σ → m2[k]? = some v := by
    intro k v hv hn
    have hlt := (List.getElem?_eq_some_iff.1 hv).1
    simp only [m2]
    rw [List.getElem?_append_left (by simp; omega), List.getElem?_map, List.getElem?_range (by omega)]
    simp only [Option.map_some]
    have : posN k σ = none := by
      cases hp : posN k σ with
      | none => rfl
      | some p => exact absurd (List.mem_of_getElem? (posN_get hp)) hn
    rw [this]
    simp [List.getD_eq_getElem?_getD, hv]
  have hmc : ∀ (j : Nat) v k, ec'.m[j]? = some v → (σ ++ upN m q)[j]? = some k → m2[k]? = some v := by
    intro j v k hv hs
    rcases Nat.lt_or_ge j σ.length with hj | hj
    · rw [List.getElem?_append_left hj] at hs
      have hkm := hσlt k (List.mem_of_getElem? hs)
      simp only [m2]
      rw [List.getElem?_append_left (by simp; omega), List.getElem?_map, List.getElem?_range hkm]
      simp only [Option.map_some]
      cases hp : posN k σ with
      | none => exact absurd (List.mem_of_getElem? hs) (posN_none hp)
      | some p =>
        have := hinj p j k (posN_get hp) hs
        subst this
        simp [List.getD_eq_getElem?_getD, hv]
    · rw [List.getElem?_append_right hj, upN_get] at hs
      split at hs
      · injection hs with hs
        simp only [m2]
        rw [List.getElem?_append_right (by simp; omega)]
        simp only [List.length_map, List.length_range, List.getElem?_drop]
        rw [← hs, show σ.length + (m + (j - σ.length) - m) = j from by omega]
        exact hv
      · cases hs
  have hrn : ∀ {x : SV} {v : Value}, RepSV ec' w' x v → RepSV e2 w' (rn (atN (σ ++ upN m q) (m + q)) x) v := by
    refine fun hx => rn_rep (e := ec') (e' := e2) rfl (fun j v hv => ?_) hx
    have hjl := (List.getElem?_eq_some_iff.1 hv).1
    obtain ⟨k, hk⟩ : ∃ k, (σ ++ upN m q)[j]? = some k := ⟨_, List.getElem?_eq_getElem (by rw [List.length_append, upN_len]; omega)⟩
    have : atN (σ ++ upN m q) (m + q) j = k := by unfold atN; rw [nth_eq, hk]
    rw [this]
    exact hmc j v k hv hk
  have hrns : ∀ {x : List SV} {v : List Value}, RepSVs ec' w' x v → RepSVs e2 w' (rns (atN (σ ++ upN m q) (m + q)) x) v := by
    refine fun hx => rns_rep (e := ec') (e' := e2) rfl (fun j v hv => ?_) hx
    have hjl := (List.getElem?_eq_some_iff.1 hv).1
    obtain ⟨k, hk⟩ : ∃ k, (σ ++ upN m q)[j]? = some k := ⟨_, List.getElem?_eq_getElem (by rw [List.length_append, upN_len]; omega)⟩
    have : atN (σ ++ upN m q) (m + q) j = k := by unfold atN; rw [nth_eq, hk]
    rw [this]
    exact hmc j v k hv hk
  have hfeet : ∀ k, feet ec H0 k → ∃ i, inB σ i = true ∧ has H i ∧ foot e i k := by
    rintro k ⟨j, hj, hf⟩
    obtain ⟨i, r1, r2⟩ := hfoot j k hf
    obtain ⟨i2, r5, r6⟩ := hH0 j hj
    rw [r1] at r5; injection r5 with r5; subst r5
    exact ⟨i, inB_iff.2 (List.mem_of_getElem? r1), r6, r2⟩
  have hft2 : ∀ (j k x : Nat), (σ ++ upN m q)[j]? = some k → (∃ v, ec'.m[j]? = some v) → foot e2 k x → foot ec' j x := by
    rintro j k x hs ⟨v, hv⟩ ⟨u, r1, r2⟩
    have := hmc j v k hv hs
    have r1 : m2[k]? = some u := r1
    rw [this] at r1; injection r1 with r1; subst r1
    exact ⟨v, hv, r2⟩
  have hobc : ∀ j o0, lk H' j = some o0 → ∃ v, ec'.m[j]? = some v := by
    intro j o0 ho0
    have := hL.hp.ob j o0 ho0
    cases o0 with
    | blk t cs => obtain ⟨g, vs, h1, _⟩ := this; exact ⟨_, h1⟩
    | row t eb sz n xs => obtain ⟨A, c, vs, h1, _⟩ := this; exact ⟨_, h1⟩
    | ab φ => obtain ⟨v', g, o', h1, _⟩ := this; exact ⟨_, h1⟩
  have hs2 : ∀ (k : Nat), has H'' k → ∃ (j : Nat) (o0 : Ob), lk H' j = some o0 ∧ (σ ++ upN m q)[j]? = some k := by
    intro k hk
    obtain ⟨o2, ho2⟩ := Option.isSome_iff_exists.1 hk
    obtain ⟨j, o0, r1, r2, _⟩ := hH'' k o2 ho2
    exact ⟨j, o0, r1, r2⟩
  have hok2 := hok.frame (r := inB σ) (s := inB σ) (fun _ h => h) (e' := e2) (w' := w') (H' := H'') q (by simp only [e2, m2, List.length_append, List.length_map, List.length_range, List.length_drop, hlc]; omega)
    (hL.only.mono fun k _ hk => hfeet k hk) hL.dr
    (fun k v hv hsl => by
      by_cases hks : k ∈ σ
      · obtain ⟨j, hj⟩ := List.mem_iff_getElem?.1 hks
        have hjl := (List.getElem?_eq_some_iff.1 hj).1
        have hns : ∀ A n c, v ≠ .slice A n c := fun A n c e' => by
          have := hsl A n c e'
          rw [inB_iff.2 hks] at this; cases this
        have hcj : ec.m[j]? = some v := by
          simp only [ec, List.getElem?_map, hj, Option.map_some, List.getD_eq_getElem?_getD, hv, Option.getD_some]
        exact hmc j v k (hL.m j v hcj hns) (by rw [List.getElem?_append_left hjl]; exact hj)
      · exact hm2 k v hv hks)
    hL.up (fun k hk => by
      rcases hL.frm k hk with h3 | h3 | h3
      · exact .inl h3
      · exact .inr (.inl (hfeet k h3))
      · exact .inr (.inr h3))
    ⟨fun k o2 ho2 => ?_, fun k k' x hk hk' hne q1 q2 => ?_, fun k x hk q1 q2 => ?_, hL.hp.pubLt⟩ (fun k x hk q1 => ?_)
  · cases o' with
    | ret x =>
      obtain ⟨v, rfl, hv⟩ := ho
      simp only at hkk
      obtain ⟨y, hy, hr⟩ := nrm_eq _ _ hkk (hrn hv)
      obtain ⟨st', g1, g2, _⟩ := putK_sound hok2 hr hy
      exact ⟨e2, st', ⟨fun h => by (cases h), hL.up, fun k hk hl => hL.only.block k hl fun hf => by obtain ⟨i, _, h2, h3⟩ := hfeet k hf; exact hok.hp.npub i k h2 h3 hk, hL.only.size⟩, g1, g2⟩
    | pan x =>
      obtain ⟨v, rfl, hv⟩ := ho
      exact ⟨e2, _, _, v, rfl, hrn hv, hok2, hkk⟩
  · obtain ⟨j, o0, r1, r2, rfl⟩ := hH'' k o2 ho2
    have := hL.hp.ob j o0 r1
    cases o0 with
    | blk t cs =>
      obtain ⟨g, vs', s1, s2, s3⟩ := this
      exact ⟨g, vs', hmc j _ k s1 r2, s2, hrns s3⟩
    | row t eb sz n xs =>
      obtain ⟨A, c, vs', s1, s2, s3, s4⟩ := this
      exact ⟨A, c, vs', hmc j _ k s1 r2, s2, s3, s4⟩
    | ab φ =>
      obtain ⟨v', g, o', s1, s2, s3, s4, s5⟩ := this
      exact ⟨v', g, o', hmc j _ k s1 r2, s2, s3, s4, s5⟩
  · obtain ⟨j, o0, r1, r2⟩ := hs2 k hk
    obtain ⟨j', o0', r3, r4⟩ := hs2 k' hk'
    exact hL.hp.sep j j' x (by simp [has, r1]) (by simp [has, r3]) (by rintro rfl; rw [r2] at r4; injection r4 with r4; exact hne r4) (hft2 j k x r2 (hobc j o0 r1) q1) (hft2 j' k' x r4 (hobc j' o0' r3) q2)
  · obtain ⟨j, o0, r1, r2⟩ := hs2 k hk
    exact hL.hp.npub j x (by simp [has, r1]) (hft2 j k x r2 (hobc j o0 r1) q1) q2
  · obtain ⟨j, o0, r1, r2⟩ := hs2 k hk
    rcases hL.ft j x (by simp [has, r1]) (hft2 j k x r2 (hobc j o0 r1) q1) with h3 | h3
    · exact .inl (hfeet x h3)
    · exact .inr h3
theorem callT (σ : List Nat) {o : Oper} {st : St} {K : SExit → St → Prop} {f : FuncId} {l args0 : List SV} {H0 : Hp} {q : Nat} {Q : Out → Hp → Prop} (hc : Tri P G f σ.length q args0 H0 Q) (hg : Goes P f) (h : callOf st.T o.op = some (f, l))
    (hl : rns (atN σ st.n) args0 = l.map dd) (hH : matchH σ st.n st.H H0) (ha : allB st.H σ = true) (hk : ∀ o' H', Q o' H' → contT N σ q o.dst st K o' H') : OpC P b N false o st K := callTc σ hc (callTo_of h hg) hl hH ha hk
theorem triNil {f : FuncId} {args : List SV} {Q Q' : Out → Hp → Prop} (el : TypeId) (eb sz : Nat) (h : Tri P G f 0 1 args [] Q) (hq : ∀ o H', Q o H' → Q' o H' ∨ (o = .ret .nl ∧ Q' (.ret (.row 0)) [(0, .row el eb sz 0 [])])) : Tri P G f 0 1 args [] Q' := by
  intro e w vs hlen hargs hH hG
  refine (h e w vs hlen hargs hH hG).mono ?_
  rintro en w' ⟨o, H', e', q1, q2, q3⟩
  rcases hq o H' q1 with h1 | ⟨rfl, h1⟩
  · exact ⟨o, H', e', h1, q2, q3⟩
  · obtain ⟨v, rfl, hv⟩ := q2
    simp only [RepSV] at hv
    subst hv
    have he : e.m = [] := List.eq_nil_of_length_eq_zero hlen
    have one : ∀ i, has [(0, Ob.row el eb sz 0 [])] i → i = 0 := by
      intro i hi
      unfold has at hi
      simp only [lk] at hi
      split at hi
      · rename_i e3; exact (nbeq.1 e3).symm
      · cases hi
    have hft : ∀ i k, has [(0, Ob.row el eb sz 0 [])] i → ¬ foot ⟨[.slice none 0 0], e'.pub⟩ i k := by
      rintro i k hi ⟨v, r1, r2⟩
      obtain rfl := one i hi
      simp at r1; subst r1; cases r2
    refine ⟨_, _, ⟨[.slice none 0 0], e'.pub⟩, h1, ⟨_, rfl, by simp only [RepSV]; exact ⟨none, 0, 0, rfl, rfl⟩⟩, ⟨fun i o ho => ?_, fun i j k hi _ _ h1 => absurd h1 (hft i k hi), fun i k hi h1 => absurd h1 (hft i k hi), q3.hp.pubLt⟩, by simp [he], q3.only, q3.dr, fun i v hi => by rw [he] at hi; simp at hi, q3.up, q3.frm, fun i hi => by rw [one i hi]; omega, fun i k hi h1 => absurd h1 (hft i k hi)⟩
    obtain rfl := one i (by simp [has, ho])
    simp only [lk, Nat.beq_refl] at ho
    injection ho with ho; subst ho
    exact ⟨none, 0, [], rfl, RowOk.nil w' el sz, by simp [RepDs], by simp⟩
end
end Go.Vx


/- Types, numbers, lists of these, as data. -/
set_option linter.unusedSimpArgs false
set_option linter.unusedVariables false
namespace Go.Vx
open Go.RowKit Go.Vc
def fl {α : Type} (f : α → List D) : List α → List D
  | [] => []
  | x :: r => f x ++ fl f r
section
variable {α : Type} {f : α → List D} {w : Nat}
theorem fl_len (hf : ∀ x, (f x).length = w) : ∀ l : List α, (fl f l).length = l.length * w
  | [] => by simp [fl]
  | x :: r => by simp [fl, fl_len hf r, hf, Nat.add_mul]; omega
theorem fl_app : ∀ l m : List α, fl f (l ++ m) = fl f l ++ fl f m
  | [], m => rfl
  | x :: r, m => by simp [fl, fl_app r m]
theorem fl_mem {d : D} : ∀ {l : List α}, d ∈ fl f l → ∃ x ∈ l, d ∈ f x
  | [], h => by simp [fl] at h
  | x :: r, h => by
    simp only [fl, List.mem_append] at h
    rcases h with h | h
    · exact ⟨x, by simp, h⟩
    · obtain ⟨y, h1, h2⟩ := fl_mem h
      exact ⟨y, by simp [h1], h2⟩
theorem fl_at (hf : ∀ x, (f x).length = w) : ∀ (l : List α) (i : Nat) (hi : i < l.length), ((fl f l).drop (i * w)).take w = f l[i]
  | x :: r, 0, _ => by simp [fl, hf]
  | x :: r, i + 1, hi => by
    have := fl_at hf r i (by simpa using hi)
    simp only [fl, List.getElem_cons_succ]
    have e : (f x ++ fl f r).drop ((i + 1) * w) = (fl f r).drop (i * w) := by
      rw [show (i + 1) * w = (f x).length + i * w from by rw [Nat.add_mul, hf]; omega, List.drop_append]
      simp
    rw [e]
    exact this
theorem fl_set (hf : ∀ x, (f x).length = w) (l : List α) (i : Nat) (hi : i < l.length) (x : α) : ovl (fl f l) (i * w) (f x) = fl f (l.set i x) := by
  rw [List.set_eq_take_append_cons_drop, if_pos hi]
  unfold ovl
  have h1 : (fl f l).take (i * w) = fl f (l.take i) := by
    conv => lhs; rw [← List.take_append_drop i l, fl_app]
    rw [List.take_append_of_le_length (by rw [fl_len hf]; simp; rw [Nat.min_eq_left (by omega)]; exact Nat.le_refl _)]
    rw [List.take_of_length_le (by rw [fl_len hf]; simp; exact Nat.mul_le_mul_right _ (Nat.min_le_left _ _))]
  have h2 : (fl f l).drop (i * w + (f x).length) = fl f (l.drop (i + 1)) := by
    conv => lhs; rw [← List.take_append_drop (i + 1) l, fl_app]
    have hl : (fl f (l.take (i + 1))).length = i * w + (f x).length := by
      rw [fl_len hf, hf]; simp; rw [Nat.min_eq_left (by omega), Nat.add_mul]; omega
    rw [← hl, List.drop_append_of_le_length (Nat.le_refl _)]
    simp
  rw [h1, h2, List.append_assoc, fl_app]
  rfl
theorem IdxC.fl (hf : ∀ x, (f x).length = w) {l : List α} {j : Int} {K : SV → Prop} (i : Nat) (hi : i < l.length) (hj : j = (i : Int)) (hk : K (.d (.ptr (f l[i]) 0))) : IdxC l.length w (Vx.fl f l) j K :=
  ⟨i, hj, hi, _, fl_at hf l i hi, hk⟩
end
mutual
def encT0 : Tp → List D
  | .mk k n ks => [.int .i64 k, .int .i64 n, slD 40 ks.length (encK ks)]
def encK : List Tp → List D
  | [] => []
  | t :: r => encT0 t ++ encK r
end
def encT (t : Tp) : List D := [.int .i64 t.k, .int .i64 t.n, slD 40 t.kids.length (encK t.kids)]
theorem encT0_eq (t : Tp) : encT0 t = encT t := by cases t; rfl
theorem encK_eq : ∀ l : List Tp, encK l = fl encT l
  | [] => rfl
  | t :: r => by simp only [encK, fl, encK_eq r, encT0_eq]
theorem encT_len (t : Tp) : (encT t).length = 3 := rfl
theorem encK_at (l : List Tp) (i : Nat) (hi : i < l.length) : ((encK l).drop (i * 3)).take 3 = encT l[i] := by rw [encK_eq]; exact fl_at encT_len l i hi
theorem IdxC.encK {l : List Tp} {j : Int} {K : SV → Prop} (i : Nat) (hi : i < l.length) (hj : j = (i : Int)) (hk : K (.d (.ptr (encT l[i]) 0))) : IdxC l.length 3 (Vx.encK l) j K :=
  ⟨i, hj, hi, _, encK_at l i hi, hk⟩
def encI (l : List Int) : List D := l.map (.int .i64)
theorem encI_at (l : List Int) (i : Nat) (hi : i < l.length) : ((encI l).drop (i * 1)).take 1 = [.int .i64 l[i]] := by
  unfold encI
  rw [Nat.mul_one, List.drop_eq_getElem_cons (by simpa using hi)]
  simp
theorem encI_len (l : List Int) : (encI l).length = l.length := by simp [encI]
theorem encI_scal (l : List Int) : ∀ d ∈ encI l, scalD d = true := by
  intro d hd
  simp only [encI, List.mem_map] at hd
  obtain ⟨n, _, rfl⟩ := hd
  rfl
theorem IdxC.encI {l : List Int} {j : Int} {K : SV → Prop} (i : Nat) (hi : i < l.length) (hj : j = (i : Int)) (hk : K (.d (.ptr [.int .i64 l[i]] 0))) : IdxC l.length 1 (Vx.encI l) j K :=
  ⟨i, hj, hi, _, encI_at l i hi, hk⟩
abbrev dT (t : Tp) : D := .agg (encT t)
abbrev dI (l : List Int) : D := slD 8 l.length (encI l)
abbrev dK (l : List Tp) : D := slD 40 l.length (encK l)
theorem incD {i : Nat} (h : i < 9223372036854775807) : SV.d (.int .i64 (IntKind.i64.wrap ((i : Int) + 1))) = .d (.int .i64 ((i + 1 : Nat) : Int)) := by rw [inc h]
end Go.Vx


