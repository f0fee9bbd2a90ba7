/- Laws: append, make. -/
import Derived.Test.YtohmeplcjgmedaaDoorVxn
namespace Go.Vx
open Go.RowKit Go.Vc

section
variable {P : Program} {G : Glob} {ty : List (Nat × TY)} {N : Nat} {n0 : Nat} {b : Bs G n0}

theorem scalD_cell {S : Nat → Prop} {w : World} {x : D} {v : Value} (h : scalD x = true) (hx : RepD S w x v) : v.oneCell' = true := by
  cases x <;> first | (simp [scalD] at h; done) | skip
  case val u => simp only [RepD] at hx; subst hx; cases v <;> first | rfl | (simp [scalD] at h; done)
  all_goals simp only [RepD] at hx
  all_goals first | (subst hx; rfl) | (obtain ⟨_, _, rfl, _⟩ := hx; rfl) | (obtain ⟨_, rfl, _⟩ := hx; rfl)
theorem scalDs_mem : ∀ {l : List D}, scalDs l = true → ∀ d ∈ l, scalD d = true
  | [], _, d, h => by cases h
  | x :: r, hs, d, h => by
    simp only [scalDs] at hs
    split at hs <;> try (cases hs; done)
    rename_i hx
    rcases List.mem_cons.1 h with rfl | h
    · exact hx
    · exact scalDs_mem hs d h
theorem RepDs.scal {S : Nat → Prop} {w : World} : ∀ {l : List D} {v : List Value}, RepDs S w l v → (∀ d ∈ l, scalD d = true) → ∀ u ∈ v, u.oneCell' = true
  | [], v, h, _, u, hu => by simp only [RepDs] at h; subst h; cases hu
  | x :: r, v, h, hs, u, hu => by
    simp only [RepDs] at h
    obtain ⟨y, s, rfl, h1, h2⟩ := h
    rcases List.mem_cons.1 hu with rfl | hu
    · exact scalD_cell (hs x (by simp)) h1
    · exact RepDs.scal h2 (fun d hd => hs d (by simp [hd])) u hu

/-- What is told of a slice's type: its element's type. -/
def rowB (ty : List (Nat × TY)) (t e : TypeId) (eb sz : Nat) : Bool :=
  match lk ty t with
  | some y => match y.kd with
    | .slice e' => match Nat.beq e' e, lk ty e with
      | true, some ye => !Nat.beq e t && Nat.beq ye.i.size sz && Nat.beq ye.i.bytes eb && Nat.beq ye.i.z.cells.size sz && Nat.ble 1 sz && Nat.ble 1 eb
      | _, _ => false
    | _ => false
  | none => false
theorem rowB_get {t e : TypeId} {eb sz : Nat} (h : rowB ty t e eb sz = true) : ∃ y ye, lk ty t = some y ∧ y.kd = .slice e ∧ lk ty e = some ye ∧ ye.i.size = sz ∧ ye.i.bytes = eb ∧ ye.i.z.cells.size = sz ∧ 0 < sz ∧ 0 < eb ∧ e ≠ t := by
  unfold rowB at h
  split at h <;> try (cases h; done)
  rename_i y hy
  split at h <;> try (cases h; done)
  rename_i e' hk
  split at h <;> try (cases h; done)
  rename_i ye he1 he2
  obtain rfl := nbeq.1 he1
  simp only [Bool.and_eq_true, nbeq, Bool.not_eq_true', nbeq_ne] at h
  obtain ⟨⟨⟨⟨⟨h0, h1⟩, h2⟩, h3⟩, h4⟩, h5⟩ := h
  exact ⟨y, ye, hy, hk, he2, h1, h2, h3, Nat.le_of_ble_eq_true h4, Nat.le_of_ble_eq_true h5, h0⟩
/-- A slice that may be read at hand: how long, its cells. -/
def slOf (H : Hp) : SV → Option (Nat × List D)
  | .d (.sl _ n cs) => some (n, cs)
  | .d (.csl _ n cs) => some (n, cs)
  | .nl => some (0, [])
  | .row i => match lk H i with
    | some (.row _ _ _ n xs) => some (n, xs)
    | _ => none
  | _ => none
theorem slOf_rep {e : Env} {w : World} {H : Hp} (hH : HpOk e w H) {x : SV} {n : Nat} {xs : List D} {v : Value} (h : slOf H x = some (n, xs)) (hx : RepSV e w x v) :
    ∃ A c S vs, v = .slice A n c ∧ Cells S w A vs ∧ RepDs e.pub w xs vs := by
  unfold slOf at h
  split at h
  · injection h with h; injection h with h1 h2; subst h1; subst h2
    simp only [RepSV, RepD] at hx
    obtain ⟨A, c, rfl, _, _, _, h3⟩ := hx
    obtain ⟨vs, h4, h5⟩ := h3.cells0
    exact ⟨A, c, _, vs, rfl, h5, h4⟩
  · injection h with h; injection h with h1 h2; subst h1; subst h2
    simp only [RepSV, RepD] at hx
    obtain ⟨A, rfl, _, _, h3⟩ := hx
    obtain ⟨vs, h4, h5⟩ := h3.cells0
    exact ⟨A, _, _, vs, rfl, h5, h4⟩
  · injection h with h; injection h with h1 h2; subst h1; subst h2
    simp only [RepSV] at hx
    exact ⟨none, 0, fun _ => True, [], hx, .inl rfl, by simp [RepDs]⟩
  · rename_i i
    split at h <;> try (cases h; done)
    rename_i t eb sz m ys hi
    injection h with h; injection h with h1 h2; subst h1; subst h2
    simp only [RepSV] at hx
    obtain ⟨A, n', c, rfl, hm⟩ := hx
    obtain ⟨A', c', vs, hm', hr, hxs, _⟩ := hH.ob _ _ hi
    rw [hm] at hm'; injection hm' with hm'; injection hm' with e1 e2 e3
    subst e1; subst e2; subst e3
    exact ⟨A, c, _, vs, rfl, hr.cells rfl (fun _ => True) (fun _ _ => trivial), hxs⟩
  · cases h

def appOf (T : Tl) : Op → Option (SV × SV × TypeId)
  | .call { callee := .builtin .append, args := as, argTypes := ts } => match as.toList, ts.toList with
    | [x, y], [t, t'] => match Nat.beq t t', ev T x, ev T y with
      | true, some a, some b => some (a, b, t)
      | _, _, _ => none
    | _, _ => none
  | _ => none
theorem appOf_run {e : Env} {w : World} {T : Tl} {g : Operand → Value} (hT : TmOk e w T g) {o : Oper} {x y : SV} {t : TypeId} (h : appOf T o.op = some (x, y, t)) :
    ∃ u v, RepSV e w x u ∧ RepSV e w y v ∧ ∀ (w0 : World) r w', (Builtin.append_ #[t, t] o.type #[u, v]).run P w0 = .ok r w' → (execOp g o).run P w0 = .ok (.value r) w' := by
  obtain ⟨dst, op, type, pos, after, guard⟩ := o
  simp only at h
  unfold appOf at h
  split at h <;> try (cases h; done)
  rename_i as ts
  split at h <;> try (cases h; done)
  rename_i p q t1 t2 has hts
  split at h <;> try (cases h; done)
  rename_i a b hbe ha hb
  obtain rfl := nbeq.1 hbe
  injection h with h; injection h with h1 h2; injection h2 with h2 h3; subst h1; subst h2; subst h3
  have e1 : as = #[p, q] := by apply Array.ext'; rw [has]
  have e2 : ts = #[t1, t1] := by apply Array.ext'; rw [hts]
  subst e1; subst e2
  refine ⟨_, _, hT _ _ ha, hT _ _ hb, fun w0 r w' hr => ?_⟩
  simp only [execOp, resolve, invoke, builtin, Sem.run_bind, Sem.run_pure, Result.andThen_ok, List.map_toArray, List.map_cons, List.map_nil, hr]

/-- A row grows, by cells that may be read. -/
theorem appCore (hty : Tys P ty) {e : Env} {st : St} {a : Act} {w : World} (h : Ok b N e st a w) {i : Nat} {t el : TypeId} {eb sz n m : Nat} {xs ys : List D} (hB : rowB ty t el eb sz = true) (hi : lk st.H i = some (.row el eb sz n xs)) {u : Value} (hu : e.m[i]? = some u)
    {B : Option Addr} {d : Nat} {S : Nat → Prop} {yv : List Value} (hc : Cells S w B yv) (hys : RepDs e.pub w ys yv) (hl : ys.length = m * sz) (hs : ∀ d ∈ ys, scalD d = true) (hlim : (n + m) * eb ≤ LB) (dr : Nat → Bool) (ty' : TypeId) :
    ∃ A' c' w' e', (Builtin.append_ #[t, t] ty' #[u, .slice B m d]).run P w = .ok (.slice A' (n + m) c') w' ∧ e'.m[i]? = some (.slice A' (n + m) c') ∧ KeptP e w e' w' ∧
      Ok b N e' ⟨scrubT (fun k => Nat.beq k i || dr k) st.T, (i, .row el eb sz (n + m) (xs ++ ys)) :: scrubH (fun k => Nat.beq k i || dr k) (without (fun k => Nat.beq k i || dr k) st.H), st.n⟩ a w' := by
  obtain ⟨y, ye, hy, hk, hye, hsz, heb, hzc, h0, hb0, hte⟩ := rowB_get hB
  obtain ⟨A, c, vs, hm, hrow, hxs, hlb⟩ := h.hp.ob _ _ hi
  rw [hu] at hm; injection hm with hm; subst hm
  have hlk : lk (ty.map fun p => (p.1, p.2.i)) t = some y.i := by rw [lk_map, hy]; rfl
  have hlk' : lk (ty.map fun p => (p.1, p.2.i)) el = some ye.i := by rw [lk_map, hye]; rfl
  have hel : y.i.elem = some el ∨ y.i.elem = none := by
    obtain ⟨_, dd, _, hd, _, _, _, _, _, h6, _⟩ := (hty _ _ hy).i.get
    have hu' := (hty _ _ hy).slice hk
    rw [hd] at hu'; injection hu' with hu'; subst hu'
    cases he : y.i.elem with
    | none => exact .inr rfl
    | some q => rw [he] at h6; simp only [elB] at h6; exact .inl (by rw [nbeq.1 h6])
  -- the table's entry for the slice's type, with its element told
  have hty' : TyOk P [(t, { y.i with elem := some el }), (el, ye.i)] := by
    intro q j hj
    simp only [lk] at hj
    split at hj
    · rename_i e'; obtain rfl := nbeq.1 e'
      injection hj with hj; subst hj
      have hti := (hty _ _ hy).i
      obtain ⟨x', dd, hx', hd, h1, h2, h3, h4, h5, h6, h7, h8⟩ := hti.get
      have hu' := (hty _ _ hy).slice hk
      rw [hd] at hu'; injection hu' with hu'; subst hu'
      refine ⟨?_, hti.z⟩
      unfold TI.chk
      rw [hx', hd]
      simp only [Bool.and_eq_true, nbeq, beq_iff_eq]
      exact ⟨⟨⟨⟨⟨⟨h1, h2⟩, h4⟩, h5⟩, nbeq.2 rfl⟩, h7⟩, h8⟩
    · split at hj
      · rename_i e'; obtain rfl := nbeq.1 e'
        injection hj with hj; subst hj
        exact (hty _ _ hye).i
      · cases hj
  have l1 : lk [(t, { y.i with elem := some el }), (el, ye.i)] t = some { y.i with elem := some el } := by simp [lk]
  have l2 : lk [(t, { y.i with elem := some el }), (el, ye.i)] el = some ye.i := by simp [lk, nbeq_ne.2 (Ne.symm hte)]
  have hlim' : (n + m) * ye.i.bytes ≤ 140737488355328 := by rw [heb]; exact hlim
  rw [← hsz] at hrow
  have hyl : yv.length = m * ye.i.size := by rw [hys.len, hl, hsz]
  obtain ⟨A', c', w', r1, r2, r3, r4⟩ := append_run (P := P) hty' l1 rfl l2 (by rw [hzc, hsz]) (by omega) hrow hyl hc (hys.scal hs) hlim' (by rw [heb]; exact hb0) ty'
  have hil : i < e.m.length := (List.getElem?_eq_some_iff.1 hu).1
  have hne : ∀ (j : Nat) v, j ≠ i → e.m[j]? = some v → (e.m.set i (.slice A' (n + m) c'))[j]? = some v := fun j v hj hv => by
    rw [List.getElem?_set_ne (Ne.symm hj)]; exact hv
  have hnew : (e.m.set i (.slice A' (n + m) c'))[i]? = some (.slice A' (n + m) c') := by simp [hil]
  have ho : Only (fun k => ∃ j, (Nat.beq j i || dr j) = true ∧ has st.H j ∧ foot e j k) w w' := by
    refine ⟨r3.os, r3.tape, r3.output, r3.size, fun k hk hn => r3.block k hk fun e' => hn ⟨i, by simp, by simp [has, hi], _, hu, ?_⟩⟩
    rw [footB_slice, ← e']
  have hft : ∀ k, foot ⟨e.m.set i (.slice A' (n + m) c'), e.pub⟩ i k → foot e i k ∨ w.heap.size ≤ k := by
    rintro k ⟨v, h1, h2⟩
    have h1 : (e.m.set i (.slice A' (n + m) c'))[i]? = some v := h1
    rw [hnew] at h1; injection h1 with h1; subst h1
    rw [footB_slice] at h2
    rcases r4 with r4 | r4
    · rw [r4] at h2
      exact .inl ⟨_, hu, by rw [footB_slice]; exact h2⟩
    · rw [r4] at h2; injection h2 with h2; exact .inr (Nat.le_of_eq h2)
  have hsame : Same e.pub w w' := fun k hk hl => ho.block k hl (by rintro ⟨j, _, h2, h3⟩; exact h.hp.npub j k h2 h3 hk)
  have one : ∀ q, has [(i, Ob.row el eb sz (n + m) (xs ++ ys))] q → q = i := by
    intro q hq
    unfold has at hq
    simp only [lk] at hq
    split at hq
    · rename_i e'; exact (nbeq.1 e').symm
    · cases hq
  have hmm : ∀ (j : Nat) v, e.m[j]? = some v → (∀ A n c, v = .slice A n c → (Nat.beq j i || dr j) = false) → (e.m.set i (.slice A' (n + m) c'))[j]? = some v := by
    intro j v hj hv
    rcases Decidable.em (j = i) with hji | hji
    · rw [hji, hu] at hj
      injection hj with hj
      have hfalse := hv A n c hj.symm
      rw [hji, Nat.beq_refl] at hfalse
      cases hfalse
    · exact hne j v hji hj
  have h1 := h.frame (r := fun k => Nat.beq k i || dr k) (s := fun k => Nat.beq k i || dr k) (fun _ h => h) (e' := ⟨e.m.set i (.slice A' (n + m) c'), e.pub⟩) (w' := w') (H' := [(i, .row el eb sz (n + m) (xs ++ ys))]) 0 (by simp) ho (G.dm (run_drawn r1))
    hmm (fun _ h => h) (fun _ h => .inl h)
    ⟨fun j o' hj => ?_, fun j j' k hj hj' hne _ _ => absurd ((one j hj).trans (one j' hj').symm) hne, fun j k hj hk hp => ?_, fun k hk => Nat.lt_of_lt_of_le (h.hp.pubLt k hk) r3.size⟩ (fun j k hj hk => ?_)
  · exact ⟨A', c', w', ⟨e.m.set i (.slice A' (n + m) c'), e.pub⟩, r1, hnew, ⟨fun _ h => h, hsame, r3.size⟩, h1⟩
  · obtain rfl := one j (by simp [has, hj])
    simp only [lk, Nat.beq_refl] at hj
    injection hj with hj; subst hj
    rw [hsz] at r2
    exact ⟨A', c', vs ++ yv, hnew, r2, (hxs.to hsame fun k hk _ => hk).app (hys.to hsame fun k hk _ => hk), hlim⟩
  · obtain rfl := one j hj
    rcases hft k hk with h2 | h2
    · exact h.hp.npub j k (by simp [has, hi]) h2 hp
    · have := h.hp.pubLt k hp; omega
  · obtain rfl := one j hj
    rcases hft k hk with h2 | h2
    · exact .inl ⟨j, by simp, by simp [has, hi], h2⟩
    · exact .inr h2

/-- append, to an own slice. 'dr': own objects that are looked at no more. -/
theorem appR (hty : Tys P ty) {o : Oper} {st : St} {K : SExit → St → Prop} {i : Nat} {y : SV} {t el : TypeId} {eb sz n m : Nat} {xs ys : List D} (dr : Nat → Bool) (n' : Nat) (xs' : List D) (ho : appOf st.T o.op = some (.row i, y, t)) (hi : lk st.H i = some (.row el eb sz n xs)) (hy : slOf st.H y = some (m, ys)) (hB : rowB ty t el eb sz = true)
    (hl : ys.length = m * sz) (hs : ∀ d ∈ ys, scalD d = true) (hn : n + m = n') (hx : xs ++ ys = xs') (hlim : n' * eb ≤ LB)
    (hk : match st with
      | ⟨T, H, q⟩ => scrubTK (fun k => Nat.beq k i || dr k) T fun T' => withoutK (fun k => Nat.beq k i || dr k) H fun H1 => scrubHK (fun k => Nat.beq k i || dr k) H1 fun H2 => putK N o.dst (.row i) ⟨T', (i, .row el eb sz n' xs') :: H2, q⟩ (K .normal)) : OpC P b N false o st K := by
  subst hn; subst hx
  obtain ⟨T, H, q⟩ := st
  simp only [scrubTK_eq, withoutK_eq, scrubHK_eq] at hk
  refine ⟨fun e a w hok => ?_⟩
  obtain ⟨u, v, h1, h2, h3⟩ := appOf_run (P := P) hok.tmok ho
  obtain ⟨B, d, S, yv, rfl, hc, hys⟩ := slOf_rep hok.hp hy h2
  simp only [RepSV] at h1
  obtain ⟨A, n0, c0, rfl, hm⟩ := h1
  obtain ⟨A', c', w', e', r1, r2, kpp, r3⟩ := appCore hty hok hB hi hm hc hys hl hs hlim dr o.type
  rw [h3 w _ w' r1]
  obtain ⟨st', g1, g2, _⟩ := putK_sound (v := .slice A' (n + m) c') r3 (by simp only [RepSV]; exact ⟨_, _, _, rfl, r2⟩) hk
  exact ⟨e', st', ⟨fun h => by (cases h), kpp⟩, g1, g2⟩
/-- append, to no slice: a new own slice. -/
theorem appN (hty : Tys P ty) {o : Oper} {st : St} {K : SExit → St → Prop} {y : SV} {t el : TypeId} {eb sz m : Nat} {ys : List D} (dr : Nat → Bool) (ho : appOf st.T o.op = some (.nl, y, t)) (hy : slOf st.H y = some (m, ys)) (hB : rowB ty t el eb sz = true)
    (hd : dr st.n = false) (hl : ys.length = m * sz) (hs : ∀ d ∈ ys, scalD d = true) (hlim : m * eb ≤ LB)
    (hk : match st with
      | ⟨T, H, q⟩ => scrubTK (fun k => Nat.beq k q || dr k) T fun T' => withoutK (fun k => Nat.beq k q || dr k) H fun H1 => scrubHK (fun k => Nat.beq k q || dr k) H1 fun H2 => putK N o.dst (.row q) ⟨T', (q, .row el eb sz m ys) :: H2, q + 1⟩ (K .normal)) : OpC P b N false o st K := by
  obtain ⟨T, H, q⟩ := st
  simp only [scrubTK_eq, withoutK_eq, scrubHK_eq] at hk
  refine ⟨fun e a w hok => ?_⟩
  obtain ⟨u, v, h1, h2, h3⟩ := appOf_run (P := P) hok.tmok ho
  obtain ⟨B, d, S, yv, rfl, hc, hys⟩ := slOf_rep hok.hp hy h2
  simp only [RepSV] at h1
  subst h1
  obtain ⟨e1, ok1, kw, hm, hpb⟩ := hok.addOb (w' := w) (v := .slice none 0 0) (o := .row el eb sz 0 []) (Below.refl _ _) (Nat.le_refl _) (fun k hk => by cases hk)
    (fun e' _ hm => ⟨none, 0, [], hm, RowOk.nil w el sz, by simp [RepDs], by simp⟩)
  have hys1 : RepDs e1.pub w ys yv := by rw [hpb]; exact hys
  obtain ⟨A', c', w', e', r1, r2, kpp, r3⟩ := appCore (n := 0) (xs := []) (m := m) hty ok1 hB (i := q) (by simp [lk]) hm hc hys1 hl hs (by simpa using hlim) dr o.type
  rw [Nat.zero_add] at r1 r2 r3
  rw [h3 w _ w' r1]
  have hw : without (fun k => Nat.beq k q || dr k) ((q, Ob.row el eb sz 0 []) :: H) = without (fun k => Nat.beq k q || dr k) H := by
    simp only [without, Nat.beq_refl, Bool.true_or]
  rw [hw] at r3
  obtain ⟨st', g1, g2, _⟩ := putK_sound (v := .slice A' m c') r3 (by simp only [RepSV]; exact ⟨_, _, _, rfl, r2⟩) hk
  exact ⟨e', st', ⟨fun h => by (cases h), kw.p.trans kpp⟩, g1, g2⟩

/-- make: an own slice of zeros. -/
theorem makC (hty : Tys P ty) {kp : Bool} {o : Oper} {st : St} {K : SExit → St → Prop} {t el : TypeId} {eb sz : Nat} {l c : Operand} {kl kc : IntKind} {i j : Int} (n : Nat) (xs : List D) (z : List D) (ho : o.op = .makeSlice t l c) (hl : ev st.T l = some (.d (.int kl i))) (hc : ev st.T c = some (.d (.int kc j)))
    (hB : rowB ty t el eb sz = true) (hz : (match lk ty el with | some ye => zdL ye.i.z.cells.toList | none => []) = z) (hi : i = n) (hj : j = n) (hx : rep z n = xs) (hlim : n * eb ≤ LB)
    (hk : match st with
      | ⟨T, H, q⟩ => putK N o.dst (.row q) ⟨T, (q, .row el eb sz n xs) :: H, q + 1⟩ (K .normal)) : OpC P b N kp o st K := by
  subst hi; subst hj; subst hx
  obtain ⟨T, H, q⟩ := st
  simp only at hk
  obtain ⟨y, ye, hy, hkd, hye, hsz, heb, hzc, h0, hb0, hte⟩ := rowB_get hB
  rw [hye] at hz
  simp only at hz
  refine ⟨fun e a w hok => ?_⟩
  have h1 := hok.tmok _ _ hl
  have h2 := hok.tmok _ _ hc
  simp only [RepSV, RepD] at h1 h2
  have hu := (hty _ _ hy).slice hkd
  obtain ⟨y', dd', hy', hd', g1, g2, g3, g4, g5, g6, g7, g8⟩ := (hty _ _ hye).i.get
  have hbn : ye.i.bytes * n ≤ 140737488355328 := by rw [heb, Nat.mul_comm]; exact hlim
  have hmx : n ≤ maxLen := by
    have : n ≤ n * eb := Nat.le_mul_of_pos_right _ hb0
    have : n * eb ≤ 140737488355328 := hlim
    simp only [maxLen]; omega
  obtain ⟨w', k1, ⟨q1, ⟨hv, hn⟩ | ⟨g, cap, cur, hv, _, q2, q3, q4, q5, q6⟩⟩, k3⟩ := run_make_full (P := P) (w := w) 0 t el y' ye.i.z ye.i.size hu hy' g3 g1 kl kc n (by rw [g2]; omega) hmx (Nat.zero_le _)
  · cases hv
  have hb : Below w.heap.size w w' := ⟨k3.os, k3.tape, k3.output, k3.size, fun k hk => k3.block k hk (fun h => by cases h)⟩
  have hml : (madeCells ye.i.z.cells (n * ye.i.size)).toList = repV ye.i.z.cells.toList n := by
    have := zero_repV (z := ye.i.z.cells) (n := n) (sz := ye.i.size) (by rw [hzc, hsz]) (by omega)
    unfold madeCells
    rw [this]
  have hrow : RowOk w' ⟨.slice (some ⟨w.heap.size, 0, none⟩) n n, el, sz, repV ye.i.z.cells.toList n⟩ := by
    rw [← hml, ← hsz]
    exact ⟨n, q1, .inr ⟨g, 0, cap, cur, hv, q2, q3, q4, by rw [q5]; simp, q6⟩⟩
  obtain ⟨e', ok1, kw, hm, _⟩ := hok.addOb (v := .slice (some ⟨w.heap.size, 0, none⟩) n n) (o := .row el eb sz n (rep z n)) hb (run_drawn k1) (fun k hk => by injection hk with hk; subst hk; exact Nat.le_refl _)
    (fun e' kw hm => ⟨_, _, _, hm, hrow, by rw [← hz]; exact rep_rep (zdL_rep _ _ _) n, hlim⟩)
  obtain ⟨st', r1, r2, _⟩ := putK_sound (v := .slice (some ⟨w.heap.size, 0, none⟩) n n) ok1 (by simp only [RepSV]; exact ⟨_, _, _, rfl, hm⟩) hk
  have hrun : (execOp a.eval o).run P w = .ok (.value (.slice (some ⟨w.heap.size, 0, none⟩) n n)) w' := by
    obtain ⟨dst, op, type, pos, after, guard⟩ := o
    simp only at ho
    subst ho
    simp only [execOp]
    refine run_val ?_
    rw [h1, h2]; exact k1
  rw [hrun]
  exact ⟨e', st', .of ⟨kw, Agr.below hok.hp hb⟩, r1, r2⟩
end
end Go.Vx
