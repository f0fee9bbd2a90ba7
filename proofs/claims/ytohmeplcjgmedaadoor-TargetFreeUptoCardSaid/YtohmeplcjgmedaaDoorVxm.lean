/- Calls: contracts, and how they come out of conditions. -/
import Derived.Test.YtohmeplcjgmedaaDoorVxl
namespace Go.Vx
open Go.RowKit Go.Vc

inductive Out where
  | ret (x : SV) | pan (x : SV)
def OutOk (e : Env) (w : World) : Out → Ending → Prop
  | .ret x, en => ∃ v, en = .returned v ∧ RepSV e w x v
  | .pan x, en => ∃ v, en = .panicked [{ v, recovered := false }] ∧ RepSV e w x v
def feet (e : Env) (H : Hp) (k : Nat) : Prop := ∃ i, has H i ∧ foot e i k

mutual
/-- Other numbers for the own objects. -/
def rn (f : Nat → Nat) : SV → SV
  | .own i o => .own (f i) o
  | .row i => .row (f i)
  | .rowp i o => .rowp (f i) o
  | .nm i => .nm (f i)
  | .agg l => .agg (rns f l)
  | .tup l => .tup (rns f l)
  | .fn g a b => .fn g (rns f a) (rns f b)
  | .ifc t x => .ifc t (rn f x)
  | .d x => .d x
  | .kb b => .kb b
  | .nl => .nl
  | .any => .any
def rns (f : Nat → Nat) : List SV → List SV
  | [] => []
  | x :: r => rn f x :: rns f r
end
mutual
theorem rn_rep {f : Nat → Nat} {e e' : Env} {w : World} (hp : e'.pub = e.pub) (hm : ∀ (i : Nat) v, e.m[i]? = some v → e'.m[f i]? = some v) : ∀ {x : SV} {v : Value}, RepSV e w x v → RepSV e' w (rn f x) v
  | .d x, v, hx => by simp only [rn, RepSV] at hx ⊢; rw [hp]; exact hx
  | .kb b, v, hx => by simpa only [rn, RepSV] using hx
  | .nm i, v, hx => by
    simp only [rn, RepSV] at hx ⊢
    obtain ⟨g, h1, h2⟩ := hx
    exact ⟨g, h1, hm _ _ h2⟩
  | .nl, v, hx => by simpa only [rn, RepSV] using hx
  | .any, v, hx => by simp only [rn, RepSV]
  | .own i off, v, hx => by
    simp only [rn, RepSV] at hx ⊢
    obtain ⟨g, h1, h2⟩ := hx
    exact ⟨g, hm _ _ h1, h2⟩
  | .row i, v, hx => by
    simp only [rn, RepSV] at hx ⊢
    obtain ⟨A, n, c, h1, h2⟩ := hx
    exact ⟨A, n, c, h1, hm _ _ h2⟩
  | .rowp i off, v, hx => by
    simp only [rn, RepSV] at hx ⊢
    obtain ⟨ad, n, c, h1, h2⟩ := hx
    exact ⟨ad, n, c, hm _ _ h1, h2⟩
  | .agg l, v, hx => by
    simp only [rn, RepSV] at hx ⊢
    obtain ⟨l', e1, h1⟩ := hx
    exact ⟨l', e1, rns_rep hp hm h1⟩
  | .tup l, v, hx => by
    simp only [rn, RepSV] at hx ⊢
    obtain ⟨l', e1, h1⟩ := hx
    exact ⟨l', e1, rns_rep hp hm h1⟩
  | .fn g a b, v, hx => by
    simp only [rn, RepSV] at hx ⊢
    obtain ⟨a', b', e1, h1, h2⟩ := hx
    exact ⟨a', b', e1, rns_rep hp hm h1, rns_rep hp hm h2⟩
  | .ifc t x, v, hx => by
    simp only [rn, RepSV] at hx ⊢
    obtain ⟨y, e1, h1⟩ := hx
    exact ⟨y, e1, rn_rep hp hm h1⟩
theorem rns_rep {f : Nat → Nat} {e e' : Env} {w : World} (hp : e'.pub = e.pub) (hm : ∀ (i : Nat) v, e.m[i]? = some v → e'.m[f i]? = some v) : ∀ {l : List SV} {v : List Value}, RepSVs e w l v → RepSVs e' w (rns f l) v
  | [], v, hx => by simpa only [rns, RepSVs] using hx
  | x :: r, v, hx => by
    simp only [rns, RepSVs] at hx ⊢
    obtain ⟨u, s, e1, h1, h2⟩ := hx
    exact ⟨u, s, e1, rn_rep hp hm h1, rns_rep hp hm h2⟩
end
def rnO (f : Nat → Nat) : Ob → Ob
  | .blk t cs => .blk t (rns f cs)
  | .row t eb sz n xs => .row t eb sz n xs
  | .ab φ => .ab φ

/-- What a call leaves: 'q' objects more. -/
structure Left (G : Glob) (q : Nat) (e : Env) (w : World) (H : Hp) (e' : Env) (w' : World) (H' : Hp) : Prop where
  hp : HpOk e' w' H'
  len : e'.m.length = e.m.length + q
  only : Only (feet e H) w w'
  dr : G.d w w'
  m : ∀ (i : Nat) v, e.m[i]? = some v → (∀ A n c, v ≠ .slice A n c) → e'.m[i]? = some v
  up : ∀ k, e.pub k → e'.pub k
  frm : ∀ k, e'.pub k → e.pub k ∨ feet e H k ∨ w.heap.size ≤ k
  dom : ∀ i, has H' i → i < e.m.length + q
  ft : ∀ i k, has H' i → foot e' i k → feet e H k ∨ w.heap.size ≤ k

/-- A contract: handed n own objects H and arguments, the call comes to an outcome, and leaves H' of the objects, q new ones among them. -/
def Tri (P : Program) (G : Glob) (f : FuncId) (n q : Nat) (args : List SV) (H : Hp) (Q : Out → Hp → Prop) : Prop :=
  ∀ (e : Env) (w : World) (vs : List Value), e.m.length = n → RepSVs e w args vs → HpOk e w H → G.p e.pub w →
    Calls P f vs.toArray w fun en w' => ∃ o H' e', Q o H' ∧ OutOk e' w' o en ∧ Left G q e w H e' w' H'

section
variable {P : Program} {ty : List (Nat × TY)} {N : Nat} {plans : List (Nat × Pl)}

def resL (ty : List (Nat × TY)) (T : Tl) (H : Hp) : List ResultVar → Option (List SV)
  | [] => some []
  | .tmp t :: r => match lk T t, resL ty T H r with
    | some x, some l => some (x :: l)
    | _, _ => none
  | .cell a t :: r => match lk T a with
    | some (.own _ _) => match pOp ty T H (.load t (.tmp a)), resL ty T H r with
      | some x, some l => some (x :: l)
      | _, _ => none
    | _ => none
/-- Places in a list of numbers. -/
def posN (i : Nat) : List Nat → Option Nat
  | [] => none
  | k :: r => match Nat.beq k i with
    | true => some 0
    | false => match posN i r with
      | some p => some (p + 1)
      | none => none
/-- Own objects that are no longer told of where a call ends: new ones, but for those kept. -/
def goneB (n : Nat) (kp : List Nat) (i : Nat) : Bool :=
  match Nat.blt i n with
  | true => false
  | false => match posN i kp with
    | some _ => false
    | none => true
/-- Their numbers for the caller. -/
def renN (n : Nat) (kp : List Nat) (i : Nat) : Nat :=
  match Nat.blt i n with
  | true => i
  | false => match posN i kp with
    | some p => n + p
    | none => i
/-- What is left of the own objects. -/
def frzO (p : Nat → Bool) (H0 : Hp) (f : Nat → Nat) : Ob → Option Ob
  | .blk t cs => match mapO (frz p f H0 20) cs with
    | some cs' => some (.blk t cs')
    | none => none
  | .row t eb sz m xs => some (.row t eb sz m xs)
  | .ab φ => some (.ab φ)
/-- The numbers n, n + 1, ... -/
def upN : Nat → Nat → List Nat
  | _, 0 => []
  | n, q + 1 => n :: upN (n + 1) q
def leftK (n : Nat) (kp : List Nat) (H0 : Hp) : List Nat → (Hp → Prop) → Prop
  | [], K => K []
  | i :: r, K => match goneB n kp i with
    | false => match lk H0 i with
      | some o => match frzO (goneB n kp) H0 (renN n kp) o with
        | some (.blk t cs) => nrmL cs fun cs => leftK n kp H0 r fun l => K ((renN n kp i, .blk t cs) :: l)
        | some (.row t eb sz m xs) => leftK n kp H0 r fun l => K ((renN n kp i, .row t eb sz m xs) :: l)
        | some (.ab φ) => leftK n kp H0 r fun l => K ((renN n kp i, .ab φ) :: l)
        | none => leftK n kp H0 r K
      | none => leftK n kp H0 r K
    | true => leftK n kp H0 r K
def one : List SV → SV
  | [x] => x
  | l => .tup l
/-- What is asked where a function ends. -/
def endK (ty : List (Nat × TY)) (n : Nat) (kp : List Nat) (rs : List ResultVar) (Q : Out → Hp → Prop) (st : St) : Prop :=
  match resL ty st.T st.H rs with
  | some l => match frz (goneB n kp) (renN n kp) st.H 20 (one l) with
    | some x => leftK n kp st.H (upN 0 n ++ kp) fun H' => Q (.ret x) H'
    | none => False
  | none => False
def retK (ty : List (Nat × TY)) (n : Nat) (kp : List Nat) (rs : List ResultVar) (Q : Out → Hp → Prop) : SExit → St → Prop
  | .normal, st => endK ty n kp rs Q st
  | .ret, st => endK ty n kp rs Q st
  | .pan x, st => match frz (goneB n kp) (renN n kp) st.H 20 x with
    | some x => leftK n kp st.H (upN 0 n ++ kp) fun H' => Q (.pan x) H'
    | none => False
  | _, _ => False

theorem resL_sound (hty : Tys P ty) {G : Glob} {n0 : Nat} {b : Bs G n0} {e : Env} {st : St} {a : Act} {w : World} (h : Ok b N e st a w) : ∀ (rs : List ResultVar) (l : List SV), resL ty st.T st.H rs = some l →
    ∃ vs, (rs.mapM (resR a.tmps)).run P w = .ok vs w ∧ RepSVs e w l vs
  | [], l, hl => by simp [resL] at hl; subst hl; exact ⟨[], by simp [go_sem], by simp [RepSVs]⟩
  | .tmp t :: r, l, hl => by
    simp only [resL] at hl
    split at hl <;> try (cases hl; done)
    rename_i x l' hx hl'
    injection hl with hl; subst hl
    obtain ⟨vs, h1, h2⟩ := resL_sound hty h r l' hl'
    refine ⟨_ :: vs, ?_, by simp only [RepSVs]; exact ⟨_, _, rfl, h.tm t x hx, h2⟩⟩
    rw [List.mapM_cons, resR_tmp]
    simp only [Sem.run_bind, Sem.run_pure, Result.andThen_ok, h1]
  | .cell ad t :: r, l, hl => by
    simp only [resL] at hl
    split at hl <;> try (cases hl; done)
    rename_i i off hi
    split at hl <;> try (cases hl; done)
    rename_i x l' hx hl'
    injection hl with hl; subst hl
    obtain ⟨vs, h1, h2⟩ := resL_sound hty h r l' hl'
    obtain ⟨v, q1, q2⟩ := pOp_sound hty h.tmok h.hp.ob (o := { dst := none, op := .load t (.tmp ad), type := 0, pos := "", after := #[], guard := none }) hx
    have hp := q2 w fun _ => Agr.refl _ _ _
    have ha := h.tm ad _ hi
    simp only [RepSV] at ha
    obtain ⟨g, _, ha⟩ := ha
    refine ⟨v :: vs, ?_, by simp only [RepSVs]; exact ⟨_, _, rfl, q1, h2⟩⟩
    rw [List.mapM_cons, resR_cell]
    have he : (a.eval (.tmp ad)) = .pointer (some ⟨g, off, none⟩) := ha
    simp only [execOp, Instr.loadAt, he, Instr.sureAddr, Sem.run_bind, Sem.run_pure, Result.andThen_ok] at hp
    have hp2 : (loadVar t ⟨g, off, none⟩).run P w = .ok v w := by
      generalize (loadVar t ⟨g, off, none⟩).run P w = q at hp
      cases q with
      | ok v w' => simp [Result.andThen] at hp; obtain ⟨h1, h2⟩ := hp; rw [h1, h2]
      | halt _ _ => simp [Result.andThen] at hp
    simp only [ha, asAddr, Sem.run_bind, Sem.run_pure, Result.andThen_ok, hp2, h1]

theorem leftK_get {n : Nat} {kp : List Nat} {H0 : Hp} : ∀ (H : List Nat) (K : Hp → Prop), leftK n kp H0 H K → ∃ H', K H' ∧ ∀ i o, lk H' i = some o → ∃ i0, goneB n kp i0 = false ∧ i = renN n kp i0 ∧ ∃ o0, lk H0 i0 = some o0 ∧ frzO (goneB n kp) H0 (renN n kp) o0 = some o
  | [], K, h => ⟨[], h, fun i o ho => by simp [lk] at ho⟩
  | i :: r, K, h => by
    simp only [leftK] at h
    split at h
    · rename_i hi
      split at h
      · rename_i o ho
        have step : ∀ o', frzO (goneB n kp) H0 (renN n kp) o = some o' → leftK n kp H0 r (fun l => K ((renN n kp i, o') :: l)) → ∃ H', K H' ∧ ∀ i o, lk H' i = some o → ∃ i0, goneB n kp i0 = false ∧ i = renN n kp i0 ∧ ∃ o0, lk H0 i0 = some o0 ∧ frzO (goneB n kp) H0 (renN n kp) o0 = some o := by
          intro o' ho' h
          obtain ⟨H', h1, h2⟩ := leftK_get r _ h
          refine ⟨_, h1, fun j q hq => ?_⟩
          simp only [lk] at hq
          split at hq
          · rename_i e
            injection hq with hq; subst hq
            exact ⟨i, hi, (nbeq.1 e).symm, o, ho, ho'⟩
          · exact h2 j q hq
        split at h
        · rename_i t cs hf
          rw [nrmL_eq] at h
          exact step _ hf h
        · rename_i t eb sz m xs hf
          exact step _ hf h
        · rename_i φ hf
          exact step _ hf h
        · exact leftK_get r K h
      · exact leftK_get r K h
    · exact leftK_get r K h

theorem posN_get : ∀ {l : List Nat} {i p : Nat}, posN i l = some p → l[p]? = some i
  | [], i, p, h => by simp [posN] at h
  | k :: r, i, p, h => by
    simp only [posN] at h
    split at h
    · rename_i e; injection h with h; subst h; rw [← nbeq.1 e]; rfl
    · split at h
      · rename_i q hq
        injection h with h; subst h
        simpa using posN_get hq
      · cases h
/-- The new numbers are other ones for other objects. -/
theorem renN_inj {n : Nat} {kp : List Nat} {i j : Nat} (hi : goneB n kp i = false) (hj : goneB n kp j = false) (h : renN n kp i = renN n kp j) : i = j := by
  have key : ∀ k, goneB n kp k = false → (k < n ∧ renN n kp k = k) ∨ (∃ p, kp[p]? = some k ∧ renN n kp k = n + p) := by
    intro k hk
    unfold goneB at hk
    unfold renN
    cases hb : Nat.blt k n with
    | true => exact .inl ⟨by simpa using hb, rfl⟩
    | false =>
      rw [hb] at hk
      simp only at hk ⊢
      cases hp : posN k kp with
      | none => rw [hp] at hk; cases hk
      | some p => exact .inr ⟨p, posN_get hp, rfl⟩
  rcases key i hi with ⟨h1, h2⟩ | ⟨p, h1, h2⟩ <;> rcases key j hj with ⟨h3, h4⟩ | ⟨q, h3, h4⟩
  · omega
  · omega
  · omega
  · have : p = q := by omega
    subst this
    rw [h1] at h3; injection h3
theorem blt_true {i n : Nat} (h : i < n) : Nat.blt i n = true := by rw [Nat.blt_eq]; exact h
theorem goneB_lt {n : Nat} {kp : List Nat} {i : Nat} (h : i < n) : goneB n kp i = false := by
  unfold goneB
  rw [blt_true h]
/-- Behind a call: the own objects from number n on are written no more, but for those kept. -/
theorem left_of {G : Glob} {n0 : Nat} {b : Bs G n0} {e0 e : Env} {w0 w : World} {H0 H' : Hp} {st : St} {a : Act} {n : Nat} {kp : List Nat} (h : Ok b N e st a w) (hn0 : e0.m.length = n0) (hb : b = ⟨w0, e0.pub, feet e0 H0, e0.m, hn0⟩) (hn : e0.m.length = n) (hH : ∀ i o, lk H' i = some o → ∃ i0, goneB n kp i0 = false ∧ i = renN n kp i0 ∧ ∃ o0, lk st.H i0 = some o0 ∧ frzO (goneB n kp) st.H (renN n kp) o0 = some o) :
    ∃ e', (∀ x y v, frz (goneB n kp) (renN n kp) st.H 20 x = some y → RepSV e w x v → RepSV e' w y v) ∧ Left G kp.length e0 w0 H0 e' w H' := by
  subst hb
  have hle : n ≤ e.m.length := by have := h.pre.le; simp only at this; omega
  have hmm : ∀ (i : Nat) v, e.m[i]? = some v → goneB n kp i = false → (e.m.take n ++ kp.map (fun i => e.m.getD i undef))[renN n kp i]? = some v := by
    intro i v hv hg
    unfold goneB at hg
    unfold renN
    cases hb : Nat.blt i n with
    | true =>
      have hi : i < n := by simpa using hb
      rw [List.getElem?_append_left (by simp; omega)]
      exact take_get hv hi
    | false =>
      rw [hb] at hg
      simp only at hg ⊢
      cases hp : posN i kp with
      | none => rw [hp] at hg; cases hg
      | some p =>
        have hk := posN_get hp
        rw [List.getElem?_append_right (by simp; omega)]
        simp only [List.length_take, Nat.min_eq_left hle, Nat.add_sub_cancel_left, List.getElem?_map, hk, Option.map_some, List.getD_eq_getElem?_getD, hv, Option.getD_some]
  have back : ∀ (i0 : Nat) u, goneB n kp i0 = false → (∃ v, e.m[i0]? = some v) → (e.m.take n ++ kp.map (fun i => e.m.getD i undef))[renN n kp i0]? = some u → e.m[i0]? = some u := by
    rintro i0 u hg ⟨v, hv⟩ hu
    rw [hmm i0 v hv hg] at hu
    injection hu with hu; rw [hv, hu]
  have hob : ∀ i0, has st.H i0 → ∃ v, e.m[i0]? = some v := by
    intro i0 hi
    obtain ⟨o, ho⟩ := Option.isSome_iff_exists.1 hi
    have := h.hp.ob i0 o ho
    cases o with
    | blk t cs => obtain ⟨g, vs, h1, _⟩ := this; exact ⟨_, h1⟩
    | row t eb sz n xs => obtain ⟨A, c, vs, h1, _⟩ := this; exact ⟨_, h1⟩
    | ab φ => obtain ⟨v', g, o, h1, _⟩ := this; exact ⟨_, h1⟩
  have hd : ∀ i, has H' i → ∃ i0, goneB n kp i0 = false ∧ i = renN n kp i0 ∧ has st.H i0 := by
    intro i hi
    obtain ⟨o, ho⟩ := Option.isSome_iff_exists.1 hi
    obtain ⟨i0, h1, h2, o0, h3, _⟩ := hH i o ho
    exact ⟨i0, h1, h2, by simp [has, h3]⟩
  have ft : ∀ i0 k, goneB n kp i0 = false → has st.H i0 → foot ⟨e.m.take n ++ kp.map (fun i => e.m.getD i undef), pubN e st.H (goneB n kp)⟩ (renN n kp i0) k → foot e i0 k := by
    rintro i0 k hg hi ⟨v, h1, h2⟩
    exact ⟨v, back i0 v hg (hob i0 hi) h1, h2⟩
  have hup : ∀ {x : List D} {v : List Value}, RepDs e.pub w x v → RepDs (pubN e st.H (goneB n kp)) w x v := fun h => h.to (Same.rfl' _ _) fun k hk _ => .inl hk
  refine ⟨⟨e.m.take n ++ kp.map (fun i => e.m.getD i undef), pubN e st.H (goneB n kp)⟩, fun x y v => frz_rep h.hp hmm 20 x y v, ⟨fun i o ho => ?_, fun i j k hi hj hne h1 h2 => ?_, fun i k hi h1 h2 => ?_, fun k hk => ?_⟩, by simp; omega, h.below, h.dr, fun i v hi hv => ?_, fun k hk => .inl (h.pre.up k hk), fun k hk => ?_, fun i hi => ?_, fun i k hi h1 => ?_⟩
  · obtain ⟨i0, h1, rfl, o0, h2, h3⟩ := hH i o ho
    have := h.hp.ob i0 o0 h2
    cases o0 with
    | blk t cs =>
      obtain ⟨g, vs, q1, q2, q3⟩ := this
      simp only [frzO] at h3
      split at h3 <;> try (cases h3; done)
      rename_i cs' hcs
      injection h3 with h3; subst h3
      exact ⟨g, vs, hmm _ _ q1 h1, q2, mapO_rep (fun x y v => frz_rep h.hp hmm 20 x y v) hcs q3⟩
    | row t eb sz m xs =>
      obtain ⟨A, c, vs, q1, q2, q3, q4⟩ := this
      simp only [frzO, Option.some.injEq] at h3; subst h3
      exact ⟨A, c, vs, hmm _ _ q1 h1, q2, hup q3, q4⟩
    | ab φ =>
      obtain ⟨v', g, o', q1, q2, q3, q4, q5⟩ := this
      simp only [frzO, Option.some.injEq] at h3; subst h3
      exact ⟨v', g, o', hmm _ _ q1 h1, q2, q3, q4, q5⟩
  · obtain ⟨i0, hi1, rfl, hi2⟩ := hd i hi
    obtain ⟨j0, hj1, rfl, hj2⟩ := hd j hj
    exact h.hp.sep i0 j0 k hi2 hj2 (by rintro rfl; exact hne rfl) (ft i0 k hi1 hi2 h1) (ft j0 k hj1 hj2 h2)
  · obtain ⟨i0, hi1, rfl, hi2⟩ := hd i hi
    have h1' := ft i0 k hi1 hi2 h1
    rcases h2 with h2 | ⟨j, h3, h4, h5⟩
    · exact h.hp.npub i0 k hi2 h1' h2
    · exact h.hp.sep i0 j k hi2 h4 (by rintro rfl; rw [hi1] at h3; cases h3) h1' h5
  · rcases hk with hk | ⟨j, h3, h4, h5⟩
    · exact h.hp.pubLt k hk
    · exact h.hp.lt h4 h5
  · have hlt : i < n := by have := (List.getElem?_eq_some_iff.1 hi).1; omega
    have := hmm i v (h.pre.m i v hi hv) (goneB_lt hlt)
    have e1 : renN n kp i = i := by unfold renN; rw [blt_true hlt]
    rwa [e1] at this
  · rcases hk with hk | ⟨j, h3, h4, h5⟩
    · exact (h.frm k hk).imp id fun h' => h'
    · exact .inr (h.mine j k h4 h5)
  · obtain ⟨i0, hi1, rfl, hi2⟩ := hd i hi
    obtain ⟨v, hv⟩ := hob i0 hi2
    have := (List.getElem?_eq_some_iff.1 (hmm i0 v hv hi1)).1
    simp at this; omega
  · obtain ⟨i0, hi1, rfl, hi2⟩ := hd i hi
    exact h.mine i0 k hi2 (ft i0 k hi1 hi2 h1)

def numbS' : Nat → List SV → Tl
  | _, [] => []
  | n, v :: r => (n, v) :: numbS' (n + 1) r
theorem numbS_getS : ∀ (l : List SV) (n t : Nat) (sv : SV), lk (numbS' n l) t = some sv → n ≤ t ∧ l[t - n]? = some sv
  | [], n, t, sv, h => by simp [numbS', lk] at h
  | v :: r, n, t, sv, h => by
    simp only [numbS', lk] at h
    split at h
    · rename_i e
      obtain rfl := nbeq.1 e
      injection h with h; subst h
      exact ⟨Nat.le_refl _, by simp⟩
    · obtain ⟨h1, h2⟩ := numbS_getS r (n + 1) t sv h
      refine ⟨by omega, ?_⟩
      rw [show t - n = (t - (n + 1)) + 1 from by omega]
      simpa using h2

/-- A contract, out of its condition. -/
theorem tri_of_vc (hty : Tys P ty) (hm : P.follows .mixedOrders = true) {f : FuncId} {fn : Func} {c : Code} {n : Nat} {args : List SV} {H : Hp} {Q : Out → Hp → Prop}
    {G : Glob} (kp : List Nat) (plans : List (Nat × Pl)) (hf : P.funcs[f]? = some fn) (hb : fn.body = some c) (hn : fn.ntmps = N) (ha : args.length ≤ N)
    (h : ∀ b : Bs G n, vcCode P ty b N plans c ⟨numbS' 0 args, H, n⟩ (retK ty n kp fn.results.toList Q)) : Tri P G f n kp.length args H Q := by
  intro e w vs hlen hargs hH hG
  have hal := hargs.len
  let b : Bs G n := ⟨w, e.pub, feet e H, e.m, hlen⟩
  have ok0 : Ok b N e ⟨numbS' 0 args, H, n⟩ { tmps := vs.toArray ++ Array.replicate (fn.ntmps - vs.toArray.size) undef, defers := [] } w := by
    refine ⟨by simp; omega, rfl, hlen, ?_, hH, Only.refl _ _, G.dm (Nat.le_refl _), fun i k hi hk => .inl ⟨i, hi, hk⟩, fun k hk => .inl hk, ⟨fun i v h _ => h, Nat.le_refl _, fun k hk => hk⟩, hG⟩
    intro t sv ht
    obtain ⟨_, hv⟩ := numbS_getS args 0 t sv ht
    simp only [Nat.sub_zero] at hv
    obtain ⟨v, hv1, hv2⟩ := hargs.get hv
    have hlt : t < vs.length := (List.getElem?_eq_some_iff.1 hv1).1
    simp only [Array.getD_eq_getD_getElem?]
    rw [Array.getElem?_append_left (by simpa using hlt), List.getElem?_toArray, hv1]
    exact hv2
  refine calls_of_wp hf hb (wp_mono (vcCode_sound hty hm c e _ _ _ _ ok0 (h b)) ?_)
  have fin : ∀ (e' : Env) (st : St) (a : Act) (w' : World), Ok b N e' st a w' → endK ty n kp fn.results.toList Q st → a.defers = [] ∧ ∃ v, (results fn a.tmps).run P w' = .ok v w' ∧ ∃ o H' e'', Q o H' ∧ OutOk e'' w' o (.returned v) ∧ Left G kp.length e w H e'' w' H' := by
    intro e' st a w' hok hk
    refine ⟨hok.df, ?_⟩
    unfold endK at hk
    split at hk <;> try (exact hk.elim)
    rename_i l hl
    split at hk <;> try (exact hk.elim)
    rename_i x hx
    obtain ⟨vs', r1, r2⟩ := resL_sound hty hok _ _ hl
    obtain ⟨H', q1, q2⟩ := leftK_get _ _ hk
    have hone : RepSV e' w' (one l) (match vs' with | [v] => v | l => .tuple l.toArray) := by
      have := r2.len
      match l, vs', r2 with
      | [], [], _ => simp only [one, RepSV]; exact ⟨_, rfl, by simp [RepSVs]⟩
      | [x], [v], r2 =>
        simp only [RepSVs] at r2
        obtain ⟨v', s, e1, h1, h2⟩ := r2
        injection e1 with e1 e2; subst e1
        exact h1
      | x :: y :: r, v :: u :: s, r2 => simp only [one, RepSV]; exact ⟨_, rfl, r2⟩
      | [], _ :: _, r2 => simp [RepSVs] at r2
      | [_], [], r2 => simp at this
      | [_], _ :: _ :: _, r2 => simp at this
      | _ :: _ :: _, [], r2 => simp at this
      | _ :: _ :: _, [_], r2 => simp at this
    obtain ⟨e2, f1, f2⟩ := left_of hok hlen rfl hlen q2
    refine ⟨_, ?_, .ret x, H', e2, q1, ⟨_, rfl, f1 _ _ _ hx hone⟩, f2⟩
    unfold results
    rw [Array.mapM_eq_mapM_toList, map_eq_pure_bind]
    simp only [Sem.run_bind]
    have this' : ∀ g : ResultVar → Sem Value, g = resR a.tmps → (fn.results.toList.mapM g).run P w' = .ok vs' w' := fun g hg => by rw [hg]; exact r1
    rw [this' _ (by funext x; cases x <;> rfl)]
    simp only [Result.andThen_ok, Sem.run_pure]
    match vs' with
    | [] => simp
    | [x] => simp
    | x :: y :: r => simp
  intro ex a w' hq
  cases ex with
  | normal => obtain ⟨e', st, h1, h2⟩ := hq; exact fin e' st a w' h1 h2
  | ret => obtain ⟨e', st, h1, h2⟩ := hq; exact fin e' st a w' h1 h2
  | exit id => obtain ⟨e', st, h1, h2⟩ := hq; exact h2.elim
  | goto l => obtain ⟨e', st, h1, h2⟩ := hq; exact h2.elim
  | panic c =>
    obtain ⟨e', st, x, v, h1, h2, h3, h4⟩ := hq
    subst h1
    simp only [retK] at h4
    split at h4 <;> try (exact h4.elim)
    rename_i x' hx'
    obtain ⟨H', q1, q2⟩ := leftK_get _ _ h4
    obtain ⟨e2, f1, f2⟩ := left_of h3 hlen rfl hlen q2
    exact ⟨h3.df, .pan x', H', e2, q1, ⟨v, rfl, f1 _ _ _ hx' h2⟩, f2⟩
  | outgrown => exact hq.elim
end
end Go.Vx
