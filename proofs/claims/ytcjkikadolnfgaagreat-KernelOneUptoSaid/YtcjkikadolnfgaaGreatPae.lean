/- Texts of mine, joined: Vxf Vxg Vxh Vxi Vxj. -/
import Derived.Test.YtcjkikadolnfgaaGreatPad
import Derived.OrdersHeld
import Derived.Scope
/- What single operations ask for, where more must be known. -/
namespace Go.Vx
open Go.RowKit Go.Vc
inductive IdxC (n sz : Nat) (cs : List D) (j : Int) (K : SV → Prop) : Prop
  | mk (i : Nat) (hj : j = (i : Int)) (hi : i < n) (l : List D) (hl : (cs.drop (i * sz)).take sz = l) (hk : K (.d (.ptr l 0)))
inductive IdxR (n sz r : Nat) (j : Int) (K : SV → Prop) : Prop
  | mk (i : Nat) (hj : j = (i : Int)) (hi : i < n) (hk : K (.rowp r (i * sz)))
def pStop (ty : List (Nat × TY)) (T : Tl) (H : Hp) : Op → Option ((SV → Prop) → Prop)
  | .indexAddr t x ix => match lk ty t with
    | some y => match y.kd with
      | .slice e => match lk ty e with
        | some ey => match ev T x, ev T ix with
          | some (.d (.sl _ n cs)), some (.d (.int _ j)) => some (IdxC n ey.i.size cs j)
          | some (.row r), some (.d (.int _ j)) => match lk H r with
            | some (.row _ _ _ n _) => some (IdxR n ey.i.size r j)
            | _ => none
          | _, _ => none
        | none => none
      | _ => none
    | none => none
  | .pick c x y => match ev T c, ev T x, ev T y with
    | some (.kb b), some p, some q => match b with
      | true => some fun K => K p
      | false => some fun K => K q
    | some (.d (.bool b)), some p, some q => some fun K => (b = true → K p) ∧ (b = false → K q)
    | _, _, _ => none
  | .index t x ix => match lk ty t with
    | some y => match y.kd with
      | .str => match ev T x, ev T ix with
        | some (.d (.str s)), some (.d (.int _ j)) => some fun K => ∃ b, 0 ≤ j ∧ s[j.toNat]? = some b ∧ K (.d (.int .u8 b.toNat))
        | _, _ => none
      | _ => none
    | none => none
  | .binOp op t x y _ => match lk ty t with
    | some z => match z.kd with
      | .str => match op with
        | .add => match ev T x, ev T y with
          | some (.d (.str a)), some (.d (.str b)) => some fun K => a.size + b.size ≤ 9223372036854775807 ∧ K (.d (.str (a ++ b)))
          | _, _ => none
        | _ => none
      | .slice _ => match op, ev T x, ev T y with
        | .eql, some (.d (.sl _ n _)), some .nl => some fun K => ∀ c : Bool, (c = true → n = 0) → K (.d (.bool c))
        | .neq, some (.d (.sl _ n _)), some .nl => some fun K => ∀ c : Bool, (c = false → n = 0) → K (.d (.bool c))
        | _, _, _ => none
      | .int _ => match ev T x, ev T y with
        | some (.d (.int k a)), some (.d (.int k' b)) => match sameK k k' with
          | true => match op with
            | .quo => some fun K => b ≠ 0 ∧ K (.d (.int k (k.wrap (a.tdiv b))))
            | .rem => some fun K => b ≠ 0 ∧ K (.d (.int k (a.tmod b)))
            | _ => none
          | false => none
        | _, _ => none
      | _ => none
    | none => none
  | _ => none
section
variable {P : Program} {w : World} {f : Operand → Value} {e : Env}
theorem pStop_sound {ty : List (Nat × TY)} (hty : Tys P ty) {T : Tl} {H : Hp} (hT : TmOk e w T f) (hH : ObsOk e w H) {o : Oper} {g : (SV → Prop) → Prop} {K : SV → Prop} (h : pStop ty T H o.op = some g) (hg : g K) :
    ∃ sv v, RepSV e w sv v ∧ (∀ w', (execOp f o).run P w' = .ok (.value v) w') ∧ K sv := by
  obtain ⟨dst, op, type, pos, after, guard⟩ := o
  simp only at h
  unfold pStop at h
  split at h <;> try (cases h; done)
  · rename_i t x ix
    split at h <;> try (cases h; done)
    rename_i y hy
    split at h <;> try (cases h; done)
    rename_i el hkd
    split at h <;> try (cases h; done)
    rename_i ey hey
    have hu := (hty _ _ hy).slice hkd
    have hsz := fun w' => Vc.run_sizeOf (w := w') (hty _ _ hey).i
    have key : ∀ (A : Addr) (n c : Nat) (k : IntKind) (i : Nat), i < n → f x = .slice (some A) n c → f ix = .int k (i : Int) → ∀ w', (execOp f { dst, op := .indexAddr t x ix, type, pos, after, guard }).run P w' = .ok (.value (.pointer (some (A.add (i * ey.i.size))))) w' := by
      intro A n c k i hi hx hix w'
      simp only [execOp]
      refine run_val ?_
      rw [hx, hix]
      unfold Instr.indexAt
      simp only [asIntOf, Sem.run_bind, Sem.run_pure, Result.andThen_ok, run_under hu]
      have h0 : (0 : Int) ≤ (i : Int) := by omega
      have h1 : (i : Int) < (n : Int) := by omega
      simp only [Bool.and_false, Bool.false_eq_true, if_false, h0, h1, and_self, if_true]
      rw [Sem.run_bind, hsz]
      rfl
    split at h <;> try (cases h; done)
    · rename_i eb n cs k j hx hix
      injection h with h; subst h
      obtain ⟨i, rfl, hi, l, hl, hk⟩ := hg
      have h1 := hT _ _ hx
      have h2 := hT _ _ hix
      simp only [RepSV, RepD] at h1 h2
      obtain ⟨A, c, hv, hc1, hc2, hcA, hc3⟩ := h1
      obtain ⟨ad, rfl⟩ := hcA (by omega)
      refine ⟨_, .pointer (some (ad.add (i * ey.i.size))), ?_, fun w' => key ad n c k i hi hv h2 w', hk⟩
      simp only [RepSV, RepD]
      refine ⟨ad.add (i * ey.i.size), by rw [add_add]; simp, ?_⟩
      rw [← hl]
      exact (hc3.drop _).take _
    · rename_i r k j hx hix
      split at h <;> try (cases h; done)
      rename_i t1 eb sz n xs hr
      injection h with h; subst h
      obtain ⟨i, rfl, hi, hk⟩ := hg
      have h1 := hT _ _ hx
      have h2 := hT _ _ hix
      simp only [RepSV, RepD] at h1 h2
      obtain ⟨A, n', c, hv, hm⟩ := h1
      obtain ⟨A', c', vs, hm', hrow, _⟩ := hH _ _ hr
      rw [hv, hm'] at hm
      injection hm with hm; injection hm with e1 e2 e3
      subst e1; subst e2; subst e3
      obtain ⟨ad, rfl⟩ := hrow.some (by omega)
      refine ⟨_, .pointer (some (ad.add (i * ey.i.size))), ?_, fun w' => key ad n c' k i hi hv h2 w', hk⟩
      simp only [RepSV]
      exact ⟨ad, n, c', hm', rfl⟩
  · rename_i c x y
    split at h <;> try (cases h; done)
    · rename_i b p q hc hx hy
      have h1 := hT _ _ hc
      simp only [RepSV] at h1
      split at h
      · injection h with h; subst h
        refine ⟨p, _, hT _ _ hx, fun w' => ?_, hg⟩
        simp only [execOp, h1]; rfl
      · injection h with h; subst h
        refine ⟨q, _, hT _ _ hy, fun w' => ?_, hg⟩
        simp only [execOp, h1]; rfl
    · rename_i b p q hc hx hy
      have h1 := hT _ _ hc
      simp only [RepSV, RepD] at h1
      injection h with h; subst h
      cases b
      · refine ⟨q, _, hT _ _ hy, fun w' => ?_, hg.2 rfl⟩
        simp only [execOp, h1]; rfl
      · refine ⟨p, _, hT _ _ hx, fun w' => ?_, hg.1 rfl⟩
        simp only [execOp, h1]; rfl
  · rename_i t x ix
    split at h <;> try (cases h; done)
    rename_i y hy
    split at h <;> try (cases h; done)
    rename_i hkd
    have hu := (hty _ _ hy).str hkd
    split at h <;> try (cases h; done)
    rename_i s k j hx hix
    injection h with h; subst h
    obtain ⟨b, h0, hb, hk⟩ := hg
    have h1 := hT _ _ hx
    have h2 := hT _ _ hix
    simp only [RepSV, RepD] at h1 h2
    refine ⟨_, .int .u8 b.toNat, by simp only [RepSV, RepD], fun w' => ?_, hk⟩
    simp only [execOp]
    refine run_val ?_
    rw [h1, h2]
    unfold Instr.index
    simp only [asIntOf, Sem.run_bind, Sem.run_pure, Result.andThen_ok, run_under hu, h0, if_true, hb]
  · rename_i op' t x y t'
    split at h <;> try (cases h; done)
    rename_i z hz
    split at h <;> try (cases h; done)
    · rename_i hkd
      split at h <;> try (cases h; done)
      split at h <;> try (cases h; done)
      rename_i a b hx hy
      injection h with h; subst h
      have h1 := hT _ _ hx
      have h2 := hT _ _ hy
      simp only [RepSV, RepD] at h1 h2
      refine ⟨_, .string (a ++ b), by simp only [RepSV, RepD], fun w' => ?_, hg.2⟩
      simp only [execOp]
      refine run_val ?_
      rw [h1, h2, Sem.run_bind, eqGuard_str]
      have hle : ¬ (((a.size + b.size : Nat) : Int) > IntKind.i64.max) := by
        have : IntKind.i64.max = 9223372036854775807 := by decide
        rw [this]; have := hg.1; omega
      simp only [Result.andThen_ok, binOp, Op.stringOp, hle, if_false]
      rfl
    · rename_i el hkd
      have hu := (hty _ _ hz).slice hkd
      have heq : ∀ (A : Option Addr) (n c : Nat) (w' : World), (Op.equal t (.slice A n c) (.slice none 0 0)).run P w' = .ok A.isNone w' := by
        intro A n c w'
        unfold Op.equal
        rw [show Op.maxDepth = 9999 + 1 from rfl]
        unfold Op.equalIn
        rw [Sem.run_bind, run_under hu]
        cases A <;> rfl
      have hgu : ∀ (A : Option Addr) (n c : Nat) (w' : World), (eqGuard op' t x y (.slice A n c) (.slice none 0 0)).run P w' = .ok () w' := by
        intro A n c w'; unfold eqGuard; cases op' <;> rfl
      split at h <;> try (cases h; done)
      · rename_i eb n cs hx hy
        have h1 := hT _ _ hx
        have h2 := hT _ _ hy
        simp only [RepSV, RepD] at h1 h2
        obtain ⟨A, c, hv, _, _, hA, _⟩ := h1
        injection h with h; subst h
        refine ⟨_, .bool A.isNone, by simp only [RepSV, RepD], fun w' => ?_, hg A.isNone fun hn => ?_⟩
        · simp only [execOp]
          refine run_val ?_
          rw [hv, h2, Sem.run_bind, hgu]
          simp only [Result.andThen_ok, binOp]
          rw [Sem.run_bind, heq]
          rfl
        · rcases Nat.eq_zero_or_pos n with h0 | h0
          · exact h0
          · obtain ⟨ad, rfl⟩ := hA (by omega)
            cases hn
      · rename_i eb n cs hx hy
        have h1 := hT _ _ hx
        have h2 := hT _ _ hy
        simp only [RepSV, RepD] at h1 h2
        obtain ⟨A, c, hv, _, _, hA, _⟩ := h1
        injection h with h; subst h
        refine ⟨_, .bool (!A.isNone), by simp only [RepSV, RepD], fun w' => ?_, hg (!A.isNone) fun hn => ?_⟩
        · simp only [execOp]
          refine run_val ?_
          rw [hv, h2, Sem.run_bind, hgu]
          simp only [Result.andThen_ok, binOp]
          rw [Sem.run_bind, heq]
          rfl
        · rcases Nat.eq_zero_or_pos n with h0 | h0
          · exact h0
          · obtain ⟨ad, rfl⟩ := hA (by omega)
            cases hn
    · rename_i k0 hkd
      split at h <;> try (cases h; done)
      rename_i k a k' b hx hy
      split at h <;> try (cases h; done)
      rename_i hs
      obtain rfl := sameK_eq hs
      have h1 := hT _ _ hx
      have h2 := hT _ _ hy
      simp only [RepSV, RepD] at h1 h2
      split at h <;> try (cases h; done)
      · injection h with h; subst h
        refine ⟨_, .int k (k.wrap (a.tdiv b)), by simp only [RepSV, RepD], fun w' => ?_, hg.2⟩
        simp only [execOp]
        refine run_val ?_
        rw [h1, h2, Sem.run_bind, eqGuard_int]
        simp only [Result.andThen_ok, binOp, Op.intDiv, ne_eq, not_true, if_false, hg.1]
        rfl
      · injection h with h; subst h
        refine ⟨_, .int k (a.tmod b), by simp only [RepSV, RepD], fun w' => ?_, hg.2⟩
        simp only [execOp]
        refine run_val ?_
        rw [h1, h2, Sem.run_bind, eqGuard_int]
        simp only [Result.andThen_ok, binOp, Op.intDiv, ne_eq, not_true, if_false, hg.1]
        rfl
end
end Go.Vx


/- Operations that act. -/
namespace Go.Vx
open Go.RowKit Go.Vc
def nrmL : List SV → (List SV → Prop) → Prop
  | [], K => K []
  | .d x :: r, K => nrmL r fun l => K (.d x :: l)
  | .kb x :: r, K => nrmL r fun l => K (.kb x :: l)
  | .own i o :: r, K => nrmL r fun l => K (.own i o :: l)
  | .row i :: r, K => nrmL r fun l => K (.row i :: l)
  | .rowp i o :: r, K => nrmL r fun l => K (.rowp i o :: l)
  | .nm i :: r, K => nrmL r fun l => K (.nm i :: l)
  | .osl i n :: r, K => nrmL r fun l => K (.osl i n :: l)
  | .agg m :: r, K => nrmL r fun l => K (.agg m :: l)
  | .tup m :: r, K => nrmL r fun l => K (.tup m :: l)
  | .fn f a b :: r, K => nrmL r fun l => K (.fn f a b :: l)
  | .ifc t x :: r, K => nrmL r fun l => K (.ifc t x :: l)
  | .nl :: r, K => nrmL r fun l => K (.nl :: l)
  | .any :: r, K => nrmL r fun l => K (.any :: l)
theorem nrmL_eq : ∀ (l : List SV) (K : List SV → Prop), nrmL l K = K l
  | [], _ => rfl
  | x :: r, K => by cases x <;> simp only [nrmL, nrmL_eq r]
def nrm : SV → (SV → Prop) → Prop
  | .agg m, K => nrmL m fun l => K (.agg l)
  | .tup m, K => nrmL m fun l => K (.tup l)
  | .d (.agg m), K => nrmL (dL m) fun l => K (.agg l)
  | x, K => K x
theorem nrm_eq {e : Env} {w : World} {v : Value} (x : SV) (K : SV → Prop) (h : nrm x K) (hv : RepSV e w x v) : ∃ y, K y ∧ RepSV e w y v := by
  unfold nrm at h
  split at h
  · rw [nrmL_eq] at h; exact ⟨_, h, hv⟩
  · rw [nrmL_eq] at h; exact ⟨_, h, hv⟩
  · rw [nrmL_eq] at h
    refine ⟨_, h, ?_⟩
    simp only [RepSV, RepD] at hv ⊢
    obtain ⟨l', e', h1⟩ := hv
    exact ⟨l', e', by rw [dL_map]; exact RepSVs.ofD.1 h1⟩
  · exact ⟨_, h, hv⟩
def withoutK (r : Nat → Bool) : Hp → (Hp → Prop) → Prop
  | [], K => K []
  | (i, o) :: l, K => match r i with
    | true => withoutK r l K
    | false => withoutK r l fun l' => K ((i, o) :: l')
theorem withoutK_eq (r : Nat → Bool) : ∀ (H : Hp) (K : Hp → Prop), withoutK r H K = K (without r H)
  | [], _ => rfl
  | (i, o) :: l, K => by
    cases hr : r i <;> simp only [withoutK, without, hr, withoutK_eq r l]
def scrubTK (s : Nat → Bool) : Tl → (Tl → Prop) → Prop
  | [], K => K []
  | (t, x) :: r, K => nrmL [scrub s x] fun
    | [y] => scrubTK s r fun l => K ((t, y) :: l)
    | _ => False
theorem scrubTK_eq (s : Nat → Bool) : ∀ (T : Tl) (K : Tl → Prop), scrubTK s T K = K (scrubT s T)
  | [], _ => rfl
  | (t, x) :: r, K => by
    simp only [scrubTK, nrmL_eq, scrubTK_eq s r]
    rfl
def scrubHK (s : Nat → Bool) : Hp → (Hp → Prop) → Prop
  | [], K => K []
  | (i, .blk t cs) :: r, K => nrmL (scrubs s cs) fun cs' => scrubHK s r fun l => K ((i, .blk t cs') :: l)
  | (i, .row t eb sz n xs) :: r, K => scrubHK s r fun l => K ((i, .row t eb sz n xs) :: l)
  | (i, .ab φ) :: r, K => scrubHK s r fun l => K ((i, .ab φ) :: l)
theorem scrubHK_eq (s : Nat → Bool) : ∀ (H : Hp) (K : Hp → Prop), scrubHK s H K = K (scrubH s H)
  | [], _ => rfl
  | (i, .blk t cs) :: r, K => by
    simp only [scrubHK, nrmL_eq, scrubHK_eq s r]
    rfl
  | (i, .row t eb sz n xs) :: r, K => by
    simp only [scrubHK, scrubHK_eq s r]
    rfl
  | (i, .ab φ) :: r, K => by
    simp only [scrubHK, scrubHK_eq s r]
    rfl
mutual
theorem scrub_none : ∀ x : SV, scrub (fun _ => false) x = x
  | .row i => rfl
  | .rowp i o => rfl
  | .nm i => rfl
  | .osl i n => rfl
  | .agg l => by simp only [scrub, scrubs_none l]
  | .tup l => by simp only [scrub, scrubs_none l]
  | .fn f a b => by simp only [scrub, scrubs_none a, scrubs_none b]
  | .ifc t x => by simp only [scrub, scrub_none x]
  | .d x => rfl
  | .kb b => rfl
  | .own i o => rfl
  | .nl => rfl
  | .any => rfl
theorem scrubs_none : ∀ l : List SV, scrubs (fun _ => false) l = l
  | [] => rfl
  | x :: l => by simp only [scrubs, scrub_none x, scrubs_none l]
end
theorem scrubT_none (T : Tl) : scrubT (fun _ => false) T = T := by
  unfold scrubT
  simp [scrub_none]
theorem scrubH_none (H : Hp) : scrubH (fun _ => false) H = H := by
  unfold scrubH
  have : ∀ o : Ob, scrubO (fun _ => false) o = o := fun o => by cases o <;> simp [scrubO, scrubs_none]
  simp [this]
def dOf : SV → Option D
  | .d x => some x
  | .nl => some (.sl 0 0 [])
  | .kb b => some (.bool b)
  | .agg l => match dOfs l with
    | some m => some (.agg m)
    | none => none
  | .tup l => match dOfs l with
    | some m => some (.tup m)
    | none => none
  | .fn f a b => match dOfs a, dOfs b with
    | some x, some y => some (.fn f x y)
    | _, _ => none
  | .ifc t x => match dOf x with
    | some y => some (.ifc t y)
    | none => none
  | _ => none
where dOfs : List SV → Option (List D)
  | [] => some []
  | x :: r => match dOf x, dOfs r with
    | some y, some l => some (y :: l)
    | _, _ => none
mutual
theorem dOf_rep {e : Env} {w : World} : ∀ {x : SV} {y : D} {v : Value}, dOf x = some y → RepSV e w x v → RepD e.pub w y v
  | .d x, y, v, h, hx => by simp only [dOf, Option.some.injEq] at h; subst h; simpa only [RepSV] using hx
  | .kb b, y, v, h, hx => by simp only [dOf, Option.some.injEq] at h; subst h; simpa only [RepSV, RepD] using hx
  | .nl, y, v, h, hx => by
    simp only [dOf, Option.some.injEq] at h; subst h
    simp only [RepSV] at hx; subst hx
    simp only [RepD, RepC]
    exact ⟨none, 0, rfl, Nat.le_refl _, Nat.zero_le _, fun h => absurd rfl h, trivial⟩
  | .agg l, y, v, h, hx => by
    simp only [dOf] at h
    split at h <;> try (cases h; done)
    rename_i m hm
    injection h with h; subst h
    simp only [RepSV, RepD] at hx ⊢
    obtain ⟨l', e', h1⟩ := hx
    exact ⟨l', e', dOfs_rep hm h1⟩
  | .tup l, y, v, h, hx => by
    simp only [dOf] at h
    split at h <;> try (cases h; done)
    rename_i m hm
    injection h with h; subst h
    simp only [RepSV, RepD] at hx ⊢
    obtain ⟨l', e', h1⟩ := hx
    exact ⟨l', e', dOfs_rep hm h1⟩
  | .fn f a b, y, v, h, hx => by
    simp only [dOf] at h
    split at h <;> try (cases h; done)
    rename_i m n hm hn
    injection h with h; subst h
    simp only [RepSV, RepD] at hx ⊢
    obtain ⟨a', b', e', h1, h2⟩ := hx
    exact ⟨a', b', e', dOfs_rep hm h1, dOfs_rep hn h2⟩
  | .ifc t x, y, v, h, hx => by
    simp only [dOf] at h
    split at h <;> try (cases h; done)
    rename_i m hm
    injection h with h; subst h
    simp only [RepSV, RepD] at hx ⊢
    obtain ⟨z, e', h1⟩ := hx
    exact ⟨z, e', dOf_rep hm h1⟩
  | .own _ _, _, _, h, _ => by simp [dOf] at h
  | .row _, _, _, h, _ => by simp [dOf] at h
  | .rowp _ _, _, _, h, _ => by simp [dOf] at h
  | .nm _, _, _, h, _ => by simp [dOf] at h
  | .osl _ _, _, _, h, _ => by simp [dOf] at h
  | .any, _, _, h, _ => by simp [dOf] at h
theorem dOfs_rep {e : Env} {w : World} : ∀ {l : List SV} {m : List D} {v : List Value}, dOf.dOfs l = some m → RepSVs e w l v → RepDs e.pub w m v
  | [], m, v, h, hx => by simp only [dOf.dOfs, Option.some.injEq] at h; subst h; simpa only [RepSVs, RepDs] using hx
  | x :: r, m, v, h, hx => by
    simp only [dOf.dOfs] at h
    split at h <;> try (cases h; done)
    rename_i y l hy hl
    injection h with h; subst h
    simp only [RepSVs, RepDs] at hx ⊢
    obtain ⟨u, s, e', h1, h2⟩ := hx
    exact ⟨u, s, e', dOf_rep hy h1, dOfs_rep hl h2⟩
end
def cellB : SV → Bool
  | .agg _ => false
  | .tup _ => false
  | .any => false
  | .d (.agg _) => false
  | .d (.tup _) => false
  | .d (.val (.agg _)) => false
  | .d (.val (.tuple _)) => false
  | _ => true
def cellsB : List SV → Bool
  | [] => true
  | x :: r => match cellB x with
    | true => cellsB r
    | false => false
theorem cellB_plain {e : Env} {w : World} {x : SV} {v : Value} (h : cellB x = true) (hx : RepSV e w x v) : plainV v = true := by
  cases x with
  | d y =>
    cases y <;> first | (simp [cellB] at h; done) | skip
    case val u => simp only [RepSV, RepD] at hx; subst hx; cases v <;> first | rfl | (simp [cellB] at h; done)
    all_goals simp only [RepSV, RepD] at hx
    all_goals first | (subst hx; rfl) | (obtain ⟨_, _, rfl, _⟩ := hx; rfl) | (obtain ⟨_, rfl, _⟩ := hx; rfl)
  | agg _ => simp [cellB] at h
  | tup _ => simp [cellB] at h
  | any => simp [cellB] at h
  | kb b => simp only [RepSV] at hx; subst hx; rfl
  | nl => simp only [RepSV] at hx; subst hx; rfl
  | own i o => simp only [RepSV] at hx; obtain ⟨_, _, rfl⟩ := hx; rfl
  | row i => simp only [RepSV] at hx; obtain ⟨_, _, _, rfl, _⟩ := hx; rfl
  | rowp i o => simp only [RepSV] at hx; obtain ⟨_, _, _, _, rfl⟩ := hx; rfl
  | nm i => simp only [RepSV] at hx; obtain ⟨_, rfl, _⟩ := hx; rfl
  | osl i n => simp only [RepSV] at hx; obtain ⟨_, _, rfl⟩ := hx; rfl
  | fn f a b => simp only [RepSV] at hx; obtain ⟨_, _, rfl, _⟩ := hx; rfl
  | ifc t x => simp only [RepSV] at hx; obtain ⟨_, rfl, _⟩ := hx; rfl
theorem cellsB_plain {e : Env} {w : World} : ∀ {l : List SV} {v : List Value}, cellsB l = true → RepSVs e w l v → ∀ u ∈ v, plainV u = true
  | [], v, _, hx, u, hu => by simp only [RepSVs] at hx; subst hx; cases hu
  | x :: r, v, h, hx, u, hu => by
    simp only [cellsB] at h
    split at h <;> try (cases h; done)
    rename_i hc
    simp only [RepSVs] at hx
    obtain ⟨y, s, rfl, h1, h2⟩ := hx
    rcases List.mem_cons.1 hu with rfl | hu
    · exact cellB_plain hc h1
    · exact cellsB_plain h h2 u hu
section
variable {G : Glob} {n0 : Nat} {b : Bs G n0} {N : Nat} {e : Env} {st : St} {a : Act} {w : World}
theorem Ok.setOb (h : Ok b N e st a w) {i : Nat} {o : Ob} {w' : World} (hi : has st.H i) (ho : Only (fun k => foot e i k) w w') (hd : w.drawn ≤ w'.drawn) (hob : Kept e w e w' → ObOk e w' i o) :
    Ok b N e ⟨st.T, (i, o) :: without (Nat.beq i) st.H, st.n⟩ a w' ∧ Kept e w e w' ∧ ∀ j k, has st.H j → j ≠ i → foot e j k → w'.heap[k]? = w.heap[k]? := by
  have hsame : Same e.pub w w' := fun k hk hl => ho.block k hl fun hf => h.hp.npub i k hi hf hk
  have kw : Kept e w e w' := ⟨fun _ _ h => h, fun _ h => h, hsame, ho.size⟩
  have h1 := h.frame (r := Nat.beq i) (s := fun _ => false) (fun _ h => by cases h) (e' := e) (w' := w') (H' := [(i, o)]) 0 rfl (ho.mono fun k _ hk => ⟨i, Nat.beq_refl i, hi, hk⟩) (G.dm hd) (fun _ _ h _ => h) (fun _ h => h) (fun _ h => .inl h)
    ⟨fun j o' hj => ?_, fun j j' k hj hj' hne _ _ => ?_, fun j k hj hk => ?_, fun k hk => Nat.lt_of_lt_of_le (h.hp.pubLt k hk) ho.size⟩ (fun j k hj hk => ?_)
  · rw [scrubT_none, scrubH_none] at h1
    exact ⟨h1, kw, fun j k hj hne hk => ho.block k (h.hp.lt hj hk) fun hf => h.hp.sep j i k hj hi hne hk hf⟩
  all_goals
    have one : ∀ q, has [(i, o)] q → q = i := by
      intro q hq
      unfold has at hq
      simp only [lk] at hq
      split at hq
      · rename_i e'; exact (nbeq.1 e').symm
      · cases hq
  · obtain rfl := one j (by simp [has, hj])
    simp only [lk, Nat.beq_refl] at hj
    injection hj with hj; subst hj; exact hob kw
  · exact absurd ((one j hj).trans (one j' hj').symm) hne
  · obtain rfl := one j hj; exact h.hp.npub j k hi hk
  · obtain rfl := one j hj; exact .inl ⟨j, Nat.beq_refl j, hi, hk⟩
end
end Go.Vx


/- What a run of an operation must come to; operations that act: their conditions, and that these are enough. -/
namespace Go.Vx
open Go.RowKit Go.Vc
inductive SExit where
  | normal | exit (id : Nat) | goto (l : Nat) | ret | pan (x : SV)
structure KeptP (e : Env) (w : World) (e' : Env) (w' : World) : Prop where
  pub : ∀ k, e.pub k → e'.pub k
  same : Same e.pub w w'
  sz : w.heap.size ≤ w'.heap.size
theorem KeptP.refl (e : Env) (w : World) : KeptP e w e w := ⟨fun _ h => h, Same.rfl' _ _, Nat.le_refl _⟩
theorem KeptP.trans {e e1 e2 : Env} {w w1 w2 : World} (h : KeptP e w e1 w1) (h' : KeptP e1 w1 e2 w2) : KeptP e w e2 w2 :=
  ⟨fun k hk => h'.pub k (h.pub k hk), fun k hk hl => by rw [h'.same k (h.pub k hk) (Nat.lt_of_lt_of_le hl h.sz), h.same k hk hl], Nat.le_trans h.sz h'.sz⟩
theorem Kept.p {e e' : Env} {w w' : World} (h : Kept e w e' w') : KeptP e w e' w' := ⟨h.pub, h.same, h.sz⟩
structure KpS (kp : Bool) (e : Env) (H : Hp) (w : World) (e' : Env) (w' : World) : Prop where
  all : kp = true → Kept e w e' w' ∧ Agr e H w w'
  p : KeptP e w e' w'
theorem KpS.of {kp : Bool} {e e' : Env} {H : Hp} {w w' : World} (h : Kept e w e' w' ∧ Agr e H w w') : KpS kp e H w e' w' := ⟨fun _ => h, h.1.p⟩
section
variable (P : Program) (ty : List (Nat × TY)) {G : Glob} {n0 : Nat} (b : Bs G n0) (N : Nat)
def AftS (kp : Bool) (e : Env) (H : Hp) (w : World) (a : Act) (dst : Option Tmp) (K : SExit → St → Prop) (v : Value) (w' : World) : Prop :=
  ∃ e' st', KpS kp e H w e' w' ∧ Ok b N e' st' (a.put dst v) w' ∧ K .normal st'
def PanS (a : Act) (K : SExit → St → Prop) (c : List PanicEntry) (w' : World) : Prop :=
  ∃ e' st' x v, c = [{ v, recovered := false }] ∧ RepSV e' w' x v ∧ Ok b N e' st' a w' ∧ K (.pan x) st'
def OpR (kp : Bool) (e : Env) (H : Hp) (a : Act) (dst : Option Tmp) (w : World) (K : SExit → St → Prop) : Result Next → Prop
  | .ok (.value v) w' => AftS b N kp e H w a dst K v w'
  | .ok .skip w' => AftS b N kp e H w a dst K undef w'
  | .ok (.enter f args) w' => Calls P f args w' fun
    | .returned v, w'' => AftS b N kp e H w a dst K v w''
    | .panicked c, w'' => PanS b N a K c w''
    | .outgrown, _ => False
  | .halt (.panic v) w' => PanS b N a K [{ v, recovered := false }] w'
  | _ => False
inductive OpC (kp : Bool) (o : Oper) (st : St) (K : SExit → St → Prop) : Prop
  | mk (h : ∀ e a w, Ok b N e st a w → OpR P b N kp e st.H a o.dst w K ((execOp a.eval o).run P w))
inductive LdA (sz off : Nat) (xs : List D) (K : List D → Prop) : Prop
  | mk (l : List D) (h : (xs.drop off).take sz = l) (hl : l.length = sz) (hk : K l)
inductive LdS (off : Nat) (xs : List D) (K : D → Prop) : Prop
  | mk (x : D) (h : xs[off]? = some x) (hk : K x)
def ovl {α : Type} (xs : List α) (k : Nat) (l : List α) : List α := xs.take k ++ l ++ xs.drop (k + l.length)
inductive StC (off : Nat) (l xs : List D) (K : List D → Prop) : Prop
  | mk (xs' : List D) (hl : off + l.length ≤ xs.length) (h : ovl xs off l = xs') (hk : K xs')
def zdL : List Value → List D
  | [] => []
  | v :: r => zD v :: zdL r
def rep (l : List D) : Nat → List D
  | 0 => []
  | n + 1 => l ++ rep l n
def fillA (sz : Nat) : List D → List (Nat × SV) → Option (List D)
  | cs, [] => some cs
  | cs, (i, x) :: r => match cellsOf x with
    | some l => match dOf.dOfs l, cellsB l with
      | some m, true => match Nat.beq m.length sz, Nat.ble (i * sz + sz) cs.length, putAt (i * sz) m cs with
        | true, true, some cs' => fillA sz cs' r
        | _, _, _ => none
      | _, _ => none
    | none => none
def scalD : D → Bool
  | .agg _ => false
  | .tup _ => false
  | .val (.agg _) => false
  | .val (.tuple _) => false
  | _ => true
def scalDs : List D → Bool
  | [] => true
  | x :: r => match scalD x with
    | true => scalDs r
    | false => false
def vcEff (kp : Bool) (o : Oper) (st : St) (K : SExit → St → Prop) : Prop :=
  match o.op with
  | .box t x => match ev st.T x with
    | some sv => match cellsOf sv with
      | some cs => nrmL cs fun cs => match st with
        | ⟨T, H, n⟩ => putK N o.dst (.own n 0) ⟨T, (n, .blk t cs) :: H, n + 1⟩ (K .normal)
      | none => False
    | none => False
  | .alloc t => match lk ty t with
    | some y => nrmL (zs y.i.z.cells.toList) fun cs => match st with
      | ⟨T, H, n⟩ => putK N o.dst (.own n 0) ⟨T, (n, .blk t cs) :: H, n + 1⟩ (K .normal)
    | none => False
  | .buildSlice t n ps => match lk ty t with
    | some y => match y.kd with
      | .slice el => match lk ty el with
        | some ey => match evp st.T ps.toList, Nat.ble (n * ey.i.size) 16777216, Nat.beq ey.i.z.cells.toList.length ey.i.size, Nat.ble (n * ey.i.bytes) 140737488355328, Nat.ble 1 ey.i.size, scalDs (zdL ey.i.z.cells.toList) with
          | some l, true, true, true, true, true => match fillA ey.i.size (rep (zdL ey.i.z.cells.toList) n) l with
            | some xs => match st with
              | ⟨T, H, m⟩ => putK N o.dst (.row m) ⟨T, (m, .row el ey.i.bytes ey.i.size n xs) :: H, m + 1⟩ (K .normal)
            | none => OpC P b N kp o st K
          | _, _, _, _, _, _ => False
        | none => False
      | _ => False
    | none => False
  | .store t ad x => match ev st.T ad with
    | some (.own i off) => match lk ty t, ev st.T x with
      | some y, some sv => match cellsOf sv with
        | some l => match Nat.beq l.length y.i.size, cellsB l, lk st.H i, kp with
          | true, true, some (.blk t' cs), false => match putAt off l cs, Nat.ble (off + l.length) cs.length with
            | some cs', true => nrmL cs' fun cs' => match st with
              | ⟨T, H, n⟩ => withoutK (Nat.beq i) H fun H' => putK N o.dst .any ⟨T, (i, .blk t' cs') :: H', n⟩ (K .normal)
            | _, _ => False
          | _, _, _, _ => False
        | none => False
      | _, _ => False
    | some (.rowp i off) => match lk ty t, ev st.T x with
      | some y, some sv => match cellsOf sv with
        | some l => match Nat.beq l.length y.i.size, cellsB l, dOf.dOfs l, lk st.H i with
          | true, true, some m, some (.row t' eb sz n xs) => StC off m xs fun xs' => match st with
            | ⟨T, H, q⟩ => withoutK (Nat.beq i) H fun H' => putK N o.dst .any ⟨T, (i, .row t' eb sz n xs') :: H', q⟩ (K .normal)
          | _, _, _, _ => OpC P b N kp o st K
        | none => False
      | _, _ => False
    | _ => OpC P b N kp o st K
  | .load t x => match ev st.T x with
    | some (.rowp i off) => match lk ty t, lk st.H i with
      | some y, some (.row _ _ _ _ xs) => match y.i.agg with
        | true => LdA y.i.size off xs fun l => nrmL (dL l) fun l' => putK N o.dst (.agg l') st (K .normal)
        | false => LdS off xs fun x => putK N o.dst (.d x) st (K .normal)
      | _, _ => False
    | _ => OpC P b N kp o st K
  | .panic x => match ev st.T x with
    | some (.ifc t y) => K (.pan (.ifc t y)) st
    | some (.d (.ifc t y)) => K (.pan (.d (.ifc t y))) st
    | _ => OpC P b N kp o st K
  | _ => OpC P b N kp o st K
def vcOp (kp : Bool) (o : Oper) (st : St) (K : SExit → St → Prop) : Prop :=
  match pOp ty st.T st.H o.op with
  | some sv => nrm sv fun sv => putK N o.dst sv st (K .normal)
  | none => match pStop ty st.T st.H o.op with
    | some g => g fun sv => putK N o.dst sv st (K .normal)
    | none => vcEff P ty b N kp o st K
end
section
variable {P : Program} {ty : List (Nat × TY)} {G : Glob} {n0 : Nat} {b : Bs G n0} {N : Nat}
theorem Agr.of {e : Env} {H : Hp} {w w' : World} (h : Same e.pub w w') (hf : ∀ j k, has H j → foot e j k → w'.heap[k]? = w.heap[k]?) : Agr e H w w' :=
  ⟨h, fun i t cs k hi hk => hf i k (by simp [has, hi]) hk⟩
theorem Agr.below {e : Env} {H : Hp} {w w' : World} (hp : HpOk e w H) (h : Below w.heap.size w w') : Agr e H w w' :=
  .of (same_of_below h _) fun _ k hj hk => h.block k (hp.lt hj hk)
theorem pushW_below (w : World) (o : Obj) : Below w.heap.size w (pushW w o) := ⟨rfl, rfl, rfl, by simp [pushW], fun k hk => pushW_old w o hk⟩
theorem pushW_new (w : World) (o : Obj) : (pushW w o).heap[w.heap.size]? = some o := by simp only [pushW, Array.getElem?_push, if_true]
theorem zdL_rep (S : Nat → Prop) (w : World) : ∀ l : List Value, RepDs S w (zdL l) l
  | [] => by simp [zdL, RepDs]
  | v :: r => by simp only [zdL, RepDs]; exact ⟨v, r, rfl, zD_rep _ _ _, zdL_rep S w r⟩
def repV (l : List Value) : Nat → List Value
  | 0 => []
  | n + 1 => l ++ repV l n
theorem rep_rep {S : Nat → Prop} {w : World} {l : List D} {v : List Value} (h : RepDs S w l v) : ∀ n, RepDs S w (rep l n) (repV v n)
  | 0 => by simp [rep, repV, RepDs]
  | n + 1 => by simp only [rep, repV]; exact h.app (rep_rep h n)
theorem repV_length (l : List Value) : ∀ n, (repV l n).length = n * l.length
  | 0 => by simp [repV]
  | n + 1 => by simp [repV, repV_length l n, Nat.add_mul]; omega
theorem repV_get (l : List Value) : ∀ n j, j < n * l.length → (repV l n)[j]? = l[j % l.length]?
  | 0, j, h => by simp at h
  | n + 1, j, h => by
    simp only [repV]
    rcases Nat.lt_or_ge j l.length with h1 | h1
    · rw [List.getElem?_append_left h1, Nat.mod_eq_of_lt h1]
    · rw [List.getElem?_append_right h1, repV_get l n (j - l.length) (by rw [Nat.add_mul] at h; omega)]
      rw [Nat.mod_eq_sub_mod h1]
theorem zero_repV {z : Array Value} {n sz : Nat} (hz : z.size = sz) (h0 : sz ≠ 0) : (Array.range (n * sz)).map (fun i => z[i % z.size]!) = (repV z.toList n).toArray := by
  apply Array.ext_getElem?
  intro j
  rw [Array.getElem?_map, Array.getElem?_range, List.getElem?_toArray]
  split
  · rename_i hj
    have hl : z.toList.length = sz := by simpa using hz
    rw [repV_get _ _ _ (by rw [hl]; exact hj), hl, hz]
    have hm : j % sz < z.size := by rw [hz]; exact Nat.mod_lt _ (by omega)
    simp [hm]
  · rename_i hj
    simp only [Option.map_none]
    rw [List.getElem?_eq_none]
    rw [repV_length]; simp [hz]; omega
theorem putAt_repD {S : Nat → Prop} {w : World} {off : Nat} {l cs cs' : List D} {vl vc : List Value} (h : putAt off l cs = some cs') (hb : off + l.length ≤ cs.length) (hl : RepDs S w l vl) (hc : RepDs S w cs vc) :
    ∃ vr : Array Value, (vl.zipIdx 0).foldl (fun cs (x : Value × Nat) => cs.setIfInBounds (off + x.2) x.1) vc.toArray = vr ∧ RepDs S w cs' vr.toList ∧ vr.size = vc.length := by
  obtain ⟨g1, g2, g3⟩ := putAt_get _ _ _ _ h
  obtain ⟨k1, k2⟩ := foldl_put vc.toArray off vl 0 vc.toArray
  refine ⟨_, rfl, RepDs.mk ?_ fun i x v hx hv => ?_, by rw [k1]; simp⟩
  · rw [Array.length_toList, k1]; simp [hc.len, g1]
  · rw [Array.getElem?_toList, k2 i] at hv
    rw [g3 i] at hx
    simp only [Nat.add_zero, List.size_toArray, hl.len, hc.len, List.getElem?_toArray] at hv
    by_cases c : off ≤ i ∧ i < off + l.length
    · rw [if_pos c] at hx
      rw [if_pos ⟨c.1, c.2, by omega⟩] at hv
      obtain ⟨u, h1, h2⟩ := hl.get hx
      rw [hv] at h1; injection h1 with h1; subst h1; exact h2
    · rw [if_neg c] at hx
      rw [if_neg (by omega)] at hv
      obtain ⟨u, h1, h2⟩ := hc.get hx
      rw [hv] at h1; injection h1 with h1; subst h1; exact h2
theorem fillA_rep {e : Env} {w : World} {sz : Nat} : ∀ (ps : List (Nat × SV)) (pv : List (Nat × Value)) (cs r : List D) (vc : List Value), fillA sz cs ps = some r → pv.map (·.1) = ps.map (·.1) → RepSVs e w (ps.map (·.2)) (pv.map (·.2)) → RepDs e.pub w cs vc →
    ∃ vr : Array Value, Instr.fill (fun i => some (i * sz, sz)) vc.toArray pv = some vr ∧ RepDs e.pub w r vr.toList ∧ vr.size = vc.length
  | [], pv, cs, r, vc, h, he, _, hc => by
    simp [fillA] at h; subst h
    have : pv = [] := by simpa using he
    subst this
    exact ⟨vc.toArray, by simp [Instr.fill], by simpa using hc, by simp⟩
  | (i, x) :: ps, pv, cs, r, vc, h, he, hv, hc => by
    simp only [fillA] at h
    split at h <;> try (cases h; done)
    rename_i l h2
    split at h <;> try (cases h; done)
    rename_i m hm hcl
    split at h <;> try (cases h; done)
    rename_i cs' h3 hb h4
    cases pv with
    | nil => simp at he
    | cons p pv =>
      obtain ⟨i', v⟩ := p
      simp only [List.map_cons, List.cons.injEq] at he
      obtain ⟨rfl, he⟩ := he
      simp only [List.map_cons, RepSVs] at hv
      obtain ⟨v', s, e1, hv1, hv2⟩ := hv
      simp only [List.cons.injEq] at e1
      obtain ⟨rfl, rfl⟩ := e1
      have hcs := dOfs_rep hm (cellsOf_rep h2 hv1)
      have hn := nbeq.1 h3
      have hb' := Nat.le_of_ble_eq_true hb
      have hsz : v.cells.size = sz := by
        have := hcs.len
        rw [Array.length_toList] at this
        omega
      obtain ⟨vr, q1, q2, q3⟩ := putAt_repD h4 (by omega) hcs hc
      simp only [Instr.fill, hsz]
      rw [if_neg (by have := hc.len; simp; omega)]
      have he' : v.cells.zipIdx.foldl (fun cs (c, j) => cs.setIfInBounds (i' * sz + j) c) vc.toArray = vr := by
        rw [← q1, ← Array.foldl_toList, Array.toList_zipIdx]
      rw [he']
      obtain ⟨vr', p1, p2, p3⟩ := fillA_rep ps pv cs' r vr.toList h he hv2 q2
      exact ⟨vr', by simpa using p1, p2, by rw [p3]; simpa using q3⟩
end
end Go.Vx


/- Operations that act: soundness. -/
namespace Go.Vx
open Go.RowKit Go.Vc
section
variable {P : Program} {ty : List (Nat × TY)} {G : Glob} {n0 : Nat} {b : Bs G n0} {N : Nat} {kp : Bool}
theorem Ok.newBlk {e : Env} {st : St} {a : Act} {w : World} (h : Ok b N e st a w) {t : TypeId} {cs : List SV} {vs : Array Value} (hc : RepSVs e w cs vs.toList) {dst : Option Tmp} {K : St → Prop}
    (hk : putK N dst (.own st.n 0) ⟨st.T, (st.n, .blk t cs) :: st.H, st.n + 1⟩ K) :
    ∃ e' st', (Kept e w e' (pushW w (.cells vs t (0, 0))) ∧ Agr e st.H w (pushW w (.cells vs t (0, 0)))) ∧ Ok b N e' st' (a.put dst (.pointer (some ⟨w.heap.size, 0, none⟩))) (pushW w (.cells vs t (0, 0))) ∧ K st' := by
  have hb := pushW_below w (.cells vs t (0, 0))
  obtain ⟨e', h1, kw, hm, _⟩ := h.addOb (v := .pointer (some ⟨w.heap.size, 0, none⟩)) (o := .blk t cs) hb (Nat.le_refl _) (fun k hk => by injection hk with hk; subst hk; exact Nat.le_refl _)
    (fun e' kw hm => ⟨w.heap.size, vs, hm, pushW_new _ _, hc.kept kw⟩)
  obtain ⟨st', h2, h3, _⟩ := putK_sound (v := .pointer (some ⟨w.heap.size, 0, none⟩)) h1 (by simp only [RepSV]; exact ⟨_, hm, rfl⟩) hk
  exact ⟨e', st', ⟨kw, Agr.below h.hp hb⟩, h2, h3⟩
theorem store_run (hty : Tys P ty) {f : Operand → Value} {x y : Operand} {t type : TypeId} {dst : Option Tmp} {pos : String} {after : Array Edge} {guard : Option (Nat × Bool)} {ti : TY} (ht : lk ty t = some ti) {ad : Addr} {w w' : World}
    (hx : f x = .pointer (some ad)) (hl : (f y).cells.toList.length = ti.i.size) (hrun : (storeCells ad (f y).cells.toList 0).run P w = .ok () w') :
    (execOp f { dst, op := .store t x y, type, pos, after, guard }).run P w = .ok .skip w' := by
  simp only [execOp]
  refine run_unit ?_
  rw [hx]
  simp only [Instr.storeAt, Instr.sureAddr, Sem.run_bind, Sem.run_pure, Result.andThen_ok, storeVar, Vc.run_sizeOf (hty _ _ ht).i]
  rw [if_neg (by rw [Array.length_toList] at hl; simp [hl])]
  exact hrun
theorem vcEff_sound (hty : Tys P ty) {o : Oper} {e : Env} {st : St} {K : SExit → St → Prop} {a : Act} {w : World} (h : Ok b N e st a w) (hk : vcEff P ty b N kp o st K) : OpR P b N kp e st.H a o.dst w K ((execOp a.eval o).run P w) := by
  have hT := h.tmok
  obtain ⟨T, H, n⟩ := st
  obtain ⟨dst, op, type, pos, after, guard⟩ := o
  have gen : OpC P b N kp { dst, op, type, pos, after, guard } ⟨T, H, n⟩ K → OpR P b N kp e H a dst w K ((execOp a.eval { dst, op, type, pos, after, guard }).run P w) := fun hc => by
    obtain ⟨hc⟩ := hc; exact hc e a w h
  unfold vcEff at hk
  simp only at hk hT ⊢
  split at hk
  · -- box
    rename_i t x
    split at hk <;> try (exact hk.elim)
    rename_i sv hx
    split at hk <;> try (exact hk.elim)
    rename_i cs hcs
    rw [nrmL_eq] at hk
    have hr := cellsOf_rep hcs (hT _ _ hx)
    obtain ⟨e', st', h1, h2, h3⟩ := h.newBlk (t := t) hr hk
    have hrun : (execOp a.eval { dst, op := .box t x, type, pos, after, guard }).run P w = .ok (.value (.pointer (some ⟨w.heap.size, 0, none⟩))) (pushW w (.cells (a.eval x).cells t (0, 0))) := by
      simp only [execOp]
      refine run_val ?_
      simp only [Instr.box, newVar, Sem.run_bind, run_newRow, Result.andThen_ok, Sem.run_pure]
    rw [hrun]
    exact ⟨e', st', .of h1, h2, h3⟩
  · -- alloc
    rename_i t
    split at hk <;> try (exact hk.elim)
    rename_i y hy
    rw [nrmL_eq] at hk
    obtain ⟨e', st', h1, h2, h3⟩ := h.newBlk (t := t) (vs := y.i.z.cells) (zs_rep e w y.i.z.cells.toList) hk
    have hrun : (execOp a.eval { dst, op := .alloc t, type, pos, after, guard }).run P w = .ok (.value (.pointer (some ⟨w.heap.size, 0, none⟩))) (pushW w (.cells y.i.z.cells t (0, 0))) := by
      simp only [execOp]
      refine run_val ?_
      unfold Instr.alloc
      rw [Sem.run_bind, Vc.run_zeroValue (hty _ _ hy).i]
      simp only [newVar, Sem.run_bind, run_newRow, Result.andThen_ok, Sem.run_pure]
    rw [hrun]
    exact ⟨e', st', .of h1, h2, h3⟩
  · -- buildSlice
    rename_i t m ps
    split at hk <;> try (exact hk.elim)
    rename_i y hy
    split at hk <;> try (exact hk.elim)
    rename_i el hkd
    split at hk <;> try (exact hk.elim)
    rename_i ey hey
    split at hk <;> try (exact hk.elim)
    rename_i l hl hle hsz hby h1 hsd
    split at hk <;> try (first | exact hk.elim | exact gen hk)
    rename_i xs hfill
    have hu := (hty _ _ hy).slice hkd
    have hle' := Nat.le_of_ble_eq_true hle
    have hsz' := nbeq.1 hsz
    have hby' := Nat.le_of_ble_eq_true hby
    have h1' := Nat.le_of_ble_eq_true h1
    have h0 : ey.i.size ≠ 0 := by omega
    have hzs : ey.i.z.cells.size = ey.i.size := by rw [← Array.length_toList]; exact hsz'
    obtain ⟨p1, p2⟩ := evp_rep hT _ _ hl
    have hz : ((if m * ey.i.size = 0 then pure #[] else do pure (← zeroValue el).cells : Sem (Array Value))).run P w = .ok (if m * ey.i.size = 0 then #[] else ey.i.z.cells) w := by
      split
      · rfl
      · rw [Sem.run_bind, Vc.run_zeroValue (hty _ _ hey).i]; rfl
    have hzc : (Array.range (m * ey.i.size)).map (fun i => (if m * ey.i.size = 0 then #[] else ey.i.z.cells)[i % (if m * ey.i.size = 0 then (#[] : Array Value) else ey.i.z.cells).size]!) = (repV ey.i.z.cells.toList m).toArray := by
      split
      · rename_i hm0
        have : m = 0 := by rcases Nat.mul_eq_zero.1 hm0 with h' | h'; exact h'; exact absurd h' h0
        subst this
        simp [repV]
      · exact zero_repV hzs h0
    obtain ⟨vr, q1, q2, q3⟩ := fillA_rep (e := e) (w := w) l (ps.toList.map fun p => (p.1, a.eval p.2)) _ _ _ hfill (by simpa [Function.comp_def] using p1) (by simpa [Function.comp_def] using p2) (rep_rep (zdL_rep e.pub w _) m)
    have hb := pushW_below w (.cells vr el (0, 0))
    have hvl : vr.size = m * ey.i.size := by rw [q3, repV_length, hsz']
    have hrow : RowOk (pushW w (.cells vr el (0, 0))) ⟨.slice (some ⟨w.heap.size, 0, none⟩) m m, el, ey.i.size, vr.toList⟩ := by
      refine ⟨m, by simp [hvl], .inr ⟨w.heap.size, 0, m, vr, rfl, pushW_new _ _, Nat.le_refl _, ?_, by simp [hvl], ?_⟩⟩
      rotate_left
      · simp only [List.drop_zero]; rw [List.take_of_length_le (by simp [hvl])]
      have : m ≤ m * ey.i.size := Nat.le_mul_of_pos_right _ h1'
      simp only [maxLen]; omega
    obtain ⟨e', g1, kw, hm, _⟩ := h.addOb (v := .slice (some ⟨w.heap.size, 0, none⟩) m m) (o := .row el ey.i.bytes ey.i.size m xs) hb (Nat.le_refl _) (fun k hk => by injection hk with hk; subst hk; exact Nat.le_refl _)
      (fun e' kw hm => ⟨_, _, vr.toList, hm, hrow, q2.kept kw, hby'⟩)
    obtain ⟨st', g2, g3, _⟩ := putK_sound (v := .slice (some ⟨w.heap.size, 0, none⟩) m m) g1 (by simp only [RepSV]; exact ⟨_, _, _, rfl, hm⟩) hk
    have hrun : (execOp a.eval { dst, op := .buildSlice t m ps, type, pos, after, guard }).run P w = .ok (.value (.slice (some ⟨w.heap.size, 0, none⟩) m m)) (pushW w (.cells vr el (0, 0))) := by
      simp only [execOp]
      refine run_val ?_
      unfold Instr.buildSlice
      simp only [Sem.run_bind, run_under hu, Result.andThen_ok, Vc.run_sizeOf (hty _ _ hey).i]
      rw [if_neg (by omega)]
      have hmap : (ps.map fun x => (x.1, a.eval x.2)).toList = ps.toList.map fun x => (x.1, a.eval x.2) := by simp
      by_cases hm0 : m * ey.i.size = 0
      · rw [if_pos hm0]
        rw [if_pos hm0] at hzc
        simp only [Sem.run_bind, Sem.run_pure, Result.andThen_ok]
        rw [hzc, hmap, q1]
        simp only [Sem.run_bind, Sem.run_pure, run_newRow, Result.andThen_ok]
      · rw [if_neg hm0]
        rw [if_neg hm0] at hzc
        simp only [Sem.run_bind, Sem.run_pure, Vc.run_zeroValue (hty _ _ hey).i, Result.andThen_ok]
        rw [hzc, hmap, q1]
        simp only [Sem.run_bind, Sem.run_pure, run_newRow, Result.andThen_ok]
    rw [hrun]
    exact ⟨e', st', .of ⟨kw, Agr.below h.hp hb⟩, g2, g3⟩
  · -- store
    rename_i t ad x
    split at hk
    · rename_i i off ha
      split at hk <;> try (exact hk.elim)
      rename_i y sv hy hx
      split at hk <;> try (exact hk.elim)
      rename_i l hl
      split at hk <;> try (exact hk.elim)
      rename_i t' cs hsz hcl hi
      split at hk <;> try (exact hk.elim)
      rename_i cs' hp hb
      rw [nrmL_eq] at hk
      simp only [withoutK_eq] at hk
      have hb' := Nat.le_of_ble_eq_true hb
      have h1 := hT _ _ ha
      simp only [RepSV] at h1
      obtain ⟨g, hm, hv⟩ := h1
      have hr := cellsOf_rep hl (hT _ _ hx)
      have hlen := hr.len
      obtain ⟨g', vs, hm', hh, hcs⟩ := h.hp.ob _ _ hi
      rw [hm] at hm'; injection hm' with hm'; injection hm' with hm'; injection hm' with hm'; injection hm' with hm'
      subst hm'
      have hcl' := hcs.len
      obtain ⟨vr, q1, q2⟩ := putAt_rep hp hb' hr hcs
      have hlt := (Array.getElem?_eq_some_iff.1 hh).1
      have hrun := run_storeCells (P := P) (g := g) (off := off) (t := t') (a.eval x).cells.toList 0 vs w (cellsB_plain hcl hr) hh (by rw [Array.length_toList] at hlen hcl' ⊢; omega)
      rw [store_run hty hy hv (by rw [hlen]; exact nbeq.1 hsz) hrun]
      have q1' : ((a.eval x).cells.toList.zipIdx 0).foldl (fun cs (x : Value × Nat) => cs.setIfInBounds (off + x.2) x.1) vs = vr := by
        rw [← q1]
      rw [q1']
      have ho : Only (fun k => foot e i k) w (setW w g (.cells vr t' (0, 0))) := ⟨rfl, rfl, rfl, by rw [setW_size]; exact Nat.le_refl _, fun k hk hn => setW_ne _ _ (fun e' => hn ⟨_, hm, by rw [← e']; rfl⟩)⟩
      obtain ⟨g1, kw, g3⟩ := h.setOb (i := i) (o := .blk t' cs') (by simp [has, hi]) ho (Nat.le_refl _) (fun kw => ⟨g, vr, hm, setW_at _ _ _ hlt, q2.kept kw⟩)
      obtain ⟨st', g4, g5, _⟩ := putK_sound (v := undef) g1 (by simp only [RepSV]) hk
      exact ⟨e, st', ⟨fun hkp => (by cases hkp), kw.p⟩, g4, g5⟩
    · rename_i i off ha
      split at hk <;> try (exact hk.elim)
      rename_i y sv hy hx
      split at hk <;> try (exact hk.elim)
      rename_i l hl
      split at hk <;> try (first | exact hk.elim | exact gen hk)
      rename_i m t' eb sz q xs hsz hcl hm hi
      obtain ⟨xs', hle, hov, hk⟩ := hk
      simp only [withoutK_eq] at hk
      have h1 := hT _ _ ha
      simp only [RepSV] at h1
      obtain ⟨adr, n', c, hme, hv⟩ := h1
      have hr := cellsOf_rep hl (hT _ _ hx)
      have hlen := hr.len
      have hrd := dOfs_rep hm hr
      obtain ⟨A', c', vs, hme', hrow, hxs, hlb⟩ := h.hp.ob _ _ hi
      rw [hme] at hme'; injection hme' with hme'; injection hme' with e1 e2 e3
      subst e1; subst e2; subst e3
      have had : adr = ⟨adr.block, adr.off, none⟩ := by
        obtain ⟨n', hl, ⟨hv, hn⟩ | ⟨g', o, cap, cur, hv, _⟩⟩ := hrow
        · cases hv
        · injection hv with e1 _ _; injection e1 with e1; rw [e1]
      have hrow' := hrow
      rw [had] at hrow'
      have hml := hrd.len
      have hxl := hxs.len
      obtain ⟨w', p1, p2, p3⟩ := storeRow_run (P := P) hrow' (k := off) (l := (a.eval x).cells.toList) (by omega) (cellsB_plain hcl hr)
      have hadd : adr.add off = ⟨adr.block, adr.off + off, none⟩ := by rw [had, add_own]
      rw [hadd] at hv
      rw [store_run hty hy hv (by rw [hlen]; exact nbeq.1 hsz) p1]
      rw [← had] at p2
      have ho : Only (fun k => foot e i k) w w' := ⟨p3.os, p3.tape, p3.output, p3.size, fun k hk hn => p3.block k hk (fun e' => hn ⟨_, hme, e'.symm⟩)⟩
      obtain ⟨g1, kw, g3⟩ := h.setOb (i := i) (o := .row t' eb sz n' xs') (by simp [has, hi]) ho (run_drawn p1) (fun kw => ⟨_, _, _, hme, p2, by
        rw [← hov, ovl, ← hml]
        exact (((hxs.take off).app hrd).app (hxs.drop _)).kept kw, hlb⟩)
      obtain ⟨st', g4, g5, _⟩ := putK_sound (v := undef) g1 (by simp only [RepSV]) hk
      refine ⟨e, st', .of ⟨kw, kw.same, fun j t2 cs2 k hj hf => ?_⟩, g4, g5⟩
      refine g3 j k (by simp [has]; rw [hj]; rfl) ?_ hf
      rintro rfl
      rw [hi] at hj; cases hj
    · exact gen hk
  · -- load
    rename_i t x
    split at hk
    · rename_i i off hx
      split at hk <;> try (exact hk.elim)
      rename_i y t' eb sz n' xs hy hi
      have hyi := (hty _ _ hy).i
      have h1 := hT _ _ hx
      simp only [RepSV] at h1
      obtain ⟨adr, n', c, hme, hv⟩ := h1
      obtain ⟨A', c', vs, hme', hrow, hxs, hlb⟩ := h.hp.ob _ _ hi
      rw [hme] at hme'; injection hme' with hme'; injection hme' with e1 e2 e3
      subst e1; subst e2; subst e3
      split at hk
      · rename_i hagg
        obtain ⟨l, hl, hll, hk⟩ := hk
        rw [nrmL_eq] at hk
        have hvl : ((vs.drop off).take y.i.size).length = y.i.size := by
          have := ((hxs.drop off).take y.i.size).len
          rw [this, hl, hll]
        have hrun : (execOp a.eval { dst, op := .load t x, type, pos, after, guard }).run P w = .ok (.value (.agg ((vs.drop off).take y.i.size).toArray)) w := by
          simp only [execOp]
          refine run_val ?_
          rw [hv]
          simp only [Instr.loadAt, Sem.run_bind, Instr.sureAddr, Sem.run_pure, Result.andThen_ok]
          refine hrow.ldA hyi hagg hvl fun j v hj => ?_
          rw [List.getElem?_take] at hj
          split at hj
          · rw [List.getElem?_drop] at hj; exact hj
          · cases hj
        rw [hrun]
        obtain ⟨st', g4, g5, _⟩ := putK_sound (v := .agg ((vs.drop off).take y.i.size).toArray) h (by
          simp only [RepSV]
          refine ⟨_, rfl, ?_⟩
          rw [dL_map, ← hl]
          exact RepSVs.ofD.1 ((hxs.drop off).take _)) hk
        exact ⟨e, st', .of ⟨Kept.refl _ _, Agr.refl _ _ _⟩, g4, g5⟩
      · rename_i hagg
        obtain ⟨x', hx', hk⟩ := hk
        obtain ⟨v, hv1, hv2⟩ := hxs.get hx'
        have hrun : (execOp a.eval { dst, op := .load t x, type, pos, after, guard }).run P w = .ok (.value v) w := by
          simp only [execOp]
          refine run_val ?_
          rw [hv]
          simp only [Instr.loadAt, Sem.run_bind, Instr.sureAddr, Sem.run_pure, Result.andThen_ok]
          exact hrow.ldV hyi hagg hv1
        rw [hrun]
        obtain ⟨st', g4, g5, _⟩ := putK_sound (v := v) h (by simpa only [RepSV] using hv2) hk
        exact ⟨e, st', .of ⟨Kept.refl _ _, Agr.refl _ _ _⟩, g4, g5⟩
    · exact gen hk
  · -- panic
    rename_i x
    split at hk
    · rename_i t y hx
      have h1 := hT _ _ hx
      have h2 := h1
      simp only [RepSV] at h2
      obtain ⟨z, hz, _⟩ := h2
      have hrun : (execOp a.eval { dst, op := .panic x, type, pos, after, guard }).run P w = .halt (.panic (.iface t z)) w := by
        simp only [execOp]
        rw [Sem.run_bind, hz]; rfl
      rw [hrun]
      rw [hz] at h1
      exact ⟨e, _, _, _, rfl, h1, h, hk⟩
    · rename_i t y hx
      have h1 := hT _ _ hx
      have h2 := h1
      simp only [RepSV, RepD] at h2
      obtain ⟨z, hz, _⟩ := h2
      have hrun : (execOp a.eval { dst, op := .panic x, type, pos, after, guard }).run P w = .halt (.panic (.iface t z)) w := by
        simp only [execOp]
        rw [Sem.run_bind, hz]; rfl
      rw [hrun]
      rw [hz] at h1
      exact ⟨e, _, _, _, rfl, h1, h, hk⟩
    · exact gen hk
  · exact gen hk
theorem vcOp_sound (hty : Tys P ty) {o : Oper} {e : Env} {st : St} {K : SExit → St → Prop} {a : Act} {w : World} (h : Ok b N e st a w) (hk : vcOp P ty b N kp o st K) : OpR P b N kp e st.H a o.dst w K ((execOp a.eval o).run P w) := by
  unfold vcOp at hk
  split at hk
  · rename_i sv hsv
    obtain ⟨v, h1, h2⟩ := pOp_sound hty h.tmok h.hp.ob hsv
    obtain ⟨y, hy, hr⟩ := nrm_eq sv _ hk h1
    obtain ⟨st', g1, g2, _⟩ := putK_sound h hr hy
    rw [h2 w fun _ => Agr.refl _ _ _]
    exact ⟨e, st', .of ⟨Kept.refl _ _, Agr.refl _ _ _⟩, g1, g2⟩
  · split at hk
    · rename_i g hg
      obtain ⟨sv, v, h1, h2, h3⟩ := pStop_sound hty h.tmok h.hp.ob hg hk
      obtain ⟨st', g1, g2, _⟩ := putK_sound h h1 h3
      rw [h2 w]
      exact ⟨e, st', .of ⟨Kept.refl _ _, Agr.refl _ _ _⟩, g1, g2⟩
    · exact vcEff_sound hty h hk
theorem effC (hty : Tys P ty) {o : Oper} {st : St} {K : SExit → St → Prop} (h : vcOp P ty b N kp o st K) : OpC P b N kp o st K :=
  ⟨fun _ _ _ hok => vcOp_sound hty hok h⟩
end
end Go.Vx


/- Guards, regions, code: their conditions, and that these are enough. -/
namespace Go.Vx
open Go.RowKit Go.Vc
section
variable (P : Program) (ty : List (Nat × TY)) {G : Glob} {n0 : Nat} (b : Bs G n0) (N : Nat) (plans : List (Nat × Pl))
def guardK (ops : Array Oper) (o : Oper) (st : St) (A : St → Prop) (K : St → Prop) : Prop :=
  match o.guard with
  | none => A st
  | some (j, want) => match (nth ops.toList j).bind (·.dst) with
    | some d => match lk st.T d with
      | some (.kb c) => match c == want with
        | true => A st
        | false => putK N o.dst (.tup []) st K
      | some (.d (.bool c)) => match st with
        | ⟨T, H, n⟩ => (c = want → A ⟨(d, .kb want) :: T, H, n⟩) ∧ (c = !want → putK N o.dst (.tup []) ⟨(d, .kb (!want)) :: T, H, n⟩ K)
      | some (.tup []) => putK N o.dst (.tup []) st K
      | _ => False
    | none => False
def vcSeq (ops : Array Oper) : List Oper → St → (SExit → St → Prop) → Prop
  | [], st, K => K .normal st
  | o :: r, st, K => guardK N ops o st (fun st => vcOp P ty b N false o st fun x st' => match x with
    | .normal => vcSeq ops r st' K
    | x => K x st') fun st' => vcSeq ops r st' K
def blksK (H0 : Hp) : Hp → (Hp → Prop) → Prop
  | [], K => K []
  | (i, _) :: r, K => match lk H0 i with
    | some (.blk t cs) => blksK H0 r fun l => K ((i, .blk t cs) :: l)
    | _ => blksK H0 r K
def stillB : Hp → Hp → Bool
  | [], _ => true
  | (i, _) :: r, H => match lk H i with
    | some (.blk _ _) => stillB r H
    | _ => false
def isOwn (T : Tl) (x : Operand) (i : Nat) : Bool :=
  match ev T x with
  | some (.own j _) => Nat.beq j i
  | _ => false
def stIn (T : Tl) (i : Nat) : List Oper → Bool
  | [] => false
  | o :: r => match o.op with
    | .store _ ad _ => isOwn T ad i || stIn T i r
    | _ => stIn T i r
def ldIn (T : Tl) (i : Nat) : List Oper → Bool
  | [] => false
  | o :: r => match o.op with
    | .load _ ad => isOwn T ad i || ldIn T i r
    | .fieldAddr _ ad _ => isOwn T ad i || ldIn T i r
    | _ => ldIn T i r
def offK (T : Tl) (ops : List Oper) : Hp → Hp
  | [] => []
  | (i, o) :: r => match stIn T i ops && !ldIn T i ops with
    | true => offK T ops r
    | false => (i, o) :: offK T ops r
def upd (dst : Option Tmp) (x : SV) (T0 : Tl) (K : Tl → Prop) : Prop :=
  match dst with
  | none => K T0
  | some d => K ((d, x) :: T0)
mutual
def pubS : SV → Bool
  | .d _ => true
  | .kb _ => true
  | .nl => true
  | .agg l => pubSs l
  | .tup l => pubSs l
  | .fn _ a b => pubSs a && pubSs b
  | .ifc _ x => pubS x
  | _ => false
def pubSs : List SV → Bool
  | [] => true
  | x :: r => match pubS x with
    | true => pubSs r
    | false => false
end
def pLow (T : Tl) (H : Hp) (op : Op) (k : Bool → SV → Prop) : Prop :=
  match ldB op with
  | true => False
  | false => match pOp ty T H op with
    | some sv => nrm sv (k false)
    | none => match pStop ty T H op with
      | some g => g (k false)
      | none => False
def depT (ops : Array Oper) : Nat → Nat → Nat → Bool
  | 0, _, _ => false
  | n + 1, j, i => match ops[j]? with
    | some o => o.after.any fun e => Region.binds .any e && (Nat.beq e.on i || depT ops n e.on i)
    | none => false
def finT (ops : Array Oper) (pl : Pl) : Bool := pl.fins.all fun j => pl.takes.all fun i => depT ops 7 j i
def isPick : Op → Bool
  | .pick _ _ _ => true
  | _ => false
def pTake (md : Bool) (T0 : Tl) (HL : Hp) (T : Tl) (H : Hp) (op : Op) (k : Bool → SV → Prop) : Prop :=
  match pOp ty T0 HL op with
  | some .any => pLow ty T H op k
  | some sv => match md && !pubS sv with
    | true => pLow ty T H op k
    | false => nrm sv (k true)
  | none => match isPick op with
    | true => pLow ty T H op k
    | false => match pStop ty T0 HL op with
      | some g => match md with
        | false => g (k true)
        | true => g fun sv => match pubS sv with
          | true => k true sv
          | false => False
      | none => pLow ty T H op k
def guardP (ops : Array Oper) (o : Oper) (T0 : Tl) (st : St) (A : Tl → St → Prop) (K : Tl → St → Prop) : Prop :=
  match o.guard with
  | none => A T0 st
  | some (j, want) => match (nth ops.toList j).bind (·.dst) with
    | some d => match lk st.T d with
      | some (.kb c) => match c == want with
        | true => A T0 st
        | false => putK N o.dst .any st fun st' => upd o.dst .any T0 fun T0' => K T0' st'
      | some (.d (.bool c)) => match st with
        | ⟨T, H, n⟩ => (c = want → A ((d, .kb want) :: T0) ⟨(d, .kb want) :: T, H, n⟩) ∧ (c = !want → putK N o.dst .any ⟨(d, .kb (!want)) :: T, H, n⟩ fun st' => upd o.dst .any ((d, .kb (!want)) :: T0) fun T0' => K T0' st')
      | _ => False
    | none => False
def kpOf (HL : Hp) (T : Tl) : Op → Bool
  | .store _ ad _ => match ev T ad with
    | some (.own i _) => match lk HL i with
      | none => false
      | _ => true
    | _ => true
  | _ => true
def kpM (md : Bool) (HL : Hp) (T : Tl) (op : Op) : Bool :=
  match md with
  | true => false
  | false => kpOf HL T op
def vcPlan (md : Bool) (ops : Array Oper) (HL : Hp) : Pl → Tl → St → (SExit → St → Prop) → Prop
  | .done, _, st, K => K .normal st
  | .take i r, T0, st, K => match nth ops.toList i with
    | none => False
    | some o => guardP N ops o T0 st (fun T0 st => pTake ty md T0 HL st.T st.H o.op fun c sv => putK N o.dst sv st fun st' => upd o.dst (match c with | true => sv | false => .any) T0 fun T0' => vcPlan md ops HL r T0' st' K) fun T0' st' => vcPlan md ops HL r T0' st' K
  | .pure i r, T0, st, K => match nth ops.toList i with
    | none => False
    | some o => match ldB o.op with
      | true => False
      | false => guardP N ops o T0 st (fun T0 st => pTake ty md T0 [] st.T st.H o.op fun c sv => putK N o.dst sv st fun st' => upd o.dst (match c with | true => sv | false => .any) T0 fun T0' => vcPlan md ops HL r T0' st' K) fun T0' st' => vcPlan md ops HL r T0' st' K
  | .run i r, T0, st, K => match nth ops.toList i with
    | none => False
    | some o => guardP N ops o T0 st (fun T0 st => vcOp P ty b N (kpM md HL st.T o.op) o st fun x st' => match x with
      | .normal => match stillB HL st'.H with
        | true => upd o.dst .any T0 fun T0' => vcPlan md ops HL r T0' st' K
        | false => False
      | x => K x st') fun T0' st' => vcPlan md ops HL r T0' st' K
  | .two i j ri rj, T0, st, K => match nth ops.toList i, nth ops.toList j with
    | some o, some o' => (guardP N ops o T0 st (fun T0 st => vcOp P ty b N (kpM md HL st.T o.op) o st fun x st' => match x with
        | .normal => match stillB HL st'.H with
          | true => upd o.dst .any T0 fun T0' => vcPlan md ops HL ri T0' st' K
          | false => False
        | x => K x st') fun T0' st' => vcPlan md ops HL ri T0' st' K) ∧
      (guardP N ops o' T0 st (fun T0 st => vcOp P ty b N (kpM md HL st.T o'.op) o' st fun x st' => match x with
        | .normal => match stillB HL st'.H with
          | true => upd o'.dst .any T0 fun T0' => vcPlan md ops HL rj T0' st' K
          | false => False
        | x => K x st') fun T0' st' => vcPlan md ops HL rj T0' st' K)
    | _, _ => False
  | .three i j k ri rj rk, T0, st, K => match nth ops.toList i, nth ops.toList j, nth ops.toList k with
    | some o, some o', some o'' => (guardP N ops o T0 st (fun T0 st => vcOp P ty b N (kpM md HL st.T o.op) o st fun x st' => match x with
        | .normal => match stillB HL st'.H with
          | true => upd o.dst .any T0 fun T0' => vcPlan md ops HL ri T0' st' K
          | false => False
        | x => K x st') fun T0' st' => vcPlan md ops HL ri T0' st' K) ∧
      (guardP N ops o' T0 st (fun T0 st => vcOp P ty b N (kpM md HL st.T o'.op) o' st fun x st' => match x with
        | .normal => match stillB HL st'.H with
          | true => upd o'.dst .any T0 fun T0' => vcPlan md ops HL rj T0' st' K
          | false => False
        | x => K x st') fun T0' st' => vcPlan md ops HL rj T0' st' K) ∧
      (guardP N ops o'' T0 st (fun T0 st => vcOp P ty b N (kpM md HL st.T o''.op) o'' st fun x st' => match x with
        | .normal => match stillB HL st'.H with
          | true => upd o''.dst .any T0 fun T0' => vcPlan md ops HL rk T0' st' K
          | false => False
        | x => K x st') fun T0' st' => vcPlan md ops HL rk T0' st' K)
    | _, _, _ => False
  | .four i j k l ri rj rk rl, T0, st, K => match nth ops.toList i, nth ops.toList j, nth ops.toList k, nth ops.toList l with
    | some o, some o', some o'', some o3 => (guardP N ops o T0 st (fun T0 st => vcOp P ty b N (kpM md HL st.T o.op) o st fun x st' => match x with
        | .normal => match stillB HL st'.H with
          | true => upd o.dst .any T0 fun T0' => vcPlan md ops HL ri T0' st' K
          | false => False
        | x => K x st') fun T0' st' => vcPlan md ops HL ri T0' st' K) ∧
      (guardP N ops o' T0 st (fun T0 st => vcOp P ty b N (kpM md HL st.T o'.op) o' st fun x st' => match x with
        | .normal => match stillB HL st'.H with
          | true => upd o'.dst .any T0 fun T0' => vcPlan md ops HL rj T0' st' K
          | false => False
        | x => K x st') fun T0' st' => vcPlan md ops HL rj T0' st' K) ∧
      (guardP N ops o'' T0 st (fun T0 st => vcOp P ty b N (kpM md HL st.T o''.op) o'' st fun x st' => match x with
        | .normal => match stillB HL st'.H with
          | true => upd o''.dst .any T0 fun T0' => vcPlan md ops HL rk T0' st' K
          | false => False
        | x => K x st') fun T0' st' => vcPlan md ops HL rk T0' st' K) ∧
      (guardP N ops o3 T0 st (fun T0 st => vcOp P ty b N (kpM md HL st.T o3.op) o3 st fun x st' => match x with
        | .normal => match stillB HL st'.H with
          | true => upd o3.dst .any T0 fun T0' => vcPlan md ops HL rl T0' st' K
          | false => False
        | x => K x st') fun T0' st' => vcPlan md ops HL rl T0' st' K)
    | _, _, _, _ => False
  | .fin i r, _, st, K => match nth ops.toList i with
    | none => False
    | some o => guardK N ops o st (fun st => vcOp P ty b N false o st fun x st' => match x with
      | .normal => vcPlan md ops HL r [] st' K
      | x => K x st') fun st' => vcPlan md ops HL r [] st' K
def Weak (st st' : St) : Prop := ∀ e a w, Ok b N e st a w → ∃ e' : Env, (∀ k, e.pub k → e'.pub k) ∧ Ok b N e' st' a w
theorem Weak.refl (st : St) : Weak b N st st := fun e _ _ h => ⟨e, fun _ h => h, h⟩
inductive LoopC (T0 : Tl) (body : St → (SExit → St → Prop) → Prop) (st : St) (K : SExit → St → Prop) : Prop
  | mk (I : Nat → St → Prop) (h0 : ∃ n st', I n st' ∧ Weak b N st st')
    (h : ∀ n st, I n st → body st fun x st' => match x with
      | .normal => ∃ m st'', m < n ∧ I m st'' ∧ Weak b N st' st''
      | x => K x st')
inductive CutC (one : (SExit → St → Prop) → Prop) (two : St → (SExit → St → Prop) → Prop) (K : SExit → St → Prop) : Prop
  | mk (M : St → Prop) (h1 : one fun x st' => match x with
      | .normal => ∃ st'', M st'' ∧ Weak b N st' st''
      | x => K x st') (h2 : ∀ st', M st' → two st' K)
def pubTK : Tl → (Tl → Prop) → Prop
  | [], K => K []
  | (t, x) :: r, K => match pubS x with
    | true => pubTK r fun T => K ((t, x) :: T)
    | false => pubTK r fun T => K ((t, .any) :: T)
def headR : Code → Option Nat
  | .region id _ _ => some id
  | .seq a b => match headR a with
    | some i => some i
    | none => headR b
  | .block _ b => headR b
  | .loop b => headR b
  | _ => none
def dsts : List Oper → List Nat
  | [] => []
  | o :: r => match o.dst with
    | some d => d :: dsts r
    | none => dsts r
def asgC : Code → List (List Nat)
  | .region _ ops _ => [dsts ops.toList]
  | .seq a b => asgC a ++ asgC b
  | .block _ b => asgC b
  | .loop b => asgC b
  | .scope b => asgC b
  | .cond _ x y => asgC x ++ asgC y
  | _ => []
def memN (t : Nat) : List Nat → Bool
  | [] => false
  | d :: r => match Nat.beq d t with
    | true => true
    | false => memN t r
def memNN (t : Nat) : List (List Nat) → Bool
  | [] => false
  | d :: r => match memN t d with
    | true => true
    | false => memNN t r
def keepK (l : List (List Nat)) : List Nat → Tl → (Tl → Prop) → Prop
  | _, [], K => K []
  | seen, (t, x) :: r, K => match memNN t l with
    | false => match memN t seen with
      | false => keepK l (t :: seen) r fun T => K ((t, x) :: T)
      | true => keepK l seen r K
    | true => keepK l seen r K
def isCut (c : Code) : Bool :=
  match headR c with
  | some i => match lk plans (100000 + i) with
    | some _ => true
    | none => false
  | none => false
def vcCode : Code → St → (SExit → St → Prop) → Prop
  | .skip, st, K => K .normal st
  | .label _, st, K => K .normal st
  | .exit id, st, K => K (.exit id) st
  | .goto l, st, K => K (.goto l) st
  | .ret, st, K => K .ret st
  | .seq x y, st, K => match isCut plans y with
    | false => vcCode x st fun e st' => match e with
      | .normal => vcCode y st' K
      | e => K e st'
    | true => CutC b N (vcCode x st) (vcCode y) K
  | .block id c, st, K => vcCode c st fun e st' => match e with
    | .exit id' => match Nat.beq id' id with
      | true => K .normal st'
      | false => K (.exit id') st'
    | e => K e st'
  | .cond c x y, st, K => match ev st.T c with
    | some (.kb c) => match c with
      | true => vcCode x st K
      | false => vcCode y st K
    | some (.d (.bool q)) => match c, st with
      | .tmp t, ⟨T, H, n⟩ => (q = true → vcCode x ⟨(t, .kb true) :: T, H, n⟩ K) ∧ (q = false → vcCode y ⟨(t, .kb false) :: T, H, n⟩ K)
      | _, st => (q = true → vcCode x st K) ∧ (q = false → vcCode y st K)
    | _ => False
  | .region id ops draw, st, K => match draw with
    | false => vcSeq P ty b N ops ops.toList st K
    | true => match lk plans id with
      | some plan => match st with
        | ⟨T, H, n⟩ => (Region.noSelect ops && Nat.ble plan.len ops.size && finT ops plan && planB ops plan (Array.replicate ops.size false)) = true ∧ match lk plans (200000 + id) with
          | some _ => pubTK T fun T0 => vcPlan P ty b N true ops [] plan T0 ⟨T, H, n⟩ K
          | none => blksK H (offK T ops.toList H) fun HL => vcPlan P ty b N false ops HL plan T ⟨T, H, n⟩ K
      | none => False
  | .loop c, st, K => keepK (asgC c) [] st.T fun T0 => LoopC b N T0 (vcCode c) st K
  | .scope c, st, K => vcCode c st fun e st' => match e with
    | .goto _ => False
    | e => K e st'
  | _, _, _ => False
end
section
variable {P : Program} {ty : List (Nat × TY)} {G : Glob} {n0 : Nat} {b : Bs G n0} {N : Nat} {plans : List (Nat × Pl)}
theorem Ok.know {e : Env} {st : St} {a : Act} {w : World} (h : Ok b N e st a w) {d : Nat} {c : Bool} (hd : lk st.T d = some (.d (.bool c))) : Ok b N e ⟨(d, .kb c) :: st.T, st.H, st.n⟩ a w := by
  refine ⟨h.sz, h.df, h.len, ?_, h.hp, h.below, h.dr, h.mine, h.frm, h.pre, h.gl⟩
  intro t sv ht
  simp only [lk] at ht
  split at ht
  · rename_i e
    obtain rfl := nbeq.1 e
    injection ht with ht; subst ht
    have := h.tm d _ hd
    simpa only [RepSV, RepD] using this
  · exact h.tm t sv ht
theorem Ok.boolAt {e : Env} {st : St} {a : Act} {w : World} (h : Ok b N e st a w) {d : Nat} {c : Bool} (hd : lk st.T d = some (.d (.bool c)) ∨ lk st.T d = some (.kb c)) : a.tmps.getD d undef = .bool c := by
  rcases hd with hd | hd
  · have := h.tm d _ hd; simpa only [RepSV, RepD] using this
  · have := h.tm d _ hd; simpa only [RepSV] using this
theorem rep_undef {e : Env} {w : World} : RepSV e w (.tup []) undef := by
  simp only [RepSV, RepSVs]
  exact ⟨#[], rfl, rfl⟩
theorem guardK_sound {ops : Array Oper} {o : Oper} {e : Env} {st : St} {A K : St → Prop} {a : Act} {w : World} (h : Ok b N e st a w) (hk : guardK N ops o st A K) :
    (Region.wanted o (yielded ops a.tmps) = true ∧ ∃ st', st'.H = st.H ∧ Ok b N e st' a w ∧ A st') ∨ (Region.wanted o (yielded ops a.tmps) = false ∧ ∃ st', Ok b N e st' (a.put o.dst undef) w ∧ K st') := by
  unfold guardK at hk
  split at hk
  · rename_i hg
    exact .inl ⟨by simp [Region.wanted, hg], st, rfl, h, hk⟩
  · rename_i j want hg
    split at hk <;> try (exact hk.elim)
    rename_i d hd
    split at hk <;> try (exact hk.elim)
    · rename_i c hc
      have hy := yielded_of hd (h.boolAt (.inr hc))
      split at hk
      · rename_i he
        exact .inl ⟨by simp [Region.wanted, hg, hy, eq_of_beq he], st, rfl, h, hk⟩
      · rename_i he
        obtain ⟨st', k1, k2, _⟩ := putK_sound (v := undef) h rep_undef hk
        exact .inr ⟨by simp only [Region.wanted, hg, hy]; simpa using he, st', k1, k2⟩
    · rename_i c hc
      have hy := yielded_of hd (h.boolAt (.inl hc))
      by_cases he : c = want
      · subst he
        exact .inl ⟨by simp [Region.wanted, hg, hy], ⟨(d, .kb c) :: st.T, st.H, st.n⟩, rfl, h.know hc, hk.1 rfl⟩
      · have he' : c = !want := by cases c <;> cases want <;> simp_all
        subst he'
        obtain ⟨st', k1, k2, _⟩ := putK_sound (v := undef) (h.know hc) rep_undef (hk.2 rfl)
        exact .inr ⟨by simp only [Region.wanted, hg, hy]; cases want <;> rfl, st', k1, k2⟩
    · rename_i hc
      have hv := h.tm d _ hc
      simp only [RepSV, RepSVs] at hv
      obtain ⟨l', e1, e2⟩ := hv
      have hy : yielded ops a.tmps j = none := by
        unfold yielded
        rw [← Array.getElem?_toList, ← nth_eq, hd]
        simp only [Option.bind_some]
        cases hg' : a.tmps[d]? with
        | none => rfl
        | some x =>
          have : a.tmps.getD d undef = x := by simp [hg']
          rw [e1] at this
          subst this
          rfl
      obtain ⟨st', k1, k2, _⟩ := putK_sound (v := undef) h rep_undef hk
      exact .inr ⟨by simp only [Region.wanted, hg, hy]; cases want <;> rfl, st', k1, k2⟩
def Kden {G : Glob} {n0 : Nat} (b : Bs G n0) (N : Nat) (K : SExit → St → Prop) : Exit → Act → World → Prop
  | .normal, a, w => ∃ e st, Ok b N e st a w ∧ K .normal st
  | .exit id, a, w => ∃ e st, Ok b N e st a w ∧ K (.exit id) st
  | .goto l, a, w => ∃ e st, Ok b N e st a w ∧ K (.goto l) st
  | .ret, a, w => ∃ e st, Ok b N e st a w ∧ K .ret st
  | .panic c, a, w => ∃ e st x v, c = [{ v, recovered := false }] ∧ RepSV e w x v ∧ Ok b N e ⟨[], st.H, st.n⟩ a w ∧ K (.pan x) st
  | .outgrown, _, _ => False
theorem Ok.noT {e : Env} {st : St} {a : Act} {w : World} (h : Ok b N e st a w) : Ok b N e ⟨[], st.H, st.n⟩ a w :=
  ⟨h.sz, h.df, h.len, fun t sv ht => by simp [lk] at ht, h.hp, h.below, h.dr, h.mine, h.frm, h.pre, h.gl⟩
theorem Kden_pan {K : SExit → St → Prop} {c : List PanicEntry} {a : Act} {d : Option Tmp} {v : Value} {w : World} (h : Kden b N K (.panic c) (a.put d v) w) : Kden b N K (.panic c) a w := by
  obtain ⟨e, st, x, u, h1, h2, h3, h4⟩ := h
  refine ⟨e, st, x, u, h1, h2, ⟨?_, ?_, h3.len, fun t sv ht => by simp [lk] at ht, h3.hp, h3.below, h3.dr, h3.mine, h3.frm, h3.pre, h3.gl⟩, h4⟩
  · have := h3.sz; cases d <;> simpa [Act.put] using this
  · have := h3.df; cases d <;> simpa [Act.put] using this
theorem OpR.wp {kp : Bool} {o : Oper} {e : Env} {H : Hp} {a : Act} {w : World} {K : SExit → St → Prop} {next : Act → World → Prop} {Q : Exit → Act → World → Prop}
    (h : OpR P b N kp e H a o.dst w K ((execOp a.eval o).run P w)) (hn : ∀ v w', AftS b N kp e H w a o.dst K v w' → next (a.put o.dst v) w') (hp : ∀ c w', PanS b N a K c w' → Q (.panic c) a w') : o.wp P a w next Q := by
  unfold Oper.wp
  generalize (execOp a.eval o).run P w = r at h
  cases r with
  | halt x w' =>
    cases x <;> simp only [OpR] at h
    exact hp _ _ h
  | ok n w' =>
    cases n <;> simp only [OpR] at h
    · exact hn _ _ h
    · exact hn _ _ h
    · refine Calls.mono h fun e w'' he => ?_
      cases e with
      | returned v => exact hn _ _ he
      | panicked c => exact hp _ _ he
      | outgrown => exact he.elim
theorem vcSeq_sound (hty : Tys P ty) {ops : Array Oper} : ∀ (l : List Oper) (e : Env) (st : St) (K : SExit → St → Prop) (a : Act) (w : World), Ok b N e st a w → vcSeq P ty b N ops l st K → wpList P ops (Kden b N K) l a w
  | [], e, st, K, a, w, h, hk => ⟨e, st, h, hk⟩
  | o :: r, e, st, K, a, w, h, hk => by
    simp only [vcSeq] at hk
    unfold wpList
    rcases guardK_sound h hk with ⟨hw, st', _, k1, k2⟩ | ⟨hw, st', k1, k2⟩
    · rw [if_pos hw]
      refine .inl ((vcOp_sound hty k1 k2).wp (fun v w' ha => ?_) fun c w' hc => ?_)
      · obtain ⟨e', st'', _, q1, q2⟩ := ha
        exact vcSeq_sound hty r e' st'' K _ w' q1 q2
      · obtain ⟨e', st'', x, v, q1, q2, q3, q4⟩ := hc
        exact ⟨e', st'', x, v, q1, q2, q3.noT, q4⟩
    · rw [if_neg (by simp [hw])]
      exact vcSeq_sound hty r e st' K _ w k1 k2
end
end Go.Vx


