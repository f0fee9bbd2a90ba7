/- What single operations ask for, where more must be known. -/
import Derived.Test.YtohmeplcjgmedaaDoorVxe
import Derived.OrdersHeld
namespace Go.Vx
open Go.RowKit Go.Vc

/-- An element of a slice that may be read: its cells are told. -/
inductive IdxC (n sz : Nat) (cs : List D) (j : Int) (K : SV → Prop) : Prop
  | mk (i : Nat) (hj : j = (i : Int)) (hi : i < n) (l : List D) (hl : (cs.drop (i * sz)).take sz = l) (hk : K (.d (.ptr l 0)))
/-- An element of an own slice. -/
inductive IdxR (n sz r : Nat) (j : Int) (K : SV → Prop) : Prop
  | mk (i : Nat) (hj : j = (i : Int)) (hi : i < n) (hk : K (.rowp r (i * sz)))

def pStop (ty : List (Nat × TY)) (T : Tl) (H : Hp) : Op → Option ((SV → Prop) → Prop)
  | .indexAddr t x ix => match lk ty t with
    | some y => match y.kd with
      | .slice e => match lk ty e with
        | some ey => match ev T x, ev T ix with
          | some (.d (.sl _ n cs)), some (.d (.int _ j)) => some (IdxC n ey.i.size cs j)
          | some (.row r), some (.d (.int _ j)) => match lk H r with
            | some (.row _ _ _ n _) => some (IdxR n ey.i.size r j)
            | _ => none
          | _, _ => none
        | none => none
      | _ => none
    | none => none
  | .pick c x y => match ev T c, ev T x, ev T y with
    | some (.kb b), some p, some q => match b with
      | true => some fun K => K p
      | false => some fun K => K q
    | some (.d (.bool b)), some p, some q => some fun K => (b = true → K p) ∧ (b = false → K q)
    | _, _, _ => none
  | .index t x ix => match lk ty t with
    | some y => match y.kd with
      | .str => match ev T x, ev T ix with
        | some (.d (.str s)), some (.d (.int _ j)) => some fun K => ∃ b, 0 ≤ j ∧ s[j.toNat]? = some b ∧ K (.d (.int .u8 b.toNat))
        | _, _ => none
      | _ => none
    | none => none
  | .binOp op t x y _ => match lk ty t with
    | some z => match z.kd with
      | .str => match op with
        | .add => match ev T x, ev T y with
          | some (.d (.str a)), some (.d (.str b)) => some fun K => a.size + b.size ≤ 9223372036854775807 ∧ K (.d (.str (a ++ b)))
          | _, _ => none
        | _ => none
      | .slice _ => match op, ev T x, ev T y with
        | .eql, some (.d (.sl _ n _)), some .nl => some fun K => ∀ c : Bool, (c = true → n = 0) → K (.d (.bool c))
        | .neq, some (.d (.sl _ n _)), some .nl => some fun K => ∀ c : Bool, (c = false → n = 0) → K (.d (.bool c))
        | _, _, _ => none
      | .int _ => match ev T x, ev T y with
        | some (.d (.int k a)), some (.d (.int k' b)) => match sameK k k' with
          | true => match op with
            | .quo => some fun K => b ≠ 0 ∧ K (.d (.int k (k.wrap (a.tdiv b))))
            | .rem => some fun K => b ≠ 0 ∧ K (.d (.int k (a.tmod b)))
            | _ => none
          | false => none
        | _, _ => none
      | _ => none
    | none => none
  | _ => none

section
variable {P : Program} {w : World} {f : Operand → Value} {e : Env}

theorem pStop_sound {ty : List (Nat × TY)} (hty : Tys P ty) {T : Tl} {H : Hp} (hT : TmOk e w T f) (hH : ObsOk e w H) {o : Oper} {g : (SV → Prop) → Prop} {K : SV → Prop} (h : pStop ty T H o.op = some g) (hg : g K) :
    ∃ sv v, RepSV e w sv v ∧ (∀ w', (execOp f o).run P w' = .ok (.value v) w') ∧ K sv := by
  obtain ⟨dst, op, type, pos, after, guard⟩ := o
  simp only at h
  unfold pStop at h
  split at h <;> try (cases h; done)
  · rename_i t x ix
    split at h <;> try (cases h; done)
    rename_i y hy
    split at h <;> try (cases h; done)
    rename_i el hkd
    split at h <;> try (cases h; done)
    rename_i ey hey
    have hu := (hty _ _ hy).slice hkd
    have hsz := fun w' => Vc.run_sizeOf (w := w') (hty _ _ hey).i
    have key : ∀ (A : Addr) (n c : Nat) (k : IntKind) (i : Nat), i < n → f x = .slice (some A) n c → f ix = .int k (i : Int) → ∀ w', (execOp f { dst, op := .indexAddr t x ix, type, pos, after, guard }).run P w' = .ok (.value (.pointer (some (A.add (i * ey.i.size))))) w' := by
      intro A n c k i hi hx hix w'
      simp only [execOp]
      refine run_val ?_
      rw [hx, hix]
      unfold Instr.indexAt
      simp only [asIntOf, Sem.run_bind, Sem.run_pure, Result.andThen_ok, run_under hu]
      have h0 : (0 : Int) ≤ (i : Int) := by omega
      have h1 : (i : Int) < (n : Int) := by omega
      simp only [Bool.and_false, Bool.false_eq_true, if_false, h0, h1, and_self, if_true]
      rw [Sem.run_bind, hsz]
      rfl
    split at h <;> try (cases h; done)
    · rename_i eb n cs k j hx hix
      injection h with h; subst h
      obtain ⟨i, rfl, hi, l, hl, hk⟩ := hg
      have h1 := hT _ _ hx
      have h2 := hT _ _ hix
      simp only [RepSV, RepD] at h1 h2
      obtain ⟨A, c, hv, hc1, hc2, hcA, hc3⟩ := h1
      obtain ⟨ad, rfl⟩ := hcA (by omega)
      refine ⟨_, .pointer (some (ad.add (i * ey.i.size))), ?_, fun w' => key ad n c k i hi hv h2 w', hk⟩
      simp only [RepSV, RepD]
      refine ⟨ad.add (i * ey.i.size), by rw [add_add]; simp, ?_⟩
      rw [← hl]
      exact (hc3.drop _).take _
    · rename_i r k j hx hix
      split at h <;> try (cases h; done)
      rename_i t1 eb sz n xs hr
      injection h with h; subst h
      obtain ⟨i, rfl, hi, hk⟩ := hg
      have h1 := hT _ _ hx
      have h2 := hT _ _ hix
      simp only [RepSV, RepD] at h1 h2
      obtain ⟨A, n', c, hv, hm⟩ := h1
      obtain ⟨A', c', vs, hm', hrow, _⟩ := hH _ _ hr
      rw [hv, hm'] at hm
      injection hm with hm; injection hm with e1 e2 e3
      subst e1; subst e2; subst e3
      obtain ⟨ad, rfl⟩ := hrow.some (by omega)
      refine ⟨_, .pointer (some (ad.add (i * ey.i.size))), ?_, fun w' => key ad n c' k i hi hv h2 w', hk⟩
      simp only [RepSV]
      exact ⟨ad, n, c', hm', rfl⟩
  · rename_i c x y
    split at h <;> try (cases h; done)
    · rename_i b p q hc hx hy
      have h1 := hT _ _ hc
      simp only [RepSV] at h1
      split at h
      · injection h with h; subst h
        refine ⟨p, _, hT _ _ hx, fun w' => ?_, hg⟩
        simp only [execOp, h1]; rfl
      · injection h with h; subst h
        refine ⟨q, _, hT _ _ hy, fun w' => ?_, hg⟩
        simp only [execOp, h1]; rfl
    · rename_i b p q hc hx hy
      have h1 := hT _ _ hc
      simp only [RepSV, RepD] at h1
      injection h with h; subst h
      cases b
      · refine ⟨q, _, hT _ _ hy, fun w' => ?_, hg.2 rfl⟩
        simp only [execOp, h1]; rfl
      · refine ⟨p, _, hT _ _ hx, fun w' => ?_, hg.1 rfl⟩
        simp only [execOp, h1]; rfl
  · rename_i t x ix
    split at h <;> try (cases h; done)
    rename_i y hy
    split at h <;> try (cases h; done)
    rename_i hkd
    have hu := (hty _ _ hy).str hkd
    split at h <;> try (cases h; done)
    rename_i s k j hx hix
    injection h with h; subst h
    obtain ⟨b, h0, hb, hk⟩ := hg
    have h1 := hT _ _ hx
    have h2 := hT _ _ hix
    simp only [RepSV, RepD] at h1 h2
    refine ⟨_, .int .u8 b.toNat, by simp only [RepSV, RepD], fun w' => ?_, hk⟩
    simp only [execOp]
    refine run_val ?_
    rw [h1, h2]
    unfold Instr.index
    simp only [asIntOf, Sem.run_bind, Sem.run_pure, Result.andThen_ok, run_under hu, h0, if_true, hb]
  · rename_i op' t x y t'
    split at h <;> try (cases h; done)
    rename_i z hz
    split at h <;> try (cases h; done)
    · rename_i hkd
      split at h <;> try (cases h; done)
      split at h <;> try (cases h; done)
      rename_i a b hx hy
      injection h with h; subst h
      have h1 := hT _ _ hx
      have h2 := hT _ _ hy
      simp only [RepSV, RepD] at h1 h2
      refine ⟨_, .string (a ++ b), by simp only [RepSV, RepD], fun w' => ?_, hg.2⟩
      simp only [execOp]
      refine run_val ?_
      rw [h1, h2, Sem.run_bind, eqGuard_str]
      have hle : ¬ (((a.size + b.size : Nat) : Int) > IntKind.i64.max) := by
        have : IntKind.i64.max = 9223372036854775807 := by decide
        rw [this]; have := hg.1; omega
      simp only [Result.andThen_ok, binOp, Op.stringOp, hle, if_false]
      rfl
    · rename_i el hkd
      have hu := (hty _ _ hz).slice hkd
      have heq : ∀ (A : Option Addr) (n c : Nat) (w' : World), (Op.equal t (.slice A n c) (.slice none 0 0)).run P w' = .ok A.isNone w' := by
        intro A n c w'
        unfold Op.equal
        rw [show Op.maxDepth = 9999 + 1 from rfl]
        unfold Op.equalIn
        rw [Sem.run_bind, run_under hu]
        cases A <;> rfl
      have hgu : ∀ (A : Option Addr) (n c : Nat) (w' : World), (eqGuard op' t x y (.slice A n c) (.slice none 0 0)).run P w' = .ok () w' := by
        intro A n c w'; unfold eqGuard; cases op' <;> rfl
      split at h <;> try (cases h; done)
      · rename_i eb n cs hx hy
        have h1 := hT _ _ hx
        have h2 := hT _ _ hy
        simp only [RepSV, RepD] at h1 h2
        obtain ⟨A, c, hv, _, _, hA, _⟩ := h1
        injection h with h; subst h
        refine ⟨_, .bool A.isNone, by simp only [RepSV, RepD], fun w' => ?_, hg A.isNone fun hn => ?_⟩
        · simp only [execOp]
          refine run_val ?_
          rw [hv, h2, Sem.run_bind, hgu]
          simp only [Result.andThen_ok, binOp]
          rw [Sem.run_bind, heq]
          rfl
        · rcases Nat.eq_zero_or_pos n with h0 | h0
          · exact h0
          · obtain ⟨ad, rfl⟩ := hA (by omega)
            cases hn
      · rename_i eb n cs hx hy
        have h1 := hT _ _ hx
        have h2 := hT _ _ hy
        simp only [RepSV, RepD] at h1 h2
        obtain ⟨A, c, hv, _, _, hA, _⟩ := h1
        injection h with h; subst h
        refine ⟨_, .bool (!A.isNone), by simp only [RepSV, RepD], fun w' => ?_, hg (!A.isNone) fun hn => ?_⟩
        · simp only [execOp]
          refine run_val ?_
          rw [hv, h2, Sem.run_bind, hgu]
          simp only [Result.andThen_ok, binOp]
          rw [Sem.run_bind, heq]
          rfl
        · rcases Nat.eq_zero_or_pos n with h0 | h0
          · exact h0
          · obtain ⟨ad, rfl⟩ := hA (by omega)
            cases hn
    · rename_i k0 hkd
      split at h <;> try (cases h; done)
      rename_i k a k' b hx hy
      split at h <;> try (cases h; done)
      rename_i hs
      obtain rfl := sameK_eq hs
      have h1 := hT _ _ hx
      have h2 := hT _ _ hy
      simp only [RepSV, RepD] at h1 h2
      split at h <;> try (cases h; done)
      · injection h with h; subst h
        refine ⟨_, .int k (k.wrap (a.tdiv b)), by simp only [RepSV, RepD], fun w' => ?_, hg.2⟩
        simp only [execOp]
        refine run_val ?_
        rw [h1, h2, Sem.run_bind, eqGuard_int]
        simp only [Result.andThen_ok, binOp, Op.intDiv, ne_eq, not_true, if_false, hg.1]
        rfl
      · injection h with h; subst h
        refine ⟨_, .int k (a.tmod b), by simp only [RepSV, RepD], fun w' => ?_, hg.2⟩
        simp only [execOp]
        refine run_val ?_
        rw [h1, h2, Sem.run_bind, eqGuard_int]
        simp only [Result.andThen_ok, binOp, Op.intDiv, ne_eq, not_true, if_false, hg.1]
        rfl
end
end Go.Vx
