/- Guards, regions, code: their conditions, and that these are enough. -/
import Derived.Test.YtohmeplcjgmedaaDoorVxi
import Derived.Scope
namespace Go.Vx
open Go.RowKit Go.Vc

section
variable (P : Program) (ty : List (Nat × TY)) {G : Glob} {n0 : Nat} (b : Bs G n0) (N : Nat) (plans : List (Nat × Pl))

/-- An operation under its guard. -/
def guardK (ops : Array Oper) (o : Oper) (st : St) (A : St → Prop) (K : St → Prop) : Prop :=
  match o.guard with
  | none => A st
  | some (j, want) => match (nth ops.toList j).bind (·.dst) with
    | some d => match lk st.T d with
      | some (.kb c) => match c == want with
        | true => A st
        | false => putK N o.dst (.tup []) st K
      | some (.d (.bool c)) => match st with
        | ⟨T, H, n⟩ => (c = want → A ⟨(d, .kb want) :: T, H, n⟩) ∧ (c = !want → putK N o.dst (.tup []) ⟨(d, .kb (!want)) :: T, H, n⟩ K)
      | some (.tup []) => putK N o.dst (.tup []) st K
      | _ => False
    | none => False

def vcSeq (ops : Array Oper) : List Oper → St → (SExit → St → Prop) → Prop
  | [], st, K => K .normal st
  | o :: r, st, K => guardK N ops o st (fun st => vcOp P ty b N false o st fun x st' => match x with
    | .normal => vcSeq ops r st' K
    | x => K x st') fun st' => vcSeq ops r st' K

/-- The blocks among the own objects. -/
def blksK (H0 : Hp) : Hp → (Hp → Prop) → Prop
  | [], K => K []
  | (i, _) :: r, K => match lk H0 i with
    | some (.blk t cs) => blksK H0 r fun l => K ((i, .blk t cs) :: l)
    | _ => blksK H0 r K
/-- Are they still there? -/
def stillB : Hp → Hp → Bool
  | [], _ => true
  | (i, _) :: r, H => match lk H i with
    | some (.blk _ _) => stillB r H
    | _ => false
/-- Does an operand name a place of own block i? -/
def isOwn (T : Tl) (x : Operand) (i : Nat) : Bool :=
  match ev T x with
  | some (.own j _) => Nat.beq j i
  | _ => false
def stIn (T : Tl) (i : Nat) : List Oper → Bool
  | [] => false
  | o :: r => match o.op with
    | .store _ ad _ => isOwn T ad i || stIn T i r
    | _ => stIn T i r
def ldIn (T : Tl) (i : Nat) : List Oper → Bool
  | [] => false
  | o :: r => match o.op with
    | .load _ ad => isOwn T ad i || ldIn T i r
    | .fieldAddr _ ad _ => isOwn T ad i || ldIn T i r
    | _ => ldIn T i r
/-- The objects without the blocks that a region writes and does not read. -/
def offK (T : Tl) (ops : List Oper) : Hp → Hp
  | [] => []
  | (i, o) :: r => match stIn T i ops && !ldIn T i ops with
    | true => offK T ops r
    | false => (i, o) :: offK T ops r
def upd (dst : Option Tmp) (x : SV) (T0 : Tl) (K : Tl → Prop) : Prop :=
  match dst with
  | none => K T0
  | some d => K ((d, x) :: T0)
mutual
/-- Is a value data that anyone may read? -/
def pubS : SV → Bool
  | .d _ => true
  | .kb _ => true
  | .nl => true
  | .agg l => pubSs l
  | .tup l => pubSs l
  | .fn _ a b => pubSs a && pubSs b
  | .ifc _ x => pubS x
  | _ => false
def pubSs : List SV → Bool
  | [] => true
  | x :: r => match pubS x with
    | true => pubSs r
    | false => false
end
/-- An operation that may be taken ahead: out of what was known when the region began, or without memory. -/
def pLow (T : Tl) (H : Hp) (op : Op) (k : Bool → SV → Prop) : Prop :=
  match ldB op with
  | true => False
  | false => match pOp ty T H op with
    | some sv => nrm sv (k false)
    | none => match pStop ty T H op with
      | some g => g (k false)
      | none => False
/-- Does operation j wait for operation i, by edges in a row? -/
def depT (ops : Array Oper) : Nat → Nat → Nat → Bool
  | 0, _, _ => false
  | n + 1, j, i => match ops[j]? with
    | some o => o.after.any fun e => Region.binds .any e && (Nat.beq e.on i || depT ops n e.on i)
    | none => false
def finT (ops : Array Oper) (pl : Pl) : Bool := pl.fins.all fun j => pl.takes.all fun i => depT ops 7 j i
def isPick : Op → Bool
  | .pick _ _ _ => true
  | _ => false
def pTake (md : Bool) (T0 : Tl) (HL : Hp) (T : Tl) (H : Hp) (op : Op) (k : Bool → SV → Prop) : Prop :=
  match pOp ty T0 HL op with
  | some .any => pLow ty T H op k
  | some sv => match md && !pubS sv with
    | true => pLow ty T H op k
    | false => nrm sv (k true)
  | none => match isPick op with
    | true => pLow ty T H op k
    | false => match pStop ty T0 HL op with
      | some g => match md with
        | false => g (k true)
        | true => g fun sv => match pubS sv with
          | true => k true sv
          | false => False
      | none => pLow ty T H op k
/-- A guard in a region that draws. -/
def guardP (ops : Array Oper) (o : Oper) (T0 : Tl) (st : St) (A : Tl → St → Prop) (K : Tl → St → Prop) : Prop :=
  match o.guard with
  | none => A T0 st
  | some (j, want) => match (nth ops.toList j).bind (·.dst) with
    | some d => match lk st.T d with
      | some (.kb c) => match c == want with
        | true => A T0 st
        | false => putK N o.dst .any st fun st' => upd o.dst .any T0 fun T0' => K T0' st'
      | some (.d (.bool c)) => match st with
        | ⟨T, H, n⟩ => (c = want → A ((d, .kb want) :: T0) ⟨(d, .kb want) :: T, H, n⟩) ∧ (c = !want → putK N o.dst .any ⟨(d, .kb (!want)) :: T, H, n⟩ fun st' => upd o.dst .any ((d, .kb (!want)) :: T0) fun T0' => K T0' st')
      | _ => False
    | none => False

/-- Must an operation leave what the loads that are taken ahead lean on? Not if it stores in another own block. -/
def kpOf (HL : Hp) (T : Tl) : Op → Bool
  | .store _ ad _ => match ev T ad with
    | some (.own i _) => match lk HL i with
      | none => false
      | _ => true
    | _ => true
  | _ => true
def kpM (md : Bool) (HL : Hp) (T : Tl) (op : Op) : Bool :=
  match md with
  | true => false
  | false => kpOf HL T op
def vcPlan (md : Bool) (ops : Array Oper) (HL : Hp) : Pl → Tl → St → (SExit → St → Prop) → Prop
  | .done, _, st, K => K .normal st
  | .take i r, T0, st, K => match nth ops.toList i with
    | none => False
    | some o => guardP N ops o T0 st (fun T0 st => pTake ty md T0 HL st.T st.H o.op fun c sv => putK N o.dst sv st fun st' => upd o.dst (match c with | true => sv | false => .any) T0 fun T0' => vcPlan md ops HL r T0' st' K) fun T0' st' => vcPlan md ops HL r T0' st' K
  | .pure i r, T0, st, K => match nth ops.toList i with
    | none => False
    | some o => match ldB o.op with
      | true => False
      | false => guardP N ops o T0 st (fun T0 st => pTake ty md T0 [] st.T st.H o.op fun c sv => putK N o.dst sv st fun st' => upd o.dst (match c with | true => sv | false => .any) T0 fun T0' => vcPlan md ops HL r T0' st' K) fun T0' st' => vcPlan md ops HL r T0' st' K
  | .run i r, T0, st, K => match nth ops.toList i with
    | none => False
    | some o => guardP N ops o T0 st (fun T0 st => vcOp P ty b N (kpM md HL st.T o.op) o st fun x st' => match x with
      | .normal => match stillB HL st'.H with
        | true => upd o.dst .any T0 fun T0' => vcPlan md ops HL r T0' st' K
        | false => False
      | x => K x st') fun T0' st' => vcPlan md ops HL r T0' st' K
  | .two i j ri rj, T0, st, K => match nth ops.toList i, nth ops.toList j with
    | some o, some o' => (guardP N ops o T0 st (fun T0 st => vcOp P ty b N (kpM md HL st.T o.op) o st fun x st' => match x with
        | .normal => match stillB HL st'.H with
          | true => upd o.dst .any T0 fun T0' => vcPlan md ops HL ri T0' st' K
          | false => False
        | x => K x st') fun T0' st' => vcPlan md ops HL ri T0' st' K) ∧
      (guardP N ops o' T0 st (fun T0 st => vcOp P ty b N (kpM md HL st.T o'.op) o' st fun x st' => match x with
        | .normal => match stillB HL st'.H with
          | true => upd o'.dst .any T0 fun T0' => vcPlan md ops HL rj T0' st' K
          | false => False
        | x => K x st') fun T0' st' => vcPlan md ops HL rj T0' st' K)
    | _, _ => False
  | .three i j k ri rj rk, T0, st, K => match nth ops.toList i, nth ops.toList j, nth ops.toList k with
    | some o, some o', some o'' => (guardP N ops o T0 st (fun T0 st => vcOp P ty b N (kpM md HL st.T o.op) o st fun x st' => match x with
        | .normal => match stillB HL st'.H with
          | true => upd o.dst .any T0 fun T0' => vcPlan md ops HL ri T0' st' K
          | false => False
        | x => K x st') fun T0' st' => vcPlan md ops HL ri T0' st' K) ∧
      (guardP N ops o' T0 st (fun T0 st => vcOp P ty b N (kpM md HL st.T o'.op) o' st fun x st' => match x with
        | .normal => match stillB HL st'.H with
          | true => upd o'.dst .any T0 fun T0' => vcPlan md ops HL rj T0' st' K
          | false => False
        | x => K x st') fun T0' st' => vcPlan md ops HL rj T0' st' K) ∧
      (guardP N ops o'' T0 st (fun T0 st => vcOp P ty b N (kpM md HL st.T o''.op) o'' st fun x st' => match x with
        | .normal => match stillB HL st'.H with
          | true => upd o''.dst .any T0 fun T0' => vcPlan md ops HL rk T0' st' K
          | false => False
        | x => K x st') fun T0' st' => vcPlan md ops HL rk T0' st' K)
    | _, _, _ => False
  | .fin i r, _, st, K => match nth ops.toList i with
    | none => False
    | some o => guardK N ops o st (fun st => vcOp P ty b N false o st fun x st' => match x with
      | .normal => vcPlan md ops HL r [] st' K
      | x => K x st') fun st' => vcPlan md ops HL r [] st' K

/-- A state says no more than another one. -/
def Weak (st st' : St) : Prop := ∀ e a w, Ok b N e st a w → ∃ e' : Env, (∀ k, e.pub k → e'.pub k) ∧ Ok b N e' st' a w
theorem Weak.refl (st : St) : Weak b N st st := fun e _ _ h => ⟨e, fun _ h => h, h⟩

/-- A loop: an invariant, with a measure. T0: the temporaries that the loop does not assign. -/
inductive LoopC (T0 : Tl) (body : St → (SExit → St → Prop) → Prop) (st : St) (K : SExit → St → Prop) : Prop
  | mk (I : Nat → St → Prop) (h0 : ∃ n st', I n st' ∧ Weak b N st st')
    (h : ∀ n st, I n st → body st fun x st' => match x with
      | .normal => ∃ m st'', m < n ∧ I m st'' ∧ Weak b N st' st''
      | x => K x st')
/-- Here a state may be said anew. -/
inductive CutC (one : (SExit → St → Prop) → Prop) (two : St → (SExit → St → Prop) → Prop) (K : SExit → St → Prop) : Prop
  | mk (M : St → Prop) (h1 : one fun x st' => match x with
      | .normal => ∃ st'', M st'' ∧ Weak b N st' st''
      | x => K x st') (h2 : ∀ st', M st' → two st' K)

/-- The temporaries that are data; of any other one nothing is said. -/
def pubTK : Tl → (Tl → Prop) → Prop
  | [], K => K []
  | (t, x) :: r, K => match pubS x with
    | true => pubTK r fun T => K ((t, x) :: T)
    | false => pubTK r fun T => K ((t, .any) :: T)
def headR : Code → Option Nat
  | .region id _ _ => some id
  | .seq a b => match headR a with
    | some i => some i
    | none => headR b
  | .block _ b => headR b
  | .loop b => headR b
  | _ => none
def dsts : List Oper → List Nat
  | [] => []
  | o :: r => match o.dst with
    | some d => d :: dsts r
    | none => dsts r
/-- The temporaries that a piece of code assigns. -/
def asgC : Code → List (List Nat)
  | .region _ ops _ => [dsts ops.toList]
  | .seq a b => asgC a ++ asgC b
  | .block _ b => asgC b
  | .loop b => asgC b
  | .scope b => asgC b
  | .cond _ x y => asgC x ++ asgC y
  | _ => []
def memN (t : Nat) : List Nat → Bool
  | [] => false
  | d :: r => match Nat.beq d t with
    | true => true
    | false => memN t r
def memNN (t : Nat) : List (List Nat) → Bool
  | [] => false
  | d :: r => match memN t d with
    | true => true
    | false => memNN t r
def keepK (l : List (List Nat)) : List Nat → Tl → (Tl → Prop) → Prop
  | _, [], K => K []
  | seen, (t, x) :: r, K => match memNN t l with
    | false => match memN t seen with
      | false => keepK l (t :: seen) r fun T => K ((t, x) :: T)
      | true => keepK l seen r K
    | true => keepK l seen r K
/-- Is there a cut ahead of this piece? (A key from 100000 on among the plans.) -/
def isCut (c : Code) : Bool :=
  match headR c with
  | some i => match lk plans (100000 + i) with
    | some _ => true
    | none => false
  | none => false

def vcCode : Code → St → (SExit → St → Prop) → Prop
  | .skip, st, K => K .normal st
  | .label _, st, K => K .normal st
  | .exit id, st, K => K (.exit id) st
  | .goto l, st, K => K (.goto l) st
  | .ret, st, K => K .ret st
  | .seq x y, st, K => match isCut plans y with
    | false => vcCode x st fun e st' => match e with
      | .normal => vcCode y st' K
      | e => K e st'
    | true => CutC b N (vcCode x st) (vcCode y) K
  | .block id c, st, K => vcCode c st fun e st' => match e with
    | .exit id' => match Nat.beq id' id with
      | true => K .normal st'
      | false => K (.exit id') st'
    | e => K e st'
  | .cond c x y, st, K => match ev st.T c with
    | some (.kb c) => match c with
      | true => vcCode x st K
      | false => vcCode y st K
    | some (.d (.bool q)) => match c, st with
      | .tmp t, ⟨T, H, n⟩ => (q = true → vcCode x ⟨(t, .kb true) :: T, H, n⟩ K) ∧ (q = false → vcCode y ⟨(t, .kb false) :: T, H, n⟩ K)
      | _, st => (q = true → vcCode x st K) ∧ (q = false → vcCode y st K)
    | _ => False
  | .region id ops draw, st, K => match draw with
    | false => vcSeq P ty b N ops ops.toList st K
    | true => match lk plans id with
      | some plan => match st with
        | ⟨T, H, n⟩ => (Region.noSelect ops && Nat.ble plan.len ops.size && finT ops plan && planB ops plan (Array.replicate ops.size false)) = true ∧ match lk plans (200000 + id) with
          | some _ => pubTK T fun T0 => vcPlan P ty b N true ops [] plan T0 ⟨T, H, n⟩ K
          | none => blksK H (offK T ops.toList H) fun HL => vcPlan P ty b N false ops HL plan T ⟨T, H, n⟩ K
      | none => False
  | .loop c, st, K => keepK (asgC c) [] st.T fun T0 => LoopC b N T0 (vcCode c) st K
  | .scope c, st, K => vcCode c st fun e st' => match e with
    | .goto _ => False
    | e => K e st'
  | _, _, _ => False
end

section
variable {P : Program} {ty : List (Nat × TY)} {G : Glob} {n0 : Nat} {b : Bs G n0} {N : Nat} {plans : List (Nat × Pl)}

theorem Ok.know {e : Env} {st : St} {a : Act} {w : World} (h : Ok b N e st a w) {d : Nat} {c : Bool} (hd : lk st.T d = some (.d (.bool c))) : Ok b N e ⟨(d, .kb c) :: st.T, st.H, st.n⟩ a w := by
  refine ⟨h.sz, h.df, h.len, ?_, h.hp, h.below, h.dr, h.mine, h.frm, h.pre, h.gl⟩
  intro t sv ht
  simp only [lk] at ht
  split at ht
  · rename_i e
    obtain rfl := nbeq.1 e
    injection ht with ht; subst ht
    have := h.tm d _ hd
    simpa only [RepSV, RepD] using this
  · exact h.tm t sv ht
theorem Ok.boolAt {e : Env} {st : St} {a : Act} {w : World} (h : Ok b N e st a w) {d : Nat} {c : Bool} (hd : lk st.T d = some (.d (.bool c)) ∨ lk st.T d = some (.kb c)) : a.tmps.getD d undef = .bool c := by
  rcases hd with hd | hd
  · have := h.tm d _ hd; simpa only [RepSV, RepD] using this
  · have := h.tm d _ hd; simpa only [RepSV] using this

theorem rep_undef {e : Env} {w : World} : RepSV e w (.tup []) undef := by
  simp only [RepSV, RepSVs]
  exact ⟨#[], rfl, rfl⟩
theorem guardK_sound {ops : Array Oper} {o : Oper} {e : Env} {st : St} {A K : St → Prop} {a : Act} {w : World} (h : Ok b N e st a w) (hk : guardK N ops o st A K) :
    (Region.wanted o (yielded ops a.tmps) = true ∧ ∃ st', st'.H = st.H ∧ Ok b N e st' a w ∧ A st') ∨ (Region.wanted o (yielded ops a.tmps) = false ∧ ∃ st', Ok b N e st' (a.put o.dst undef) w ∧ K st') := by
  unfold guardK at hk
  split at hk
  · rename_i hg
    exact .inl ⟨by simp [Region.wanted, hg], st, rfl, h, hk⟩
  · rename_i j want hg
    split at hk <;> try (exact hk.elim)
    rename_i d hd
    split at hk <;> try (exact hk.elim)
    · rename_i c hc
      have hy := yielded_of hd (h.boolAt (.inr hc))
      split at hk
      · rename_i he
        exact .inl ⟨by simp [Region.wanted, hg, hy, eq_of_beq he], st, rfl, h, hk⟩
      · rename_i he
        obtain ⟨st', k1, k2, _⟩ := putK_sound (v := undef) h rep_undef hk
        exact .inr ⟨by simp only [Region.wanted, hg, hy]; simpa using he, st', k1, k2⟩
    · rename_i c hc
      have hy := yielded_of hd (h.boolAt (.inl hc))
      by_cases he : c = want
      · subst he
        exact .inl ⟨by simp [Region.wanted, hg, hy], ⟨(d, .kb c) :: st.T, st.H, st.n⟩, rfl, h.know hc, hk.1 rfl⟩
      · have he' : c = !want := by cases c <;> cases want <;> simp_all
        subst he'
        obtain ⟨st', k1, k2, _⟩ := putK_sound (v := undef) (h.know hc) rep_undef (hk.2 rfl)
        exact .inr ⟨by simp only [Region.wanted, hg, hy]; cases want <;> rfl, st', k1, k2⟩
    · rename_i hc
      have hv := h.tm d _ hc
      simp only [RepSV, RepSVs] at hv
      obtain ⟨l', e1, e2⟩ := hv
      have hy : yielded ops a.tmps j = none := by
        unfold yielded
        rw [← Array.getElem?_toList, ← nth_eq, hd]
        simp only [Option.bind_some]
        cases hg' : a.tmps[d]? with
        | none => rfl
        | some x =>
          have : a.tmps.getD d undef = x := by simp [hg']
          rw [e1] at this
          subst this
          rfl
      obtain ⟨st', k1, k2, _⟩ := putK_sound (v := undef) h rep_undef hk
      exact .inr ⟨by simp only [Region.wanted, hg, hy]; cases want <;> rfl, st', k1, k2⟩

/-- What is asked behind a piece of code, as a condition on the machine's state. -/
def Kden {G : Glob} {n0 : Nat} (b : Bs G n0) (N : Nat) (K : SExit → St → Prop) : Exit → Act → World → Prop
  | .normal, a, w => ∃ e st, Ok b N e st a w ∧ K .normal st
  | .exit id, a, w => ∃ e st, Ok b N e st a w ∧ K (.exit id) st
  | .goto l, a, w => ∃ e st, Ok b N e st a w ∧ K (.goto l) st
  | .ret, a, w => ∃ e st, Ok b N e st a w ∧ K .ret st
  | .panic c, a, w => ∃ e st x v, c = [{ v, recovered := false }] ∧ RepSV e w x v ∧ Ok b N e ⟨[], st.H, st.n⟩ a w ∧ K (.pan x) st
  | .outgrown, _, _ => False
theorem Kden_mono {K K' : SExit → St → Prop} (h : ∀ e st, K e st → K' e st) {x : Exit} {a : Act} {w : World} (hk : Kden b N K x a w) : Kden b N K' x a w := by
  cases x <;> first | exact hk.elim | (obtain ⟨e, st, h1, h2⟩ := hk; exact ⟨e, st, h1, h _ _ h2⟩) | (obtain ⟨e, st, x, v, h1, h2, h3, h4⟩ := hk; exact ⟨e, st, x, v, h1, h2, h3, h _ _ h4⟩)
theorem Ok.noT {e : Env} {st : St} {a : Act} {w : World} (h : Ok b N e st a w) : Ok b N e ⟨[], st.H, st.n⟩ a w :=
  ⟨h.sz, h.df, h.len, fun t sv ht => by simp [lk] at ht, h.hp, h.below, h.dr, h.mine, h.frm, h.pre, h.gl⟩
theorem Kden_pan {K : SExit → St → Prop} {c : List PanicEntry} {a : Act} {d : Option Tmp} {v : Value} {w : World} (h : Kden b N K (.panic c) (a.put d v) w) : Kden b N K (.panic c) a w := by
  obtain ⟨e, st, x, u, h1, h2, h3, h4⟩ := h
  refine ⟨e, st, x, u, h1, h2, ⟨?_, ?_, h3.len, fun t sv ht => by simp [lk] at ht, h3.hp, h3.below, h3.dr, h3.mine, h3.frm, h3.pre, h3.gl⟩, h4⟩
  · have := h3.sz; cases d <;> simpa [Act.put] using this
  · have := h3.df; cases d <;> simpa [Act.put] using this

/-- A run of an operation, as the machine's rule has it. -/
theorem OpR.wp {kp : Bool} {o : Oper} {e : Env} {H : Hp} {a : Act} {w : World} {K : SExit → St → Prop} {next : Act → World → Prop} {Q : Exit → Act → World → Prop}
    (h : OpR P b N kp e H a o.dst w K ((execOp a.eval o).run P w)) (hn : ∀ v w', AftS b N kp e H w a o.dst K v w' → next (a.put o.dst v) w') (hp : ∀ c w', PanS b N a K c w' → Q (.panic c) a w') : o.wp P a w next Q := by
  unfold Oper.wp
  generalize (execOp a.eval o).run P w = r at h
  cases r with
  | halt x w' =>
    cases x <;> simp only [OpR] at h
    exact hp _ _ h
  | ok n w' =>
    cases n <;> simp only [OpR] at h
    · exact hn _ _ h
    · exact hn _ _ h
    · refine Calls.mono h fun e w'' he => ?_
      cases e with
      | returned v => exact hn _ _ he
      | panicked c => exact hp _ _ he
      | outgrown => exact he.elim

theorem vcSeq_sound (hty : Tys P ty) {ops : Array Oper} : ∀ (l : List Oper) (e : Env) (st : St) (K : SExit → St → Prop) (a : Act) (w : World), Ok b N e st a w → vcSeq P ty b N ops l st K → wpList P ops (Kden b N K) l a w
  | [], e, st, K, a, w, h, hk => ⟨e, st, h, hk⟩
  | o :: r, e, st, K, a, w, h, hk => by
    simp only [vcSeq] at hk
    unfold wpList
    rcases guardK_sound h hk with ⟨hw, st', _, k1, k2⟩ | ⟨hw, st', k1, k2⟩
    · rw [if_pos hw]
      refine .inl ((vcOp_sound hty k1 k2).wp (fun v w' ha => ?_) fun c w' hc => ?_)
      · obtain ⟨e', st'', _, q1, q2⟩ := ha
        exact vcSeq_sound hty r e' st'' K _ w' q1 q2
      · obtain ⟨e', st'', x, v, q1, q2, q3, q4⟩ := hc
        exact ⟨e', st'', x, v, q1, q2, q3.noT, q4⟩
    · rw [if_neg (by simp [hw])]
      exact vcSeq_sound hty r e st' K _ w k1 k2
end
end Go.Vx
