/- Symbolic states, what they say of a machine's state, and the conditions that a piece of code asks for. -/
import Derived.Test.YtohmeplcjgmedaaDoorVcc
import Derived.Maps.AppendAt
import Derived.Laws.AppendOwn
namespace Go.Vc
open Go.RowKit

/-- A slice of the call's own that may grow: its value, the element's type, its cells an element, all cells. -/
structure Row where
  v : Value
  e : TypeId
  sz : Nat
  xs : List Value
def rowB : Value → Option Nat
  | .slice (some a) _ _ => some a.block
  | _ => none
def RowOk (w : World) (r : Row) : Prop := ∃ n, r.xs.length = n * r.sz ∧ ((r.v = .slice none 0 0 ∧ n = 0) ∨
  ∃ g o cap cur, r.v = .slice (some ⟨g, o, none⟩) n cap ∧ w.heap[g]? = some (.cells cur r.e (0, 0)) ∧ n ≤ cap ∧ cap ≤ maxLen ∧ o + cap * r.sz ≤ cur.size ∧ (cur.toList.drop o).take (n * r.sz) = r.xs)

structure St where
  T : Tl
  ρ : List Nat
  E : El
  R : List Row
  pub : Nat → Prop
  s : World

/-- The world in which a call began, and the old blocks that it may write. -/
structure Base where
  w : World
  M : Nat → Prop
/-- What was there stays, but for the blocks of M. -/
structure Only (M : Nat → Prop) (w w' : World) : Prop where
  os : w'.os = w.os
  tape : w'.tape = w.tape
  output : w'.output = w.output
  size : w.heap.size ≤ w'.heap.size
  block : ∀ k, k < w.heap.size → ¬ M k → w'.heap[k]? = w.heap[k]?
/-- A block that the call may write. -/
def Base.mine (b : Base) (k : Nat) : Prop := b.M k ∨ b.w.heap.size ≤ k

/-- What a state says of the world. -/
structure Wd (w0 : Base) (st : St) (w : World) : Prop where
  below : Only w0.M w0.w w
  size : st.s.heap.size ≤ w.heap.size
  pub : ∀ b, st.pub b → b < st.s.heap.size ∧ w.heap[b]? = st.s.heap[b]?
  ent : EntOk st.ρ st.E w
  entN : ∀ i c t, lk st.E i = some (c, t) → i < st.ρ.length ∧ w0.mine (st.ρ.getD i 0) ∧ ¬ st.pub (st.ρ.getD i 0)
  inj : ∀ i j, (lk st.E i).isSome = true → (lk st.E j).isSome = true → i ≠ j → st.ρ.getD i 0 ≠ st.ρ.getD j 0
  row : ∀ r ∈ st.R, RowOk w r ∧ ∀ g, rowB r.v = some g → w0.mine g ∧ ¬ st.pub g ∧ ∀ i, (lk st.E i).isSome = true → st.ρ.getD i 0 ≠ g
  rinj : st.R.Pairwise fun r r' => ∀ g, rowB r.v = some g → rowB r'.v ≠ some g

structure Ok (N : Nat) (w0 : Base) (st : St) (a : Act) (w : World) : Prop where
  sz : a.tmps.size = N
  df : a.defers = []
  tm : ∀ t sv, lk st.T t = some sv → a.tmps.getD t undef = den st.ρ sv
  wd : Wd w0 st w

theorem Ok.tmok {N : Nat} {w0 : Base} {st : St} {a : Act} {w : World} (h : Ok N w0 st a w) : TmOk st.ρ st.T a.eval := by
  intro x sv hx
  cases x with
  | tmp t => exact h.tm t sv hx
  | const v => cases v <;> simp only [ev, Option.some.injEq] at hx <;> subst hx <;> rfl
  | global g => simp only [ev, Option.some.injEq] at hx; subst hx; rfl
  | func g => simp only [ev, Option.some.injEq] at hx; subst hx; rfl

/-- The order in which a region that draws is gone through: an operation taken first; one that alone may come up; two that may, in either order. -/
inductive Pl where
  | done
  | take (i : Nat) (r : Pl)
  | run (i : Nat) (r : Pl)
  | two (i j : Nat) (ri rj : Pl)
  | three (i j k : Nat) (ri rj rk : Pl)
  | fin (i : Nat) (r : Pl)
  | pure (i : Nat) (r : Pl)
def Pl.takes : Pl → List Nat
  | .done => []
  | .take i r => i :: r.takes
  | .run _ r => r.takes
  | .two _ _ ri rj => ri.takes ++ rj.takes
  | .three _ _ _ ri rj rk => ri.takes ++ (rj.takes ++ rk.takes)
  | .fin _ r => r.takes
  | .pure _ r => r.takes
def Pl.fins : Pl → List Nat
  | .done => []
  | .take _ r => r.fins
  | .run _ r => r.fins
  | .two _ _ ri rj => ri.fins ++ rj.fins
  | .three _ _ _ ri rj rk => ri.fins ++ (rj.fins ++ rk.fins)
  | .fin i r => i :: r.fins
  | .pure _ r => r.fins
def Pl.onlyFins : Pl → Bool
  | .done => true
  | .fin _ r => r.onlyFins
  | .pure _ r => r.onlyFins
  | _ => false
def Pl.len : Pl → Nat
  | .done => 0
  | .take _ r => r.len + 1
  | .run _ r => r.len + 1
  | .two _ _ ri rj => Nat.max ri.len rj.len + 1
  | .three _ _ _ ri rj rk => max ri.len (max rj.len rk.len) + 1
  | .fin _ r => r.len + 1
  | .pure _ r => r.len + 1

section
variable (P : Program) (ty : List (Nat × TI)) (N : Nat) (w0 : Base) (plans : List (Nat × (List Nat × Pl)))

def putK (dst : Option Tmp) (sv : SV) (st : St) (K : St → Prop) : Prop :=
  match dst with
  | none => K st
  | some d => match Nat.blt d N, st with
    | true, ⟨T, ρ, E, R, pub, s⟩ => K ⟨(d, sv) :: T, ρ, E, R, pub, s⟩
    | false, _ => False

def allT (n : Nat) : Tl → Bool
  | [] => true
  | (_, x) :: r => match okN n x with
    | true => allT n r
    | false => false
def allE (n : Nat) : El → Bool
  | [] => true
  | (_, (l, _)) :: r => match okNL n l with
    | true => allE n r
    | false => false

/-- A pure operation, some of them under conditions. -/
def pStep (Stab : World → Prop) (T : Tl) (E : El) (op : Op) (K : SV → Prop) : Prop :=
  match pOp ty T E op with
  | some sv => K sv
  | none => match op with
    | .load t x => match ev T x with
      | some (.v (.pointer (some a))) => ∃ v, (∀ w, Stab w → (loadVar t a).run P w = .ok v w) ∧ K (.v v)
      | _ => False
    | .indexAddr t x i => match lk ty t with
      | some ti => match ti.elem with
        | some e => match lk ty e with
          | some ei => match ev T x, ev T i with
            | some (.v (.slice A n _)), some (.v (.int _ j)) => ∃ ad, A = some ad ∧ 0 ≤ j ∧ j < (n : Int) ∧ K (.v (.pointer (some (ad.add (j.toNat * ei.size)))))
            | some (.osl k n _), some (.v (.int _ j)) => 0 ≤ j ∧ j < (n : Int) ∧ K (.own k (j.toNat * ei.size))
            | _, _ => False
          | none => False
        | none => False
      | none => False
    | .pick c x y => match ev T c, ev T x, ev T y with
      | some (.kb b), some p, some q => match b with
        | true => K p
        | false => K q
      | some (.v (.bool b)), some p, some q => (b = true → K p) ∧ (b = false → K q)
      | _, _, _ => False
    | .index t x i => match lk ty t with
      | some ti => match ti.str with
        | true => match ev T x, ev T i with
          | some (.v (.string s)), some (.v (.int _ j)) => 0 ≤ j ∧ ∃ b, s[j.toNat]? = some b ∧ K (.v (.int .u8 b.toNat))
          | _, _ => False
        | false => False
      | none => False
    | _ => False

def evF (ρ : List Nat) (T : Tl) (x : Operand) : Value :=
  match ev T x with
  | some sv => den ρ sv
  | none => undef

def Goes (f : FuncId) : Prop := ∀ args w, (callFunc f args).run P w = .ok (.enter f args) w

/-- What a run of an operation must come to. -/
def GenR (Φ : Value → World → Prop) : Result Next → Prop
  | .ok (.value v) w' => Φ v w'
  | .ok .skip w' => Φ undef w'
  | .ok (.enter f args) w' => Calls P f args w' fun e w'' => ∃ v, e = .returned v ∧ Φ v w''
  | _ => False

/-- What comes behind an operation of which no more is known: a state with the same temporaries. -/
def AfterK (dst : Option Tmp) (st : St) (K : St → Prop) (v : Value) (w' : World) : Prop :=
  match st with
  | ⟨T, ρ, _, _, _, _⟩ => ∃ E R pub s, Wd w0 ⟨T, ρ, E, R, pub, s⟩ w' ∧ putK N dst (.v v) ⟨T, ρ, E, R, pub, s⟩ K

/-- Lists laid out before they are handed on. -/
def snocK : List Nat → Nat → (List Nat → Prop) → Prop
  | [], g, K => K [g]
  | a :: r, g, K => snocK r g fun l => K (a :: l)
def lenK : List Nat → (Nat → Prop) → Prop
  | [], K => K 0
  | _ :: r, K => lenK r fun n => K (n + 1)
/-- A new block of the call's own. -/
def newK (cs : List SV) (t : TypeId) (st : St) (K : Nat → St → Prop) : Prop :=
  match st with
  | ⟨T, ρ, E, R, pub, s⟩ => match okNL ρ.length cs, allT ρ.length T, allE ρ.length E with
    | true, true, true => ∀ g, snocK ρ g fun ρ' => lenK ρ fun n => K n ⟨T, ρ', (n, (cs, t)) :: E, R, pub, s⟩
    | _, _, _ => False

def scalar : SV → Bool
  | .v (.agg _) => false
  | .v (.tuple _) => false
  | .agg _ => false
  | .tup _ => false
  | _ => true
def scalars : List SV → Bool
  | [] => true
  | x :: r => match scalar x with
    | true => scalars r
    | false => false

def isP (T : Tl) : Op → Bool
  | .move _ | .assign _ | .extract _ _ | .unOp _ _ _ | .fieldAddr _ _ _ | .nilCheck _ | .build _ _ | .makeFunc _ _ _ | .indexAddr _ _ _ | .pick _ _ _ | .makeInterface _ _ => true
  | .index _ x _ => match ev T x with
    | some (.v (.string _)) => true
    | _ => false
  | .binOp _ _ x y _ => match ev T x, ev T y with
    | some (.v (.int _ _)), some (.v (.int _ _)) => true
    | some (.v (.string _)), some (.v (.string _)) => true
    | _, _ => false
  | .load _ x => match ev T x with
    | some (.own _ _) => true
    | _ => false
  | .call { callee := .builtin .len, .. } => true
  | _ => false

def gen (o : Oper) (st : St) (K : St → Prop) : Prop :=
  match evs st.T o.op.operands.toList with
  | some _ => (∀ cs b, o.op ≠ .select cs b) ∧ ∀ w, Wd w0 st w → GenR P (AfterK N w0 o.dst st K) ((execOp (evF st.ρ st.T) o).run P w)
  | none => False

def vcEff (o : Oper) (st : St) (K : St → Prop) : Prop :=
  match o.op with
  | .box t x => match ev st.T x with
    | some sv => match cellsOf sv with
      | some cs => newK cs t st fun i st' => putK N o.dst (.own i 0) st' K
      | none => False
    | none => False
  | .alloc t => match lk ty t with
    | some ti => newK (ti.z.cells.toList.map .v) t st fun i st' => putK N o.dst (.own i 0) st' K
    | none => False
  | .buildSlice t n ps => match lk ty t with
    | some ti => match ti.elem with
      | some e => match lk ty e with
        | some ei => match evp st.T ps.toList with
          | some l => match ei.z.cells.toList with
            | [] => False
            | z :: zs => match Nat.ble (n * ei.size) 16777216, Nat.beq (z :: zs).length ei.size, fillA ei.size (rep n ((z :: zs).map .v)) l with
              | true, true, some cs => newK cs e st fun i st' => putK N o.dst (.osl i n n) st' K
              | _, _, _ => False
          | none => False
        | none => False
      | none => False
    | none => False
  | .store t a x => match ev st.T a with
    | some (.own i off) => match lk ty t, ev st.T x with
      | some ti, some sv => match cellsOf sv with
        | some l => match Nat.beq l.length ti.size, scalars l, lk st.E i with
          | true, true, some (cs, e) => match putAt off l cs, Nat.ble (off + l.length) cs.length with
            | some cs', true => match st with
              | ⟨T, ρ, E, R, pub, s⟩ => putK N o.dst (.v undef) ⟨T, ρ, (i, (cs', e)) :: E, R, pub, s⟩ K
            | _, _ => False
          | _, _, _ => False
        | none => False
      | _, _ => False
    | _ => gen P N w0 o st K
  | .load t x => match ev st.T x with
    | some (.v (.pointer (some a))) => ∀ w, Wd w0 st w → ∃ v, (loadVar t a).run P w = .ok v w ∧ putK N o.dst (.v v) st K
    | _ => False
  | .call { callee := .value fn, args := as, argTypes := _ } => match ev st.T fn, evs st.T as.toList with
    | some (.fn (.func f) a b), some l => Goes P f ∧ ∀ w, Wd w0 st w → Calls P f (denL st.ρ (a ++ l ++ b)).toArray w fun e w' => ∃ v, e = .returned v ∧ AfterK N w0 o.dst st K v w'
    | some (.v (.func (.func f) a b)), some l => Goes P f ∧ ∀ w, Wd w0 st w → Calls P f (a ++ (denL st.ρ l).toArray ++ b) w fun e w' => ∃ v, e = .returned v ∧ AfterK N w0 o.dst st K v w'
    | _, _ => False
  | _ => gen P N w0 o st K
where
  rep : Nat → List SV → List SV
    | 0, _ => []
    | n + 1, l => l ++ rep n l
  fillA (sz : Nat) : List SV → List (Nat × SV) → Option (List SV)
    | cs, [] => some cs
    | cs, (i, x) :: r => match cellsOf x with
      | some l => match Nat.beq l.length sz, Nat.ble (i * sz + sz) cs.length, putAt (i * sz) l cs with
        | true, true, some cs' => fillA sz cs' r
        | _, _, _ => none
      | none => none

def vcOp (o : Oper) (st : St) (K : St → Prop) : Prop :=
  match isP st.T o.op with
  | true => pStep P ty (fun _ => True) st.T st.E o.op fun sv => putK N o.dst sv st K
  | false => vcEff P ty N w0 o st K

/-- An operation under its guard. -/
def guardK (ops : Array Oper) (o : Oper) (st : St) (A : St → Prop) (K : St → Prop) : Prop :=
  match o.guard with
  | none => A st
  | some (j, want) => match (nth ops.toList j).bind (·.dst) with
    | some d => match lk st.T d with
      | some (.kb b) => match b == want with
        | true => A st
        | false => putK N o.dst (.v undef) st K
      | some (.v (.bool b)) => match st with
        | ⟨T, ρ, E, R, pub, s⟩ => (b = want → A ⟨(d, .kb want) :: T, ρ, E, R, pub, s⟩) ∧ (b = !want → putK N o.dst (.v undef) ⟨(d, .kb (!want)) :: T, ρ, E, R, pub, s⟩ K)
      | _ => False
    | none => False

def vcSeq (ops : Array Oper) : List Oper → St → (St → Prop) → Prop
  | [], st, K => K st
  | o :: r, st, K => guardK N ops o st (fun st => vcOp P ty N w0 o st fun st' => vcSeq ops r st' K) fun st' => vcSeq ops r st' K

/-- The entries that loads of a region lean on stay. -/
def sameE (E E' : El) : List Nat → Prop
  | [] => True
  | i :: r => lk E i = lk E' i ∧ sameE E E' r
def restE (E : El) : List Nat → El
  | [] => []
  | i :: r => match lk E i with
    | some x => (i, x) :: restE E r
    | none => restE E r

def preP : List Nat → List Nat → Prop
  | [], _ => True
  | a :: r, b :: s => a = b ∧ preP r s
  | _ :: _, [] => False
/-- What may be read stays as it was. -/
def HeldW (pub : Nat → Prop) (s : World) (st : St) : Prop := ∀ k, pub k → st.pub k ∧ st.s.heap[k]? = s.heap[k]?
/-- What a region's loads lean on is as it was when the region began. -/
def Held (ρ0 : List Nat) (EL : El) (L : List Nat) (pub : Nat → Prop) (s : World) (st : St) : Prop := preP ρ0 st.ρ ∧ sameE EL st.E L ∧ HeldW pub s st
/-- The worlds in which a region's loads may be carried out. -/
def Stab (pub : Nat → Prop) (s : World) (w : World) : Prop := Only w0.M w0.w w ∧ ∀ k, pub k → w.heap[k]? = s.heap[k]?

def vcPlan (ops : Array Oper) (L : List Nat) (ρ0 : List Nat) (EL : El) (pub : Nat → Prop) (s : World) : Pl → St → (St → Prop) → Prop
  | .done, st, K => K st
  | .take i r, st, K => match nth ops.toList i with
    | none => False
    | some o => guardK N ops o st (fun st => pStep P ty (Stab w0 pub s) st.T EL o.op fun sv => putK N o.dst sv st fun st' => vcPlan ops L ρ0 EL pub s r st' K) fun st' => vcPlan ops L ρ0 EL pub s r st' K
  | .run i r, st, K => match nth ops.toList i with
    | none => False
    | some o => guardK N ops o st (fun st => vcOp P ty N w0 o st fun st' => Held ρ0 EL L pub s st' ∧ vcPlan ops L ρ0 EL pub s r st' K) fun st' => vcPlan ops L ρ0 EL pub s r st' K
  | .two i j ri rj, st, K => match nth ops.toList i, nth ops.toList j with
    | some o, some o' => (guardK N ops o st (fun st => vcOp P ty N w0 o st fun st' => Held ρ0 EL L pub s st' ∧ vcPlan ops L ρ0 EL pub s ri st' K) fun st' => vcPlan ops L ρ0 EL pub s ri st' K) ∧
      (guardK N ops o' st (fun st => vcOp P ty N w0 o' st fun st' => Held ρ0 EL L pub s st' ∧ vcPlan ops L ρ0 EL pub s rj st' K) fun st' => vcPlan ops L ρ0 EL pub s rj st' K)
    | _, _ => False
  | .three _ _ _ _ _ _, _, _ => False
  | .pure i r, st, K => match nth ops.toList i with
    | none => False
    | some o => guardK N ops o st (fun st => pStep P ty (fun _ => True) st.T [] o.op fun sv => putK N o.dst sv st fun st' => vcPlan ops L ρ0 EL pub s r st' K) fun st' => vcPlan ops L ρ0 EL pub s r st' K
  | .fin i r, st, K => match nth ops.toList i with
    | none => False
    | some o => guardK N ops o st (fun st => vcOp P ty N w0 o st fun st' => vcPlan ops L ρ0 EL pub s r st' K) fun st' => vcPlan ops L ρ0 EL pub s r st' K

/-- Does operation j wait for operation i, by an edge of its own? -/
def depB (ops : Array Oper) (j i : Nat) : Bool :=
  match ops[j]? with
  | some o => o.after.any fun e => Nat.beq e.on i && Region.binds .any e
  | none => false
def finB (ops : Array Oper) (pl : Pl) : Bool := pl.fins.all fun j => pl.takes.all fun i => depB ops j i
def planB (ops : Array Oper) : Pl → Array Bool → Bool
  | .done, l => (Region.ready .any ops l).isEmpty
  | .take i r, l => Region.free .any ops l i && (Region.ready .any ops l).contains i && planB ops r (l.setIfInBounds i true)
  | .run i r, l => (Region.ready .any ops l == [i]) && planB ops r (l.setIfInBounds i true)
  | .two i j ri rj, l => (Region.ready .any ops l == [i, j]) && planB ops ri (l.setIfInBounds i true) && planB ops rj (l.setIfInBounds j true)
  | .three i j k ri rj rk, l => (Region.ready .any ops l == [i, j, k]) && planB ops ri (l.setIfInBounds i true) && planB ops rj (l.setIfInBounds j true) && planB ops rk (l.setIfInBounds k true)
  | .pure i r, l => Region.free .any ops l i && (Region.ready .any ops l).contains i && planB ops r (l.setIfInBounds i true)
  | .fin i r, l => (Region.ready .any ops l == [i]) && r.onlyFins && planB ops r (l.setIfInBounds i true)

/-- A state says no more than another one. -/
def Weak (st st' : St) : Prop := ∀ a w, Ok N w0 st a w → Ok N w0 st' a w

def LoopInv (body : St → (Exit → St → Prop) → Prop) (st : St) (K : Exit → St → Prop) : Prop :=
  ∃ I : Nat → St → Prop, (∃ n st', I n st' ∧ Weak N w0 st st') ∧ ∀ n st, I n st → body st fun e st' => match e with
    | .normal => ∃ m st'', m < n ∧ I m st'' ∧ Weak N w0 st' st''
    | e => K e st'

/-- The first region of a piece of code. -/
def headR : Code → Option Nat
  | .region id _ _ => some id
  | .seq a b => match headR a with
    | some i => some i
    | none => headR b
  | .block _ b => headR b
  | .loop b => headR b
  | _ => none
/-- Is there a cut ahead of this piece? (A key from 100000 on among the plans.) -/
def isCut (c : Code) : Bool :=
  match headR c with
  | some i => match lk plans (100000 + i) with
    | some _ => true
    | none => false
  | none => false

def vcCode : Code → St → (Exit → St → Prop) → Prop
  | .skip, st, K => K .normal st
  | .label _, st, K => K .normal st
  | .exit id, st, K => K (.exit id) st
  | .goto l, st, K => K (.goto l) st
  | .ret, st, K => K .ret st
  | .seq a b, st, K => match isCut plans b with
    | false => vcCode a st fun e st' => match e with
      | .normal => vcCode b st' K
      | e => K e st'
    | true => ∃ M : St → Prop, (vcCode a st fun e st' => match e with
      | .normal => ∃ st'', M st'' ∧ Weak N w0 st' st''
      | e => K e st') ∧ ∀ st', M st' → vcCode b st' K
  | .block id b, st, K => vcCode b st fun e st' => match e with
    | .exit id' => match Nat.beq id' id with
      | true => K .normal st'
      | false => K (.exit id') st'
    | e => K e st'
  | .cond c x y, st, K => match ev st.T c with
    | some (.kb b) => match b with
      | true => vcCode x st K
      | false => vcCode y st K
    | some (.v (.bool b)) => (b = true → vcCode x st K) ∧ (b = false → vcCode y st K)
    | _ => False
  | .region id ops draw, st, K => match draw with
    | false => vcSeq P ty N w0 ops ops.toList st (K .normal)
    | true => match lk plans id with
      | some (L, plan) => match st with
        | ⟨T, ρ, E, R, pub, s⟩ => (Region.noSelect ops && Nat.ble plan.len ops.size && finB ops plan && planB ops plan (Array.replicate ops.size false)) = true ∧ allE ρ.length (restE E L) = true ∧ vcPlan P ty N w0 ops L ρ (restE E L) pub s plan ⟨T, ρ, E, R, pub, s⟩ (K .normal)
      | none => False
  | .loop b, st, K => LoopInv N w0 (vcCode b) st K
  | .scope b, st, K => vcCode b st fun e st' => match e with
    | .goto _ => False
    | e => K e st'
  | _, _, _ => False
end
end Go.Vc
