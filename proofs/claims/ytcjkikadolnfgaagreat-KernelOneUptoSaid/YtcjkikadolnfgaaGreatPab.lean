/- Texts of mine, joined: Vcd Vce Vcf. -/
import Derived.Test.YtcjkikadolnfgaaGreatPaa
import Derived.Maps.AppendAt
import Derived.Laws.AppendOwn
/- Symbolic states, what they say of a machine's state, and the conditions that a piece of code asks for. -/
namespace Go.Vc
open Go.RowKit
structure Row where
  v : Value
  e : TypeId
  sz : Nat
  xs : List Value
def rowB : Value → Option Nat
  | .slice (some a) _ _ => some a.block
  | _ => none
def RowOk (w : World) (r : Row) : Prop := ∃ n, r.xs.length = n * r.sz ∧ ((r.v = .slice none 0 0 ∧ n = 0) ∨
  ∃ g o cap cur, r.v = .slice (some ⟨g, o, none⟩) n cap ∧ w.heap[g]? = some (.cells cur r.e (0, 0)) ∧ n ≤ cap ∧ cap ≤ maxLen ∧ o + cap * r.sz ≤ cur.size ∧ (cur.toList.drop o).take (n * r.sz) = r.xs)
structure St where
  T : Tl
  ρ : List Nat
  E : El
  R : List Row
  pub : Nat → Prop
  s : World
structure Base where
  w : World
  M : Nat → Prop
structure Only (M : Nat → Prop) (w w' : World) : Prop where
  os : w'.os = w.os
  tape : w'.tape = w.tape
  output : w'.output = w.output
  size : w.heap.size ≤ w'.heap.size
  block : ∀ k, k < w.heap.size → ¬ M k → w'.heap[k]? = w.heap[k]?
def Base.mine (b : Base) (k : Nat) : Prop := b.M k ∨ b.w.heap.size ≤ k
structure Wd (w0 : Base) (st : St) (w : World) : Prop where
  below : Only w0.M w0.w w
  size : st.s.heap.size ≤ w.heap.size
  pub : ∀ b, st.pub b → b < st.s.heap.size ∧ w.heap[b]? = st.s.heap[b]?
  ent : EntOk st.ρ st.E w
  entN : ∀ i c t, lk st.E i = some (c, t) → i < st.ρ.length ∧ w0.mine (st.ρ.getD i 0) ∧ ¬ st.pub (st.ρ.getD i 0)
  inj : ∀ i j, (lk st.E i).isSome = true → (lk st.E j).isSome = true → i ≠ j → st.ρ.getD i 0 ≠ st.ρ.getD j 0
  row : ∀ r ∈ st.R, RowOk w r ∧ ∀ g, rowB r.v = some g → w0.mine g ∧ ¬ st.pub g ∧ ∀ i, (lk st.E i).isSome = true → st.ρ.getD i 0 ≠ g
  rinj : st.R.Pairwise fun r r' => ∀ g, rowB r.v = some g → rowB r'.v ≠ some g
structure Ok (N : Nat) (w0 : Base) (st : St) (a : Act) (w : World) : Prop where
  sz : a.tmps.size = N
  df : a.defers = []
  tm : ∀ t sv, lk st.T t = some sv → a.tmps.getD t undef = den st.ρ sv
  wd : Wd w0 st w
theorem Ok.tmok {N : Nat} {w0 : Base} {st : St} {a : Act} {w : World} (h : Ok N w0 st a w) : TmOk st.ρ st.T a.eval := by
  intro x sv hx
  cases x with
  | tmp t => exact h.tm t sv hx
  | const v => cases v <;> simp only [ev, Option.some.injEq] at hx <;> subst hx <;> rfl
  | global g => simp only [ev, Option.some.injEq] at hx; subst hx; rfl
  | func g => simp only [ev, Option.some.injEq] at hx; subst hx; rfl
inductive Pl where
  | done
  | take (i : Nat) (r : Pl)
  | run (i : Nat) (r : Pl)
  | two (i j : Nat) (ri rj : Pl)
  | three (i j k : Nat) (ri rj rk : Pl)
  | four (i j k l : Nat) (ri rj rk rl : Pl)
  | fin (i : Nat) (r : Pl)
  | pure (i : Nat) (r : Pl)
def Pl.takes : Pl → List Nat
  | .done => []
  | .take i r => i :: r.takes
  | .run _ r => r.takes
  | .two _ _ ri rj => ri.takes ++ rj.takes
  | .three _ _ _ ri rj rk => ri.takes ++ (rj.takes ++ rk.takes)
  | .four _ _ _ _ ri rj rk rl => ri.takes ++ (rj.takes ++ (rk.takes ++ rl.takes))
  | .fin _ r => r.takes
  | .pure _ r => r.takes
def Pl.fins : Pl → List Nat
  | .done => []
  | .take _ r => r.fins
  | .run _ r => r.fins
  | .two _ _ ri rj => ri.fins ++ rj.fins
  | .three _ _ _ ri rj rk => ri.fins ++ (rj.fins ++ rk.fins)
  | .four _ _ _ _ ri rj rk rl => ri.fins ++ (rj.fins ++ (rk.fins ++ rl.fins))
  | .fin i r => i :: r.fins
  | .pure _ r => r.fins
def Pl.onlyFins : Pl → Bool
  | .done => true
  | .fin _ r => r.onlyFins
  | .pure _ r => r.onlyFins
  | _ => false
def Pl.len : Pl → Nat
  | .done => 0
  | .take _ r => r.len + 1
  | .run _ r => r.len + 1
  | .two _ _ ri rj => Nat.max ri.len rj.len + 1
  | .three _ _ _ ri rj rk => max ri.len (max rj.len rk.len) + 1
  | .four _ _ _ _ ri rj rk rl => max ri.len (max rj.len (max rk.len rl.len)) + 1
  | .fin _ r => r.len + 1
  | .pure _ r => r.len + 1
section
variable (P : Program) (ty : List (Nat × TI)) (N : Nat) (w0 : Base) (plans : List (Nat × (List Nat × Pl)))
def putK (dst : Option Tmp) (sv : SV) (st : St) (K : St → Prop) : Prop :=
  match dst with
  | none => K st
  | some d => match Nat.blt d N, st with
    | true, ⟨T, ρ, E, R, pub, s⟩ => K ⟨(d, sv) :: T, ρ, E, R, pub, s⟩
    | false, _ => False
def allT (n : Nat) : Tl → Bool
  | [] => true
  | (_, x) :: r => match okN n x with
    | true => allT n r
    | false => false
def allE (n : Nat) : El → Bool
  | [] => true
  | (_, (l, _)) :: r => match okNL n l with
    | true => allE n r
    | false => false
def pStep (Stab : World → Prop) (T : Tl) (E : El) (op : Op) (K : SV → Prop) : Prop :=
  match pOp ty T E op with
  | some sv => K sv
  | none => match op with
    | .load t x => match ev T x with
      | some (.v (.pointer (some a))) => ∃ v, (∀ w, Stab w → (loadVar t a).run P w = .ok v w) ∧ K (.v v)
      | _ => False
    | .indexAddr t x i => match lk ty t with
      | some ti => match ti.elem with
        | some e => match lk ty e with
          | some ei => match ev T x, ev T i with
            | some (.v (.slice A n _)), some (.v (.int _ j)) => ∃ ad, A = some ad ∧ 0 ≤ j ∧ j < (n : Int) ∧ K (.v (.pointer (some (ad.add (j.toNat * ei.size)))))
            | some (.osl k n _), some (.v (.int _ j)) => 0 ≤ j ∧ j < (n : Int) ∧ K (.own k (j.toNat * ei.size))
            | _, _ => False
          | none => False
        | none => False
      | none => False
    | .pick c x y => match ev T c, ev T x, ev T y with
      | some (.kb b), some p, some q => match b with
        | true => K p
        | false => K q
      | some (.v (.bool b)), some p, some q => (b = true → K p) ∧ (b = false → K q)
      | _, _, _ => False
    | .index t x i => match lk ty t with
      | some ti => match ti.str with
        | true => match ev T x, ev T i with
          | some (.v (.string s)), some (.v (.int _ j)) => 0 ≤ j ∧ ∃ b, s[j.toNat]? = some b ∧ K (.v (.int .u8 b.toNat))
          | _, _ => False
        | false => False
      | none => False
    | _ => False
def evF (ρ : List Nat) (T : Tl) (x : Operand) : Value :=
  match ev T x with
  | some sv => den ρ sv
  | none => undef
def Goes (f : FuncId) : Prop := ∀ args w, (callFunc f args).run P w = .ok (.enter f args) w
def GenR (Φ : Value → World → Prop) : Result Next → Prop
  | .ok (.value v) w' => Φ v w'
  | .ok .skip w' => Φ undef w'
  | .ok (.enter f args) w' => Calls P f args w' fun e w'' => ∃ v, e = .returned v ∧ Φ v w''
  | _ => False
def AfterK (dst : Option Tmp) (st : St) (K : St → Prop) (v : Value) (w' : World) : Prop :=
  match st with
  | ⟨T, ρ, _, _, _, _⟩ => ∃ E R pub s, Wd w0 ⟨T, ρ, E, R, pub, s⟩ w' ∧ putK N dst (.v v) ⟨T, ρ, E, R, pub, s⟩ K
def snocK : List Nat → Nat → (List Nat → Prop) → Prop
  | [], g, K => K [g]
  | a :: r, g, K => snocK r g fun l => K (a :: l)
def lenK : List Nat → (Nat → Prop) → Prop
  | [], K => K 0
  | _ :: r, K => lenK r fun n => K (n + 1)
def newK (cs : List SV) (t : TypeId) (st : St) (K : Nat → St → Prop) : Prop :=
  match st with
  | ⟨T, ρ, E, R, pub, s⟩ => match okNL ρ.length cs, allT ρ.length T, allE ρ.length E with
    | true, true, true => ∀ g, snocK ρ g fun ρ' => lenK ρ fun n => K n ⟨T, ρ', (n, (cs, t)) :: E, R, pub, s⟩
    | _, _, _ => False
def scalar : SV → Bool
  | .v (.agg _) => false
  | .v (.tuple _) => false
  | .agg _ => false
  | .tup _ => false
  | _ => true
def scalars : List SV → Bool
  | [] => true
  | x :: r => match scalar x with
    | true => scalars r
    | false => false
def isP (T : Tl) : Op → Bool
  | .move _ | .assign _ | .extract _ _ | .unOp _ _ _ | .fieldAddr _ _ _ | .nilCheck _ | .build _ _ | .makeFunc _ _ _ | .indexAddr _ _ _ | .pick _ _ _ | .makeInterface _ _ => true
  | .index _ x _ => match ev T x with
    | some (.v (.string _)) => true
    | _ => false
  | .binOp _ _ x y _ => match ev T x, ev T y with
    | some (.v (.int _ _)), some (.v (.int _ _)) => true
    | some (.v (.string _)), some (.v (.string _)) => true
    | _, _ => false
  | .load _ x => match ev T x with
    | some (.own _ _) => true
    | _ => false
  | .call { callee := .builtin .len, .. } => true
  | _ => false
def gen (o : Oper) (st : St) (K : St → Prop) : Prop :=
  match evs st.T o.op.operands.toList with
  | some _ => (∀ cs b, o.op ≠ .select cs b) ∧ ∀ w, Wd w0 st w → GenR P (AfterK N w0 o.dst st K) ((execOp (evF st.ρ st.T) o).run P w)
  | none => False
def vcEff (o : Oper) (st : St) (K : St → Prop) : Prop :=
  match o.op with
  | .box t x => match ev st.T x with
    | some sv => match cellsOf sv with
      | some cs => newK cs t st fun i st' => putK N o.dst (.own i 0) st' K
      | none => False
    | none => False
  | .alloc t => match lk ty t with
    | some ti => newK (ti.z.cells.toList.map .v) t st fun i st' => putK N o.dst (.own i 0) st' K
    | none => False
  | .buildSlice t n ps => match lk ty t with
    | some ti => match ti.elem with
      | some e => match lk ty e with
        | some ei => match evp st.T ps.toList with
          | some l => match ei.z.cells.toList with
            | [] => False
            | z :: zs => match Nat.ble (n * ei.size) 16777216, Nat.beq (z :: zs).length ei.size, fillA ei.size (rep n ((z :: zs).map .v)) l with
              | true, true, some cs => newK cs e st fun i st' => putK N o.dst (.osl i n n) st' K
              | _, _, _ => False
          | none => False
        | none => False
      | none => False
    | none => False
  | .store t a x => match ev st.T a with
    | some (.own i off) => match lk ty t, ev st.T x with
      | some ti, some sv => match cellsOf sv with
        | some l => match Nat.beq l.length ti.size, scalars l, lk st.E i with
          | true, true, some (cs, e) => match putAt off l cs, Nat.ble (off + l.length) cs.length with
            | some cs', true => match st with
              | ⟨T, ρ, E, R, pub, s⟩ => putK N o.dst (.v undef) ⟨T, ρ, (i, (cs', e)) :: E, R, pub, s⟩ K
            | _, _ => False
          | _, _, _ => False
        | none => False
      | _, _ => False
    | _ => gen P N w0 o st K
  | .load t x => match ev st.T x with
    | some (.v (.pointer (some a))) => ∀ w, Wd w0 st w → ∃ v, (loadVar t a).run P w = .ok v w ∧ putK N o.dst (.v v) st K
    | _ => False
  | .call { callee := .value fn, args := as, argTypes := _ } => match ev st.T fn, evs st.T as.toList with
    | some (.fn (.func f) a b), some l => Goes P f ∧ ∀ w, Wd w0 st w → Calls P f (denL st.ρ (a ++ l ++ b)).toArray w fun e w' => ∃ v, e = .returned v ∧ AfterK N w0 o.dst st K v w'
    | some (.v (.func (.func f) a b)), some l => Goes P f ∧ ∀ w, Wd w0 st w → Calls P f (a ++ (denL st.ρ l).toArray ++ b) w fun e w' => ∃ v, e = .returned v ∧ AfterK N w0 o.dst st K v w'
    | _, _ => False
  | _ => gen P N w0 o st K
where
  rep : Nat → List SV → List SV
    | 0, _ => []
    | n + 1, l => l ++ rep n l
  fillA (sz : Nat) : List SV → List (Nat × SV) → Option (List SV)
    | cs, [] => some cs
    | cs, (i, x) :: r => match cellsOf x with
      | some l => match Nat.beq l.length sz, Nat.ble (i * sz + sz) cs.length, putAt (i * sz) l cs with
        | true, true, some cs' => fillA sz cs' r
        | _, _, _ => none
      | none => none
def vcOp (o : Oper) (st : St) (K : St → Prop) : Prop :=
  match isP st.T o.op with
  | true => pStep P ty (fun _ => True) st.T st.E o.op fun sv => putK N o.dst sv st K
  | false => vcEff P ty N w0 o st K
def guardK (ops : Array Oper) (o : Oper) (st : St) (A : St → Prop) (K : St → Prop) : Prop :=
  match o.guard with
  | none => A st
  | some (j, want) => match (nth ops.toList j).bind (·.dst) with
    | some d => match lk st.T d with
      | some (.kb b) => match b == want with
        | true => A st
        | false => putK N o.dst (.v undef) st K
      | some (.v (.bool b)) => match st with
        | ⟨T, ρ, E, R, pub, s⟩ => (b = want → A ⟨(d, .kb want) :: T, ρ, E, R, pub, s⟩) ∧ (b = !want → putK N o.dst (.v undef) ⟨(d, .kb (!want)) :: T, ρ, E, R, pub, s⟩ K)
      | _ => False
    | none => False
def vcSeq (ops : Array Oper) : List Oper → St → (St → Prop) → Prop
  | [], st, K => K st
  | o :: r, st, K => guardK N ops o st (fun st => vcOp P ty N w0 o st fun st' => vcSeq ops r st' K) fun st' => vcSeq ops r st' K
def sameE (E E' : El) : List Nat → Prop
  | [] => True
  | i :: r => lk E i = lk E' i ∧ sameE E E' r
def restE (E : El) : List Nat → El
  | [] => []
  | i :: r => match lk E i with
    | some x => (i, x) :: restE E r
    | none => restE E r
def preP : List Nat → List Nat → Prop
  | [], _ => True
  | a :: r, b :: s => a = b ∧ preP r s
  | _ :: _, [] => False
def HeldW (pub : Nat → Prop) (s : World) (st : St) : Prop := ∀ k, pub k → st.pub k ∧ st.s.heap[k]? = s.heap[k]?
def Held (ρ0 : List Nat) (EL : El) (L : List Nat) (pub : Nat → Prop) (s : World) (st : St) : Prop := preP ρ0 st.ρ ∧ sameE EL st.E L ∧ HeldW pub s st
def Stab (pub : Nat → Prop) (s : World) (w : World) : Prop := Only w0.M w0.w w ∧ ∀ k, pub k → w.heap[k]? = s.heap[k]?
def vcPlan (ops : Array Oper) (L : List Nat) (ρ0 : List Nat) (EL : El) (pub : Nat → Prop) (s : World) : Pl → St → (St → Prop) → Prop
  | .done, st, K => K st
  | .take i r, st, K => match nth ops.toList i with
    | none => False
    | some o => guardK N ops o st (fun st => pStep P ty (Stab w0 pub s) st.T EL o.op fun sv => putK N o.dst sv st fun st' => vcPlan ops L ρ0 EL pub s r st' K) fun st' => vcPlan ops L ρ0 EL pub s r st' K
  | .run i r, st, K => match nth ops.toList i with
    | none => False
    | some o => guardK N ops o st (fun st => vcOp P ty N w0 o st fun st' => Held ρ0 EL L pub s st' ∧ vcPlan ops L ρ0 EL pub s r st' K) fun st' => vcPlan ops L ρ0 EL pub s r st' K
  | .two i j ri rj, st, K => match nth ops.toList i, nth ops.toList j with
    | some o, some o' => (guardK N ops o st (fun st => vcOp P ty N w0 o st fun st' => Held ρ0 EL L pub s st' ∧ vcPlan ops L ρ0 EL pub s ri st' K) fun st' => vcPlan ops L ρ0 EL pub s ri st' K) ∧
      (guardK N ops o' st (fun st => vcOp P ty N w0 o' st fun st' => Held ρ0 EL L pub s st' ∧ vcPlan ops L ρ0 EL pub s rj st' K) fun st' => vcPlan ops L ρ0 EL pub s rj st' K)
    | _, _ => False
  | .three _ _ _ _ _ _, _, _ => False
  | .four _ _ _ _ _ _ _ _, _, _ => False
  | .pure i r, st, K => match nth ops.toList i with
    | none => False
    | some o => guardK N ops o st (fun st => pStep P ty (fun _ => True) st.T [] o.op fun sv => putK N o.dst sv st fun st' => vcPlan ops L ρ0 EL pub s r st' K) fun st' => vcPlan ops L ρ0 EL pub s r st' K
  | .fin i r, st, K => match nth ops.toList i with
    | none => False
    | some o => guardK N ops o st (fun st => vcOp P ty N w0 o st fun st' => vcPlan ops L ρ0 EL pub s r st' K) fun st' => vcPlan ops L ρ0 EL pub s r st' K
def depB (ops : Array Oper) (j i : Nat) : Bool :=
  match ops[j]? with
  | some o => o.after.any fun e => Nat.beq e.on i && Region.binds .any e
  | none => false
def finB (ops : Array Oper) (pl : Pl) : Bool := pl.fins.all fun j => pl.takes.all fun i => depB ops j i
def planB (ops : Array Oper) : Pl → Array Bool → Bool
  | .done, l => (Region.ready .any ops l).isEmpty
  | .take i r, l => Region.free .any ops l i && (Region.ready .any ops l).contains i && planB ops r (l.setIfInBounds i true)
  | .run i r, l => (Region.ready .any ops l == [i]) && planB ops r (l.setIfInBounds i true)
  | .two i j ri rj, l => (Region.ready .any ops l == [i, j]) && planB ops ri (l.setIfInBounds i true) && planB ops rj (l.setIfInBounds j true)
  | .three i j k ri rj rk, l => (Region.ready .any ops l == [i, j, k]) && planB ops ri (l.setIfInBounds i true) && planB ops rj (l.setIfInBounds j true) && planB ops rk (l.setIfInBounds k true)
  | .four i j k m ri rj rk rm, l => (Region.ready .any ops l == [i, j, k, m]) && planB ops ri (l.setIfInBounds i true) && planB ops rj (l.setIfInBounds j true) && planB ops rk (l.setIfInBounds k true) && planB ops rm (l.setIfInBounds m true)
  | .pure i r, l => Region.free .any ops l i && (Region.ready .any ops l).contains i && planB ops r (l.setIfInBounds i true)
  | .fin i r, l => (Region.ready .any ops l == [i]) && r.onlyFins && planB ops r (l.setIfInBounds i true)
def Weak (st st' : St) : Prop := ∀ a w, Ok N w0 st a w → Ok N w0 st' a w
def LoopInv (body : St → (Exit → St → Prop) → Prop) (st : St) (K : Exit → St → Prop) : Prop :=
  ∃ I : Nat → St → Prop, (∃ n st', I n st' ∧ Weak N w0 st st') ∧ ∀ n st, I n st → body st fun e st' => match e with
    | .normal => ∃ m st'', m < n ∧ I m st'' ∧ Weak N w0 st' st''
    | e => K e st'
def headR : Code → Option Nat
  | .region id _ _ => some id
  | .seq a b => match headR a with
    | some i => some i
    | none => headR b
  | .block _ b => headR b
  | .loop b => headR b
  | _ => none
def isCut (c : Code) : Bool :=
  match headR c with
  | some i => match lk plans (100000 + i) with
    | some _ => true
    | none => false
  | none => false
def vcCode : Code → St → (Exit → St → Prop) → Prop
  | .skip, st, K => K .normal st
  | .label _, st, K => K .normal st
  | .exit id, st, K => K (.exit id) st
  | .goto l, st, K => K (.goto l) st
  | .ret, st, K => K .ret st
  | .seq a b, st, K => match isCut plans b with
    | false => vcCode a st fun e st' => match e with
      | .normal => vcCode b st' K
      | e => K e st'
    | true => ∃ M : St → Prop, (vcCode a st fun e st' => match e with
      | .normal => ∃ st'', M st'' ∧ Weak N w0 st' st''
      | e => K e st') ∧ ∀ st', M st' → vcCode b st' K
  | .block id b, st, K => vcCode b st fun e st' => match e with
    | .exit id' => match Nat.beq id' id with
      | true => K .normal st'
      | false => K (.exit id') st'
    | e => K e st'
  | .cond c x y, st, K => match ev st.T c with
    | some (.kb b) => match b with
      | true => vcCode x st K
      | false => vcCode y st K
    | some (.v (.bool b)) => (b = true → vcCode x st K) ∧ (b = false → vcCode y st K)
    | _ => False
  | .region id ops draw, st, K => match draw with
    | false => vcSeq P ty N w0 ops ops.toList st (K .normal)
    | true => match lk plans id with
      | some (L, plan) => match st with
        | ⟨T, ρ, E, R, pub, s⟩ => (Region.noSelect ops && Nat.ble plan.len ops.size && finB ops plan && planB ops plan (Array.replicate ops.size false)) = true ∧ allE ρ.length (restE E L) = true ∧ vcPlan P ty N w0 ops L ρ (restE E L) pub s plan ⟨T, ρ, E, R, pub, s⟩ (K .normal)
      | none => False
  | .loop b, st, K => LoopInv N w0 (vcCode b) st K
  | .scope b, st, K => vcCode b st fun e st' => match e with
    | .goto _ => False
    | e => K e st'
  | _, _, _ => False
end
end Go.Vc


/- The conditions are enough: single operations. -/
namespace Go.Vc
open Go.RowKit
section
variable {P : Program} {ty : List (Nat × TI)} {N : Nat} {w0 : Base} {plans : List (Nat × (List Nat × Pl))}
theorem Wd.drew {st : St} {w : World} (h : Wd w0 st w) : Wd w0 st { w with drawn := w.drawn + 1 } where
  below := ⟨h.below.os, h.below.tape, h.below.output, h.below.size, h.below.block⟩
  size := h.size
  pub := h.pub
  ent := h.ent
  entN := h.entN
  inj := h.inj
  row := h.row
  rinj := h.rinj
theorem put_get (a : Act) (d t : Nat) (v : Value) (h : d < a.tmps.size) : (a.put (some d) v).tmps.getD t undef = if d = t then v else a.tmps.getD t undef := by
  simp only [Act.put, Array.getD_eq_getD_getElem?, Array.getElem?_setIfInBounds]
  split
  · rename_i he; subst he; simp
  · rfl
theorem putK_sound' {dst : Option Tmp} {sv : SV} {st : St} {K : St → Prop} {a : Act} {w : World} (h : Ok N w0 st a w) (hk : putK N dst sv st K) : ∃ st', st'.ρ = st.ρ ∧ Ok N w0 st' (a.put dst (den st.ρ sv)) w ∧ K st' := by
  unfold putK at hk
  split at hk
  · exact ⟨st, rfl, h, hk⟩
  · rename_i d
    split at hk
    · rename_i T ρ E R pub s hd
      rw [Nat.blt_eq] at hd
      refine ⟨⟨(d, sv) :: T, ρ, E, R, pub, s⟩, rfl, ⟨?_, h.df, ?_, ?_⟩, hk⟩
      · simp [Act.put, h.sz]
      · intro t sv' ht
        rw [put_get a d t _ (by rw [h.sz]; exact hd)]
        simp only [lk] at ht
        split at ht
        · rename_i e
          rw [if_pos (nbeq.1 e)]
          injection ht with ht; subst ht; rfl
        · rename_i e
          rw [if_neg (nbeq_ne.1 e)]
          exact h.tm t sv' ht
      · exact ⟨h.wd.below, h.wd.size, h.wd.pub, h.wd.ent, h.wd.entN, h.wd.inj, h.wd.row, h.wd.rinj⟩
    · exact hk.elim
theorem putK_sound {dst : Option Tmp} {sv : SV} {st : St} {K : St → Prop} {a : Act} {w : World} (h : Ok N w0 st a w) (hk : putK N dst sv st K) : ∃ st', Ok N w0 st' (a.put dst (den st.ρ sv)) w ∧ K st' := by
  obtain ⟨st', _, h1, h2⟩ := putK_sound' h hk
  exact ⟨st', h1, h2⟩
theorem pStep_sound (hty : TyOk P ty) {ρ : List Nat} {T : Tl} {E : El} {f : Operand → Value} (hT : TmOk ρ T f) {o : Oper} {K : SV → Prop} {Stb : World → Prop} (h : pStep P ty Stb T E o.op K) :
    ∃ sv, (∀ w, EntOk ρ E w → Stb w → (execOp f o).run P w = .ok (.value (den ρ sv)) w) ∧ K sv := by
  unfold pStep at h
  split at h
  · rename_i sv hsv
    exact ⟨sv, fun w hE _ => pOp_sound hty hT hE hsv, h⟩
  · obtain ⟨dst, op, type, pos, after, guard⟩ := o
    simp only at h
    split at h
    · rename_i t x
      split at h <;> try (exact h.elim)
      rename_i a hx
      obtain ⟨v, hv, hK⟩ := h
      refine ⟨_, fun w hE hS => ?_, hK⟩
      simp only [execOp]
      refine run_val ?_
      rw [hT _ _ hx]
      simp only [den, Instr.loadAt, Instr.sureAddr, Sem.run_bind, Sem.run_pure, Result.andThen_ok]
      exact hv w hS
    · rename_i t x i
      split at h <;> try (exact h.elim)
      rename_i ti hti
      split at h <;> try (exact h.elim)
      rename_i e he
      split at h <;> try (exact h.elim)
      rename_i ei hei
      obtain ⟨y, d, hy, hd, h1, h2, h3, h4, h5, h6, h7, h8⟩ := (hty _ _ hti).get
      rw [he] at h6
      split at h <;> try (exact h.elim)
      · rename_i A n c k j hx hi
        obtain ⟨ad, rfl, hj0, hj1, hK⟩ := h
        refine ⟨_, fun w hE _ => ?_, hK⟩
        simp only [execOp]
        refine run_val ?_
        rw [hT _ _ hx, hT _ _ hi]
        cases d <;> simp only [elB] at h6 <;> try (cases h6; done)
        rename_i e'
        obtain rfl := nbeq.1 h6
        unfold Instr.indexAt
        simp only [den, asIntOf, Sem.run_bind, Sem.run_pure, Result.andThen_ok, run_under hd]
        simp only [Bool.and_false, Bool.false_eq_true, if_false, hj0, hj1, and_self, if_true]
        rw [Sem.run_bind, run_sizeOf (hty _ _ hei)]
        rfl
      · rename_i k n c k' j hx hi
        obtain ⟨hj0, hj1, hK⟩ := h
        refine ⟨_, fun w hE _ => ?_, hK⟩
        simp only [execOp]
        refine run_val ?_
        rw [hT _ _ hx, hT _ _ hi]
        cases d <;> simp only [elB] at h6 <;> try (cases h6; done)
        rename_i e'
        obtain rfl := nbeq.1 h6
        unfold Instr.indexAt
        simp only [den, asIntOf, Sem.run_bind, Sem.run_pure, Result.andThen_ok, run_under hd]
        simp only [Bool.and_false, Bool.false_eq_true, if_false, hj0, hj1, and_self, if_true]
        rw [Sem.run_bind, run_sizeOf (hty _ _ hei)]
        simp only [Result.andThen_ok, Sem.run_pure, add_own, Nat.zero_add]
    · rename_i c x y
      split at h <;> try (exact h.elim)
      · rename_i b p q hc hx hy
        split at h
        · refine ⟨p, fun w hE _ => ?_, h⟩
          simp only [execOp, hT _ _ hc, hT _ _ hx, den]; rfl
        · refine ⟨q, fun w hE _ => ?_, h⟩
          simp only [execOp, hT _ _ hc, hT _ _ hy, den]; rfl
      · rename_i b p q hc hx hy
        cases b
        · refine ⟨q, fun w hE _ => ?_, h.2 rfl⟩
          simp only [execOp, hT _ _ hc, hT _ _ hy, den]; rfl
        · refine ⟨p, fun w hE _ => ?_, h.1 rfl⟩
          simp only [execOp, hT _ _ hc, hT _ _ hx, den]; rfl
    · rename_i t x i
      split at h <;> try (exact h.elim)
      rename_i ti hti
      split at h <;> try (exact h.elim)
      rename_i hst
      obtain ⟨y, d, hy, hd, h1, h2, h3, h4, h5, h6, h7, h8⟩ := (hty _ _ hti).get
      rw [hst] at h7
      split at h <;> try (exact h.elim)
      rename_i s k j hx hi
      obtain ⟨hj, b, hb, hK⟩ := h
      refine ⟨_, fun w hE _ => ?_, hK⟩
      simp only [execOp]
      refine run_val ?_
      rw [hT _ _ hx, hT _ _ hi]
      cases d <;> first | (simp [strB] at h7; done) | skip
      unfold Instr.index
      simp only [den, asIntOf, Sem.run_bind, Sem.run_pure, Result.andThen_ok, run_under hd, hj, if_true, hb]
    · exact h.elim
theorem den_ap {ρ : List Nat} {g : Nat} {x : SV} (h : okN ρ.length x = true) : den (ρ ++ [g]) x = den ρ x :=
  (den_ext (fun _ hi => (getD_append_lt hi).symm) x h).symm
theorem denL_ap {ρ : List Nat} {g : Nat} {l : List SV} (h : okNL ρ.length l = true) : denL (ρ ++ [g]) l = denL ρ l :=
  (denL_ext (fun _ hi => (getD_append_lt hi).symm) l h).symm
theorem allT_get {n : Nat} : ∀ {T : Tl}, allT n T = true → ∀ t sv, lk T t = some sv → okN n sv = true
  | [], _, t, sv, h => by simp [lk] at h
  | (k, x) :: r, ha, t, sv, h => by
    simp only [allT] at ha
    split at ha
    · rename_i hx
      simp only [lk] at h
      split at h
      · injection h with h; subst h; exact hx
      · exact allT_get ha t sv h
    · cases ha
theorem allE_get {n : Nat} : ∀ {E : El}, allE n E = true → ∀ i c t, lk E i = some (c, t) → okNL n c = true
  | [], _, t, sv, _, h => by simp [lk] at h
  | (k, (l, e)) :: r, ha, i, c, t, h => by
    simp only [allE] at ha
    split at ha
    · rename_i hx
      simp only [lk] at h
      split at h
      · injection h with h; injection h with h1 h2; subst h1; exact hx
      · exact allE_get ha i c t h
    · cases ha
theorem getD_last (ρ : List Nat) (g : Nat) : (ρ ++ [g]).getD ρ.length 0 = g := by simp [List.getD_eq_getElem?_getD]
theorem RowOk.lt {w : World} {r : Row} (h : RowOk w r) {g : Nat} (hg : rowB r.v = some g) : g < w.heap.size := by
  obtain ⟨n, _, ⟨hv, _⟩ | ⟨g', o, cap, cur, hv, hh, _⟩⟩ := h
  · rw [hv] at hg; cases hg
  · rw [hv] at hg; simp [rowB] at hg; subst hg
    exact (Array.getElem?_eq_some_iff.1 hh).1
theorem RowOk.keep {w w' : World} {r : Row} (h : RowOk w r) (hb : ∀ g, rowB r.v = some g → w'.heap[g]? = w.heap[g]?) : RowOk w' r := by
  obtain ⟨n, hl, h | ⟨g', o, cap, cur, hv, hh, h1⟩⟩ := h
  · exact ⟨n, hl, .inl h⟩
  · refine ⟨n, hl, .inr ⟨g', o, cap, cur, hv, ?_, h1⟩⟩
    rw [hb g' (by rw [hv]; rfl), hh]
def pushW (w : World) (o : Obj) : World := { w with heap := w.heap.push o }
theorem pushW_old (w : World) (o : Obj) {g : Nat} (h : g < w.heap.size) : (pushW w o).heap[g]? = w.heap[g]? := by
  simp only [pushW, Array.getElem?_push]; rw [if_neg (by omega)]
theorem Wd.push {st : St} {w : World} (h : Wd w0 st w) {cs : List SV} {t : TypeId} (h1 : okNL st.ρ.length cs = true) (h3 : allE st.ρ.length st.E = true) (T : Tl) :
    Wd w0 ⟨T, st.ρ ++ [w.heap.size], (st.ρ.length, (cs, t)) :: st.E, st.R, st.pub, st.s⟩ (pushW w (.cells (denL st.ρ cs).toArray t (0, 0))) := by
  have hlt : ∀ i c t, lk st.E i = some (c, t) → st.ρ.getD i 0 < w.heap.size := fun i c t hi => (Array.getElem?_eq_some_iff.1 (h.ent i c t hi)).1
  have hsome : ∀ i, (lk st.E i).isSome = true → i < st.ρ.length ∧ st.ρ.getD i 0 < w.heap.size := by
    intro i hi
    obtain ⟨⟨c, t⟩, hc⟩ := Option.isSome_iff_exists.1 hi
    exact ⟨(h.entN i c t hc).1, hlt i c t hc⟩
  have hpub : ¬ st.pub w.heap.size := fun hp => by have := (h.pub _ hp).1; have := h.size; omega
  refine ⟨⟨h.below.os, h.below.tape, h.below.output, by have := h.below.size; simp [pushW]; omega, fun k hk hm => by rw [pushW_old _ _ (by have := h.below.size; omega)]; exact h.below.block k hk hm⟩, by have := h.size; simp [pushW]; omega, fun b hb => ?_, ?_, ?_, ?_, ?_, h.rinj⟩
  · obtain ⟨k1, k2⟩ := h.pub b hb
    exact ⟨k1, by rw [pushW_old _ _ (by have := h.size; omega)]; exact k2⟩
  · intro i c t' hi
    simp only [lk] at hi
    split at hi
    · rename_i e
      obtain rfl := nbeq.1 e
      injection hi with hi; injection hi with e1 e2; subst e1; subst e2
      simp only [getD_last, denL_ap h1, pushW, Array.getElem?_push, if_true]
    · simp only
      rw [getD_append_lt (h.entN i c t' hi).1, denL_ap (allE_get h3 i c t' hi), pushW_old _ _ (hlt i c t' hi)]
      exact h.ent i c t' hi
  · intro i c t' hi
    simp only [lk] at hi
    split at hi
    · rename_i e
      obtain rfl := nbeq.1 e
      refine ⟨by simp, ?_, ?_⟩
      · simp only [getD_last]; exact .inr h.below.size
      · simp only [getD_last]; exact hpub
    · obtain ⟨k1, k2, k3⟩ := h.entN i c t' hi
      simp only
      rw [getD_append_lt k1]
      exact ⟨by simp; omega, k2, k3⟩
  · intro i j hi hj hne
    simp only [lk] at hi hj
    simp only
    split at hi
    · rename_i e; obtain rfl := nbeq.1 e
      split at hj
      · rename_i e'; exact absurd (nbeq.1 e') hne
      · obtain ⟨k1, k2⟩ := hsome j hj
        rw [getD_last, getD_append_lt k1]; omega
    · obtain ⟨k1, k2⟩ := hsome i hi
      split at hj
      · rename_i e'; obtain rfl := nbeq.1 e'
        rw [getD_last, getD_append_lt k1]; omega
      · obtain ⟨k3, k4⟩ := hsome j hj
        rw [getD_append_lt k1, getD_append_lt k3]; exact h.inj i j hi hj hne
  · intro r hr
    obtain ⟨k1, k2⟩ := h.row r hr
    refine ⟨k1.keep fun g hg => pushW_old _ _ (k1.lt hg), fun g hg => ?_⟩
    obtain ⟨q1, q2, q3⟩ := k2 g hg
    refine ⟨q1, q2, fun i hi => ?_⟩
    simp only [lk] at hi
    simp only
    split at hi
    · rename_i e; obtain rfl := nbeq.1 e
      rw [getD_last]; have := k1.lt hg; omega
    · rw [getD_append_lt (hsome i hi).1]; exact q3 i hi
theorem snocK_eq : ∀ (ρ : List Nat) (g : Nat) (K : List Nat → Prop), snocK ρ g K = K (ρ ++ [g])
  | [], _, _ => rfl
  | a :: r, g, K => by simp [snocK, snocK_eq r g]
theorem lenK_eq : ∀ (ρ : List Nat) (K : Nat → Prop), lenK ρ K = K ρ.length
  | [], _ => rfl
  | a :: r, K => by simp [lenK, lenK_eq r]
theorem newK_sound {cs : List SV} {t : TypeId} {st : St} {K : Nat → St → Prop} {a : Act} {w : World} (h : Ok N w0 st a w) (hk : newK cs t st K) :
    ∃ st', Ok N w0 st' a (pushW w (.cells (denL st.ρ cs).toArray t (0, 0))) ∧ K st.ρ.length st' ∧ st'.ρ.getD st.ρ.length 0 = w.heap.size := by
  obtain ⟨T, ρ, E, R, pub, s⟩ := st
  simp only [newK] at hk
  split at hk <;> try (exact hk.elim)
  rename_i h1 h2 h3
  simp only [snocK_eq, lenK_eq] at hk
  refine ⟨_, ⟨h.sz, h.df, ?_, h.wd.push h1 h3 T⟩, hk w.heap.size, getD_last _ _⟩
  intro t sv ht
  simp only at ht ⊢
  rw [den_ap (allT_get h2 t sv ht)]
  exact h.tm t sv ht
def setW (w : World) (g : Nat) (o : Obj) : World := { w with heap := w.heap.setIfInBounds g o }
theorem setW_at (w : World) (g : Nat) (o : Obj) (h : g < w.heap.size) : (setW w g o).heap[g]? = some o := by simp [setW, h]
theorem setW_ne (w : World) {g k : Nat} (o : Obj) (h : g ≠ k) : (setW w g o).heap[k]? = w.heap[k]? := by simp [setW, h]
theorem setW_size (w : World) (g : Nat) (o : Obj) : (setW w g o).heap.size = w.heap.size := by simp [setW]
theorem setCell_eq {w : World} {g off : Nat} {c : Array Value} {t : TypeId} {fr : Nat × Nat} (h : w.heap[g]? = some (.cells c t fr)) (v : Value) : w.setCell ⟨g, off, none⟩ v = setW w g (.cells (c.setIfInBounds off v) t fr) := by
  simp only [World.setCell, setW]
  congr 1
  apply Array.ext_getElem?
  intro i
  rw [Array.getElem?_modify, Array.getElem?_setIfInBounds]
  split
  · rename_i e; subst e
    obtain ⟨hlt, he⟩ := Array.getElem?_eq_some_iff.1 h
    simp [hlt, he]
  · rfl
theorem setW_setW (w : World) (g : Nat) (o o' : Obj) : setW (setW w g o) g o' = setW w g o' := by simp [setW]
theorem setW_self {w : World} {g : Nat} {o : Obj} (h : w.heap[g]? = some o) : setW w g o = w := by
  obtain ⟨hlt, he⟩ := Array.getElem?_eq_some_iff.1 h
  have : w.heap.setIfInBounds g o = w.heap := by
    apply Array.ext_getElem?
    intro i
    rw [Array.getElem?_setIfInBounds]
    split
    · rename_i e; subst e; simp [hlt, he]
    · rfl
  simp only [setW, this]
def plainV : Value → Bool
  | .agg _ => false
  | .tuple _ => false
  | _ => true
theorem run_store_cell {w : World} {a : Addr} {v u : Value} (hv : plainV v = true) (hc : w.cell? a = some u) (hf : w.frozen? a = false) : (store a v).run P w = .ok () (w.setCell a v) := by
  cases v <;> first | (simp [plainV] at hv; done) | (simp [store, Sem.run, hc, hf])
theorem run_storeCells {g off : Nat} {t : TypeId} : ∀ (l : List Value) (i : Nat) (c : Array Value) (w : World), (∀ v ∈ l, plainV v = true) → w.heap[g]? = some (.cells c t (0, 0)) → off + i + l.length ≤ c.size →
    (storeCells ⟨g, off, none⟩ l i).run P w = .ok () (setW w g (.cells ((l.zipIdx i).foldl (fun cs (x : Value × Nat) => cs.setIfInBounds (off + x.2) x.1) c) t (0, 0)))
  | [], i, c, w, _, hw, _ => by simp [storeCells, go_sem, setW_self hw]
  | v :: l, i, c, w, hp, hw, hl => by
    unfold storeCells
    rw [Sem.run_bind, add_own]
    have hlt : off + i < c.size := by simp at hl; omega
    have hc : w.cell? ⟨g, off + i, none⟩ = some c[off + i] := by rw [cell_own hw]; simp [hlt]
    have hf : w.frozen? ⟨g, off + i, none⟩ = false := by simp [World.frozen?, hw]
    rw [run_store_cell (hp v (by simp)) hc hf, setCell_eq hw]
    simp only [Result.andThen_ok]
    have hgs : g < w.heap.size := (Array.getElem?_eq_some_iff.1 hw).1
    rw [run_storeCells l (i + 1) _ _ (fun u hu => hp u (by simp [hu])) (setW_at _ _ _ hgs) (by simp at hl ⊢; omega)]
    simp only [setW_setW, List.zipIdx_cons, List.foldl_cons]
theorem putAt_eq {ρ : List Nat} {off : Nat} {l cs cs' : List SV} (h : putAt off l cs = some cs') (hb : off + l.length ≤ cs.length) :
    ((denL ρ l).zipIdx 0).foldl (fun cs (x : Value × Nat) => cs.setIfInBounds (off + x.2) x.1) (denL ρ cs).toArray = (denL ρ cs').toArray := by
  obtain ⟨g1, g2, g3⟩ := putAt_get _ _ _ _ h
  obtain ⟨k1, k2⟩ := foldl_put (denL ρ cs).toArray off (denL ρ l) 0 (denL ρ cs).toArray
  apply Array.ext_getElem?
  intro j
  rw [k2 j]
  simp only [List.getElem?_toArray, denL_get, g3 j, List.size_toArray, denL_length, Nat.add_zero]
  by_cases c : off ≤ j ∧ j < off + l.length
  · rw [if_pos c, if_pos ⟨c.1, c.2, by omega⟩]
  · rw [if_neg c, if_neg (by omega)]
theorem scalars_plain {ρ : List Nat} : ∀ {l : List SV}, scalars l = true → ∀ v ∈ denL ρ l, plainV v = true
  | [], _, v, h => by simp [denL] at h
  | x :: r, hs, v, h => by
    simp only [scalars] at hs
    split at hs
    · rename_i hx
      simp only [denL, List.mem_cons] at h
      rcases h with rfl | h
      · cases x <;> first | rfl | (simp [scalar] at hx; done) | skip
        rename_i y
        cases y <;> first | rfl | (simp [scalar] at hx; done)
      · exact scalars_plain hs v h
    · cases hs
theorem Wd.setEnt {st : St} {w : World} (h : Wd w0 st w) {i : Nat} {cs cs' : List SV} {t : TypeId} (hi : lk st.E i = some (cs, t)) (T : Tl) :
    Wd w0 ⟨T, st.ρ, (i, (cs', t)) :: st.E, st.R, st.pub, st.s⟩ (setW w (st.ρ.getD i 0) (.cells (denL st.ρ cs').toArray t (0, 0))) := by
  have hg := h.ent i cs t hi
  have hlt : st.ρ.getD i 0 < w.heap.size := (Array.getElem?_eq_some_iff.1 hg).1
  obtain ⟨n1, n2, n3⟩ := h.entN i cs t hi
  have hsome : ∀ j, (lk ((i, (cs', t)) :: st.E) j).isSome = true → (lk st.E j).isSome = true := by
    intro j hj
    simp only [lk] at hj
    split at hj
    · rename_i e; obtain rfl := nbeq.1 e; simp [hi]
    · exact hj
  refine ⟨⟨h.below.os, h.below.tape, h.below.output, by rw [setW_size]; exact h.below.size, fun k hk hm => by rw [setW_ne _ _ (by rintro rfl; rcases n2 with n2 | n2; exact hm n2; omega)]; exact h.below.block k hk hm⟩, by rw [setW_size]; exact h.size, fun b hb => ?_, ?_, ?_, ?_, ?_, h.rinj⟩
  · obtain ⟨k1, k2⟩ := h.pub b hb
    refine ⟨k1, ?_⟩
    rw [setW_ne]
    · exact k2
    · rintro rfl; exact n3 hb
  · intro j c t' hj
    simp only [lk] at hj
    split at hj
    · rename_i e; obtain rfl := nbeq.1 e
      injection hj with hj; injection hj with e1 e2; subst e1; subst e2
      exact setW_at _ _ _ hlt
    · rename_i e
      simp only
      rw [setW_ne]
      · exact h.ent j c t' hj
      · exact h.inj i j (by simp [hi]) (by simp [hj]) (nbeq_ne.1 e)
  · intro j c t' hj
    simp only [lk] at hj
    split at hj
    · rename_i e; obtain rfl := nbeq.1 e
      exact ⟨n1, n2, n3⟩
    · exact h.entN j c t' hj
  · exact fun j k hj hk hne => h.inj j k (hsome j hj) (hsome k hk) hne
  · intro r hr
    obtain ⟨k1, k2⟩ := h.row r hr
    refine ⟨k1.keep fun g hg' => ?_, fun g hg' => ?_⟩
    · rw [setW_ne]
      exact (k2 g hg').2.2 i (by simp [hi])
    · obtain ⟨q1, q2, q3⟩ := k2 g hg'
      exact ⟨q1, q2, fun j hj => q3 j (hsome j hj)⟩
theorem AfterK_sound {dst : Option Tmp} {st : St} {K : St → Prop} {v : Value} {a : Act} {w w' : World} (h : Ok N w0 st a w) (hk : AfterK N w0 dst st K v w') : ∃ st', Ok N w0 st' (a.put dst v) w' ∧ K st' := by
  obtain ⟨T, ρ, E0, R0, pub0, s0⟩ := st
  obtain ⟨E, R, pub, s, hw, hp⟩ := hk
  have h' : Ok N w0 ⟨T, ρ, E, R, pub, s⟩ a w' := ⟨h.sz, h.df, h.tm, hw⟩
  exact putK_sound h' hp
theorem evs_get {T : Tl} : ∀ {l : List Operand} {r : List SV}, evs T l = some r → ∀ x ∈ l, ∃ sv, ev T x = some sv
  | [], _, _, x, hx => by cases hx
  | y :: l, r, h, x, hx => by
    simp only [evs] at h
    split at h
    · rename_i a l' ha hl
      rcases List.mem_cons.1 hx with rfl | hx
      · exact ⟨a, ha⟩
      · exact evs_get hl x hx
    · cases h
theorem gen_sound {o : Oper} {st : St} {K : St → Prop} {a : Act} {w : World} (h : Ok N w0 st a w) (hk : gen P N w0 o st K) {next : Act → World → Prop} {Q : Exit → Act → World → Prop}
    (hn : ∀ st' a' w', Ok N w0 st' a' w' → K st' → next a' w') : o.wp P a w next Q := by
  unfold gen at hk
  split at hk
  · rename_i r hr
    obtain ⟨hs, hk⟩ := hk
    have hk := hk w h.wd
    have e : execOp a.eval o = execOp (evF st.ρ st.T) o := by
      refine execOp_congr o hs fun x hx => ?_
      obtain ⟨sv, hsv⟩ := evs_get hr x (Array.mem_toList_iff.2 hx)
      rw [h.tmok x sv hsv]
      simp only [evF, hsv]
    unfold Oper.wp
    rw [e]
    generalize (execOp (evF st.ρ st.T) o).run P w = r at hk
    cases r with
    | halt x w' => exact hk.elim
    | ok n w' =>
      cases n <;> simp only [GenR] at hk <;> try (exact hk.elim)
      · obtain ⟨st', k1, k2⟩ := AfterK_sound h hk
        exact hn _ _ _ k1 k2
      · obtain ⟨st', k1, k2⟩ := AfterK_sound h hk
        exact hn _ _ _ k1 k2
      · refine Calls.mono hk ?_
        rintro e w'' ⟨v, rfl, hk⟩
        obtain ⟨st', k1, k2⟩ := AfterK_sound h hk
        exact hn _ _ _ k1 k2
  · exact hk.elim
end
end Go.Vc


/- The conditions are enough: effects, guards, regions, code. -/
namespace Go.Vc
open Go.RowKit
section
variable {P : Program} {ty : List (Nat × TI)} {N : Nat} {w0 : Base} {plans : List (Nat × (List Nat × Pl))}
theorem Oper.wp_value {o : Oper} {a : Act} {w w' : World} {next : Act → World → Prop} {Q : Exit → Act → World → Prop} {v : Value} (h : (execOp a.eval o).run P w = .ok (.value v) w') (hn : next (a.put o.dst v) w') : o.wp P a w next Q := by
  unfold Oper.wp; rw [h]; exact hn
theorem Oper.wp_skip {o : Oper} {a : Act} {w w' : World} {next : Act → World → Prop} {Q : Exit → Act → World → Prop} (h : (execOp a.eval o).run P w = .ok .skip w') (hn : next (a.put o.dst undef) w') : o.wp P a w next Q := by
  unfold Oper.wp; rw [h]; exact hn
theorem run_newRow {t : TypeId} {cs : Array Value} {w : World} : (newRow t cs).run P w = .ok ⟨w.heap.size, 0, none⟩ (pushW w (.cells cs t (0, 0))) := rfl
theorem rep_length (l : List SV) : ∀ n, (vcEff.rep n l).length = n * l.length
  | 0 => by simp [vcEff.rep]
  | n + 1 => by simp [vcEff.rep, rep_length l n, Nat.succ_mul, Nat.add_comm]
theorem rep_get (l : List SV) : ∀ n j, j < n * l.length → (vcEff.rep n l)[j]? = l[j % l.length]?
  | 0, j, h => by simp at h
  | n + 1, j, h => by
    simp only [vcEff.rep]
    rcases Nat.lt_or_ge j l.length with h1 | h1
    · rw [List.getElem?_append_left h1, Nat.mod_eq_of_lt h1]
    · rw [List.getElem?_append_right h1, rep_get l n _ (by rw [Nat.succ_mul] at h; omega)]
      congr 1
      exact (Nat.mod_eq_sub_mod h1).symm
theorem zero_rep {ρ : List Nat} {z : Array Value} {n sz : Nat} (hz : z.size = sz) (h0 : sz ≠ 0) : (Array.range (n * sz)).map (fun i => z[i % z.size]!) = (denL ρ (vcEff.rep n (z.toList.map .v))).toArray := by
  apply Array.ext_getElem?
  intro j
  simp only [Array.getElem?_map, List.getElem?_toArray, denL_get]
  rcases Nat.lt_or_ge j (n * sz) with h | h
  · rw [rep_get _ _ _ (by simp [hz, h])]
    have hm : j % sz < sz := Nat.mod_lt _ (by omega)
    subst hz
    have hm' : j % z.size < z.size := hm
    simp only [List.length_map, Array.length_toList, List.getElem?_map, Array.getElem?_toList]
    rw [Array.getElem?_eq_getElem hm']
    simp [h, hm', den]
  · rw [List.getElem?_eq_none (by rw [rep_length]; simp [hz]; exact h)]
    simp [h]
theorem fillA_sound {ρ : List Nat} {sz : Nat} : ∀ (ps : List (Nat × SV)) (cs r : List SV), vcEff.fillA sz cs ps = some r →
    Instr.fill (fun i => some (i * sz, sz)) (denL ρ cs).toArray (ps.map fun p => (p.1, den ρ p.2)) = some (denL ρ r).toArray
  | [], cs, r, h => by simp [vcEff.fillA] at h; subst h; simp [Instr.fill]
  | (i, x) :: ps, cs, r, h => by
    simp only [vcEff.fillA] at h
    split at h <;> try (cases h; done)
    rename_i l h2
    split at h <;> try (cases h; done)
    rename_i cs' h3 hb h4
    have hcs := cellsOf_den (ρ := ρ) h2
    have hn := nbeq.1 h3
    have hb' := Nat.le_of_ble_eq_true hb
    have hsz : (den ρ x).cells.size = sz := by rw [hcs]; simp [denL_length, hn]
    simp only [List.map_cons, Instr.fill, hsz]
    rw [if_neg (by simp [denL_length]; omega)]
    have he : (den ρ x).cells.zipIdx.foldl (fun cs (c, j) => cs.setIfInBounds (i * sz + j) c) (denL ρ cs).toArray = (denL ρ cs').toArray := by
      rw [hcs]
      have e0 : (denL ρ l).toArray.zipIdx.foldl (fun cs (x : Value × Nat) => cs.setIfInBounds (i * sz + x.2) x.1) (denL ρ cs).toArray = ((denL ρ l).zipIdx 0).foldl (fun cs (x : Value × Nat) => cs.setIfInBounds (i * sz + x.2) x.1) (denL ρ cs).toArray := by
        rw [← Array.foldl_toList, Array.toList_zipIdx]
      exact Eq.trans e0 (putAt_eq h4 (by omega))
    rw [he]
    exact fillA_sound ps cs' r h
theorem vcEff_sound (hty : TyOk P ty) {o : Oper} {st : St} {K : St → Prop} {a : Act} {w : World} (h : Ok N w0 st a w) (hk : vcEff P ty N w0 o st K) {next : Act → World → Prop} {Q : Exit → Act → World → Prop}
    (hn : ∀ st' a' w', Ok N w0 st' a' w' → K st' → next a' w') : o.wp P a w next Q := by
  have hT := h.tmok
  obtain ⟨dst, op, type, pos, after, guard⟩ := o
  unfold vcEff at hk
  simp only at hk
  split at hk
  · rename_i t x
    split at hk <;> try (exact hk.elim)
    rename_i sv hx
    split at hk <;> try (exact hk.elim)
    rename_i cs hcs
    obtain ⟨st', ok', hk', hg⟩ := newK_sound h hk
    obtain ⟨st'', k1, k2⟩ := putK_sound ok' hk'
    refine Oper.wp_value (v := den st'.ρ (.own st.ρ.length 0)) (w' := pushW w (.cells (denL st.ρ cs).toArray t (0, 0))) ?_ (hn _ _ _ k1 k2)
    simp only [execOp]
    refine run_val ?_
    rw [hT _ _ hx]
    simp only [Instr.box, newVar, Sem.run_bind, cellsOf_den hcs, run_newRow, Result.andThen_ok, Sem.run_pure, den, hg]
  · rename_i t
    split at hk <;> try (exact hk.elim)
    rename_i ti hti
    obtain ⟨st', ok', hk', hg⟩ := newK_sound h hk
    obtain ⟨st'', k1, k2⟩ := putK_sound ok' hk'
    refine Oper.wp_value (v := den st'.ρ (.own st.ρ.length 0)) (w' := pushW w (.cells (denL st.ρ (ti.z.cells.toList.map .v)).toArray t (0, 0))) ?_ (hn _ _ _ k1 k2)
    simp only [execOp]
    refine run_val ?_
    have hz : (denL st.ρ (ti.z.cells.toList.map SV.v)).toArray = ti.z.cells := by
      rw [denL_map]; simp [Function.comp_def, den]
    unfold Instr.alloc
    rw [Sem.run_bind, run_zeroValue (hty _ _ hti)]
    simp only [Result.andThen_ok, newVar, Sem.run_bind, run_newRow, Sem.run_pure, den, hg, hz]
  · rename_i t n ps
    split at hk <;> try (exact hk.elim)
    rename_i ti hti
    split at hk <;> try (exact hk.elim)
    rename_i e he
    split at hk <;> try (exact hk.elim)
    rename_i ei hei
    split at hk <;> try (exact hk.elim)
    rename_i l hl
    split at hk <;> try (exact hk.elim)
    rename_i z zs hz
    split at hk <;> try (exact hk.elim)
    rename_i cs hle hsz hfill
    obtain ⟨st', ok', hk', hg⟩ := newK_sound h hk
    obtain ⟨st'', k1, k2⟩ := putK_sound ok' hk'
    refine Oper.wp_value (v := den st'.ρ (.osl st.ρ.length n n)) (w' := pushW w (.cells (denL st.ρ cs).toArray e (0, 0))) ?_ (hn _ _ _ k1 k2)
    simp only [execOp]
    refine run_val ?_
    obtain ⟨y, d, hy, hd, h1, h2, h3, h4, h5, h6, h7, h8⟩ := (hty _ _ hti).get
    rw [he] at h6
    cases d <;> simp only [elB] at h6 <;> try (cases h6; done)
    rename_i e'
    obtain rfl := nbeq.1 h6
    have hle' := Nat.le_of_ble_eq_true hle
    have hsz' := nbeq.1 hsz
    have h0 : ei.size ≠ 0 := by rw [← hsz']; simp
    have hzs : ei.z.cells.size = ei.size := by rw [← Array.length_toList, hz]; exact hsz'
    have hp := evp_den hT _ _ hl
    have hf := fillA_sound (ρ := st.ρ) _ _ _ hfill
    rw [← hp, ← hz] at hf
    unfold Instr.buildSlice
    simp only [Sem.run_bind, run_under hd, Result.andThen_ok, run_sizeOf (hty _ _ hei)]
    rw [if_neg (by omega)]
    have hmap : (ps.map fun x => (x.1, a.eval x.2)).toList = ps.toList.map fun x => (x.1, a.eval x.2) := by simp
    by_cases hn0 : n * ei.size = 0
    · obtain rfl : n = 0 := by rcases Nat.mul_eq_zero.1 hn0 with h' | h'; exact h'; exact absurd h' h0
      have hr : (Array.range (0 * ei.size)).map (fun i => (#[] : Array Value)[i % (#[] : Array Value).size]!) = (denL st.ρ (vcEff.rep 0 (ei.z.cells.toList.map .v))).toArray := by
        rw [Nat.zero_mul]; simp [vcEff.rep, denL]
      rw [if_pos (Nat.zero_mul _)]
      simp only [Sem.run_bind, Sem.run_pure, Result.andThen_ok]
      rw [hr, hmap, hf]
      simp only [Sem.run_bind, Sem.run_pure, run_newRow, Result.andThen_ok, den, hg]
    · rw [if_neg hn0]
      simp only [Sem.run_bind, Sem.run_pure, run_zeroValue (hty _ _ hei), Result.andThen_ok]
      rw [zero_rep (ρ := st.ρ) hzs h0, hmap, hf]
      simp only [Sem.run_bind, Sem.run_pure, run_newRow, Result.andThen_ok, den, hg]
  · rename_i t ad x
    split at hk
    · rename_i i off ha
      split at hk <;> try (exact hk.elim)
      rename_i ti sv hti hx
      split at hk <;> try (exact hk.elim)
      rename_i l hl
      split at hk <;> try (exact hk.elim)
      rename_i cs e hsz hsc hi
      split at hk <;> try (exact hk.elim)
      rename_i cs' hp hb
      have hb' := Nat.le_of_ble_eq_true hb
      have ok' : Ok N w0 ⟨st.T, st.ρ, (i, (cs', e)) :: st.E, st.R, st.pub, st.s⟩ a (setW w (st.ρ.getD i 0) (.cells (denL st.ρ cs').toArray e (0, 0))) := ⟨h.sz, h.df, h.tm, h.wd.setEnt hi st.T⟩
      obtain ⟨st'', k1, k2⟩ := putK_sound ok' hk
      refine Oper.wp_skip (w' := setW w (st.ρ.getD i 0) (.cells (denL st.ρ cs').toArray e (0, 0))) ?_ (hn _ _ _ k1 k2)
      simp only [execOp]
      refine run_unit ?_
      rw [hT _ _ ha, hT _ _ hx]
      simp only [den, Instr.storeAt, Instr.sureAddr, Sem.run_bind, Sem.run_pure, Result.andThen_ok, storeVar, cellsOf_den hl, run_sizeOf (hty _ _ hti)]
      rw [if_neg (by simp [denL_length, nbeq.1 hsz])]
      rw [run_storeCells (denL st.ρ l) 0 (denL st.ρ cs).toArray w (scalars_plain hsc) (h.wd.ent i cs e hi) (by simp [denL_length]; omega), putAt_eq hp hb']
    · exact gen_sound h hk hn
  · rename_i t x
    split at hk <;> try (exact hk.elim)
    rename_i ad hx
    obtain ⟨v, hv, hp⟩ := hk w h.wd
    obtain ⟨st'', k1, k2⟩ := putK_sound h hp
    refine Oper.wp_value (v := v) (w' := w) ?_ (hn _ _ _ k1 k2)
    simp only [execOp]
    refine run_val ?_
    rw [hT _ _ hx]
    simp only [den, Instr.loadAt, Instr.sureAddr, Sem.run_bind, Sem.run_pure, Result.andThen_ok]
    exact hv
  · rename_i fn as ts
    split at hk <;> try (exact hk.elim)
    · rename_i f a' b' l hf hl
      obtain ⟨hg, hk⟩ := hk
      have hk := hk w h.wd
      unfold Oper.wp
      have e : (execOp a.eval { dst, op := .call { callee := .value fn, args := as, argTypes := ts }, type, pos, after, guard }).run P w = .ok (.enter f (denL st.ρ (a' ++ l ++ b')).toArray) w := by
        simp only [execOp, resolve, hT _ _ hf, den, Deferred.ofValue, Sem.run_bind, Sem.run_pure, Result.andThen_ok, invoke]
        have := evs_den hT _ _ hl
        have e2 : as.map a.eval = (denL st.ρ l).toArray := by rw [← this]; apply Array.ext'; simp
        rw [e2, hg]
        simp [denL_map]
      rw [e]
      simp only [Oper.upon]
      refine Calls.mono hk ?_
      rintro e w'' ⟨v, rfl, hk⟩
      obtain ⟨st', k1, k2⟩ := AfterK_sound h hk
      exact hn _ _ _ k1 k2
    · rename_i f a' b' l hf hl
      obtain ⟨hg, hk⟩ := hk
      have hk := hk w h.wd
      unfold Oper.wp
      have e : (execOp a.eval { dst, op := .call { callee := .value fn, args := as, argTypes := ts }, type, pos, after, guard }).run P w = .ok (.enter f (a' ++ (denL st.ρ l).toArray ++ b')) w := by
        simp only [execOp, resolve, hT _ _ hf, den, Deferred.ofValue, Sem.run_bind, Sem.run_pure, Result.andThen_ok, invoke]
        have := evs_den hT _ _ hl
        have e2 : as.map a.eval = (denL st.ρ l).toArray := by rw [← this]; apply Array.ext'; simp
        rw [e2, hg]
      rw [e]
      simp only [Oper.upon]
      refine Calls.mono hk ?_
      rintro e w'' ⟨v, rfl, hk⟩
      obtain ⟨st', k1, k2⟩ := AfterK_sound h hk
      exact hn _ _ _ k1 k2
  · exact gen_sound h hk hn
end
end Go.Vc


