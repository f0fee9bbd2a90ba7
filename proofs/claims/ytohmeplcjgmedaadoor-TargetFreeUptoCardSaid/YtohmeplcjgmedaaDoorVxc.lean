/- Pure operations over symbolic values: what they come to. -/
import Derived.Test.YtohmeplcjgmedaaDoorVxb
namespace Go.Vx
open Go.RowKit Go.Vc

/-- What is told of a type. -/
inductive Kd where
  | int (k : IntKind) | bool | str | slice (e : Nat) | ptr | ifc | fn | map | other
structure TY where
  i : TI
  kd : Kd
def kdB : TypeDesc → Kd → Bool
  | .int k, .int k' => sameK k k'
  | .bool, .bool => true
  | .string, .str => true
  | .slice e, .slice e' => Nat.beq e e'
  | .pointer _, .ptr => true
  | .interface _, .ifc => true
  | .func _ _ _, .fn => true
  | .map _ _, .map => true
  | _, .other => true
  | _, _ => false
def kdOk (P : Program) (t : TypeId) (k : Kd) : Bool :=
  match P.underlying t with
  | some d => kdB d k
  | none => false
structure TYok (P : Program) (t : TypeId) (y : TY) : Prop where
  i : TIok P t y.i
  k : kdOk P t y.kd = true
def Tys (P : Program) (ty : List (Nat × TY)) : Prop := ∀ t y, lk ty t = some y → TYok P t y
theorem Tys_nil {P : Program} : Tys P [] := fun t i h => by simp [lk] at h
theorem Tys_cons {P : Program} {k : Nat} {i : TY} {r : List (Nat × TY)} (h : TYok P k i) (hr : Tys P r) : Tys P ((k, i) :: r) := by
  intro t j hj
  simp only [lk] at hj
  split at hj
  · rename_i e
    obtain rfl := nbeq.1 e
    injection hj with hj; subst hj; exact h
  · exact hr t j hj
/-- The first generator's table. -/
theorem Tys.old {P : Program} {ty : List (Nat × TY)} (h : Tys P ty) : TyOk P (ty.map fun p => (p.1, p.2.i)) := by
  intro t i hi
  rw [lk_map] at hi
  cases hl : lk ty t with
  | none => rw [hl] at hi; cases hi
  | some y => rw [hl] at hi; injection hi with hi; subst hi; exact (h t y hl).i
theorem TYok.get {P : Program} {t : TypeId} {y : TY} (h : TYok P t y) : ∃ d, P.underlying t = some d ∧ kdB d y.kd = true := by
  have := h.k
  unfold kdOk at this
  split at this
  · rename_i d hd; exact ⟨d, hd, this⟩
  · cases this
theorem TYok.int {P : Program} {t : TypeId} {y : TY} {k : IntKind} (h : TYok P t y) (hk : y.kd = .int k) : P.underlying t = some (.int k) := by
  obtain ⟨d, h1, h2⟩ := h.get
  rw [hk] at h2
  cases d <;> simp only [kdB] at h2 <;> try (cases h2; done)
  rw [h1, sameK_eq h2]
theorem TYok.bool {P : Program} {t : TypeId} {y : TY} (h : TYok P t y) (hk : y.kd = .bool) : P.underlying t = some .bool := by
  obtain ⟨d, h1, h2⟩ := h.get
  rw [hk] at h2
  cases d <;> simp only [kdB] at h2 <;> try (cases h2; done)
  exact h1
theorem TYok.str {P : Program} {t : TypeId} {y : TY} (h : TYok P t y) (hk : y.kd = .str) : P.underlying t = some .string := by
  obtain ⟨d, h1, h2⟩ := h.get
  rw [hk] at h2
  cases d <;> simp only [kdB] at h2 <;> try (cases h2; done)
  exact h1
theorem TYok.slice {P : Program} {t : TypeId} {y : TY} {e : Nat} (h : TYok P t y) (hk : y.kd = .slice e) : P.underlying t = some (.slice e) := by
  obtain ⟨d, h1, h2⟩ := h.get
  rw [hk] at h2
  cases d <;> simp only [kdB] at h2 <;> try (cases h2; done)
  rw [h1, nbeq.1 h2]
theorem TYok.ptr {P : Program} {t : TypeId} {y : TY} (h : TYok P t y) (hk : y.kd = .ptr) : ∃ e, P.underlying t = some (.pointer e) := by
  obtain ⟨d, h1, h2⟩ := h.get
  rw [hk] at h2
  cases d <;> simp only [kdB] at h2 <;> try (cases h2; done)
  exact ⟨_, h1⟩
theorem TYok.ifc {P : Program} {t : TypeId} {y : TY} (h : TYok P t y) (hk : y.kd = .ifc) : ∃ e, P.underlying t = some (.interface e) := by
  obtain ⟨d, h1, h2⟩ := h.get
  rw [hk] at h2
  cases d <;> simp only [kdB] at h2 <;> try (cases h2; done)
  exact ⟨_, h1⟩

/-- A constant, or a zero value's cell. -/
def cD : Value → SV
  | .int k n => .d (.int k n)
  | .bool b => .kb b
  | .string s => .d (.str s)
  | .slice none 0 0 => .nl
  | v => .d (.val v)
theorem cD_rep (e : Env) (w : World) (v : Value) : RepSV e w (cD v) v := by
  unfold cD
  split
  · simp only [RepSV, RepD]
  · simp only [RepSV]
  · simp only [RepSV, RepD]
  · simp only [RepSV]
  · simp only [RepSV, RepD]
/-- A zero value's cell, as data. -/
def zD : Value → D
  | .int k n => .int k n
  | .bool b => .bool b
  | .string s => .str s
  | .slice none 0 0 => .sl 0 0 []
  | v => .val v
theorem zD_rep (S : Nat → Prop) (w : World) (v : Value) : RepD S w (zD v) v := by
  unfold zD
  split
  · simp only [RepD]
  · simp only [RepD]
  · simp only [RepD]
  · simp only [RepD, RepC]
    exact ⟨none, 0, rfl, Nat.le_refl _, Nat.zero_le _, fun h => absurd rfl h, trivial⟩
  · simp only [RepD]
def cZ : Value → SV
  | .int k n => .d (.int k n)
  | .bool b => .d (.bool b)
  | .string s => .d (.str s)
  | .slice none 0 0 => .nl
  | v => .d (.val v)
theorem cZ_rep (e : Env) (w : World) (v : Value) : RepSV e w (cZ v) v := by
  unfold cZ
  split <;> simp only [RepSV, RepD]
def zs : List Value → List SV
  | [] => []
  | v :: r => cZ v :: zs r
theorem zs_rep (e : Env) (w : World) : ∀ l : List Value, RepSVs e w (zs l) l
  | [] => by simp [zs, RepSVs]
  | v :: r => by simp only [zs, RepSVs]; exact ⟨v, r, rfl, cZ_rep _ _ _, zs_rep e w r⟩

def ev (T : Tl) : Operand → Option SV
  | .tmp t => lk T t
  | .const v => some (cD v)
  | .global g => some (.d (.val (.pointer (some ⟨g, 0, none⟩))))
  | .func f => some (.d (.fn f [] []))
def evs (T : Tl) : List Operand → Option (List SV)
  | [] => some []
  | x :: r => match ev T x, evs T r with
    | some a, some l => some (a :: l)
    | _, _ => none
def evp (T : Tl) : List (Nat × Operand) → Option (List (Nat × SV))
  | [] => some []
  | (i, x) :: r => match ev T x, evp T r with
    | some a, some l => some ((i, a) :: l)
    | _, _ => none

/-- Data as a symbolic value: structs and tuples by their parts. -/
def dL : List D → List SV
  | [] => []
  | x :: r => .d x :: dL r
theorem dL_map (l : List D) : dL l = l.map .d := by
  induction l with
  | nil => rfl
  | cons x r ih => simp [dL, ih]
def cellsOf : SV → Option (List SV)
  | .agg l => some l
  | .d (.agg l) => some (dL l)
  | .d (.tup _) => none
  | .tup _ => none
  | .any => none
  | .d (.val (.agg _)) => none
  | .d (.val (.tuple _)) => none
  | x => some [x]
theorem cellsOf_rep {e : Env} {w : World} {x : SV} {l : List SV} {v : Value} (h : cellsOf x = some l) (hx : RepSV e w x v) : RepSVs e w l v.cells.toList := by
  have one : ∀ u : Value, RepSV e w x u → u.cells = #[u] → RepSVs e w [x] u.cells.toList := fun u hu hc => by
    rw [hc]; simp only [RepSVs]; exact ⟨u, [], rfl, hu, rfl⟩
  cases x with
  | agg m =>
    simp only [cellsOf, Option.some.injEq] at h; subst h
    simp only [RepSV] at hx
    obtain ⟨l', rfl, h1⟩ := hx
    exact h1
  | d y =>
    cases y with
    | agg m =>
      simp only [cellsOf, Option.some.injEq] at h; subst h
      simp only [RepSV, RepD] at hx
      obtain ⟨l', rfl, h1⟩ := hx
      rw [dL_map]
      exact RepSVs.ofD.1 h1
    | tup m => simp [cellsOf] at h
    | val u =>
      have hx' := hx
      simp only [RepSV, RepD] at hx
      subst hx
      cases v with
      | agg _ => simp [cellsOf] at h
      | tuple _ => simp [cellsOf] at h
      | _ =>
        simp only [cellsOf, Option.some.injEq] at h; subst h
        exact one _ hx' rfl
    | int k n =>
      simp only [cellsOf, Option.some.injEq] at h; subst h
      refine one _ hx ?_
      simp only [RepSV, RepD] at hx; subst hx; rfl
    | bool k =>
      simp only [cellsOf, Option.some.injEq] at h; subst h
      refine one _ hx ?_
      simp only [RepSV, RepD] at hx; subst hx; rfl
    | str k =>
      simp only [cellsOf, Option.some.injEq] at h; subst h
      refine one _ hx ?_
      simp only [RepSV, RepD] at hx; subst hx; rfl
    | sl eb n cs =>
      simp only [cellsOf, Option.some.injEq] at h; subst h
      refine one _ hx ?_
      simp only [RepSV, RepD] at hx; obtain ⟨A, c, rfl, _⟩ := hx; rfl
    | csl eb n cs =>
      simp only [cellsOf, Option.some.injEq] at h; subst h
      refine one _ hx ?_
      simp only [RepSV, RepD] at hx; obtain ⟨A, rfl, _⟩ := hx; rfl
    | ptr cs off =>
      simp only [cellsOf, Option.some.injEq] at h; subst h
      refine one _ hx ?_
      simp only [RepSV, RepD] at hx; obtain ⟨A, rfl, _⟩ := hx; rfl
    | fn f a b =>
      simp only [cellsOf, Option.some.injEq] at h; subst h
      refine one _ hx ?_
      simp only [RepSV, RepD] at hx; obtain ⟨A, c, rfl, _⟩ := hx; rfl
    | ifc t y =>
      simp only [cellsOf, Option.some.injEq] at h; subst h
      refine one _ hx ?_
      simp only [RepSV, RepD] at hx; obtain ⟨A, rfl, _⟩ := hx; rfl
  | kb k =>
    simp only [cellsOf, Option.some.injEq] at h; subst h
    refine one _ hx ?_
    simp only [RepSV] at hx; subst hx; rfl
  | own i o =>
    simp only [cellsOf, Option.some.injEq] at h; subst h
    refine one _ hx ?_
    simp only [RepSV] at hx; obtain ⟨g, _, rfl⟩ := hx; rfl
  | row i =>
    simp only [cellsOf, Option.some.injEq] at h; subst h
    refine one _ hx ?_
    simp only [RepSV] at hx; obtain ⟨A, n, c, rfl, _⟩ := hx; rfl
  | rowp i o =>
    simp only [cellsOf, Option.some.injEq] at h; subst h
    refine one _ hx ?_
    simp only [RepSV] at hx; obtain ⟨A, n, c, _, rfl⟩ := hx; rfl
  | nm i =>
    simp only [cellsOf, Option.some.injEq] at h; subst h
    refine one _ hx ?_
    simp only [RepSV] at hx; obtain ⟨g, rfl, _⟩ := hx; rfl
  | fn f a b =>
    simp only [cellsOf, Option.some.injEq] at h; subst h
    refine one _ hx ?_
    simp only [RepSV] at hx; obtain ⟨A, n, rfl, _⟩ := hx; rfl
  | ifc t y =>
    simp only [cellsOf, Option.some.injEq] at h; subst h
    refine one _ hx ?_
    simp only [RepSV] at hx; obtain ⟨A, rfl, _⟩ := hx; rfl
  | nl =>
    simp only [cellsOf, Option.some.injEq] at h; subst h
    refine one _ hx ?_
    simp only [RepSV] at hx; subst hx; rfl
  | tup m => simp [cellsOf] at h
  | any => simp [cellsOf] at h

/-- Parts laid into a zero value. -/
def fillF (flds : List (Nat × Nat)) : List SV → List (Nat × SV) → Option (List SV)
  | cs, [] => some cs
  | cs, (f, x) :: r => match nth flds f, cellsOf x with
    | some (o, n), some l => match Nat.beq l.length n, Nat.ble (o + n) cs.length, putAt o l cs with
      | true, true, some cs' => fillF flds cs' r
      | _, _, _ => none
    | _, _ => none

def isNilK : Kd → SV → Option Bool
  | .ptr, .d (.val (.pointer none)) => some true
  | .ptr, .d (.ptr _ _) => some false
  | .ptr, .own _ _ => some false
  | .ptr, .rowp _ _ => some false
  | _, _ => none
def boolOf : SV → Option Bool
  | .d (.bool b) => some b
  | .kb b => some b
  | _ => none
def binB (kd : Kd) (op : BinOp) (a b : SV) : Option SV :=
  match kd with
  | .int _ => match a, b with
    | .d (.int k a), .d (.int k' b) => match sameK k k' with
      | true => match op with
        | .add => some (.d (.int k (k.wrap (a + b))))
        | .sub => some (.d (.int k (k.wrap (a - b))))
        | .mul => some (.d (.int k (k.wrap (a * b))))
        | .eql => some (.d (.bool (a == b)))
        | .neq => some (.d (.bool (a != b)))
        | .lss => some (.d (.bool (decide (a < b))))
        | .leq => some (.d (.bool (decide (a ≤ b))))
        | .gtr => some (.d (.bool (decide (a > b))))
        | .geq => some (.d (.bool (decide (a ≥ b))))
        | _ => none
      | false => none
    | _, _ => none
  | .str => match a, b with
    | .d (.str x), .d (.str y) => match op with
      | .eql => some (.d (.bool (x.toList == y.toList)))
      | .neq => some (.d (.bool (!(x.toList == y.toList))))
      | .lss => some (.d (.bool (Op.bytesLess x.toList y.toList)))
      | .leq => some (.d (.bool (Op.bytesLess x.toList y.toList || x.toList == y.toList)))
      | .gtr => some (.d (.bool (!(Op.bytesLess x.toList y.toList || x.toList == y.toList))))
      | .geq => some (.d (.bool (!(Op.bytesLess x.toList y.toList))))
      | _ => none
    | _, _ => none
  | .bool => match boolOf a, boolOf b with
    | some x, some y => match op with
      | .eql => some (.d (.bool (x == y)))
      | .neq => some (.d (.bool (!(x == y))))
      | _ => none
    | _, _ => none
  | .ptr => match isNilK .ptr a, isNilK .ptr b with
    | some true, some y => match op with
      | .eql => some (.kb y)
      | .neq => some (.kb (!y))
      | _ => none
    | some false, some true => match op with
      | .eql => some (.kb false)
      | .neq => some (.kb true)
      | _ => none
    | _, _ => none
  | _ => none

def lenOp (ty : List (Nat × TY)) (T : Tl) (H : Hp) (args : List Operand) (tys : List TypeId) : Option SV :=
  match args, tys with
  | x :: _, t :: _ => match lk ty t with
    | some y => match y.kd with
      | .slice _ => match ev T x with
        | some (.d (.sl _ n _)) => some (.d (.int .i64 n))
        | some (.d (.csl _ n _)) => some (.d (.int .i64 n))
        | some .nl => some (.d (.int .i64 0))
        | some (.row i) => match lk H i with
          | some (.row _ _ _ n _) => some (.d (.int .i64 n))
          | _ => none
        | _ => none
      | .str => match ev T x with
        | some (.d (.str s)) => some (.d (.int .i64 s.size))
        | _ => none
      | _ => none
    | none => none
  | _, _ => none
/-- A pure operation's value. -/
def pOp (ty : List (Nat × TY)) (T : Tl) (H : Hp) : Op → Option SV
  | .move x => ev T x
  | .assign x => ev T x
  | .extract x i => match ev T x with
    | some (.tup l) => nth l i
    | _ => none
  | .unOp .not _ x => match ev T x with
    | some (.d (.bool b)) => some (.d (.bool (!b)))
    | some (.kb b) => some (.kb (!b))
    | _ => none
  | .unOp .neg _ x => match ev T x with
    | some (.d (.int k n)) => some (.d (.int k (k.wrap (0 - n))))
    | _ => none
  | .binOp op t x y _ => match lk ty t with
    | some z => match ev T x, ev T y with
      | some a, some b => binB z.kd op a b
      | _, _ => none
    | none => none
  | .fieldAddr s x f => match lk ty s with
    | some y => match nth y.i.flds f with
      | some (o, _) => match ev T x with
        | some (.own j off) => some (.own j (off + o))
        | some (.rowp j off) => some (.rowp j (off + o))
        | some (.d (.ptr cs off)) => some (.d (.ptr cs (off + o)))
        | _ => none
      | none => none
    | none => none
  | .nilCheck x => match ev T x with
    | some (.own j o) => some (.own j o)
    | some (.rowp j o) => some (.rowp j o)
    | some (.d (.ptr cs off)) => some (.d (.ptr cs off))
    | some (.d (.fn f a b)) => some (.d (.fn f a b))
    | some (.fn f a b) => some (.fn f a b)
    | _ => none
  | .load t x => match lk ty t with
    | some y => match ev T x with
      | some (.own j off) => match lk H j with
        | some (.blk _ cs) => match y.i.agg with
          | true => match takeF y.i.size (dropN off cs) with
            | some l => some (.agg l)
            | none => none
          | false => nth cs off
        | _ => none
      | some (.d (.ptr cs off)) => match y.i.agg with
        | true => match takeF y.i.size (dropN off cs) with
          | some l => some (.agg (dL l))
          | none => none
        | false => match nth cs off with
          | some x => some (.d x)
          | none => none
      | _ => none
    | none => none
  | .call { callee := .builtin .len, args := as, argTypes := ts } => lenOp ty T H as.toList ts.toList
  | .build t ps => match lk ty t with
    | some y => match evp T ps.toList, y.i.flds with
      | some l, _ :: _ => match fillF y.i.flds (zs y.i.z.cells.toList) l with
        | some cs => some (.agg cs)
        | none => none
      | _, _ => none
    | none => none
  | .makeFunc (.func f) a b => match evs T a.toList, evs T b.toList with
    | some x, some y => some (.fn f x y)
    | _, _ => none
  | .makeInterface t x => match lk ty t with
    | some y => match y.i.ifc with
      | false => match ev T x with
        | some a => some (.ifc t a)
        | none => none
      | true => none
    | none => none
  | .convert s t x => match lk ty s, lk ty t with
    | some a, some b => match a.kd, b.kd, ev T x with
      | .int _, .int k, some (.d (.int _ n)) => some (.d (.int k (k.wrap n)))
      | .str, .str, some (.d (.str s)) => some (.d (.str s))
      | _, _, _ => none
    | _, _ => none
  | _ => none

/-- What temporaries are known to hold. -/
def TmOk (e : Env) (w : World) (T : Tl) (f : Operand → Value) : Prop := ∀ x sv, ev T x = some sv → RepSV e w sv (f x)
theorem Ok.tmok {G : Glob} {n0 : Nat} {b : Bs G n0} {N : Nat} {e : Env} {st : St} {a : Act} {w : World} (h : Ok b N e st a w) : TmOk e w st.T a.eval := by
  intro x sv hx
  cases x with
  | tmp t => exact h.tm t sv hx
  | const v => simp only [ev, Option.some.injEq] at hx; subst hx; exact cD_rep _ _ _
  | global g => simp only [ev, Option.some.injEq] at hx; subst hx; simp only [RepSV, RepD]; rfl
  | func g => simp only [ev, Option.some.injEq] at hx; subst hx; simp only [RepSV, RepD]; exact ⟨#[], #[], rfl, rfl, rfl⟩
theorem evs_rep {e : Env} {w : World} {T : Tl} {f : Operand → Value} (hT : TmOk e w T f) : ∀ (l : List Operand) (r : List SV), evs T l = some r → RepSVs e w r (l.map f)
  | [], r, h => by simp [evs] at h; subst h; simp [RepSVs]
  | x :: t, r, h => by
    simp only [evs] at h
    split at h
    · rename_i a l ha hl
      injection h with h; subst h
      simp only [List.map_cons, RepSVs]
      exact ⟨_, _, rfl, hT x a ha, evs_rep hT t l hl⟩
    · cases h
theorem evp_rep {e : Env} {w : World} {T : Tl} {f : Operand → Value} (hT : TmOk e w T f) : ∀ (l : List (Nat × Operand)) (r : List (Nat × SV)), evp T l = some r → l.map (·.1) = r.map (·.1) ∧ RepSVs e w (r.map (·.2)) (l.map fun p => f p.2)
  | [], r, h => by simp [evp] at h; subst h; simp [RepSVs]
  | (i, x) :: t, r, h => by
    simp only [evp] at h
    split at h
    · rename_i a l ha hl
      injection h with h; subst h
      obtain ⟨h1, h2⟩ := evp_rep hT t l hl
      simp only [List.map_cons, RepSVs, h1]
      exact ⟨trivial, _, _, rfl, hT x a ha, h2⟩
    · cases h
end Go.Vx
