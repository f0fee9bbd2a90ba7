/- Symbolic states; pure operations; their soundness. -/
import Derived.Test.YtohmeplcjgmedaaDoorVca
namespace Go.Vc
open Go.RowKit

abbrev Tl := List (Nat × SV)
abbrev El := List (Nat × (List SV × TypeId))

def ev (T : Tl) : Operand → Option SV
  | .tmp t => lk T t
  | .const (.bool b) => some (.kb b)
  | .const v => some (.v v)
  | .global g => some (.v (.pointer (some ⟨g, 0, none⟩)))
  | .func f => some (.fn (.func f) [] [])
def evs (T : Tl) : List Operand → Option (List SV)
  | [] => some []
  | x :: r => match ev T x, evs T r with
    | some a, some l => some (a :: l)
    | _, _ => none

/-- The cells of a value. -/
def cellsOf : SV → Option (List SV)
  | .agg l => some l
  | .v (.agg a) => some (a.toList.map .v)
  | .v (.int k n) => some [.v (.int k n)]
  | .v (.bool b) => some [.v (.bool b)]
  | .v (.string s) => some [.v (.string s)]
  | .v (.slice a n c) => some [.v (.slice a n c)]
  | .v (.pointer a) => some [.v (.pointer a)]
  | .v (.map a) => some [.v (.map a)]
  | .v .nilIface => some [.v .nilIface]
  | .v .nilFunc => some [.v .nilFunc]
  | .v (.iface t x) => some [.v (.iface t x)]
  | .v (.func f a b) => some [.v (.func f a b)]
  | .own i o => some [.own i o]
  | .osl i n c => some [.osl i n c]
  | .fn f a b => some [.fn f a b]
  | .ifc t x => some [.ifc t x]
  | .kb b => some [.kb b]
  | _ => none

def intB (op : BinOp) (k : IntKind) (a b : Int) : Option Value :=
  match op with
  | .add => some (.int k (k.wrap (a + b)))
  | .sub => some (.int k (k.wrap (a - b)))
  | .mul => some (.int k (k.wrap (a * b)))
  | .eql => some (.bool (a == b))
  | .neq => some (.bool (a != b))
  | .lss => some (.bool (decide (a < b)))
  | .leq => some (.bool (decide (a ≤ b)))
  | .gtr => some (.bool (decide (a > b)))
  | .geq => some (.bool (decide (a ≥ b)))
  | _ => none
def strOp (op : BinOp) (x y : ByteArray) : Option Value :=
  match op with
  | .eql => some (.bool (x.toList == y.toList))
  | .neq => some (.bool (!(x.toList == y.toList)))
  | .lss => some (.bool (Op.bytesLess x.toList y.toList))
  | .leq => some (.bool (Op.bytesLess x.toList y.toList || x.toList == y.toList))
  | .gtr => some (.bool (!(Op.bytesLess x.toList y.toList || x.toList == y.toList)))
  | .geq => some (.bool (!(Op.bytesLess x.toList y.toList)))
  | _ => none
def sameK : IntKind → IntKind → Bool
  | .i8, .i8 | .i16, .i16 | .i32, .i32 | .i64, .i64 | .u8, .u8 | .u16, .u16 | .u32, .u32 | .u64, .u64 => true
  | _, _ => false
theorem sameK_eq {k k' : IntKind} (h : sameK k k' = true) : k = k' := by cases k <;> cases k' <;> simp_all [sameK]
def binB (op : BinOp) : SV → SV → Option SV
  | .v (.int k a), .v (.int k' b) => match sameK k k' with
    | true => match intB op k a b with
      | some v => some (.v v)
      | none => none
    | false => none
  | .v (.string x), .v (.string y) => match strOp op x y with
    | some v => some (.v v)
    | none => none
  | _, _ => none

/-- Parts laid into a zero value. -/
def fillF (flds : List (Nat × Nat)) : List SV → List (Nat × SV) → Option (List SV)
  | cs, [] => some cs
  | cs, (f, x) :: r => match nth flds f, cellsOf x with
    | some (o, n), some l => match Nat.beq l.length n, Nat.ble (o + n) cs.length, putAt o l cs with
      | true, true, some cs' => fillF flds cs' r
      | _, _, _ => none
    | _, _ => none
def evp (T : Tl) : List (Nat × Operand) → Option (List (Nat × SV))
  | [] => some []
  | (i, x) :: r => match ev T x, evp T r with
    | some a, some l => some ((i, a) :: l)
    | _, _ => none
def lenOp (ty : List (Nat × TI)) (T : Tl) (args : List Operand) (tys : List TypeId) : Option SV :=
  match args, tys with
  | x :: _, t :: _ => match lk ty t, ev T x with
    | some i, some (.v (.slice _ n _)) => match i.elem with
      | some _ => some (.v (.int .i64 n))
      | none => none
    | some i, some (.osl _ n _) => match i.elem with
      | some _ => some (.v (.int .i64 n))
      | none => none
    | some i, some (.v (.string s)) => match i.str with
      | true => some (.v (.int .i64 s.size))
      | false => none
    | _, _ => none
  | _, _ => none
/-- A pure operation's value; a load from an own block among them. -/
def pOp (ty : List (Nat × TI)) (T : Tl) (E : El) : Op → Option SV
  | .move x => ev T x
  | .assign x => ev T x
  | .extract x i => match ev T x with
    | some (.tup l) => nth l i
    | some (.v (.tuple a)) => match nth a.toList i with
      | some v => some (.v v)
      | none => none
    | _ => none
  | .unOp .not _ x => match ev T x with
    | some (.v (.bool b)) => some (.v (.bool (!b)))
    | some (.kb b) => some (.v (.bool (!b)))
    | _ => none
  | .unOp .neg _ x => match ev T x with
    | some (.v (.int k n)) => some (.v (.int k (k.wrap (0 - n))))
    | _ => none
  | .binOp op _ x y _ => match ev T x, ev T y with
    | some a, some b => binB op a b
    | _, _ => none
  | .fieldAddr s x f => match lk ty s with
    | some i => match nth i.flds f with
      | some (o, _) => match ev T x with
        | some (.own j off) => some (.own j (off + o))
        | some (.v (.pointer (some a))) => some (.v (.pointer (some (a.add o))))
        | _ => none
      | none => none
    | none => none
  | .nilCheck x => match ev T x with
    | some (.own j o) => some (.own j o)
    | some (.v (.pointer (some a))) => some (.v (.pointer (some a)))
    | some (.fn (.func f) a b) => some (.fn (.func f) a b)
    | _ => none
  | .load t x => match lk ty t with
    | some i => match ev T x with
      | some (.own j off) => match lk E j with
        | some (cs, _) => match i.agg with
          | true => match takeF i.size (dropN off cs) with
            | some l => some (.agg l)
            | none => none
          | false => nth cs off
        | none => none
      | _ => none
    | none => none
  | .call { callee := .builtin .len, args := as, argTypes := ts } => lenOp ty T as.toList ts.toList
  | .build t ps => match lk ty t with
    | some i => match evp T ps.toList, i.flds with
      | some l, _ :: _ => match fillF i.flds (i.z.cells.toList.map .v) l with
        | some cs => some (.agg cs)
        | none => none
      | _, _ => none
    | none => none
  | .makeFunc f a b => match evs T a.toList, evs T b.toList with
    | some x, some y => some (.fn f x y)
    | _, _ => none
  | .makeInterface t x => match lk ty t with
    | some i => match i.ifc with
      | false => match ev T x with
        | some a => some (.ifc t a)
        | none => none
      | true => none
    | none => none
  | _ => none

/-- What the temporaries hold. -/
def TmOk (ρ : List Nat) (T : Tl) (f : Operand → Value) : Prop := ∀ x sv, ev T x = some sv → f x = den ρ sv
def EntOk (ρ : List Nat) (E : El) (w : World) : Prop := ∀ i c t, lk E i = some (c, t) → w.heap[ρ.getD i 0]? = some (.cells (denL ρ c).toArray t (0, 0))

theorem cellsOf_den {ρ : List Nat} {x : SV} {l : List SV} (h : cellsOf x = some l) : (den ρ x).cells = (denL ρ l).toArray := by
  unfold cellsOf at h
  split at h <;> first | (cases h; done) | (injection h with h; subst h) 
  all_goals first | rfl | (simp only [den, denL_map, Value.cells, List.map_map]; simp [Function.comp_def, den])

theorem run_load_cell {P : Program} {w : World} {a : Addr} {v : Value} (h : w.cell? a = some v) : (load a).run P w = .ok v w := by
  simp [load, Sem.run, h]
theorem run_loadCellsFrom {P : Program} {w : World} {a : Addr} : ∀ (n i : Nat) (acc : Array Value) (l : List Value), l.length = n → (∀ j v, l[j]? = some v → w.cell? (a.add (i + j)) = some v) →
    (loadCellsFrom a i n acc).run P w = .ok (acc ++ l.toArray) w
  | 0, i, acc, l, hl, h => by
    have : l = [] := List.eq_nil_of_length_eq_zero hl
    subst this
    simp [loadCellsFrom, go_sem]
  | n + 1, i, acc, l, hl, h => by
    cases l with
    | nil => simp at hl
    | cons v l =>
      have h0 := h 0 v rfl
      simp only [Nat.add_zero] at h0
      unfold loadCellsFrom
      rw [Sem.run_bind, run_load_cell h0]
      simp only [Result.andThen_ok]
      rw [run_loadCellsFrom n (i + 1) (acc.push v) l (by simpa using hl) (fun j u hu => by
        have := h (j + 1) u (by simpa using hu)
        rwa [show i + 1 + j = i + (j + 1) from by omega])]
      simp

theorem run_program {P : Program} {w : World} : program.run P w = .ok P w := rfl
theorem run_under {P : Program} {w : World} {t : TypeId} {d : TypeDesc} (h : P.underlying t = some d) : (underlying t).run P w = .ok d w := by
  unfold underlying
  rw [Sem.run_bind, run_program]
  simp only [Result.andThen_ok, h]
  rfl
theorem run_info {P : Program} {w : World} {t : TypeId} {d : TypeInfo} (h : P.info? t = some d) : (typeInfo t).run P w = .ok d w := by
  unfold typeInfo
  rw [Sem.run_bind, run_program]
  simp only [Result.andThen_ok, h]
  rfl
theorem run_isAgg {P : Program} {w : World} {t : TypeId} {i : TI} (h : TIok P t i) : (isAgg t).run P w = .ok i.agg w := by
  obtain ⟨x, d, hx, hd, h1, h2, h3, h4, h5, h6, h7, h8⟩ := h.get
  unfold isAgg
  rw [h4, Sem.run_bind, run_under hd]
  simp only [Result.andThen_ok]
  cases d <;> rfl
theorem run_sizeOf {P : Program} {w : World} {t : TypeId} {i : TI} (h : TIok P t i) : (sizeOf t).run P w = .ok i.size w := by
  obtain ⟨x, d, hx, hd, h1, h2, h3, h4, h5, h6, h7, h8⟩ := h.get
  unfold sizeOf
  rw [Sem.run_bind, run_info hx]
  simp only [Result.andThen_ok, h1]
  rfl
theorem run_zeroValue {P : Program} {w : World} {t : TypeId} {i : TI} (h : TIok P t i) : (zeroValue t).run P w = .ok i.z w := by
  obtain ⟨x, d, hx, hd, h1, h2, h3, h4, h5, h6, h7, h8⟩ := h.get
  unfold zeroValue
  rw [Sem.run_bind, run_info hx]
  simp only [Result.andThen_ok, h3]
  rfl
/-- A variable read: its cells lie from a on. -/
theorem run_loadVar {P : Program} {w : World} {t : TypeId} {i : TI} (h : TIok P t i) {a : Addr} {l : List Value} (hl : l.length = i.size) (hc : ∀ j v, l[j]? = some v → w.cell? (a.add j) = some v) (hg : i.agg = true) :
    (loadVar t a).run P w = .ok (.agg l.toArray) w := by
  unfold loadVar
  simp only [Sem.run_bind, run_isAgg h, Result.andThen_ok, hg, if_true, run_sizeOf h, loadCells]
  rw [run_loadCellsFrom i.size 0 #[] l hl (by simpa using hc)]
  simp [go_sem]
theorem run_loadVar1 {P : Program} {w : World} {t : TypeId} {i : TI} (h : TIok P t i) {a : Addr} {v : Value} (hc : w.cell? a = some v) (hg : i.agg = false) :
    (loadVar t a).run P w = .ok v w := by
  unfold loadVar
  simp only [Sem.run_bind, run_isAgg h, Result.andThen_ok, hg, Bool.false_eq_true, if_false]
  exact run_load_cell hc

theorem add_own (g o n : Nat) : (⟨g, o, none⟩ : Addr).add n = ⟨g, o + n, none⟩ := by unfold Addr.add; split <;> simp_all
theorem cell_own {w : World} {g : Nat} {c : Array Value} {t : TypeId} {fr : Nat × Nat} (h : w.heap[g]? = some (.cells c t fr)) (o : Nat) : w.cell? ⟨g, o, none⟩ = c[o]? := by
  simp [World.cell?, h]
theorem denL_get (ρ : List Nat) (l : List SV) (j : Nat) : (denL ρ l)[j]? = (l[j]?).map (den ρ) := by rw [denL_map]; simp
theorem denL_length (ρ : List Nat) (l : List SV) : (denL ρ l).length = l.length := by rw [denL_map]; simp

theorem evs_den {ρ : List Nat} {T : Tl} {f : Operand → Value} (hT : TmOk ρ T f) : ∀ (l : List Operand) (r : List SV), evs T l = some r → l.map f = denL ρ r
  | [], r, h => by simp [evs] at h; subst h; rfl
  | x :: t, r, h => by
    simp only [evs] at h
    split at h
    · rename_i a l ha hl
      injection h with h; subst h
      simp [denL, hT x a ha, evs_den hT t l hl]
    · cases h
theorem evp_den {ρ : List Nat} {T : Tl} {f : Operand → Value} (hT : TmOk ρ T f) : ∀ (l : List (Nat × Operand)) (r : List (Nat × SV)), evp T l = some r → l.map (fun p => (p.1, f p.2)) = r.map (fun p => (p.1, den ρ p.2))
  | [], r, h => by simp [evp] at h; subst h; rfl
  | (i, x) :: t, r, h => by
    simp only [evp] at h
    split at h
    · rename_i a l ha hl
      injection h with h; subst h
      simp [hT x a ha, evp_den hT t l hl]
    · cases h

end Go.Vc
