/- Texts of mine, joined: Vca Vcb Vcc. -/
import Derived.Below
import Derived.WalkKit
import Derived.OrdersHeld
/- A generator of verification conditions for the loaded programs: symbolic values, symbolic states, and what they say of a machine's state. -/
namespace Go.Vc
open Go.RowKit
inductive SV where
  | v (x : Value)
  | own (i off : Nat)
  | agg (l : List SV)
  | osl (i n c : Nat)
  | fn (f : Fn) (a b : List SV)
  | tup (l : List SV)
  | ifc (t : TypeId) (x : SV)
  | kb (b : Bool)
mutual
def den (ρ : List Nat) : SV → Value
  | .v x => x
  | .own i off => .pointer (some ⟨ρ.getD i 0, off, none⟩)
  | .agg l => .agg (denL ρ l).toArray
  | .osl i n c => .slice (some ⟨ρ.getD i 0, 0, none⟩) n c
  | .fn f a b => .func f (denL ρ a).toArray (denL ρ b).toArray
  | .tup l => .tuple (denL ρ l).toArray
  | .ifc t x => .iface t (den ρ x)
  | .kb b => .bool b
def denL (ρ : List Nat) : List SV → List Value
  | [] => []
  | x :: r => den ρ x :: denL ρ r
end
theorem denL_map (ρ : List Nat) (l : List SV) : denL ρ l = l.map (den ρ) := by
  induction l with
  | nil => rfl
  | cons x r ih => simp [denL, ih]
mutual
def okN (n : Nat) : SV → Bool
  | .v _ => true
  | .own i _ => Nat.blt i n
  | .agg l => okNL n l
  | .osl i _ _ => Nat.blt i n
  | .fn _ a b => okNL n a && okNL n b
  | .tup l => okNL n l
  | .ifc _ x => okN n x
  | .kb _ => true
def okNL (n : Nat) : List SV → Bool
  | [] => true
  | x :: r => okN n x && okNL n r
end
theorem getD_append_lt {ρ ρ' : List Nat} {i : Nat} (h : i < ρ.length) : (ρ ++ ρ').getD i 0 = ρ.getD i 0 := by
  simp [List.getD_eq_getElem?_getD, List.getElem?_append_left h]
mutual
theorem den_ext {n : Nat} {ρ ρ' : List Nat} (hρ : ∀ i, i < n → ρ.getD i 0 = ρ'.getD i 0) : ∀ x : SV, okN n x = true → den ρ x = den ρ' x
  | .v _, _ => rfl
  | .own i off, h => by simp only [okN, Nat.blt_eq] at h; simp only [den, hρ i h]
  | .agg l, h => by simp only [okN] at h; simp only [den, denL_ext hρ l h]
  | .osl i n c, h => by simp only [okN, Nat.blt_eq] at h; simp only [den, hρ i h]
  | .fn f a b, h => by simp only [okN, Bool.and_eq_true] at h; simp only [den, denL_ext hρ a h.1, denL_ext hρ b h.2]
  | .tup l, h => by simp only [okN] at h; simp only [den, denL_ext hρ l h]
  | .ifc t x, h => by simp only [okN] at h; simp only [den, den_ext hρ x h]
  | .kb _, _ => rfl
theorem denL_ext {n : Nat} {ρ ρ' : List Nat} (hρ : ∀ i, i < n → ρ.getD i 0 = ρ'.getD i 0) : ∀ l : List SV, okNL n l = true → denL ρ l = denL ρ' l
  | [], _ => rfl
  | x :: r, h => by simp only [okNL, Bool.and_eq_true] at h; simp only [denL, den_ext hρ x h.1, denL_ext hρ r h.2]
end
end Go.Vc
namespace Go.Vc
open Go.RowKit
def lk {α : Type} : List (Nat × α) → Nat → Option α
  | [], _ => none
  | (k, x) :: r, n => match Nat.beq k n with
    | true => some x
    | false => lk r n
def nth {α : Type} : List α → Nat → Option α
  | [], _ => none
  | x :: _, 0 => some x
  | _ :: r, n + 1 => nth r n
def dropN {α : Type} : Nat → List α → List α
  | 0, l => l
  | _ + 1, [] => []
  | n + 1, _ :: r => dropN n r
def takeF {α : Type} : Nat → List α → Option (List α)
  | 0, _ => some []
  | _ + 1, [] => none
  | n + 1, x :: r => match takeF n r with
    | some l => some (x :: l)
    | none => none
def putAt {α : Type} : Nat → List α → List α → Option (List α)
  | _, [], l => some l
  | 0, x :: xs, _ :: r => match putAt 0 xs r with
    | some l => some (x :: l)
    | none => none
  | n + 1, x :: xs, y :: r => match putAt n (x :: xs) r with
    | some l => some (y :: l)
    | none => none
  | _, _ :: _, [] => none
theorem nbeq {a b : Nat} : Nat.beq a b = true ↔ a = b := ⟨Nat.eq_of_beq_eq_true, by intro h; subst h; exact Nat.beq_refl a⟩
theorem nbeq_ne {a b : Nat} : Nat.beq a b = false ↔ a ≠ b := by
  rw [← Bool.not_eq_true, ne_eq, not_congr nbeq]
theorem nth_eq {α : Type} : ∀ (l : List α) (n : Nat), nth l n = l[n]?
  | [], _ => by simp [nth]
  | _ :: _, 0 => by simp [nth]
  | _ :: r, n + 1 => by simp [nth, nth_eq r n]
theorem dropN_eq {α : Type} : ∀ (n : Nat) (l : List α), dropN n l = l.drop n
  | 0, _ => by simp [dropN]
  | _ + 1, [] => by simp [dropN]
  | n + 1, _ :: r => by simp [dropN, dropN_eq n r]
theorem takeF_eq {α : Type} : ∀ (n : Nat) (l r : List α), takeF n l = some r → r = l.take n ∧ n ≤ l.length
  | 0, _, r, h => by simp [takeF] at h; simp [h]
  | _ + 1, [], _, h => by simp [takeF] at h
  | n + 1, x :: t, r, h => by
    simp only [takeF] at h
    split at h
    · rename_i l hl
      obtain ⟨rfl, h2⟩ := takeF_eq n t l hl
      simp at h
      simp [← h]; omega
    · cases h
theorem putAt_get {α : Type} : ∀ (n : Nat) (xs l r : List α), putAt n xs l = some r → r.length = l.length ∧ n + xs.length ≤ l.length + (if xs = [] then n else 0) ∧ ∀ j, r[j]? = if n ≤ j ∧ j < n + xs.length then xs[j - n]? else l[j]?
  | _, [], l, r, h => by simp [putAt] at h; subst h; simp; intro j h1 h2; omega
  | 0, x :: xs, [], r, h => by simp [putAt] at h
  | 0, x :: xs, y :: l, r, h => by
    simp only [putAt] at h
    split at h
    · rename_i l' hl
      obtain ⟨h1, h2, h3⟩ := putAt_get 0 xs l l' hl
      simp at h; subst h
      refine ⟨by simp [h1], by simp at h2 ⊢; omega, fun j => ?_⟩
      cases j with
      | zero => simp
      | succ j => simp [h3 j]
    · cases h
  | n + 1, x :: xs, [], r, h => by simp [putAt] at h
  | n + 1, x :: xs, y :: l, r, h => by
    simp only [putAt] at h
    split at h
    · rename_i l' hl
      obtain ⟨h1, h2, h3⟩ := putAt_get n (x :: xs) l l' hl
      simp at h; subst h
      refine ⟨by simp [h1], by simp at h2 ⊢; omega, fun j => ?_⟩
      cases j with
      | zero => simp
      | succ j =>
        simp only [List.getElem?_cons_succ, h3 j]
        have : j + 1 - (n + 1) = j - n := by omega
        rw [this]
        by_cases hc : n ≤ j ∧ j < n + (x :: xs).length
        · rw [if_pos hc, if_pos (by omega)]
        · rw [if_neg hc, if_neg (by omega)]
    · cases h
structure TI where
  z : Value
  size : Nat
  bytes : Nat
  agg : Bool
  flds : List (Nat × Nat)
  elem : Option Nat
  str : Bool
  ifc : Bool
def aggD : TypeDesc → Bool
  | .struct _ => true
  | .array _ _ => true
  | _ => false
def fldB (P : Program) : TypeDesc → List (Nat × Nat) → Bool
  | .struct fs, l => Nat.beq fs.size l.length && (List.range l.length).all fun f => match fs[f]?, l[f]? with
    | some fd, some o => Nat.beq fd.offset o.1 && (match P.info? fd.type with | some x => Nat.beq x.size o.2 && !Nat.beq x.size 0 | none => false)
    | _, _ => false
  | _, l => l.isEmpty
def elB : TypeDesc → Option Nat → Bool
  | .slice e, some e' => Nat.beq e e'
  | _, none => true
  | _, _ => false
def strB : TypeDesc → Bool
  | .string => true
  | _ => false
def ifcB : TypeDesc → Bool
  | .interface _ => true
  | _ => false
def TI.chk (P : Program) (t : TypeId) (i : TI) : Bool :=
  match P.info? t, P.underlying t with
  | some x, some d => Nat.beq x.size i.size && Nat.beq x.bytes i.bytes && (i.agg == aggD d) && fldB P d i.flds && elB d i.elem && (i.str == strB d) && (i.ifc == ifcB d)
  | _, _ => false
structure TIok (P : Program) (t : TypeId) (i : TI) : Prop where
  c : i.chk P t = true
  z : (P.info? t).bind (·.zero) = some i.z
def TyOk (P : Program) (ty : List (Nat × TI)) : Prop := ∀ t i, lk ty t = some i → TIok P t i
theorem TIok.get {P : Program} {t : TypeId} {i : TI} (h : TIok P t i) : ∃ x d, P.info? t = some x ∧ P.underlying t = some d ∧ x.size = i.size ∧ x.bytes = i.bytes ∧ x.zero = some i.z ∧ i.agg = aggD d ∧ fldB P d i.flds = true ∧ elB d i.elem = true ∧ i.str = strB d ∧ i.ifc = ifcB d := by
  have hc := h.c
  have hz := h.z
  unfold TI.chk at hc
  split at hc
  · rename_i x d hx hd
    simp only [Bool.and_eq_true, nbeq, beq_iff_eq] at hc
    obtain ⟨⟨⟨⟨⟨⟨h1, h2⟩, h3⟩, h4⟩, h5⟩, h6⟩, h7⟩ := hc
    rw [hx] at hz
    exact ⟨x, d, hx, hd, h1, h2, hz, h3, h4, h5, h6, h7⟩
  · cases hc
theorem fldB_get {P : Program} {d : TypeDesc} {l : List (Nat × Nat)} (h : fldB P d l = true) {f : Nat} {o : Nat × Nat} (hf : l[f]? = some o) : ∃ fs fd x, d = .struct fs ∧ fs.size = l.length ∧ fs[f]? = some fd ∧ fd.offset = o.1 ∧ P.info? fd.type = some x ∧ x.size = o.2 ∧ x.size ≠ 0 := by
  have hlt : f < l.length := (List.getElem?_eq_some_iff.1 hf).1
  cases d <;> simp only [fldB] at h
  case struct fs =>
    rw [Bool.and_eq_true, nbeq] at h
    obtain ⟨hsz, h⟩ := h
    have := List.all_eq_true.1 h f (List.mem_range.2 hlt)
    rw [hf] at this
    split at this
    · rename_i fd o' h1 h2
      injection h2 with h2; subst h2
      simp only [Bool.and_eq_true, nbeq] at this
      obtain ⟨h3, h4⟩ := this
      split at h4
      · rename_i x hx
        simp only [Bool.and_eq_true, nbeq, Bool.not_eq_true', nbeq_ne] at h4
        exact ⟨fs, fd, x, rfl, hsz, h1, h3, hx, h4.1, h4.2⟩
      · cases h4
    · cases this
  all_goals (simp at h; subst h; simp at hf)
end Go.Vc


/- Symbolic states; pure operations; their soundness. -/
namespace Go.Vc
open Go.RowKit
abbrev Tl := List (Nat × SV)
abbrev El := List (Nat × (List SV × TypeId))
def ev (T : Tl) : Operand → Option SV
  | .tmp t => lk T t
  | .const (.bool b) => some (.kb b)
  | .const v => some (.v v)
  | .global g => some (.v (.pointer (some ⟨g, 0, none⟩)))
  | .func f => some (.fn (.func f) [] [])
def evs (T : Tl) : List Operand → Option (List SV)
  | [] => some []
  | x :: r => match ev T x, evs T r with
    | some a, some l => some (a :: l)
    | _, _ => none
def cellsOf : SV → Option (List SV)
  | .agg l => some l
  | .v (.agg a) => some (a.toList.map .v)
  | .v (.int k n) => some [.v (.int k n)]
  | .v (.bool b) => some [.v (.bool b)]
  | .v (.string s) => some [.v (.string s)]
  | .v (.slice a n c) => some [.v (.slice a n c)]
  | .v (.pointer a) => some [.v (.pointer a)]
  | .v (.map a) => some [.v (.map a)]
  | .v .nilIface => some [.v .nilIface]
  | .v .nilFunc => some [.v .nilFunc]
  | .v (.iface t x) => some [.v (.iface t x)]
  | .v (.func f a b) => some [.v (.func f a b)]
  | .own i o => some [.own i o]
  | .osl i n c => some [.osl i n c]
  | .fn f a b => some [.fn f a b]
  | .ifc t x => some [.ifc t x]
  | .kb b => some [.kb b]
  | _ => none
def intB (op : BinOp) (k : IntKind) (a b : Int) : Option Value :=
  match op with
  | .add => some (.int k (k.wrap (a + b)))
  | .sub => some (.int k (k.wrap (a - b)))
  | .mul => some (.int k (k.wrap (a * b)))
  | .eql => some (.bool (a == b))
  | .neq => some (.bool (a != b))
  | .lss => some (.bool (decide (a < b)))
  | .leq => some (.bool (decide (a ≤ b)))
  | .gtr => some (.bool (decide (a > b)))
  | .geq => some (.bool (decide (a ≥ b)))
  | _ => none
def strOp (op : BinOp) (x y : ByteArray) : Option Value :=
  match op with
  | .eql => some (.bool (x.toList == y.toList))
  | .neq => some (.bool (!(x.toList == y.toList)))
  | .lss => some (.bool (Op.bytesLess x.toList y.toList))
  | .leq => some (.bool (Op.bytesLess x.toList y.toList || x.toList == y.toList))
  | .gtr => some (.bool (!(Op.bytesLess x.toList y.toList || x.toList == y.toList)))
  | .geq => some (.bool (!(Op.bytesLess x.toList y.toList)))
  | _ => none
def sameK : IntKind → IntKind → Bool
  | .i8, .i8 | .i16, .i16 | .i32, .i32 | .i64, .i64 | .u8, .u8 | .u16, .u16 | .u32, .u32 | .u64, .u64 => true
  | _, _ => false
theorem sameK_eq {k k' : IntKind} (h : sameK k k' = true) : k = k' := by cases k <;> cases k' <;> simp_all [sameK]
def binB (op : BinOp) : SV → SV → Option SV
  | .v (.int k a), .v (.int k' b) => match sameK k k' with
    | true => match intB op k a b with
      | some v => some (.v v)
      | none => none
    | false => none
  | .v (.string x), .v (.string y) => match strOp op x y with
    | some v => some (.v v)
    | none => none
  | _, _ => none
def fillF (flds : List (Nat × Nat)) : List SV → List (Nat × SV) → Option (List SV)
  | cs, [] => some cs
  | cs, (f, x) :: r => match nth flds f, cellsOf x with
    | some (o, n), some l => match Nat.beq l.length n, Nat.ble (o + n) cs.length, putAt o l cs with
      | true, true, some cs' => fillF flds cs' r
      | _, _, _ => none
    | _, _ => none
def evp (T : Tl) : List (Nat × Operand) → Option (List (Nat × SV))
  | [] => some []
  | (i, x) :: r => match ev T x, evp T r with
    | some a, some l => some ((i, a) :: l)
    | _, _ => none
def lenOp (ty : List (Nat × TI)) (T : Tl) (args : List Operand) (tys : List TypeId) : Option SV :=
  match args, tys with
  | x :: _, t :: _ => match lk ty t, ev T x with
    | some i, some (.v (.slice _ n _)) => match i.elem with
      | some _ => some (.v (.int .i64 n))
      | none => none
    | some i, some (.osl _ n _) => match i.elem with
      | some _ => some (.v (.int .i64 n))
      | none => none
    | some i, some (.v (.string s)) => match i.str with
      | true => some (.v (.int .i64 s.size))
      | false => none
    | _, _ => none
  | _, _ => none
def pOp (ty : List (Nat × TI)) (T : Tl) (E : El) : Op → Option SV
  | .move x => ev T x
  | .assign x => ev T x
  | .extract x i => match ev T x with
    | some (.tup l) => nth l i
    | some (.v (.tuple a)) => match nth a.toList i with
      | some v => some (.v v)
      | none => none
    | _ => none
  | .unOp .not _ x => match ev T x with
    | some (.v (.bool b)) => some (.v (.bool (!b)))
    | some (.kb b) => some (.v (.bool (!b)))
    | _ => none
  | .unOp .neg _ x => match ev T x with
    | some (.v (.int k n)) => some (.v (.int k (k.wrap (0 - n))))
    | _ => none
  | .binOp op _ x y _ => match ev T x, ev T y with
    | some a, some b => binB op a b
    | _, _ => none
  | .fieldAddr s x f => match lk ty s with
    | some i => match nth i.flds f with
      | some (o, _) => match ev T x with
        | some (.own j off) => some (.own j (off + o))
        | some (.v (.pointer (some a))) => some (.v (.pointer (some (a.add o))))
        | _ => none
      | none => none
    | none => none
  | .nilCheck x => match ev T x with
    | some (.own j o) => some (.own j o)
    | some (.v (.pointer (some a))) => some (.v (.pointer (some a)))
    | some (.fn (.func f) a b) => some (.fn (.func f) a b)
    | _ => none
  | .load t x => match lk ty t with
    | some i => match ev T x with
      | some (.own j off) => match lk E j with
        | some (cs, _) => match i.agg with
          | true => match takeF i.size (dropN off cs) with
            | some l => some (.agg l)
            | none => none
          | false => nth cs off
        | none => none
      | _ => none
    | none => none
  | .call { callee := .builtin .len, args := as, argTypes := ts } => lenOp ty T as.toList ts.toList
  | .build t ps => match lk ty t with
    | some i => match evp T ps.toList, i.flds with
      | some l, _ :: _ => match fillF i.flds (i.z.cells.toList.map .v) l with
        | some cs => some (.agg cs)
        | none => none
      | _, _ => none
    | none => none
  | .makeFunc f a b => match evs T a.toList, evs T b.toList with
    | some x, some y => some (.fn f x y)
    | _, _ => none
  | .makeInterface t x => match lk ty t with
    | some i => match i.ifc with
      | false => match ev T x with
        | some a => some (.ifc t a)
        | none => none
      | true => none
    | none => none
  | _ => none
def TmOk (ρ : List Nat) (T : Tl) (f : Operand → Value) : Prop := ∀ x sv, ev T x = some sv → f x = den ρ sv
def EntOk (ρ : List Nat) (E : El) (w : World) : Prop := ∀ i c t, lk E i = some (c, t) → w.heap[ρ.getD i 0]? = some (.cells (denL ρ c).toArray t (0, 0))
theorem cellsOf_den {ρ : List Nat} {x : SV} {l : List SV} (h : cellsOf x = some l) : (den ρ x).cells = (denL ρ l).toArray := by
  unfold cellsOf at h
  split at h <;> first | (cases h; done) | (injection h with h; subst h)
  all_goals first | rfl | (simp only [den, denL_map, Value.cells, List.map_map]; simp [Function.comp_def, den])
theorem run_load_cell {P : Program} {w : World} {a : Addr} {v : Value} (h : w.cell? a = some v) : (load a).run P w = .ok v w := by
  simp [load, Sem.run, h]
theorem run_loadCellsFrom {P : Program} {w : World} {a : Addr} : ∀ (n i : Nat) (acc : Array Value) (l : List Value), l.length = n → (∀ j v, l[j]? = some v → w.cell? (a.add (i + j)) = some v) →
    (loadCellsFrom a i n acc).run P w = .ok (acc ++ l.toArray) w
  | 0, i, acc, l, hl, h => by
    have : l = [] := List.eq_nil_of_length_eq_zero hl
    subst this
    simp [loadCellsFrom, go_sem]
  | n + 1, i, acc, l, hl, h => by
    cases l with
    | nil => simp at hl
    | cons v l =>
      have h0 := h 0 v rfl
      simp only [Nat.add_zero] at h0
      unfold loadCellsFrom
      rw [Sem.run_bind, run_load_cell h0]
      simp only [Result.andThen_ok]
      rw [run_loadCellsFrom n (i + 1) (acc.push v) l (by simpa using hl) (fun j u hu => by
        have := h (j + 1) u (by simpa using hu)
        rwa [show i + 1 + j = i + (j + 1) from by omega])]
      simp
theorem run_program {P : Program} {w : World} : program.run P w = .ok P w := rfl
theorem run_under {P : Program} {w : World} {t : TypeId} {d : TypeDesc} (h : P.underlying t = some d) : (underlying t).run P w = .ok d w := by
  unfold underlying
  rw [Sem.run_bind, run_program]
  simp only [Result.andThen_ok, h]
  rfl
theorem run_info {P : Program} {w : World} {t : TypeId} {d : TypeInfo} (h : P.info? t = some d) : (typeInfo t).run P w = .ok d w := by
  unfold typeInfo
  rw [Sem.run_bind, run_program]
  simp only [Result.andThen_ok, h]
  rfl
theorem run_isAgg {P : Program} {w : World} {t : TypeId} {i : TI} (h : TIok P t i) : (isAgg t).run P w = .ok i.agg w := by
  obtain ⟨x, d, hx, hd, h1, h2, h3, h4, h5, h6, h7, h8⟩ := h.get
  unfold isAgg
  rw [h4, Sem.run_bind, run_under hd]
  simp only [Result.andThen_ok]
  cases d <;> rfl
theorem run_sizeOf {P : Program} {w : World} {t : TypeId} {i : TI} (h : TIok P t i) : (sizeOf t).run P w = .ok i.size w := by
  obtain ⟨x, d, hx, hd, h1, h2, h3, h4, h5, h6, h7, h8⟩ := h.get
  unfold sizeOf
  rw [Sem.run_bind, run_info hx]
  simp only [Result.andThen_ok, h1]
  rfl
theorem run_zeroValue {P : Program} {w : World} {t : TypeId} {i : TI} (h : TIok P t i) : (zeroValue t).run P w = .ok i.z w := by
  obtain ⟨x, d, hx, hd, h1, h2, h3, h4, h5, h6, h7, h8⟩ := h.get
  unfold zeroValue
  rw [Sem.run_bind, run_info hx]
  simp only [Result.andThen_ok, h3]
  rfl
theorem run_loadVar {P : Program} {w : World} {t : TypeId} {i : TI} (h : TIok P t i) {a : Addr} {l : List Value} (hl : l.length = i.size) (hc : ∀ j v, l[j]? = some v → w.cell? (a.add j) = some v) (hg : i.agg = true) :
    (loadVar t a).run P w = .ok (.agg l.toArray) w := by
  unfold loadVar
  simp only [Sem.run_bind, run_isAgg h, Result.andThen_ok, hg, if_true, run_sizeOf h, loadCells]
  rw [run_loadCellsFrom i.size 0 #[] l hl (by simpa using hc)]
  simp [go_sem]
theorem run_loadVar1 {P : Program} {w : World} {t : TypeId} {i : TI} (h : TIok P t i) {a : Addr} {v : Value} (hc : w.cell? a = some v) (hg : i.agg = false) :
    (loadVar t a).run P w = .ok v w := by
  unfold loadVar
  simp only [Sem.run_bind, run_isAgg h, Result.andThen_ok, hg, Bool.false_eq_true, if_false]
  exact run_load_cell hc
theorem add_own (g o n : Nat) : (⟨g, o, none⟩ : Addr).add n = ⟨g, o + n, none⟩ := by unfold Addr.add; split <;> simp_all
theorem cell_own {w : World} {g : Nat} {c : Array Value} {t : TypeId} {fr : Nat × Nat} (h : w.heap[g]? = some (.cells c t fr)) (o : Nat) : w.cell? ⟨g, o, none⟩ = c[o]? := by
  simp [World.cell?, h]
theorem denL_get (ρ : List Nat) (l : List SV) (j : Nat) : (denL ρ l)[j]? = (l[j]?).map (den ρ) := by rw [denL_map]; simp
theorem denL_length (ρ : List Nat) (l : List SV) : (denL ρ l).length = l.length := by rw [denL_map]; simp
theorem evs_den {ρ : List Nat} {T : Tl} {f : Operand → Value} (hT : TmOk ρ T f) : ∀ (l : List Operand) (r : List SV), evs T l = some r → l.map f = denL ρ r
  | [], r, h => by simp [evs] at h; subst h; rfl
  | x :: t, r, h => by
    simp only [evs] at h
    split at h
    · rename_i a l ha hl
      injection h with h; subst h
      simp [denL, hT x a ha, evs_den hT t l hl]
    · cases h
theorem evp_den {ρ : List Nat} {T : Tl} {f : Operand → Value} (hT : TmOk ρ T f) : ∀ (l : List (Nat × Operand)) (r : List (Nat × SV)), evp T l = some r → l.map (fun p => (p.1, f p.2)) = r.map (fun p => (p.1, den ρ p.2))
  | [], r, h => by simp [evp] at h; subst h; rfl
  | (i, x) :: t, r, h => by
    simp only [evp] at h
    split at h
    · rename_i a l ha hl
      injection h with h; subst h
      simp [hT x a ha, evp_den hT t l hl]
    · cases h
end Go.Vc


/- Pure operations: soundness. -/
namespace Go.Vc
open Go.RowKit
section
variable {P : Program} {w : World} {f : Operand → Value}
theorem run_val {s : Sem Value} {v : Value} {w' : World} (h : s.run P w = .ok v w') : (do pure (Next.value (← s)) : Sem Next).run P w = .ok (.value v) w' := by
  rw [Sem.run_bind, h]; rfl
theorem run_unit {s : Sem Unit} {w' : World} (h : s.run P w = .ok () w') : (do s; pure Next.skip : Sem Next).run P w = .ok .skip w' := by
  rw [Sem.run_bind, h]; rfl
theorem eqGuard_int {op : BinOp} {t : TypeId} {x y : Operand} {k k' : IntKind} {a b : Int} : (eqGuard op t x y (.int k a) (.int k' b)).run P w = .ok () w := by
  unfold eqGuard
  by_cases h : (!(match op with | .eql => true | .neq => true | _ => false)) = true
  · cases op <;> first | rfl | simp at h
  · cases op <;> first | rfl | simp at h
theorem eqGuard_str {op : BinOp} {t : TypeId} {x y : Operand} {a b : ByteArray} : (eqGuard op t x y (.string a) (.string b)).run P w = .ok () w := by
  unfold eqGuard
  cases op <;> rfl
theorem binB_sound {ρ : List Nat} {op : BinOp} {t : TypeId} {x y : Operand} {a b sv : SV} (h : binB op a b = some sv) :
    (do eqGuard op t x y (den ρ a) (den ρ b); binOp op t (den ρ a) (den ρ b) : Sem Value).run P w = .ok (den ρ sv) w := by
  unfold binB at h
  split at h
  · rename_i k a k' b
    split at h
    · rename_i hk
      obtain rfl := sameK_eq hk
      split at h
      · rename_i v hv
        injection h with h; subst h
        simp only [den]
        rw [Sem.run_bind, eqGuard_int]
        simp only [Result.andThen_ok]
        cases op <;> simp [intB] at hv <;> subst hv <;> simp [binOp, Op.intArith, Op.intCmp, go_sem]
      · cases h
    · cases h
  · rename_i x' y'
    split at h
    · rename_i v hv
      injection h with h; subst h
      simp only [den]
      rw [Sem.run_bind, eqGuard_str]
      simp only [Result.andThen_ok]
      cases op <;> simp [strOp] at hv <;> subst hv <;> simp [binOp, Op.stringOp, go_sem]
    · cases h
  · cases h
theorem lenOp_sound {ty : List (Nat × TI)} (hty : TyOk P ty) {ρ : List Nat} {T : Tl} (hT : TmOk ρ T f) {as : Array Operand} {ts : Array TypeId} {sv : SV} {t0 : TypeId} (h : lenOp ty T as.toList ts.toList = some sv) :
    (Builtin.len_ ts t0 (as.map f)).run P w = .ok (den ρ sv) w := by
  unfold lenOp at h
  split at h
  · rename_i x as' t ts' ha ht
    have ha' : (as.map f)[0]? = some (f x) := by rw [← Array.getElem?_toList]; simp [ha]
    have ht' : ts[0]? = some t := by rw [← Array.getElem?_toList]; simp [ht]
    unfold Builtin.len_
    rw [ha', ht']
    split at h
    · rename_i i x' n c hi hx
      obtain ⟨y, d, hy, hd, h1, h2, h3, h4, h5, h6, h7, h8⟩ := (hty _ _ hi).get
      rw [hT _ _ hx]
      split at h
      · rename_i e he
        injection h with h; subst h
        rw [he] at h6
        cases d <;> simp only [elB] at h6 <;> try (cases h6; done)
        simp only [Sem.run_bind, run_under hd, Result.andThen_ok, den]
        rfl
      · cases h
    · rename_i i j n c hi hx
      obtain ⟨y, d, hy, hd, h1, h2, h3, h4, h5, h6, h7, h8⟩ := (hty _ _ hi).get
      rw [hT _ _ hx]
      split at h
      · rename_i e he
        injection h with h; subst h
        rw [he] at h6
        cases d <;> simp only [elB] at h6 <;> try (cases h6; done)
        simp only [Sem.run_bind, run_under hd, Result.andThen_ok, den]
        rfl
      · cases h
    · rename_i i s hi hx
      obtain ⟨y, d, hy, hd, h1, h2, h3, h4, h5, h6, h7, h8⟩ := (hty _ _ hi).get
      rw [hT _ _ hx]
      split at h
      · rename_i he
        injection h with h; subst h
        rw [he] at h7
        cases d <;> simp only [strB] at h7 <;> try (cases h7; done)
        simp only [Sem.run_bind, run_under hd, Result.andThen_ok, den]
        rfl
      · cases h
    · cases h
  · cases h
theorem fieldAt_sound {ty : List (Nat × TI)} (hty : TyOk P ty) {s : TypeId} {i : TI} (hs : lk ty s = some i) {fd o n : Nat} (hf : nth i.flds fd = some (o, n)) (a : Addr) :
    (Instr.fieldAt s (.pointer (some a)) fd).run P w = .ok (.pointer (some (a.add o))) w := by
  obtain ⟨y, d, hy, hd, h1, h2, h3, h4, h5, h6, h7, h8⟩ := (hty _ _ hs).get
  rw [nth_eq] at hf
  obtain ⟨fs, fd', x, rfl, _, g1, g2, g3, g4, g5⟩ := fldB_get h5 hf
  unfold Instr.fieldAt
  simp only [Sem.run_bind, run_under hd, Result.andThen_ok]
  rw [g1]
  simp only [Sem.run_bind, Instr.sureAddr, Sem.run_pure, Result.andThen_ok, fieldPlace]
  have : (sizeOf fd'.type).run P w = .ok x.size w := by
    unfold sizeOf
    rw [Sem.run_bind, run_info g3]; rfl
  rw [this]
  simp only [Result.andThen_ok, g5, if_false, Sem.run_pure, g2]
theorem foldl_put (cs : Array Value) (off : Nat) : ∀ (l : List Value) (k : Nat) (c : Array Value),
    ((l.zipIdx k).foldl (fun cs (x : Value × Nat) => cs.setIfInBounds (off + x.2) x.1) c).size = c.size ∧ ∀ j, ((l.zipIdx k).foldl (fun cs (x : Value × Nat) => cs.setIfInBounds (off + x.2) x.1) c)[j]? = if off + k ≤ j ∧ j < off + k + l.length ∧ j < c.size then l[j - (off + k)]? else c[j]?
  | [], k, c => by simp; intro j h1 h2; omega
  | x :: l, k, c => by
    obtain ⟨h1, h2⟩ := foldl_put cs off l (k + 1) (c.setIfInBounds (off + k) x)
    simp only [List.zipIdx_cons, List.foldl_cons]
    refine ⟨by rw [h1]; simp, fun j => ?_⟩
    rw [h2 j]
    simp only [Array.size_setIfInBounds, Array.getElem?_setIfInBounds, List.length_cons]
    by_cases c1 : off + k = j
    · subst c1
      rw [if_neg (by omega)]
      simp
      by_cases c2 : off + k < c.size
      · simp [c2]
      · simp [c2]
    · by_cases c2 : off + (k + 1) ≤ j ∧ j < off + (k + 1) + l.length ∧ j < c.size
      · rw [if_pos c2, if_pos (by omega)]
        have : j - (off + k) = (j - (off + (k + 1))) + 1 := by omega
        rw [this]; simp
      · rw [if_neg c2, if_neg c1]
        by_cases c3 : off + k ≤ j ∧ j < off + k + (l.length + 1) ∧ j < c.size
        · omega
        · rw [if_neg c3]
theorem fill_sound {ρ : List Nat} {flds : List (Nat × Nat)} {place : Nat → Option (Nat × Nat)} (hp : ∀ i o n, flds[i]? = some (o, n) → place i = some (o, n)) : ∀ (ps : List (Nat × SV)) (cs : List SV) (r : List SV), fillF flds cs ps = some r →
    Instr.fill place (denL ρ cs).toArray (ps.map fun p => (p.1, den ρ p.2)) = some (denL ρ r).toArray
  | [], cs, r, h => by simp [fillF] at h; subst h; simp [Instr.fill]
  | (i, x) :: ps, cs, r, h => by
    simp only [fillF] at h
    split at h
    · rename_i o n l h1 h2
      split at h
      · rename_i cs' h3 hb h4
        rw [nth_eq] at h1
        have hpl := hp _ _ _ h1
        have hcs := cellsOf_den (ρ := ρ) h2
        obtain ⟨g1, g2, g3⟩ := putAt_get _ _ _ _ h4
        have hn := nbeq.1 h3
        have hb' := Nat.le_of_ble_eq_true hb
        have hsz : (den ρ x).cells.size = n := by rw [hcs]; simp [denL_length, hn]
        simp only [List.map_cons, Instr.fill, hpl, hsz]
        rw [if_neg (by simp [denL_length]; omega)]
        have he : (den ρ x).cells.zipIdx.foldl (fun cs (c, j) => cs.setIfInBounds (o + j) c) (denL ρ cs).toArray = (denL ρ cs').toArray := by
          rw [hcs]
          obtain ⟨k1, k2⟩ := foldl_put (denL ρ cs).toArray o (denL ρ l) 0 (denL ρ cs).toArray
          have e0 : (denL ρ l).toArray.zipIdx.foldl (fun cs (x : Value × Nat) => cs.setIfInBounds (o + x.2) x.1) (denL ρ cs).toArray = ((denL ρ l).zipIdx 0).foldl (fun cs (x : Value × Nat) => cs.setIfInBounds (o + x.2) x.1) (denL ρ cs).toArray := by
            rw [← Array.foldl_toList, Array.toList_zipIdx]
          refine Eq.trans e0 ?_
          apply Array.ext_getElem?
          intro j
          rw [k2 j]
          simp only [List.getElem?_toArray, denL_get, g3 j, List.size_toArray, denL_length, Nat.add_zero]
          by_cases c : o ≤ j ∧ j < o + l.length
          · rw [if_pos c, if_pos ⟨c.1, c.2, by omega⟩]
          · rw [if_neg c, if_neg (by omega)]
        rw [he]
        exact fill_sound hp ps cs' r h
      · cases h
    · cases h
theorem run_mapM {α β : Type} (g : α → Sem β) (r : α → β) : ∀ (l : List α), (∀ x, x ∈ l → (g x).run P w = .ok (r x) w) → (l.mapM g).run P w = .ok (l.map r) w
  | [], _ => by simp [go_sem]
  | x :: l, h => by
    rw [List.mapM_cons]
    simp only [Sem.run_bind, h x (by simp), Result.andThen_ok, run_mapM g r l (fun y hy => h y (by simp [hy])), Sem.run_pure, List.map_cons]
theorem build_sound {ty : List (Nat × TI)} (hty : TyOk P ty) {ρ : List Nat} {t : TypeId} {i : TI} (ht : lk ty t = some i) {ps : List (Nat × SV)} {cs : List SV} (hne : i.flds ≠ [])
    (h : fillF i.flds (i.z.cells.toList.map .v) ps = some cs) :
    (Instr.build t (ps.map fun p => (p.1, den ρ p.2)).toArray).run P w = .ok (den ρ (.agg cs)) w := by
  obtain ⟨y, d, hy, hd, h1, h2, h3, h4, h5, h6, h7, h8⟩ := (hty _ _ ht).get
  have hz := run_zeroValue (w := w) (hty _ _ ht)
  obtain ⟨a0, b0, hf0⟩ := List.exists_cons_of_ne_nil hne
  have h0 : i.flds[0]? = some a0 := by rw [hf0]; rfl
  obtain ⟨fs, _, _, rfl, hsz, _⟩ := fldB_get h5 h0
  unfold Instr.build
  simp only [Sem.run_bind, hz, Result.andThen_ok, run_under hd]
  let r : Field → Nat × Nat := fun fd => (fd.offset, ((P.info? fd.type).map (·.size)).getD 0)
  have hr : ∀ x, x ∈ fs.toList → (do pure (x.offset, ← sizeOf x.type) : Sem (Nat × Nat)).run P w = .ok (r x) w := by
    intro x hx
    obtain ⟨j, hj⟩ := List.mem_iff_getElem?.1 hx
    rw [Array.getElem?_toList] at hj
    have hlt : j < fs.size := (Array.getElem?_eq_some_iff.1 hj).1
    have hl : j < i.flds.length := by omega
    obtain ⟨fs', fd', x', e, _, k1, k2, k3, k4, k5⟩ := fldB_get h5 (List.getElem?_eq_getElem hl)
    injection e with e; subst e
    rw [hj] at k1; injection k1 with k1; subst k1
    have : (sizeOf x.type).run P w = .ok x'.size w := by
      unfold sizeOf
      rw [Sem.run_bind, run_info k3]; rfl
    rw [Sem.run_bind, this]
    simp [r, k3, go_sem]
  have hm := run_mapM (P := P) (w := w) (fun f : Field => (do pure (f.offset, ← sizeOf f.type) : Sem (Nat × Nat))) r fs.toList hr
  have hm2 : (fs.mapM fun f : Field => (do pure (f.offset, ← sizeOf f.type) : Sem (Nat × Nat))).run P w = .ok (fs.map r) w := by
    rw [Array.mapM_eq_mapM_toList, map_eq_pure_bind, Sem.run_bind, hm]
    simp [go_sem]
    apply Array.ext'
    simp
  rw [hm2]
  simp only [Result.andThen_ok]
  have hp : ∀ (j o n : Nat), i.flds[j]? = some (o, n) → (fs.map r)[j]? = some (o, n) := by
    intro j o n hj
    obtain ⟨fs', fd', x', e, _, k1, k2, k3, k4, k5⟩ := fldB_get h5 hj
    injection e with e; subst e
    rw [Array.getElem?_map, k1]
    simp [r, k3, k2, k4]
  have hf := fill_sound (ρ := ρ) hp ps _ cs h
  have hz' : (denL ρ (i.z.cells.toList.map SV.v)).toArray = i.z.cells := by
    rw [denL_map]; simp [Function.comp_def, den]
  rw [hz'] at hf
  rw [hf]
  simp [den, go_sem]
end
end Go.Vc
namespace Go.Vc
open Go.RowKit
section
variable {P : Program} {w : World} {f : Operand → Value}
theorem pOp_sound {ty : List (Nat × TI)} (hty : TyOk P ty) {ρ : List Nat} {T : Tl} {E : El} (hT : TmOk ρ T f) (hE : EntOk ρ E w) {o : Oper} {sv : SV}
    (h : pOp ty T E o.op = some sv) :
    (execOp f o).run P w = .ok (.value (den ρ sv)) w := by
  obtain ⟨dst, op, type, pos, after, guard⟩ := o
  simp only at h
  unfold pOp at h
  split at h <;> try (cases h; done)
  · simp only [execOp, hT _ _ h]; rfl
  · simp only [execOp, hT _ _ h]; rfl
  · rename_i x i
    simp only [execOp]
    refine run_val ?_
    split at h
    · rename_i l hx
      rw [hT _ _ hx]
      simp only [den, Instr.extract, List.getElem?_toArray, denL_get]
      rw [nth_eq] at h
      rw [h]; rfl
    · rename_i a hx
      rw [hT _ _ hx]
      split at h
      · rename_i v hv
        injection h with h; subst h
        rw [nth_eq, Array.getElem?_toList] at hv
        simp only [den, Instr.extract, hv]; rfl
      · cases h
    · cases h
  · rename_i x
    simp only [execOp]
    refine run_val ?_
    split at h
    · rename_i b hx
      injection h with h; subst h
      rw [hT _ _ hx]; rfl
    · rename_i b hx
      injection h with h; subst h
      rw [hT _ _ hx]; rfl
    · cases h
  · rename_i x
    simp only [execOp]
    refine run_val ?_
    split at h
    · rename_i k n hx
      injection h with h; subst h
      rw [hT _ _ hx]; rfl
    · cases h
  · rename_i op' t x y t'
    simp only [execOp]
    refine run_val ?_
    split at h
    · rename_i a b hx hy
      rw [hT _ _ hx, hT _ _ hy]
      exact binB_sound h
    · cases h
  · rename_i s x fd
    simp only [execOp]
    refine run_val ?_
    split at h
    · rename_i i hs
      split at h
      · rename_i o n hf
        split at h
        · rename_i j off hx
          injection h with h; subst h
          rw [hT _ _ hx]
          simp only [den]
          rw [fieldAt_sound hty hs hf, add_own]
        · rename_i a hx
          injection h with h; subst h
          rw [hT _ _ hx]
          exact fieldAt_sound hty hs hf a
        · cases h
      · cases h
    · cases h
  · rename_i x
    simp only [execOp]
    split at h
    · rename_i j o' hx
      injection h with h; subst h
      rw [hT _ _ hx]; rfl
    · rename_i a hx
      injection h with h; subst h
      rw [hT _ _ hx]; rfl
    · rename_i g a b hx
      injection h with h; subst h
      rw [hT _ _ hx]; rfl
    · cases h
  · rename_i t x
    simp only [execOp]
    refine run_val ?_
    split at h
    · rename_i i hi
      split at h
      · rename_i j off hx
        split at h
        · rename_i cs e hj
          rw [hT _ _ hx]
          have hc := hE _ _ _ hj
          simp only [den, Instr.loadAt, Sem.run_bind, Instr.sureAddr, Sem.run_pure, Result.andThen_ok]
          split at h
          · rename_i hagg
            split at h
            · rename_i l hl
              injection h with h; subst h
              obtain ⟨rfl, h2⟩ := takeF_eq _ _ _ hl
              rw [dropN_eq] at h2 ⊢
              rw [den]
              refine run_loadVar (hty _ _ hi) (by rw [denL_length]; simp at h2 ⊢; omega) (fun k v hv => ?_) hagg
              rw [add_own, cell_own hc, List.getElem?_toArray, denL_get]
              rw [denL_get] at hv
              have hk : k < i.size := by
                rcases Nat.lt_or_ge k i.size with h' | h'
                · exact h'
                · rw [List.getElem?_eq_none (by simp; omega)] at hv; cases hv
              rw [List.getElem?_take_of_lt hk, List.getElem?_drop] at hv
              exact hv
            · cases h
          · rename_i hagg
            rw [nth_eq] at h
            refine run_loadVar1 (hty _ _ hi) ?_ hagg
            rw [cell_own hc, List.getElem?_toArray, denL_get, h]; rfl
        · cases h
      · cases h
    · cases h
  · rename_i as ts
    simp only [execOp]
    have := lenOp_sound (w := w) hty hT (t0 := type) h
    simp only [resolve, invoke, builtin, Sem.run_bind, Sem.run_pure, Result.andThen_ok, this]
  · rename_i t ps
    simp only [execOp]
    refine run_val ?_
    split at h
    · rename_i i hi
      split at h
      · rename_i l a0 b0 hl hf
        split at h
        · rename_i cs hcs
          injection h with h; subst h
          have e := evp_den hT _ _ hl
          have := build_sound (P := P) (w := w) hty (ρ := ρ) hi (by rw [hf]; simp) hcs
          rw [← e] at this
          rw [← this]
          congr 2
          apply Array.ext'
          simp
        · cases h
      · cases h
    · cases h
  · rename_i g a b
    simp only [execOp]
    refine run_val ?_
    split at h
    · rename_i x y hx hy
      injection h with h; subst h
      have e1 := evs_den hT _ _ hx
      have e2 := evs_den hT _ _ hy
      simp only [Instr.makeFunc, Sem.run_pure, den, ← e1, ← e2]
      have q : ∀ z : Array Operand, (List.map f z.toList).toArray = z.map f := fun z => by apply Array.ext'; simp
      rw [q, q]
    · cases h
  · rename_i t x
    simp only [execOp]
    refine run_val ?_
    split at h
    · rename_i i hi
      split at h
      · rename_i hif
        split at h
        · rename_i a hx
          injection h with h; subst h
          rw [hT _ _ hx]
          obtain ⟨y, d, hy, hd, h1, h2, h3, h4, h5, h6, h7, h8⟩ := (hty _ _ hi).get
          unfold Instr.makeInterface
          rw [Sem.run_bind, run_under hd]
          rw [hif] at h8
          cases d <;> first | (simp [ifcB] at h8; done) | rfl
        · cases h
      · cases h
    · cases h
end
end Go.Vc


