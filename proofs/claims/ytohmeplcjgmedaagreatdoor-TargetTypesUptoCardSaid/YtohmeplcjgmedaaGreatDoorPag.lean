/- Texts of mine, joined: Vxr Vxs Vpa Vpb Vxt Vpc Vpd. -/
import Derived.Test.YtohmeplcjgmedaaGreatDoorPae
import Derived.Laws.BytesString
import Derived.Laws.Strings2
import Derived.Laws.Slices
/- Laws: strings out of bytes, parts of strings. -/
namespace Go.Vx
open Go.RowKit Go.Vc

section
variable {P : Program} {G : Glob} {ty : List (Nat × TY)} {N n0 : Nat} {b : Bs G n0}

/-- An operation that yields a value, and leaves the world. -/
theorem valC {kp : Bool} {o : Oper} {st : St} {K : SExit → St → Prop} (sv : SV) (h : ∀ e a w, Ok b N e st a w → ∃ v, RepSV e w sv v ∧ (execOp a.eval o).run P w = .ok (.value v) w) (hk : putK N o.dst sv st (K .normal)) : OpC P b N kp o st K := by
  refine ⟨fun e a w hok => ?_⟩
  obtain ⟨v, h1, h2⟩ := h e a w hok
  obtain ⟨st', g1, g2, _⟩ := putK_sound hok h1 hk
  rw [h2]
  exact ⟨e, st', .of ⟨Kept.refl _ _, Agr.refl _ _ _⟩, g1, g2⟩
/-- A part of a string. -/
theorem slStrC (hty : Tys P ty) {kp : Bool} {o : Oper} {st : St} {K : SExit → St → Prop} {t : TypeId} {y : TY} {x lo hi : Operand} {s : ByteArray} {kl kh : IntKind} {i j : Int} (ho : o.op = .slice t x (some lo) (some hi) none) (hy : lk ty t = some y) (hyk : y.kd = .str) (hx : ev st.T x = some (.d (.str s))) (hl : ev st.T lo = some (.d (.int kl i))) (hh : ev st.T hi = some (.d (.int kh j)))
    (h0 : 0 ≤ i) (h1 : i ≤ j) (h2 : j ≤ s.size) (r : ByteArray) (hr : s.extract i.toNat j.toNat = r) (hk : putK N o.dst (.d (.str r)) st (K .normal)) : OpC P b N kp o st K := by
  subst hr
  refine valC _ (fun e a w hok => ⟨.string (s.extract i.toNat j.toNat), by simp only [RepSV, RepD], ?_⟩) hk
  have g1 := hok.tmok _ _ hx
  have g2 := hok.tmok _ _ hl
  have g3 := hok.tmok _ _ hh
  simp only [RepSV, RepD] at g1 g2 g3
  have hu := (hty _ _ hy).str hyk
  obtain ⟨dst, op, type, pos, after, guard⟩ := o
  simp only at ho
  subst ho
  simp only [execOp]
  refine run_val ?_
  rw [g1]
  simp only [Option.map_some, Option.map_none, g2, g3]
  rw [run_sliceAt_string _ t _ _ _ _ hu]
  exact run_slice_string _ t s kl kh i j hu h0 h1 h2
def bytesOf (l : List Int) : ByteArray := l.foldl (fun r n => r.push (UInt8.ofNat n.toNat)) ByteArray.empty
theorem RepDs.bytes {S : Nat → Prop} {w : World} : ∀ {l : List Int} {vs : List Value}, RepDs S w (l.map (.int .u8)) vs → vs = l.map (.int .u8)
  | [], vs, h => by simpa [RepDs] using h
  | n :: l, vs, h => by
    simp only [List.map_cons, RepDs] at h
    obtain ⟨u, s, rfl, h1, h2⟩ := h
    simp only [RepD] at h1
    rw [RepDs.bytes h2, h1]; rfl
/-- A string, out of bytes. -/
theorem bsC (hty : Tys P ty) {kp : Bool} {o : Oper} {st : St} {K : SExit → St → Prop} {t t' : TypeId} {y ye y' : TY} {el : TypeId} {x : Operand} {sv : SV} {n : Nat} (l : List Int) (ho : o.op = .convert t t' x) (hy : lk ty t = some y) (hyk : y.kd = .slice el) (hye : lk ty el = some ye) (hyek : ye.kd = .int .u8) (hy' : lk ty t' = some y') (hyk' : y'.kd = .str)
    (hx : ev st.T x = some sv) (hs : slOf st.H sv = some (n, l.map (.int .u8))) (hn : l.length = n) (hk : putK N o.dst (.d (.str (bytesOf l))) st (K .normal)) : OpC P b N kp o st K := by
  refine valC _ (fun e a w hok => ⟨.string (bytesOf l), by simp only [RepSV, RepD], ?_⟩) hk
  have g1 := hok.tmok _ _ hx
  obtain ⟨A, c, S, vs, hv, hc, hvs⟩ := slOf_rep hok.hp hs g1
  obtain rfl := RepDs.bytes hvs
  have hu := (hty _ _ hy).slice hyk
  have hue := (hty _ _ hye).int hyek
  have hu' := (hty _ _ hy').str hyk'
  obtain ⟨dst, op, type, pos, after, guard⟩ := o
  simp only at ho
  subst ho
  simp only [execOp]
  refine run_val ?_
  rw [hv, run_convert_bytes_string w t t' el A n c hu hue hu']
  cases A with
  | none =>
    rcases hc with hc | ⟨ad, had, _⟩
    · have : l = [] := by simpa using hc
      subst this
      simp [Conv.bytesToString, Sem.run_pure, bytesOf]
    · cases had
  | some ad =>
    rw [run_bytesToString w ad n c l]
    · rfl
    · unfold loadCells
      rw [Go.Vc.run_loadCellsFrom (w := w) (a := ad) n 0 #[] (l.map (Value.int .u8)) (by simp [hn])]
      · simp
      · intro j v hj
        rcases hc with hc | ⟨ad', had, _, hcell⟩
        · rw [hc] at hj; simp at hj
        · injection had with had; subst had
          rw [Nat.zero_add]; exact hcell j v hj
end
end Go.Vx

/- Cells, one behind the other. -/
namespace Go.Vx
open Go.RowKit Go.Vc
theorem RepC.app {S : Nat → Prop} {w : World} : ∀ {l m : List D} {A : Option Addr} {j : Nat}, RepC S w l A j → RepC S w m A (j + l.length) → RepC S w (l ++ m) A j
  | [], m, A, j, _, h => by simpa using h
  | x :: r, m, A, j, h, h' => by
    simp only [List.cons_append, RepC] at h ⊢
    exact ⟨h.1, RepC.app h.2 (by rwa [show j + 1 + r.length = j + (x :: r).length from by simp; omega])⟩
/-- The blocks of a world. -/
def InW (w : World) (k : Nat) : Prop := k < w.heap.size
theorem RepDs.cellsW {w : World} {l : List D} {vs : List Value} {a : Addr} {j : Nat} (h : RepDs (InW w) w l vs) (hc : ∀ (i : Nat) v, vs[i]? = some v → w.cell? (a.add (j + i)) = some v) : RepC (InW w) w l (some a) j :=
  RepC.of h fun i v hv => ⟨a, rfl, by have := World.block_lt_of_cell? w _ (hc i v hv); rwa [add_block] at this, hc i v hv⟩
end Go.Vx

/- Plain laws of types: the order. -/
namespace Go.Vx
open Go.Vc

def cmpI (a b : Int) : Int := if a < b then -1 else if a > b then 1 else 0
def orL : List Int → Int
  | [] => 0
  | x :: r => if x ≠ 0 then x else orL r
mutual
def cmpT : Tp → Tp → Int
  | .mk k n ks, .mk k' n' ks' => orL [cmpI k k', cmpI n n', cmpI ks.length ks'.length, cmpL ks ks']
def cmpL : List Tp → List Tp → Int
  | [], [] => 0
  | [], _ :: _ => -1
  | _ :: _, [] => 1
  | a :: r, b :: s => if cmpT a b ≠ 0 then cmpT a b else cmpL r s
end
theorem cmpL_drop {l m : List Tp} {i : Nat} (h : i < l.length) (h' : i < m.length) : cmpL (l.drop i) (m.drop i) = if cmpT l[i] m[i] ≠ 0 then cmpT l[i] m[i] else cmpL (l.drop (i + 1)) (m.drop (i + 1)) := by
  rw [List.drop_eq_getElem_cons h, List.drop_eq_getElem_cons h', cmpL]
/-- The place of a number, from a place on; -1: it is not there. -/
def idxFrom : List Int → Int → Int → Int
  | [], _, _ => -1
  | y :: r, x, i => if x = y then i else idxFrom r x (i + 1)
mutual
/-- F8.1: a right type. -/
def right : Tp → Bool
  | .mk k n ks => match (k == 1 || (k == 2 || k == 3)) with
    | true => n == 0 && ((ks.length : Int) == 0)
    | false => match (k == 4 || k == 5) with
      | true => n == 0 && (((ks.length : Int) == 2) && rights ks)
      | false => match (k == 6 || (k == 7 || k == 8)) with
        | true => decide (n ≥ 0) && ((ks.length : Int) == 0)
        | false => false
def rights : List Tp → Bool
  | [] => true
  | t :: r => right t && rights r
end
theorem idxFrom_nonneg : ∀ (l : List Int) (x i : Int), 0 ≤ i → (0 ≤ idxFrom l x i ↔ x ∈ l)
  | [], x, i, h => by simp [idxFrom]
  | y :: r, x, i, h => by
    simp only [idxFrom, List.mem_cons]
    by_cases e : x = y
    · rw [if_pos e]; simp [e, h]
    · rw [if_neg e, idxFrom_nonneg r x (i + 1) (by omega)]; simp [e]

mutual
/-- The numbers of the nodes of a kind, each once, behind others. -/
def fnd (kind : Int) : Tp → List Int → List Int
  | .mk k n ks, acc => fndL kind ks (if k = kind ∧ n ∉ acc then acc ++ [n] else acc)
def fndL (kind : Int) : List Tp → List Int → List Int
  | [], acc => acc
  | t :: r, acc => fndL kind r (fnd kind t acc)
end
mutual
theorem fnd_len (kind : Int) : ∀ (t : Tp) (acc : List Int), acc.length ≤ (fnd kind t acc).length
  | .mk k n ks, acc => by
    simp only [fnd]
    refine Nat.le_trans ?_ (fndL_len kind ks _)
    split <;> simp
theorem fndL_len (kind : Int) : ∀ (ts : List Tp) (acc : List Int), acc.length ≤ (fndL kind ts acc).length
  | [], acc => by simp [fndL]
  | t :: r, acc => by
    simp only [fndL]
    exact Nat.le_trans (fnd_len kind t acc) (fndL_len kind r _)
end
theorem fndL_drop {kind : Int} {ks : List Tp} {i : Nat} (h : i < ks.length) (acc : List Int) : fndL kind (ks.drop i) acc = fndL kind (ks.drop (i + 1)) (fnd kind ks[i] acc) := by
  rw [List.drop_eq_getElem_cons h, fndL]
mutual
/-- Nodes of a kind replaced, by a table. -/
def sub (kind : Int) (σ : Int → Option Tp) : Tp → Tp
  | .mk k n ks => match (if k = kind then σ n else none) with
    | some u => u
    | none => .mk k n (subL kind σ ks)
def subL (kind : Int) (σ : Int → Option Tp) : List Tp → List Tp
  | [] => []
  | t :: r => sub kind σ t :: subL kind σ r
end
theorem subL_map (kind : Int) (σ : Int → Option Tp) (l : List Tp) : subL kind σ l = l.map (sub kind σ) := by
  induction l with
  | nil => rfl
  | cons t r ih => simp [subL, ih]
/-- The table of two lists. -/
def tbl : List Int → List Tp → Int → Option Tp
  | f :: fs, t :: ts, n => if n = f then some t else tbl fs ts n
  | _, _, _ => none
theorem tbl_idx : ∀ (fs : List Int) (ts : List Tp) (n i : Int), fs.length ≤ ts.length → 0 ≤ i → (idxFrom fs n i < 0 → tbl fs ts n = none) ∧ (0 ≤ idxFrom fs n i → ∃ q : Nat, idxFrom fs n i = i + q ∧ q < fs.length ∧ tbl fs ts n = ts[q]?)
  | [], ts, n, i, _, h => by simp [idxFrom, tbl]
  | f :: fs, [], n, i, hl, h => by simp at hl
  | f :: fs, t :: ts, n, i, hl, h => by
    simp only [idxFrom, tbl]
    by_cases e : n = f
    · rw [if_pos e, if_pos e]
      exact ⟨fun h' => by omega, fun _ => ⟨0, by simp, by simp, by simp⟩⟩
    · rw [if_neg e, if_neg e]
      obtain ⟨h1, h2⟩ := tbl_idx fs ts n (i + 1) (by simpa using hl) (by omega)
      refine ⟨h1, fun h' => ?_⟩
      obtain ⟨q, q1, q2, q3⟩ := h2 h'
      exact ⟨q + 1, by rw [q1]; push_cast; omega, by simp; omega, by rw [q3]; simp⟩


/-! How many nodes, as far as they fit. -/
theorem szL_take {ks : List Tp} {i : Nat} (h : i < ks.length) : szL (ks.take (i + 1)) = szL (ks.take i) + szT ks[i] := by
  rw [List.take_succ_eq_append_getElem h, szL_append]
  simp [szL]
theorem szL_take_le (ks : List Tp) (i : Nat) : szL (ks.take i) ≤ szL ks := by
  conv => rhs; rw [← List.take_append_drop i ks, szL_append]
  omega
def cutN (n most : Nat) : Nat := if n ≤ most then n else most + 1
end Go.Vx

/- Plain laws of types: the text. -/
namespace Go.Vx
open Go.Vc

def bs (l : List UInt8) : ByteArray := ⟨l.toArray⟩
theorem bs_size (l : List UInt8) : (bs l).size = l.length := by simp [bs, ByteArray.size]
section
variable (it : Int → ByteArray)
/-- Of a TGen. -/
def genT (n : Int) : ByteArray :=
  if n < 0 then bs [39, 63] else if n ≥ 26 then (bs [39] ++ bytesOf [IntKind.u8.wrap (IntKind.i64.wrap (97 + n.tmod 26))]) ++ it (IntKind.i64.wrap (n.tdiv 26)) else bs [39] ++ bytesOf [IntKind.u8.wrap (IntKind.i64.wrap (97 + n.tmod 26))]
def withT (w : Bool) (a : Tp) (s : ByteArray) : ByteArray := if w = true ∧ a.kids.length = 2 then bs [40] ++ s ++ bs [41] else s
def topT (k n : Int) (ks : List Tp) (ss : List ByteArray) : ByteArray :=
  if k = 1 then bs [105, 110, 116] else if k = 2 then bs [98, 111, 111, 108] else if k = 3 then bs [117, 110, 105, 116] else
  if k = 6 then bs [35] ++ it n else if k = 7 then bs [63] ++ it n else if k = 8 then genT it n else
  match ks, ss with
  | [a, c], [x, y] => if k = 4 then withT ((a.k == 4)) a x ++ bs [32, 45, 62, 32] ++ y else if k = 5 then withT ((a.k == 4)) a x ++ bs [32, 42, 32] ++ withT (c.k == 4 || c.k == 5) c y else bs [63]
  | _, _ => bs [63]
mutual
/-- F8.4. -/
def txt : Tp → ByteArray
  | .mk k n ks => topT it k n ks (txts ks)
def txts : List Tp → List ByteArray
  | [] => []
  | t :: r => txt t :: txts r
end
end
end Go.Vx

/- Small changes of what a state says. -/
namespace Go.Vx
open Go.RowKit Go.Vc
section
variable {P : Program} {G : Glob} {ty : List (Nat × TY)} {N n0 : Nat} {b : Bs G n0}
/-- A known truth, as data. -/
theorem weak_kbT {T : Tl} {H : Hp} {n : Nat} (t : Nat) (c : Bool) (ht : lk T t = some (.kb c)) : Weak b N ⟨T, H, n⟩ ⟨(t, .d (.bool c)) :: T, H, n⟩ := by
  intro e a w h
  refine ⟨e, fun _ h => h, h.sz, h.df, h.len, fun t' x hx => ?_, h.hp, h.below, h.dr, h.mine, h.frm, h.pre, h.gl⟩
  simp only [lk] at hx
  split at hx
  · rename_i e'
    obtain rfl := nbeq.1 e'
    injection hx with hx; subst hx
    have := h.tm _ _ ht
    simp only [RepSV, RepD] at this ⊢
    exact this
  · exact h.tm _ _ hx
/-- Some own objects are written no more: they are data now. -/
theorem weak_pub {st st' : St} (p : Nat → Bool) (h : pubK p st fun s => Weak b N s st') : Weak b N st st' := by
  intro e a w hok
  obtain ⟨e', s, hw, kw, ok', _⟩ := pubK_sound hok p h
  obtain ⟨e2, up, ok2⟩ := hw e' a w ok'
  exact ⟨e2, fun k hk => up k (kw.pub k hk), ok2⟩
end
end Go.Vx

/- Plain laws of types: the order is one. -/
namespace Go.Vx
open Go.Vc

theorem cmpI_zero {a b : Int} : cmpI a b = 0 ↔ a = b := by unfold cmpI; split <;> (try split) <;> omega
theorem cmpI_neg {a b : Int} : cmpI a b < 0 ↔ a < b := by unfold cmpI; split <;> (try split) <;> omega
theorem cmpI_sym (a b : Int) : cmpI b a = - cmpI a b := by unfold cmpI; split <;> split <;> (try split) <;> (try split) <;> omega
theorem cmpI_rng (a b : Int) : -1 ≤ cmpI a b ∧ cmpI a b ≤ 1 := by unfold cmpI; split <;> (try split) <;> omega
theorem orL_sym : ∀ l m : List Int, m = l.map (- ·) → orL m = - orL l
  | [], _, rfl => rfl
  | x :: r, _, rfl => by
    simp only [List.map_cons, orL]
    by_cases h : x = 0
    · rw [if_neg (by omega), if_neg (by omega)]; exact orL_sym r _ rfl
    · rw [if_pos (by omega), if_pos h]
theorem orL_rng : ∀ l : List Int, (∀ x ∈ l, -1 ≤ x ∧ x ≤ 1) → -1 ≤ orL l ∧ orL l ≤ 1
  | [], _ => by simp [orL]
  | x :: r, h => by
    simp only [orL]
    split
    · exact h x (by simp)
    · exact orL_rng r fun y hy => h y (by simp [hy])
theorem orL4 (a b c d : Int) : orL [a, b, c, d] = if a ≠ 0 then a else if b ≠ 0 then b else if c ≠ 0 then c else d := by
  simp only [orL]; split <;> (try rfl); split <;> (try rfl); split <;> (try rfl); split <;> omega
mutual
theorem cmpT_eq : ∀ t u : Tp, cmpT t u = 0 → t = u
  | .mk k n ks, .mk k' n' ks', h => by
    simp only [cmpT, orL4] at h
    split at h
    · omega
    rename_i h1
    split at h
    · omega
    rename_i h2
    split at h
    · omega
    have e1 := cmpI_zero.1 (Decidable.not_not.1 h1)
    have e2 := cmpI_zero.1 (Decidable.not_not.1 h2)
    rw [e1, e2, cmpL_eq ks ks' h]
theorem cmpL_eq : ∀ l m : List Tp, cmpL l m = 0 → l = m
  | [], [], _ => rfl
  | [], _ :: _, h => by simp [cmpL] at h
  | _ :: _, [], h => by simp [cmpL] at h
  | a :: r, b :: s, h => by
    simp only [cmpL] at h
    split at h
    · omega
    rename_i h1
    rw [cmpT_eq a b (Decidable.not_not.1 h1), cmpL_eq r s h]
end
mutual
theorem cmpT_refl : ∀ t : Tp, cmpT t t = 0
  | .mk k n ks => by
    simp only [cmpT, orL4, cmpI_zero.2 (rfl : k = k), cmpI_zero.2 (rfl : n = n), cmpI_zero.2 (rfl : (ks.length : Int) = ks.length), cmpL_refl ks]
    rfl
theorem cmpL_refl : ∀ l : List Tp, cmpL l l = 0
  | [] => rfl
  | a :: r => by simp only [cmpL, cmpT_refl a, cmpL_refl r]; rfl
end
mutual
theorem cmpT_sym : ∀ t u : Tp, cmpT u t = - cmpT t u
  | .mk k n ks, .mk k' n' ks' => by
    simp only [cmpT]
    exact orL_sym _ _ (by simp only [List.map_cons, List.map_nil, cmpI_sym k k', cmpI_sym n n', cmpI_sym (ks.length : Int) ks'.length, cmpL_sym ks ks'])
theorem cmpL_sym : ∀ l m : List Tp, cmpL m l = - cmpL l m
  | [], [] => rfl
  | [], _ :: _ => rfl
  | _ :: _, [] => rfl
  | a :: r, b :: s => by
    simp only [cmpL, cmpT_sym a b, cmpL_sym r s]
    by_cases h : cmpT a b = 0
    · rw [if_neg (by omega), if_neg (by omega)]
    · rw [if_pos (by omega), if_pos h]
end
mutual
theorem cmpT_rng : ∀ t u : Tp, -1 ≤ cmpT t u ∧ cmpT t u ≤ 1
  | .mk k n ks, .mk k' n' ks' => by
    simp only [cmpT]
    refine orL_rng _ fun x hx => ?_
    simp only [List.mem_cons, List.not_mem_nil, or_false] at hx
    rcases hx with rfl | rfl | rfl | rfl
    · exact cmpI_rng _ _
    · exact cmpI_rng _ _
    · exact cmpI_rng _ _
    · exact cmpL_rng ks ks'
theorem cmpL_rng : ∀ l m : List Tp, -1 ≤ cmpL l m ∧ cmpL l m ≤ 1
  | [], [] => by simp [cmpL]
  | [], _ :: _ => by simp [cmpL]
  | _ :: _, [] => by simp [cmpL]
  | a :: r, b :: s => by
    simp only [cmpL]
    split
    · exact cmpT_rng a b
    · exact cmpL_rng r s
end
def Lx (a b c : Int) : Prop := (a = 0 → c = b) ∧ (b = 0 → c = a) ∧ (a < 0 → b < 0 → c < 0)
theorem cmpI_lx (a b c : Int) : Lx (cmpI a b) (cmpI b c) (cmpI a c) := by
  refine ⟨fun h => ?_, fun h => ?_, fun h h' => ?_⟩
  · rw [cmpI_zero.1 h]
  · rw [cmpI_zero.1 h]
  · rw [cmpI_neg] at *; omega
theorem or2_lt {a b c x y z : Int} (h : Lx a b c) (hr : x < 0 → y < 0 → z < 0) (h1 : (if a ≠ 0 then a else x) < 0) (h2 : (if b ≠ 0 then b else y) < 0) : (if c ≠ 0 then c else z) < 0 := by
  obtain ⟨q1, q2, q3⟩ := h
  by_cases ha : a = 0
  · rw [if_neg (by omega)] at h1
    rw [q1 ha]
    by_cases hb : b = 0
    · rw [if_neg (by omega)] at h2 ⊢; exact hr h1 h2
    · rw [if_pos hb] at h2 ⊢; exact h2
  · rw [if_pos ha] at h1
    by_cases hb : b = 0
    · rw [q2 hb, if_pos ha]; exact h1
    · rw [if_pos hb] at h2
      have := q3 h1 h2
      rw [if_pos (by omega)]; exact this
theorem orL_lt {a b c a' b' c' a'' b'' c'' x y z : Int} (h1 : Lx a b c) (h2 : Lx a' b' c') (h3 : Lx a'' b'' c'') (hr : x < 0 → y < 0 → z < 0) (h : orL [a, a', a'', x] < 0) (h' : orL [b, b', b'', y] < 0) : orL [c, c', c'', z] < 0 := by
  rw [orL4] at *
  exact or2_lt h1 (or2_lt h2 (or2_lt h3 hr)) h h'
mutual
theorem cmpT_lt : ∀ t u v : Tp, cmpT t u < 0 → cmpT u v < 0 → cmpT t v < 0
  | .mk k n ks, .mk k' n' ks', .mk k'' n'' ks'', h, h' => by
    rw [cmpT] at h h' ⊢
    exact orL_lt (cmpI_lx _ _ _) (cmpI_lx _ _ _) (cmpI_lx _ _ _) (cmpL_lt ks ks' ks'') h h'
theorem cmpL_lt : ∀ l m q : List Tp, cmpL l m < 0 → cmpL m q < 0 → cmpL l q < 0
  | [], [], _, h, _ => by simp [cmpL] at h
  | [], _ :: _, [], _, h => by simp [cmpL] at h
  | [], _ :: _, _ :: _, _, _ => by simp [cmpL]
  | _ :: _, [], _, h, _ => by simp [cmpL] at h
  | _ :: _, _ :: _, [], _, h => by simp [cmpL] at h
  | a :: r, b :: s, c :: q, h, h' => by
    have hT := cmpT_lt a b c
    have hL := cmpL_lt r s q
    simp only [cmpL] at h h' ⊢
    by_cases e : cmpT a b = 0
    · rw [if_neg (by omega)] at h
      obtain rfl := cmpT_eq a b e
      split at h'
      · rw [if_pos (by assumption)]; exact h'
      · rw [if_neg (by assumption)]; exact hL h h'
    · rw [if_pos e] at h
      by_cases e' : cmpT b c = 0
      · obtain rfl := cmpT_eq b c e'
        rw [if_pos e]; exact h
      · rw [if_pos e'] at h'
        rw [if_pos (by have := hT h h'; omega)]
        exact hT h h'
end
theorem cmpT_trans {t u v : Tp} (h : cmpT t u ≤ 0) (h' : cmpT u v ≤ 0) : cmpT t v ≤ 0 := by
  by_cases e : cmpT t u = 0
  · rw [cmpT_eq t u e]; exact h'
  · by_cases e' : cmpT u v = 0
    · rw [← cmpT_eq u v e']; exact h
    · have := cmpT_lt t u v (by omega) (by omega); omega
end Go.Vx

/- Plain laws of types: what stands in them, and what replacing does to it. -/
namespace Go.Vx
open Go.Vc

mutual
theorem fnd_sz (kind : Int) : ∀ (t : Tp) (acc : List Int), (fnd kind t acc).length ≤ acc.length + szT t
  | .mk k n ks, acc => by
    simp only [fnd, szT]
    refine Nat.le_trans (fndL_sz kind ks _) ?_
    split
    · simp; omega
    · omega
theorem fndL_sz (kind : Int) : ∀ (ts : List Tp) (acc : List Int), (fndL kind ts acc).length ≤ acc.length + szL ts
  | [], acc => by simp [fndL, szL]
  | t :: r, acc => by
    simp only [fndL, szL]
    have h1 := fndL_sz kind r (fnd kind t acc)
    have h2 := fnd_sz kind t acc
    omega
end
mutual
/-- Does a node of a kind stand in a type? -/
def hasN (kind x : Int) : Tp → Prop
  | .mk k n ks => (k = kind ∧ n = x) ∨ hasL kind x ks
def hasL (kind x : Int) : List Tp → Prop
  | [] => False
  | t :: r => hasN kind x t ∨ hasL kind x r
end
mutual
theorem mem_fnd (kind x : Int) : ∀ (t : Tp) (acc : List Int), x ∈ fnd kind t acc ↔ x ∈ acc ∨ hasN kind x t
  | .mk k n ks, acc => by
    simp only [fnd, hasN]
    rw [mem_fndL kind x ks]
    by_cases h : k = kind ∧ n ∉ acc
    · rw [if_pos h, List.mem_append, List.mem_singleton]
      constructor
      · rintro ((h1 | rfl) | h1)
        · exact .inl h1
        · exact .inr (.inl ⟨h.1, rfl⟩)
        · exact .inr (.inr h1)
      · rintro (h1 | ⟨_, rfl⟩ | h1)
        · exact .inl (.inl h1)
        · exact .inl (.inr rfl)
        · exact .inr h1
    · rw [if_neg h]
      constructor
      · rintro (h1 | h1)
        · exact .inl h1
        · exact .inr (.inr h1)
      · rintro (h1 | ⟨h2, rfl⟩ | h1)
        · exact .inl h1
        · exact .inl (Decidable.byContradiction fun h3 => h ⟨h2, h3⟩)
        · exact .inr h1
theorem mem_fndL (kind x : Int) : ∀ (ts : List Tp) (acc : List Int), x ∈ fndL kind ts acc ↔ x ∈ acc ∨ hasL kind x ts
  | [], acc => by simp [fndL, hasL]
  | t :: r, acc => by
    simp only [fndL, hasL]
    rw [mem_fndL kind x r, mem_fnd kind x t]
    constructor
    · rintro ((h | h) | h)
      · exact .inl h
      · exact .inr (.inl h)
      · exact .inr (.inr h)
    · rintro (h | h | h)
      · exact .inl (.inl h)
      · exact .inl (.inr h)
      · exact .inr h
end
mutual
/-- What does not stand in a type is not replaced there. -/
theorem sub_id (kind : Int) (σ : Int → Option Tp) : ∀ t : Tp, (∀ n, hasN kind n t → σ n = none) → sub kind σ t = t
  | .mk k n ks, h => by
    simp only [hasN] at h
    rw [sub]
    have : (if k = kind then σ n else none) = none := by
      split
      · exact h n (.inl ⟨by assumption, rfl⟩)
      · rfl
    rw [this]
    simp only
    rw [subL_id kind σ ks fun n hn => h n (.inr hn)]
theorem subL_id (kind : Int) (σ : Int → Option Tp) : ∀ ts : List Tp, (∀ n, hasL kind n ts → σ n = none) → subL kind σ ts = ts
  | [], _ => rfl
  | t :: r, h => by
    simp only [hasL] at h
    rw [subL, sub_id kind σ t fun n hn => h n (.inl hn), subL_id kind σ r fun n hn => h n (.inr hn)]
end
theorem tbl1 (f n : Int) (t : Tp) : tbl [f] [t] n = if n = f then some t else none := by simp [tbl]
theorem tbl2 (f g n : Int) (t u : Tp) : tbl [f, g] [t, u] n = if n = f then some t else if n = g then some u else none := by simp [tbl]
mutual
/-- At once, or one after the other. -/
theorem sub_two (kind f g : Int) (u v : Tp) (hfg : f ≠ g) (hg : ¬ hasN kind g u) : ∀ t : Tp, sub kind (tbl [f, g] [u, v]) t = sub kind (tbl [g] [v]) (sub kind (tbl [f] [u]) t)
  | .mk k n ks => by
    have hu : sub kind (tbl [g] [v]) u = u := sub_id kind _ u fun m hm => by
      rw [tbl1, if_neg]; rintro rfl; exact hg hm
    by_cases hk : k = kind
    · by_cases hf : n = f
      · have e1 : sub kind (tbl [f, g] [u, v]) (.mk k n ks) = u := by rw [sub, if_pos hk, tbl2, if_pos hf]
        have e2 : sub kind (tbl [f] [u]) (.mk k n ks) = u := by rw [sub, if_pos hk, tbl1, if_pos hf]
        rw [e1, e2, hu]
      · have e2 : sub kind (tbl [f] [u]) (.mk k n ks) = .mk k n (subL kind (tbl [f] [u]) ks) := by rw [sub, if_pos hk, tbl1, if_neg hf]
        rw [e2]
        by_cases hg' : n = g
        · rw [sub, if_pos hk, tbl2, if_neg hf, if_pos hg', sub, if_pos hk, tbl1, if_pos hg']
        · rw [sub, if_pos hk, tbl2, if_neg hf, if_neg hg', sub, if_pos hk, tbl1, if_neg hg']
          simp only
          rw [subL_two kind f g u v hfg hg ks]
    · have e2 : sub kind (tbl [f] [u]) (.mk k n ks) = .mk k n (subL kind (tbl [f] [u]) ks) := by rw [sub, if_neg hk]
      rw [e2, sub, if_neg hk, sub, if_neg hk]
      simp only
      rw [subL_two kind f g u v hfg hg ks]
theorem subL_two (kind f g : Int) (u v : Tp) (hfg : f ≠ g) (hg : ¬ hasN kind g u) : ∀ ts : List Tp, subL kind (tbl [f, g] [u, v]) ts = subL kind (tbl [g] [v]) (subL kind (tbl [f] [u]) ts)
  | [] => rfl
  | t :: r => by simp only [subL]; rw [sub_two kind f g u v hfg hg t, subL_two kind f g u v hfg hg r]
end
theorem rightKids {k n : Int} {ks : List Tp} (h : right (.mk k n ks) = true) : rights ks = true := by
  simp only [right] at h
  have nil : ((ks.length : Int) == 0) = true → rights ks = true := by
    intro h
    have := eq_of_beq h
    have : ks = [] := List.eq_nil_of_length_eq_zero (by omega)
    rw [this]; rfl
  split at h
  · simp only [Bool.and_eq_true] at h; exact nil h.2
  · split at h
    · simp only [Bool.and_eq_true] at h; exact h.2.2
    · split at h
      · simp only [Bool.and_eq_true] at h; exact nil h.2
      · cases h
theorem right6 {n : Int} {ks : List Tp} (h : right (.mk 6 n ks) = true) : ks = [] := by
  simp [right] at h
  exact h.2
mutual
/-- By itself. -/
theorem sub_self (kind f : Int) : ∀ t : Tp, (kind = 6 → right t = true) → kind = 6 → sub kind (tbl [f] [.mk 6 f []]) t = t
  | .mk k n ks, hr, h6 => by
    subst h6
    have hr := hr rfl
    by_cases hk : k = 6
    · subst hk
      have hks : ks = [] := right6 hr
      subst hks
      by_cases hf : n = f
      · rw [sub, if_pos rfl, tbl1, if_pos hf, hf]
      · rw [sub, if_pos rfl, tbl1, if_neg hf]; rfl
    · rw [sub, if_neg hk]
      simp only
      rw [subL_self 6 f ks (fun _ => rightKids hr) rfl]
theorem subL_self (kind f : Int) : ∀ ts : List Tp, (kind = 6 → rights ts = true) → kind = 6 → subL kind (tbl [f] [.mk 6 f []]) ts = ts
  | [], _, _ => rfl
  | t :: r, hr, h6 => by
    have h := hr h6
    simp only [rights, Bool.and_eq_true] at h
    rw [subL, sub_self kind f t (fun _ => h.1) h6, subL_self kind f r (fun _ => h.2) h6]
end
mutual
theorem hasN_sub (f : Int) (u : Tp) (x : Int) : ∀ t : Tp, right t = true → (hasN 6 x (sub 6 (tbl [f] [u]) t) ↔ (hasN 6 x t ∧ x ≠ f) ∨ (hasN 6 f t ∧ hasN 6 x u))
  | .mk k n ks, hr => by
    by_cases hk : k = 6
    · subst hk
      obtain rfl := right6 hr
      by_cases hf : n = f
      · subst hf
        rw [sub, if_pos rfl, tbl1, if_pos rfl]
        simp only [hasN, hasL]
        constructor
        · exact fun h => .inr ⟨by simp, h⟩
        · rintro (⟨⟨_, rfl⟩ | h, h'⟩ | ⟨_, h⟩)
          · exact absurd rfl h'
          · exact h.elim
          · exact h
      · rw [sub, if_pos rfl, tbl1, if_neg hf]
        simp only [hasN, hasL, subL]
        constructor
        · rintro (⟨_, rfl⟩ | h)
          · exact .inl ⟨.inl ⟨trivial, rfl⟩, hf⟩
          · exact h.elim
        · rintro (⟨⟨_, rfl⟩ | h, _⟩ | ⟨⟨_, h⟩ | h, _⟩)
          · exact .inl ⟨trivial, rfl⟩
          · exact h.elim
          · exact absurd h hf
          · exact h.elim
    · rw [sub, if_neg hk]
      simp only [hasN, hk, false_and, false_or]
      exact hasL_sub f u x ks (rightKids hr)
theorem hasL_sub (f : Int) (u : Tp) (x : Int) : ∀ ts : List Tp, rights ts = true → (hasL 6 x (subL 6 (tbl [f] [u]) ts) ↔ (hasL 6 x ts ∧ x ≠ f) ∨ (hasL 6 f ts ∧ hasN 6 x u))
  | [], _ => by simp [hasL, subL]
  | t :: r, hr => by
    simp only [rights, Bool.and_eq_true] at hr
    simp only [subL, hasL]
    rw [hasN_sub f u x t hr.1, hasL_sub f u x r hr.2]
    constructor
    · rintro ((⟨h1, h2⟩ | ⟨h1, h2⟩) | ⟨h1, h2⟩ | ⟨h1, h2⟩)
      · exact .inl ⟨.inl h1, h2⟩
      · exact .inr ⟨.inl h1, h2⟩
      · exact .inl ⟨.inr h1, h2⟩
      · exact .inr ⟨.inr h1, h2⟩
    · rintro (⟨h1 | h1, h2⟩ | ⟨h1 | h1, h2⟩)
      · exact .inl (.inl ⟨h1, h2⟩)
      · exact .inr (.inl ⟨h1, h2⟩)
      · exact .inl (.inr ⟨h1, h2⟩)
      · exact .inr (.inr ⟨h1, h2⟩)
end
theorem cmpT_zero {t u : Tp} : (cmpT t u == 0) = decide (cmpT t u = 0) := by
  rw [Bool.eq_iff_iff]; simp
end Go.Vx

