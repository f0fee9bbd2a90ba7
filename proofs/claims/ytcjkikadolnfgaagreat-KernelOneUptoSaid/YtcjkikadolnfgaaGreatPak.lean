/- Texts of mine, joined: Vxr Vxs Vxt Vpa Vpb. -/
import Derived.Test.YtcjkikadolnfgaaGreatPag
import Derived.Laws.BytesString
import Derived.Laws.Strings2
import Derived.Laws.Slices
/- Laws: strings out of bytes, parts of strings. -/
namespace Go.Vx
open Go.RowKit Go.Vc
section
variable {P : Program} {G : Glob} {ty : List (Nat × TY)} {N n0 : Nat} {b : Bs G n0}
theorem valC {kp : Bool} {o : Oper} {st : St} {K : SExit → St → Prop} (sv : SV) (h : ∀ e a w, Ok b N e st a w → ∃ v, RepSV e w sv v ∧ (execOp a.eval o).run P w = .ok (.value v) w) (hk : putK N o.dst sv st (K .normal)) : OpC P b N kp o st K := by
  refine ⟨fun e a w hok => ?_⟩
  obtain ⟨v, h1, h2⟩ := h e a w hok
  obtain ⟨st', g1, g2, _⟩ := putK_sound hok h1 hk
  rw [h2]
  exact ⟨e, st', .of ⟨Kept.refl _ _, Agr.refl _ _ _⟩, g1, g2⟩
def bytesOf (l : List Int) : ByteArray := l.foldl (fun r n => r.push (UInt8.ofNat n.toNat)) ByteArray.empty
theorem RepDs.bytes {S : Nat → Prop} {w : World} : ∀ {l : List Int} {vs : List Value}, RepDs S w (l.map (.int .u8)) vs → vs = l.map (.int .u8)
  | [], vs, h => by simpa [RepDs] using h
  | n :: l, vs, h => by
    simp only [List.map_cons, RepDs] at h
    obtain ⟨u, s, rfl, h1, h2⟩ := h
    simp only [RepD] at h1
    rw [RepDs.bytes h2, h1]; rfl
end
end Go.Vx


/- Cells, one behind the other. -/
namespace Go.Vx
open Go.RowKit Go.Vc
theorem RepC.app {S : Nat → Prop} {w : World} : ∀ {l m : List D} {A : Option Addr} {j : Nat}, RepC S w l A j → RepC S w m A (j + l.length) → RepC S w (l ++ m) A j
  | [], m, A, j, _, h => by simpa using h
  | x :: r, m, A, j, h, h' => by
    simp only [List.cons_append, RepC] at h ⊢
    exact ⟨h.1, RepC.app h.2 (by rwa [show j + 1 + r.length = j + (x :: r).length from by simp; omega])⟩
def InW (w : World) (k : Nat) : Prop := k < w.heap.size
theorem RepDs.cellsW {w : World} {l : List D} {vs : List Value} {a : Addr} {j : Nat} (h : RepDs (InW w) w l vs) (hc : ∀ (i : Nat) v, vs[i]? = some v → w.cell? (a.add (j + i)) = some v) : RepC (InW w) w l (some a) j :=
  RepC.of h fun i v hv => ⟨a, rfl, by have := World.block_lt_of_cell? w _ (hc i v hv); rwa [add_block] at this, hc i v hv⟩
end Go.Vx


/- Small changes of what a state says. -/
namespace Go.Vx
open Go.RowKit Go.Vc
section
variable {P : Program} {G : Glob} {ty : List (Nat × TY)} {N n0 : Nat} {b : Bs G n0}
theorem weak_kbT {T : Tl} {H : Hp} {n : Nat} (t : Nat) (c : Bool) (ht : lk T t = some (.kb c)) : Weak b N ⟨T, H, n⟩ ⟨(t, .d (.bool c)) :: T, H, n⟩ := by
  intro e a w h
  refine ⟨e, fun _ h => h, h.sz, h.df, h.len, fun t' x hx => ?_, h.hp, h.below, h.dr, h.mine, h.frm, h.pre, h.gl⟩
  simp only [lk] at hx
  split at hx
  · rename_i e'
    obtain rfl := nbeq.1 e'
    injection hx with hx; subst hx
    have := h.tm _ _ ht
    simp only [RepSV, RepD] at this ⊢
    exact this
  · exact h.tm _ _ hx
theorem weak_pub {st st' : St} (p : Nat → Bool) (h : pubK p st fun s => Weak b N s st') : Weak b N st st' := by
  intro e a w hok
  obtain ⟨e', s, hw, kw, ok', _⟩ := pubK_sound hok p h
  obtain ⟨e2, up, ok2⟩ := hw e' a w ok'
  exact ⟨e2, fun k hk => up k (kw.pub k hk), ok2⟩
end
end Go.Vx


/- Plain laws of types: the order. -/
namespace Go.Vx
open Go.Vc
def cmpI (a b : Int) : Int := if a < b then -1 else if a > b then 1 else 0
def orL : List Int → Int
  | [] => 0
  | x :: r => if x ≠ 0 then x else orL r
mutual
def cmpT : Tp → Tp → Int
  | .mk k n ks, .mk k' n' ks' => orL [cmpI k k', cmpI n n', cmpI ks.length ks'.length, cmpL ks ks']
def cmpL : List Tp → List Tp → Int
  | [], [] => 0
  | [], _ :: _ => -1
  | _ :: _, [] => 1
  | a :: r, b :: s => if cmpT a b ≠ 0 then cmpT a b else cmpL r s
end
def idxFrom : List Int → Int → Int → Int
  | [], _, _ => -1
  | y :: r, x, i => if x = y then i else idxFrom r x (i + 1)
mutual
def right : Tp → Bool
  | .mk k n ks => match (k == 1 || (k == 2 || k == 3)) with
    | true => n == 0 && ((ks.length : Int) == 0)
    | false => match (k == 4 || k == 5) with
      | true => n == 0 && (((ks.length : Int) == 2) && rights ks)
      | false => match (k == 6 || (k == 7 || k == 8)) with
        | true => decide (n ≥ 0) && ((ks.length : Int) == 0)
        | false => false
def rights : List Tp → Bool
  | [] => true
  | t :: r => right t && rights r
end
theorem idxFrom_nonneg : ∀ (l : List Int) (x i : Int), 0 ≤ i → (0 ≤ idxFrom l x i ↔ x ∈ l)
  | [], x, i, h => by simp [idxFrom]
  | y :: r, x, i, h => by
    simp only [idxFrom, List.mem_cons]
    by_cases e : x = y
    · rw [if_pos e]; simp [e, h]
    · rw [if_neg e, idxFrom_nonneg r x (i + 1) (by omega)]; simp [e]
mutual
def fnd (kind : Int) : Tp → List Int → List Int
  | .mk k n ks, acc => fndL kind ks (if k = kind ∧ n ∉ acc then acc ++ [n] else acc)
def fndL (kind : Int) : List Tp → List Int → List Int
  | [], acc => acc
  | t :: r, acc => fndL kind r (fnd kind t acc)
end
mutual
def sub (kind : Int) (σ : Int → Option Tp) : Tp → Tp
  | .mk k n ks => match (if k = kind then σ n else none) with
    | some u => u
    | none => .mk k n (subL kind σ ks)
def subL (kind : Int) (σ : Int → Option Tp) : List Tp → List Tp
  | [] => []
  | t :: r => sub kind σ t :: subL kind σ r
end
def tbl : List Int → List Tp → Int → Option Tp
  | f :: fs, t :: ts, n => if n = f then some t else tbl fs ts n
  | _, _, _ => none
def cutN (n most : Nat) : Nat := if n ≤ most then n else most + 1
end Go.Vx


/- Plain laws of types: the text. -/
namespace Go.Vx
open Go.Vc
def bs (l : List UInt8) : ByteArray := ⟨l.toArray⟩
section
variable (it : Int → ByteArray)
def genT (n : Int) : ByteArray :=
  if n < 0 then bs [39, 63] else if n ≥ 26 then (bs [39] ++ bytesOf [IntKind.u8.wrap (IntKind.i64.wrap (97 + n.tmod 26))]) ++ it (IntKind.i64.wrap (n.tdiv 26)) else bs [39] ++ bytesOf [IntKind.u8.wrap (IntKind.i64.wrap (97 + n.tmod 26))]
def withT (w : Bool) (a : Tp) (s : ByteArray) : ByteArray := if w = true ∧ a.kids.length = 2 then bs [40] ++ s ++ bs [41] else s
def topT (k n : Int) (ks : List Tp) (ss : List ByteArray) : ByteArray :=
  if k = 1 then bs [105, 110, 116] else if k = 2 then bs [98, 111, 111, 108] else if k = 3 then bs [117, 110, 105, 116] else
  if k = 6 then bs [35] ++ it n else if k = 7 then bs [63] ++ it n else if k = 8 then genT it n else
  match ks, ss with
  | [a, c], [x, y] => if k = 4 then withT ((a.k == 4)) a x ++ bs [32, 45, 62, 32] ++ y else if k = 5 then withT ((a.k == 4)) a x ++ bs [32, 42, 32] ++ withT (c.k == 4 || c.k == 5) c y else bs [63]
  | _, _ => bs [63]
mutual
def txt : Tp → ByteArray
  | .mk k n ks => topT it k n ks (txts ks)
def txts : List Tp → List ByteArray
  | [] => []
  | t :: r => txt t :: txts r
end
end
end Go.Vx


