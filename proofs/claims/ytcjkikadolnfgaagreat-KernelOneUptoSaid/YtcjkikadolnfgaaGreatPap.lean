/- Texts of mine, joined: Vpi Vpt. -/
import Derived.Test.YtcjkikadolnfgaaGreatPan
import Derived.Lib.AppendStr
import Derived.Lib.Builder
import Derived.Lib.UnsafeStr
import Derived.Test.YtcjkikadolnfgaaGreatPaj
/- Laws: pointers to and from unsafe.Pointer; append of a string's bytes to an own slice. -/
set_option linter.unusedVariables false
set_option linter.unusedSimpArgs false
namespace Go.Vx
open Go.RowKit Go.Vc
section
variable {P : Program} {G : Glob} {ty : List (Nat × TY)} {N n0 : Nat} {b : Bs G n0}
def encB (l : List UInt8) : List D := l.map fun b => .int .u8 b.toNat
end
end Go.Vx


/- Elements of arrays. -/
set_option linter.unusedVariables false
set_option linter.unusedSimpArgs false
namespace Go.Vx
open Go.RowKit Go.Vc
section
variable {P : Program} {ty : List (Nat × TY)} {G : Glob} {n0 : Nat} {b : Bs G n0} {N : Nat}
theorem idxAC (hty : Tys P ty) {kp : Bool} {o : Oper} {st : St} {K : SExit → St → Prop} {t el : TypeId} {len : Nat} {ye : TY} {x ix : Operand} {l : List SV} {k : IntKind} (i : Nat) (sv : SV) (ho : o.op = .index t x ix) (hx : ev st.T x = some (.agg l)) (hi : ev st.T ix = some (.d (.int k (i : Int)))) (hu : P.underlying t = some (.array len el)) (hlt : i < len) (hye : lk ty el = some ye) (hag : ye.i.agg = false) (hsz : ye.i.size = 1) (hl : l[i]? = some sv)
    (hk : putK N o.dst sv st (K .normal)) : OpC P b N kp o st K := by
  refine valC _ (fun e a w hok => ?_) hk
  have h1 := hok.tmok _ _ hx
  have h2 := hok.tmok _ _ hi
  simp only [RepSV, RepD] at h1 h2
  obtain ⟨l', h1, h3⟩ := h1
  obtain ⟨v, hv, hr⟩ := h3.get hl
  refine ⟨v, hr, ?_⟩
  obtain ⟨dst', op, type, pos, after, guard⟩ := o
  simp only at ho; subst ho
  simp only [execOp]
  refine run_val ?_
  rw [h1, h2]
  have hA := run_isAgg (w := w) (hty el ye hye).i
  have hS := Go.Vc.run_sizeOf (w := w) (hty el ye hye).i
  rw [hag] at hA
  rw [hsz] at hS
  have hv : l'[i]? = some v := by rw [← Array.getElem?_toList]; exact hv
  simp only [Instr.index, asIntOf, Sem.run_bind, Sem.run_pure, Result.andThen_ok, Go.run_underlying hu, part, hS, hA]
  rw [if_pos ⟨by omega, by omega⟩]
  simp only [Sem.run_bind, hS, hA, Result.andThen_ok, Bool.false_eq_true, if_false, Int.toNat_natCast, Nat.mul_one, hv, Sem.run_pure]
theorem idxAA (hty : Tys P ty) {kp : Bool} {o : Oper} {st : St} {K : SExit → St → Prop} {t el : TypeId} {len sz : Nat} {ye : TY} {x ix : Operand} {l r : List SV} {k : IntKind} (i : Nat) (ho : o.op = .index t x ix) (hx : ev st.T x = some (.agg l)) (hi : ev st.T ix = some (.d (.int k (i : Int)))) (hu : P.underlying t = some (.array len el)) (hlt : i < len) (hye : lk ty el = some ye) (hag : ye.i.agg = true) (hsz : ye.i.size = sz) (hr : (l.drop (i * sz)).take sz = r)
    (hk : putK N o.dst (.agg r) st (K .normal)) : OpC P b N kp o st K := by
  refine valC _ (fun e a w hok => ?_) hk
  have h1 := hok.tmok _ _ hx
  have h2 := hok.tmok _ _ hi
  simp only [RepSV, RepD] at h1 h2
  obtain ⟨l', h1, h3⟩ := h1
  have h4 : RepSVs e w r ((l'.toList.drop (i * sz)).take sz) := by
    have hlen := h3.len
    refine RepSVs.mk ?_ ?_
    · rw [← hr]; simp [hlen]
    · intro j x' v' q1 q2
      rw [← hr, List.getElem?_take] at q1
      rw [List.getElem?_take] at q2
      split at q1
      · rename_i hj
        rw [if_pos hj] at q2
        rw [List.getElem?_drop] at q1 q2
        obtain ⟨v2, g1, g2⟩ := h3.get q1
        rw [q2] at g1; injection g1 with g1; subst g1
        exact g2
      · cases q1
  refine ⟨.agg ((l'.toList.drop (i * sz)).take sz).toArray, by simp only [RepSV]; exact ⟨_, rfl, h4⟩, ?_⟩
  obtain ⟨dst', op, type, pos, after, guard⟩ := o
  simp only at ho; subst ho
  simp only [execOp]
  refine run_val ?_
  rw [h1, h2]
  have hA := run_isAgg (w := w) (hty el ye hye).i
  have hS := Go.Vc.run_sizeOf (w := w) (hty el ye hye).i
  rw [hag] at hA
  rw [hsz] at hS
  simp [Instr.index, asIntOf, Go.run_underlying hu, part, hS, hA, hlt]
  apply Array.ext'
  simp [Array.toList_extract, List.extract_eq_take_drop]
end
end Go.Vx


