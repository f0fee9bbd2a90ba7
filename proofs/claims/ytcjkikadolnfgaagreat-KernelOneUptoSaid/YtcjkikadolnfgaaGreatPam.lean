/- Texts of mine, joined: Vxx Vxy Vxall. -/
import Derived.Test.YtcjkikadolnfgaaGreatPal
import Derived.LaidEql
import Derived.Test.YtcjkikadolnfgaaGreatPak
/- Laws of operations: assertions of types, slices cut, structs and pointers compared. -/
namespace Go.Vx
open Go.RowKit Go.Vc
set_option linter.unusedVariables false
set_option linter.unusedSimpArgs false
section
variable {P : Program} {G : Glob} {ty : List (Nat × TY)} {N n0 : Nat} {b : Bs G n0}
theorem tassC {d : TypeDesc} {kp : Bool} {o : Oper} {st : St} {K : SExit → St → Prop} {x : Operand} {xt t : TypeId} {y : SV} (ho : o.op = .typeAssert x xt t true) (hx : ev st.T x = some (.ifc t y)) (hu : P.underlying t = some d) (hd : ∀ m, d ≠ .interface m)
    (hk : putK N o.dst (.tup [y, .kb true]) st (K .normal)) : OpC P b N kp o st K := by
  refine valC _ (fun e a w hok => ?_) hk
  have h1 := hok.tmok _ _ hx
  simp only [RepSV] at h1
  obtain ⟨v, hv, hy⟩ := h1
  refine ⟨.tuple #[v, .bool true], ?_, ?_⟩
  · simp only [RepSV, RepSVs]
    exact ⟨_, rfl, _, _, rfl, hy, _, _, rfl, rfl, rfl⟩
  · obtain ⟨dst, op, type, pos, after, guard⟩ := o
    simp only at ho; subst ho
    simp only [execOp]
    refine run_val ?_
    rw [hv]
    unfold Instr.typeAssert
    simp only [Sem.run_bind, run_under hu, Result.andThen_ok]
    cases d <;> first | (exfalso; exact hd _ rfl) | (simp only [if_true]; rfl)
end
end Go.Vx


/- Laws of operations: assertions of types of closed data. -/
namespace Go.Vx
open Go.RowKit Go.Vc
set_option linter.unusedVariables false
set_option linter.unusedSimpArgs false
section
variable {P : Program} {G : Glob} {ty : List (Nat × TY)} {N n0 : Nat} {b : Bs G n0}
def notIfc (P : Program) (t : TypeId) : Bool :=
  match P.underlying t with
  | some (.interface _) => false
  | some _ => true
  | none => false
theorem FnQ.to {G' : Glob} {f : FuncId} {ds : List D} {Q : DOut → Prop} (h : FnQ P G f ds Q) (hp : ∀ S w, G'.p S w → G.p S w) (hd : ∀ w w', G.d w w' → G'.d w w') : FnQ P G' f ds Q := by
  intro S w vs h1 h2 h3
  refine (h S w vs h1 h2 (hp S w h3)).mono ?_
  rintro en w' ⟨o, S', q1, q2, ⟨q3, q4⟩, q5⟩
  exact ⟨o, S', q1, q2, ⟨q3, hd _ _ q4⟩, q5⟩
def IsIt (X : SV) (a : Int) (s : ByteArray) : Prop := ∀ (e : Env) (w : World) (v : Value), RepSV e w X v → v = .agg #[.int .i64 a, .string s]
structure ItTy (P : Program) (t : TypeId) : Prop where
  u : P.underlying t = some (.struct (P.fieldsOf t))
  h : P.stoodInHeld t = false
  g : P.eqGuardType P.depth t = false
  f : ∀ (a b : Int) (s u : ByteArray) (w : World), (Op.eqFields 9999 #[.int .i64 a, .string s] #[.int .i64 b, .string u] (P.fieldsOf t).toList).run P w = .ok (a == b && s.toList == u.toList) w
end
end Go.Vx




