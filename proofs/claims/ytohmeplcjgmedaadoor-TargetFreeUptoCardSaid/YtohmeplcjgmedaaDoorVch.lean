/- Calls out of conditions; weaker states; what calls leave. -/
import Derived.Test.YtohmeplcjgmedaaDoorVcg
namespace Go.Vc
open Go.RowKit

section
variable {P : Program} {ty : List (Nat × TI)} {N : Nat} {w0 : Base} {plans : List (Nat × (List Nat × Pl))}

def resL (ty : List (Nat × TI)) (T : Tl) (E : El) : List ResultVar → Option (List SV)
  | [] => some []
  | .tmp t :: r => match lk T t, resL ty T E r with
    | some x, some l => some (x :: l)
    | _, _ => none
  | .cell a t :: r => match lk T a with
    | some (.own _ _) => match pOp ty T E (.load t (.tmp a)), resL ty T E r with
      | some x, some l => some (x :: l)
      | _, _ => none
    | _ => none

/-- What is asked where a function ends. -/
def retK (ty : List (Nat × TI)) (w0 : Base) (rs : List ResultVar) (R : Ending → World → Prop) : Exit → St → Prop
  | .normal, st => ending st
  | .ret, st => ending st
  | _, _ => False
where
  ending (st : St) : Prop := match resL ty st.T st.E rs with
    | some [x] => ∀ w, Wd w0 st w → R (.returned (den st.ρ x)) w
    | some l => ∀ w, Wd w0 st w → R (.returned (.tuple (denL st.ρ l).toArray)) w
    | none => False

def numb : Nat → List Value → Tl
  | _, [] => []
  | n, v :: r => (n, .v v) :: numb (n + 1) r
theorem numb_get : ∀ (l : List Value) (n t : Nat) (sv : SV), lk (numb n l) t = some sv → n ≤ t ∧ ∃ v, l[t - n]? = some v ∧ sv = .v v
  | [], n, t, sv, h => by simp [numb, lk] at h
  | v :: r, n, t, sv, h => by
    simp only [numb, lk] at h
    split at h
    · rename_i e
      obtain rfl := nbeq.1 e
      injection h with h; subst h
      exact ⟨Nat.le_refl _, v, by simp, rfl⟩
    · obtain ⟨h1, u, h2, h3⟩ := numb_get r (n + 1) t sv h
      refine ⟨by omega, u, ?_, h3⟩
      rw [show t - n = (t - (n + 1)) + 1 from by omega]
      simpa using h2

def resR (tmps : Array Value) (r : ResultVar) : Sem Value :=
  match r with
  | .tmp t => pure (tmps.getD t undef)
  | .cell a t => do loadVar t (← asAddr (tmps.getD a undef))
theorem resR_tmp (tmps : Array Value) (t : Tmp) : resR tmps (.tmp t) = pure (tmps.getD t undef) := rfl
theorem resR_cell (tmps : Array Value) (a t : Tmp) : resR tmps (.cell a t) = (do loadVar t (← asAddr (tmps.getD a undef))) := rfl
theorem resL_sound (hty : TyOk P ty) {st : St} {a : Act} {w : World} (h : Ok N w0 st a w) : ∀ (rs : List ResultVar) (l : List SV), resL ty st.T st.E rs = some l →
    (rs.mapM (resR a.tmps)).run P w = .ok (denL st.ρ l) w
  | [], l, hl => by simp [resL] at hl; subst hl; simp [go_sem, denL]
  | .tmp t :: r, l, hl => by
    simp only [resL] at hl
    split at hl <;> try (cases hl; done)
    rename_i x l' hx hl'
    injection hl with hl; subst hl
    rw [List.mapM_cons, resR_tmp]
    simp only [Sem.run_bind, Sem.run_pure, Result.andThen_ok, resL_sound hty h r l' hl', denL, h.tm t x hx]
  | .cell ad t :: r, l, hl => by
    simp only [resL] at hl
    split at hl <;> try (cases hl; done)
    rename_i i off hi
    split at hl <;> try (cases hl; done)
    rename_i x l' hx hl'
    injection hl with hl; subst hl
    have hp := pOp_sound hty h.tmok h.wd.ent (o := { dst := none, op := .load t (.tmp ad), type := 0, pos := "", after := #[], guard := none }) hx
    have ha := h.tm ad _ hi
    rw [List.mapM_cons, resR_cell]
    have he : (a.eval (.tmp ad)) = .pointer (some ⟨st.ρ.getD i 0, off, none⟩) := ha
    simp only [execOp, Instr.loadAt, he, Instr.sureAddr, Sem.run_bind, Sem.run_pure, Result.andThen_ok] at hp
    have hp2 : (loadVar t ⟨st.ρ.getD i 0, off, none⟩).run P w = .ok (den st.ρ x) w := by
      generalize (loadVar t ⟨st.ρ.getD i 0, off, none⟩).run P w = q at hp
      cases q with
      | ok v w' => simp [Result.andThen] at hp; obtain ⟨h1, h2⟩ := hp; rw [h1, h2]
      | halt _ _ => simp [Result.andThen] at hp
    simp only [ha, den, asAddr, Sem.run_bind, Sem.run_pure, Result.andThen_ok, hp2, resL_sound hty h r l' hl', denL]

theorem Only.refl (M : Nat → Prop) (w : World) : Only M w w := ⟨rfl, rfl, rfl, Nat.le_refl _, fun _ _ _ => rfl⟩

def numbS : Nat → List SV → Tl
  | _, [] => []
  | n, v :: r => (n, v) :: numbS (n + 1) r
theorem numbS_get : ∀ (l : List SV) (n t : Nat) (sv : SV), lk (numbS n l) t = some sv → n ≤ t ∧ l[t - n]? = some sv
  | [], n, t, sv, h => by simp [numbS, lk] at h
  | v :: r, n, t, sv, h => by
    simp only [numbS, lk] at h
    split at h
    · rename_i e
      obtain rfl := nbeq.1 e
      injection h with h; subst h
      exact ⟨Nat.le_refl _, by simp⟩
    · obtain ⟨h1, h2⟩ := numbS_get r (n + 1) t sv h
      refine ⟨by omega, ?_⟩
      rw [show t - n = (t - (n + 1)) + 1 from by omega]
      simpa using h2

/-- A call, out of its condition: 'b': the world and the blocks that may be written; the state at the start may name some of these. -/
theorem calls_of_vcM (hty : TyOk P ty) (hm : P.follows .mixedOrders = true) {f : FuncId} {fn : Func} {c : Code} {svs : List SV} {b : Base} {R : Ending → World → Prop} {ρ : List Nat} {E : El} {Rw : List Row} {pub : Nat → Prop} {s : World}
    (hf : P.funcs[f]? = some fn) (hb : fn.body = some c) (hn : fn.ntmps = N) (ha : svs.length ≤ N) (hw : Wd b ⟨numbS 0 svs, ρ, E, Rw, pub, s⟩ b.w)
    (h : vcCode P ty N b plans c ⟨numbS 0 svs, ρ, E, Rw, pub, s⟩ (retK ty b fn.results.toList R)) : Calls P f (denL ρ svs).toArray b.w R := by
  have ok0 : Ok N b ⟨numbS 0 svs, ρ, E, Rw, pub, s⟩ { tmps := (denL ρ svs).toArray ++ Array.replicate (fn.ntmps - (denL ρ svs).toArray.size) undef, defers := [] } b.w := by
    refine ⟨by simp [denL_length]; omega, rfl, ?_, hw⟩
    intro t sv ht
    obtain ⟨_, hv⟩ := numbS_get svs 0 t sv ht
    simp only [Nat.sub_zero] at hv
    have hlt : t < svs.length := (List.getElem?_eq_some_iff.1 hv).1
    simp only [Array.getD_eq_getD_getElem?]
    rw [Array.getElem?_append_left (by simpa [denL_length] using hlt), List.getElem?_toArray, denL_get, hv]
    rfl
  refine calls_of_wp hf hb (wp_mono (vcCode_sound hty hm c _ _ _ _ ok0 h) ?_)
  have fin : ∀ (st : St) (a : Act) (w' : World), Ok N b st a w' → retK.ending ty b fn.results.toList R st → a.defers = [] ∧ ∃ v, (results fn a.tmps).run P w' = .ok v w' ∧ R (.returned v) w' := by
    intro st a w' hok hk
    refine ⟨hok.df, ?_⟩
    unfold retK.ending at hk
    have key : ∀ l, resL ty st.T st.E fn.results.toList = some l → (results fn a.tmps).run P w' = .ok (match l with | [x] => den st.ρ x | l => .tuple (denL st.ρ l).toArray) w' := by
      intro l hl
      have := resL_sound hty hok fn.results.toList l hl
      unfold results
      rw [Array.mapM_eq_mapM_toList, map_eq_pure_bind]
      simp only [Sem.run_bind]
      have this' : ∀ g : ResultVar → Sem Value, g = resR a.tmps → (fn.results.toList.mapM g).run P w' = .ok (denL st.ρ l) w' := fun g hg => by rw [hg]; exact this
      rw [this' _ (by funext x; cases x <;> rfl)]
      simp only [Result.andThen_ok, Sem.run_pure]
      match l with
      | [] => simp [denL]
      | [x] => simp [denL]
      | x :: y :: r => simp [denL]
    split at hk
    · rename_i x hx
      exact ⟨_, key _ hx, hk w' hok.wd⟩
    · rename_i l hl hx
      refine ⟨_, key _ hx, ?_⟩
      have := hk w' hok.wd
      match l, hl with
      | [], _ => exact this
      | [x], hl => exact absurd rfl (hl x)
      | x :: y :: r, _ => exact this
    · exact hk.elim
  intro e a w' hq
  cases e with
  | normal => obtain ⟨st, h1, h2⟩ := hq; exact fin st a w' h1 h2
  | ret => obtain ⟨st, h1, h2⟩ := hq; exact fin st a w' h1 h2
  | exit id => obtain ⟨st, h1, h2⟩ := hq; exact h2.elim
  | goto l => obtain ⟨st, h1, h2⟩ := hq; exact h2.elim
  | panic c => exact hq.elim
  | outgrown => exact hq.elim

theorem calls_of_vc (hty : TyOk P ty) (hm : P.follows .mixedOrders = true) {f : FuncId} {fn : Func} {c : Code} {args : List Value} {w : World} {R : Ending → World → Prop}
    (hf : P.funcs[f]? = some fn) (hb : fn.body = some c) (hn : fn.ntmps = N) (ha : args.length ≤ N) (pub : Nat → Prop) (hpub : ∀ b, pub b → b < w.heap.size)
    (h : vcCode P ty N ⟨w, fun _ => False⟩ plans c ⟨numb 0 args, [], [], [], pub, w⟩ (retK ty ⟨w, fun _ => False⟩ fn.results.toList R)) : Calls P f args.toArray w R := by
  have e : ∀ (l : List Value) n, numbS n (l.map SV.v) = numb n l := by
    intro l
    induction l with
    | nil => intro n; rfl
    | cons v r ih => intro n; simp [numb, numbS, ih]
  have hd : denL [] (args.map SV.v) = args := by rw [denL_map]; simp [Function.comp_def, den]
  have := calls_of_vcM (plans := plans) hty hm (svs := args.map SV.v) (b := ⟨w, fun _ => False⟩) (R := R) (ρ := []) (E := []) (Rw := []) (pub := pub) (s := w) hf hb hn (by simpa using ha)
    ⟨Only.refl _ _, Nat.le_refl _, fun b hb => ⟨hpub b hb, rfl⟩, fun i c t hi => by simp [lk] at hi, fun i c t hi => by simp [lk] at hi, fun i j hi => by simp [lk] at hi, fun r hr => by (cases hr), List.Pairwise.nil⟩ (by rw [e]; exact h)
  rwa [hd] at this
end
end Go.Vc
