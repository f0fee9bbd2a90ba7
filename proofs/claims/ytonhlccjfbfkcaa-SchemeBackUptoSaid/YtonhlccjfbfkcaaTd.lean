/- types.Metas, types.Gens; slices.Clone of types; scheme.gens. -/
import Derived.Test.YtonhlccjfbfkcaaTc
namespace Go.Proofs.Ytonhlccjfbfkcaa
open Go.Vc Go.RowKit

/-- Behind a call that gives a slice of numbers of its own. -/
theorem ownK {N : Nat} {b : Base} {f : FuncId} {args : Array Value} {w : World} {l : List Int} {T : Tl} {ρ : List Nat} {E : El} {R : List Row} {pub : Nat → Prop} {s : World} {dst : Option Tmp} {K : St → Prop}
    (hc : Calls Try.prog f args w (Res w (OwnI w l))) (hw : Wd b ⟨T, ρ, E, R, pub, s⟩ w)
    (hk : ∀ A c, (l.length ≠ 0 → ∃ ad, A = some ad) → putK N dst (.v (.slice A l.length c)) ⟨T, ρ, E, ⟨.slice A l.length c, 3, 1, ints l⟩ :: R, pub, s⟩ K) :
    Calls Try.prog f args w fun e w' => ∃ v, e = .returned v ∧ AfterK N b dst ⟨T, ρ, E, R, pub, s⟩ K v w' := by
  refine hc.mono ?_
  rintro e w' ⟨v, rfl, ⟨A, c, rfl, h1, h2⟩, hb⟩
  exact ⟨_, rfl, E, _, pub, s, hw.add hb h1 h2, hk A c h1.some⟩
/-- Where a function ends with a slice of numbers of its own. -/
theorem ownRet {w w' : World} {l : List Int} {A : Option Addr} {c : Nat} {T : Tl} {ρ : List Nat} {E : El} {R : List Row} {pub : Nat → Prop} {s : World} (hw : Wd ⟨w, fun _ => False⟩ ⟨T, ρ, E, R, pub, s⟩ w')
    (hR : ⟨.slice A l.length c, 3, 1, ints l⟩ ∈ R) : Res w (OwnI w l) (.returned (.slice A l.length c)) w' := by
  obtain ⟨r1, r2⟩ := hw.row _ hR
  exact ⟨_, rfl, ⟨_, _, rfl, r1, fun q hq => ((r2 q hq).1).elim (fun h => h.elim) id⟩, hw.bel⟩

theorem metas_calls (S : Nat → Prop) (w : World) (t : Tp) (v : Value) (ht : RepT S w t v) (hlen : (fnd 7 t []).length ≤ 8796093022208) :
    Calls Try.prog 12 #[v] w (Res w (OwnI w (fnd 7 t []))) := by
  obtain ⟨B, d, rfl, b1, b2, b3⟩ := ht.opn
  refine calls0 tyok mixed [] Try.func12 rfl rfl (by simp) ?_
  conv => whnf
  intro g0
  conv => whnf
  refine ⟨gf44, fun w1 hw1 => ownK (found_calls S w1 t _ 7 (ht.to (hw1.samev S) (fun _ h _ => h)) hlen) hw1 fun A c _ => ?_⟩
  conv => whnf
  intro w2 hw2
  exact ownRet hw2 (by simp)
theorem gens_calls (S : Nat → Prop) (w : World) (t : Tp) (v : Value) (ht : RepT S w t v) (hlen : (fnd 8 t []).length ≤ 8796093022208) :
    Calls Try.prog 14 #[v] w (Res w (OwnI w (fnd 8 t []))) := by
  obtain ⟨B, d, rfl, b1, b2, b3⟩ := ht.opn
  refine calls0 tyok mixed [] Try.func14 rfl rfl (by simp) ?_
  conv => whnf
  intro g0
  conv => whnf
  refine ⟨gf44, fun w1 hw1 => ownK (found_calls S w1 t _ 8 (ht.to (hw1.samev S) (fun _ h _ => h)) hlen) hw1 fun A c _ => ?_⟩
  conv => whnf
  intro w2 hw2
  exact ownRet hw2 (by simp)

/-- What is owned that a call has made: a row of cells of types. -/
def OwnT (w : World) (n : Nat) (xs : List Value) (v : Value) (w' : World) : Prop := ∃ A c, v = .slice A n c ∧ RowOk w' ⟨.slice A n c, 24, 3, xs⟩ ∧ ∀ k, rowB (.slice A n c) = some k → w.heap.size ≤ k
theorem ownTK {N : Nat} {b : Base} {f : FuncId} {args : Array Value} {w : World} {n : Nat} {xs : List Value} {T : Tl} {ρ : List Nat} {E : El} {R : List Row} {pub : Nat → Prop} {s : World} {dst : Option Tmp} {K : St → Prop}
    (hc : Calls Try.prog f args w (Res w (OwnT w n xs))) (hw : Wd b ⟨T, ρ, E, R, pub, s⟩ w)
    (hk : ∀ A c, (n ≠ 0 → ∃ ad, A = some ad) → putK N dst (.v (.slice A n c)) ⟨T, ρ, E, ⟨.slice A n c, 24, 3, xs⟩ :: R, pub, s⟩ K) :
    Calls Try.prog f args w fun e w' => ∃ v, e = .returned v ∧ AfterK N b dst ⟨T, ρ, E, R, pub, s⟩ K v w' := by
  refine hc.mono ?_
  rintro e w' ⟨v, rfl, ⟨A, c, rfl, h1, h2⟩, hb⟩
  exact ⟨_, rfl, E, _, pub, s, hw.add hb h1 h2, hk A c h1.some⟩

theorem eqlNil_run {ty' : TypeId} {e : TypeId} (h : Try.prog.underlying ty' = some (.slice e)) (w : World) (A : Option Addr) (n c : Nat) : (Op.equal ty' (.slice A n c) (.slice none 0 0)).run Try.prog w = .ok (A.isNone) w := by
  unfold Op.equal
  rw [show Op.maxDepth = 9999 + 1 from rfl]
  unfold Op.equalIn
  rw [Sem.run_bind, run_under h]
  cases A <;> rfl

theorem clone_calls (S : Nat → Prop) (w : World) (A : Option Addr) (n c : Nat) (xs : List Value) (hx : xs.length = n * 3) (hn : n ≤ LIM) (hp : ∀ u ∈ xs, u.oneCell' = true) (hc : Cells S w A xs) :
    Calls Try.prog 57 #[.slice A n c] w (Res w (OwnT w n xs)) := by
  unfold LIM at hn
  refine calls0 tyok mixed [] Try.func57 rfl rfl (by simp) ?_
  conv => whnf
  refine ⟨nofun, fun w1 hw1 => ?_⟩
  have hrun : ∀ (d : Option Tmp) (p : String) (a : Array Edge) (g : Option (Nat × Bool)) (T : Tl) (t0 : TypeId), evF [] T (.tmp 3) = .slice A n c → (execOp (evF [] T) { dst := d, op := .binOp .eql 22 (.tmp 3) (.const (.slice none 0 0)) 22, type := t0, pos := p, after := a, guard := g }).run Try.prog w1 = .ok (.value (.bool A.isNone)) w1 := by
    intro d p a g T t0 h3
    have e2 : evF [] T (.const (.slice none 0 0)) = .slice none 0 0 := rfl
    simp only [execOp]
    refine run_val ?_
    rw [h3, e2]
    have : (eqGuard .eql 22 (.tmp 3) (.const (.slice none 0 0)) (.slice A n c) (.slice none 0 0)).run Try.prog w1 = .ok () w1 := rfl
    rw [Sem.run_bind, this]
    simp only [Result.andThen_ok, binOp]
    rw [Sem.run_bind, eqlNil_run (by first | exact Try.underlying22 | rfl)]
    rfl
  rw [hrun _ _ _ _ _ _ rfl]
  refine ⟨_, _, _, _, hw1, ?_⟩
  conv => whnf
  refine ⟨fun h => ?_, fun h => ?_⟩
  · have hA : A = none := by simpa using h
    subst hA
    have hxs : xs = [] := by
      rcases hc with h | ⟨_, h, _⟩
      · exact h
      · cases h
    subst hxs
    have hn0 : n = 0 := by simp at hx; omega
    subst hn0
    conv => whnf
    intro w2 hw2
    exact ⟨_, rfl, ⟨none, 0, rfl, RowOk.nil _ _ _, fun k hk => by cases hk⟩, hw2.bel⟩
  · conv => whnf
    intro g0
    conv => whnf
    refine ⟨nofun, fun w2 hw2 => ?_⟩
    have hw3 := hw2.toRow (i := 0) (sz := 3) (n := 0) rfl rfl (Nat.zero_le _)
    refine appendK (b := ⟨w, fun _ => False⟩) tyok (t := 22) rfl rfl rfl rfl (by decide) (by decide) hw3 0 (xs := []) rfl rfl (B := A) (m := n) (d := c) (ys := xs) rfl (S := S) hx (hc.to (hw2.samev S) (fun _ h _ => h)) hp (by show (0 + n) * 40 ≤ _; omega) fun A' c' => ?_
    conv => whnf
    intro w4 hw4
    obtain ⟨r1, r2⟩ := hw4.row _ (List.mem_singleton.2 rfl)
    simp only [Nat.zero_add, denL, vcEff.rep, List.nil_append] at r1 r2
    exact ⟨_, rfl, ⟨A', c', by simp [den], r1, fun q hq => ((r2 q hq).1).elim (fun h => h.elim) id⟩, hw4.bel⟩
end Go.Proofs.Ytonhlccjfbfkcaa
