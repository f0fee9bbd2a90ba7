/- The law's sameAll; the reference's matching (fits): what it comes to. -/
import Derived.Test.YtonhlccjfbfkcaaTo
namespace Go.Proofs.Ytonhlccjfbfkcaa
open Go.Vc Go.RowKit

/-- What a binding asks of types for the generic variables. -/
def Cons (xs : List Tp) (bs : List Bool) (l : List Tp) : Prop := ∀ i : Nat, bs[i]? = some true → l[i]? = xs[i]?
def Fit (g : Nat) (t u : Tp) (xs : List Tp) (bs : List Bool) (xs' : List Tp) (bs' : List Bool) : Bool → Prop
  | true => ∀ l : List Tp, l.length = g → ((Cons xs bs l ∧ gsub l t = u) ↔ Cons xs' bs' l)
  | false => ∀ l : List Tp, l.length = g → ¬ (Cons xs bs l ∧ gsub l t = u)

theorem fit_bound {g n : Nat} {ks : List Tp} {u x : Tp} {xs : List Tp} {bs : List Bool} (hn : n < g) (hx : xs[n]? = some x) (hb : bs[n]? = some true) : Fit g (.mk 8 (n : Int) ks) u xs bs xs bs (cmpT x u == 0) := by
  have hg : ∀ l : List Tp, l.length = g → Cons xs bs l → gsub l (.mk 8 (n : Int) ks) = x := by
    intro l hl hc
    rw [gsub_gen (by omega) (by omega)]
    have := hc n hb
    rw [hx] at this
    rw [List.getElem?_eq_getElem (by omega)] at this
    injection this
  rcases e : cmpT x u == 0 with _ | _
  · rintro l hl ⟨h1, h2⟩
    rw [hg l hl h1] at h2
    rw [(cmpT_zero _ _).2 h2] at e
    cases e
  · have e : x = u := (cmpT_zero _ _).1 (by simpa using e)
    exact fun l hl => ⟨fun h => h.1, fun h => ⟨h, by rw [hg l hl h, e]⟩⟩
theorem fit_bind {g n : Nat} {ks : List Tp} {u : Tp} {xs : List Tp} {bs : List Bool} (hn : n < g) (hxl : xs.length = g) (hbl : bs.length = g) (hb : bs[n]? = some false) : Fit g (.mk 8 (n : Int) ks) u xs bs (xs.set n u) (bs.set n true) true := by
  intro l hl
  have hg : gsub l (.mk 8 (n : Int) ks) = l[n]'(by omega) := gsub_gen (by omega) (by omega)
  have hln : l[n]? = some (l[n]'(by omega)) := List.getElem?_eq_getElem _
  constructor
  · rintro ⟨h1, h2⟩ i hi
    by_cases e : i = n
    · subst e; rw [List.getElem?_set_self (by omega), hln, ← h2, hg]
    · rw [List.getElem?_set_ne (Ne.symm e)] at hi ⊢
      exact h1 i hi
  · intro h
    have hn' := h n (by simp [hbl, hn])
    rw [hln, List.getElem?_set_self (by omega)] at hn'
    injection hn' with hn'
    refine ⟨fun i hi => ?_, by rw [hg]; exact hn'⟩
    by_cases e : i = n
    · subst e; rw [hb] at hi; cases hi
    · have := h i (by rw [List.getElem?_set_ne (Ne.symm e)]; exact hi)
      rwa [List.getElem?_set_ne (Ne.symm e)] at this
theorem fit_unlike {g : Nat} {t u : Tp} {xs : List Tp} {bs : List Bool} (hk : t.k ≠ 8) (hne : t.k ≠ u.k ∨ t.n ≠ u.n ∨ t.kids.length ≠ u.kids.length) : Fit g t u xs bs xs bs false := by
  rintro l hl ⟨_, h4⟩
  obtain ⟨k, n, ks⟩ := t
  obtain ⟨k', n', ks'⟩ := u
  simp only [mk_k, mk_n, mk_kids] at *
  rw [gsub_node hk] at h4
  injection h4 with e1 e2 e3
  have := congrArg List.length e3
  simp at this
  omega

/-- The reference's binding in memory: a block with two slices, and their rows. -/
structure Bd (w : World) (gb : Nat) (adK adL : Addr) (g : Nat) (bs : List Bool) (c6 : List Value) : Prop where
  blk : w.heap[gb]? = some (.cells #[.slice (some adK) g g, .slice (some adL) g g] 65 (0, 0))
  rK : RowOk w ⟨.slice (some adK) g g, 4, 1, bs.map Value.bool⟩
  rL : RowOk w ⟨.slice (some adL) g g, 24, 3, c6⟩
  n1 : adK.block ≠ gb
  n2 : adL.block ≠ gb
  n3 : adK.block ≠ adL.block
def FitPost (S : Nat → Prop) (w : World) (gb : Nat) (adK adL : Addr) (g : Nat) (t u : Tp) (xs : List Tp) (bs : List Bool) (e : Ending) (w' : World) : Prop :=
  ∃ res xs' bs' c6', e = .returned (.bool res) ∧ Bd w' gb adK adL g bs' c6' ∧ Only (fun k => k = gb ∨ rowB (.slice (some adK) g g) = some k ∨ rowB (.slice (some adL) g g) = some k) w w' ∧ xs'.length = g ∧ bs'.length = g ∧ RepFlat S w' xs' c6' ∧ Fit g t u xs bs xs' bs' res

/-- Behind a call that was handed the binding at own block i. -/
theorem fitK {N : Nat} {b : Base} {f : FuncId} {args : Array Value} {w : World} (i : Nat) {gb g : Nat} {adK adL : Addr} {t u : Tp} {xs : List Tp} {bs : List Bool} {ck cl : List Value} {T : Tl} {ρ : List Nat} {E E0 : El} {R0 : List Row} {pub pub0 : Nat → Prop} {s s0 : World} {dst : Option Tmp} {K : St → Prop}
    (hc : Calls Try.prog f args w (FitPost pub w gb adK adL g t u xs bs)) (hw : Wd b ⟨T, ρ, E, [⟨.slice (some adK) g g, 4, 1, ck⟩, ⟨.slice (some adL) g g, 24, 3, cl⟩], pub, s⟩ w) (hρ : ρ.getD i 0 = gb)
    (hE : lk E i = some ([.v (.slice (some adK) g g), .v (.slice (some adL) g g)], 65))
    (hk : ∀ res xs' bs' c6', xs'.length = g → bs'.length = g → RepFlat pub s xs' c6' → Fit g t u xs bs xs' bs' res →
      putK N dst (.v (.bool res)) ⟨T, ρ, (i, ([.v (.slice (some adK) g g), .v (.slice (some adL) g g)], 65)) :: E, [⟨.slice (some adK) g g, 4, 1, bs'.map Value.bool⟩, ⟨.slice (some adL) g g, 24, 3, c6'⟩], pub, s⟩ K) :
    Calls Try.prog f args w fun e w' => ∃ v, e = .returned v ∧ AfterK N b dst ⟨T, ρ, E0, R0, pub0, s0⟩ K v w' := by
  refine hc.mono ?_
  rintro e w' ⟨res, xs', bs', c6', rfl, hB, ho, h1, h2, h3, h4⟩
  subst hρ
  have hw' := Wd.handed2 hw hE (r1' := ⟨.slice (some adK) g g, 4, 1, bs'.map Value.bool⟩) (r2' := ⟨.slice (some adL) g g, 24, 3, c6'⟩) ho (cs' := [.v (.slice (some adK) g g), .v (.slice (some adL) g g)]) hB.blk hB.rK hB.rL rfl rfl
  refine ⟨_, rfl, _, _, pub, s, hw', hk res xs' bs' c6' h1 h2 ?_ h4⟩
  exact h3.to (fun k hk hl => (hw'.same k hk (hw.pub k hk).1).symm) (fun _ h _ => h)
end Go.Proofs.Ytonhlccjfbfkcaa
