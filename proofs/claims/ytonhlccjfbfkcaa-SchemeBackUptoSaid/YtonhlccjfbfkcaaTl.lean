/- RightScheme, of both. -/
import Derived.Test.YtonhlccjfbfkcaaTk
namespace Go.Proofs.Ytonhlccjfbfkcaa
open Go.Vc Go.RowKit

/-- Do the numbers of a list count up from i on? -/
def isUp : List Int → Int → Bool
  | [], _ => true
  | x :: r, i => decide (x = i) && isUp r (i + 1)
def rightS (s : Sc) : Bool := rightT s.t && (isUp (fnd 8 s.t []) 0 && decide ((((fnd 8 s.t []).length : Nat) : Int) = s.g))
theorem isUp_drop {l : List Int} {i : Nat} (h : i < l.length) : isUp (l.drop i) i = (decide (l[i] = (i : Int)) && isUp (l.drop (i + 1)) ((i + 1 : Nat) : Int)) := by
  rw [List.drop_eq_getElem_cons h, isUp]; rfl

theorem rightScheme_calls (S : Nat → Prop) (w : World) (s : Sc) (v : Value) (hs : RepS S w s v) (hlen : (fnd 8 s.t []).length ≤ 8796093022208) :
    Calls Try.prog 22 #[v] w (fun e w' => e = .returned (.bool (rightS s)) ∧ Below w.heap.size w w') := by
  obtain ⟨B, d, rfl, b1, b2, b3⟩ := hs
  have ht := RepS.typ b1 b2 b3
  refine calls0 tyok mixed [] Try.func22 rfl rfl (by simp) ?_
  conv => whnf
  intro g0
  conv => whnf
  refine ⟨gf31, fun w1 hw1 => scalK (right_calls s.t S w1 _ (ht.to (hw1.samev S) (fun _ h _ => h))) hw1 ?_⟩
  conv => whnf
  refine ⟨fun hr => ?_, fun hr => ?_⟩
  · have hr : rightT s.t = false := by simpa using hr
    conv => whnf
    intro w2 hw2
    exact ⟨retB (by simp [rightS, hr]), hw2.bel⟩
  have hr : rightT s.t = true := by simpa using hr
  have hres : rightS s = (isUp (fnd 8 s.t []) 0 && decide ((((fnd 8 s.t []).length : Nat) : Int) = s.g)) := by simp [rightS, hr]
  rw [hres]
  conv => whnf
  refine ⟨gf14, fun w3 hw3 => resN (gens_calls S w3 s.t _ (ht.to (hw3.samev S) (fun _ h _ => h)) hlen) hw3 fun v w4 p4 hv st4 => ?_⟩
  generalize fnd 8 s.t [] = gs at *
  obtain ⟨G, gc, rfl, hG1, hG2⟩ := hv
  have hGc := hG1.nw hG2 st4
  conv => whnf
  refine ⟨fun m st => ∃ i : Nat, i ≤ gs.length ∧ m = gs.length - i ∧ isUp gs 0 = isUp (gs.drop i) i ∧ st = ⟨[(15, .v (.int .i64 i)), (14, .v (.int .i64 gs.length)), (13, .v (.slice G gs.length gc)), (3, .v (.slice G gs.length gc)), (1, .own 0 0)], [g0],
      [(0, ([.v (.int .i64 s.g), .v (.int .i64 s.t.k), .v (.int .i64 s.t.n), .v (.slice B s.t.kids.length d)], 29))], [], p4, w4⟩,
    ⟨gs.length, _, ⟨0, Nat.zero_le _, by simp, by simp, rfl⟩, weak_of (preP_refl _) ⟨rfl, rfl, rfl, rfl, rfl, trivial⟩ ⟨⟨rfl, rfl, rfl⟩, trivial⟩ (List.Sublist.refl _) rfl rfl⟩, ?_⟩
  rintro m st ⟨i, hi, hm, hx, rfl⟩
  conv => whnf
  refine ⟨fun hb => ?_, fun hb => ?_⟩
  · have hb := of_decide_eq_true hb
    have hil : i < gs.length := by omega
    obtain ⟨ad, rfl, _, hld⟩ := hGc.ld1 (P := Try.prog) tk3 rfl (i := i) (v := .int .i64 gs[i]) (by simp [hil])
    conv => whnf
    refine ⟨ad, rfl, by omega, hb, ?_⟩
    conv => whnf
    intro w1 hw
    refine ⟨_, hld w1 hw.same, ?_⟩
    conv => whnf
    refine ⟨fun h => ?_, fun h => ?_⟩
    · have h : gs[i] ≠ i := by simpa using h
      conv => whnf
      intro w2 hw2
      exact ⟨retB (by rw [hx, isUp_drop hil]; simp [h]), hw2.bel⟩
    · have h : gs[i] = i := by simpa using h
      conv => whnf
      refine ⟨gs.length - (i + 1), _, by omega, ⟨i + 1, hil, rfl, ?_, rfl⟩, weak_of (preP_refl _) ⟨incV (by omega), rfl, rfl, rfl, rfl, trivial⟩ ⟨⟨rfl, rfl, rfl⟩, trivial⟩ (List.Sublist.refl _) rfl rfl⟩
      rw [hx, isUp_drop hil]; simp [h]
  · have hb := of_decide_eq_false hb
    conv => whnf
    intro w2 hw2
    have : i = gs.length := by omega
    subst this
    exact ⟨retB (by rw [hx]; simp [isUp]; rw [Bool.eq_iff_iff]; simp), hw2.bel⟩

theorem rrightScheme_calls (S : Nat → Prop) (w : World) (s : Sc) (v : Value) (hs : RepS S w s v) (hlen : (fnd 8 s.t []).length ≤ 8796093022208) :
    Calls Try.prog 45 #[v] w (fun e w' => e = .returned (.bool (rightS s)) ∧ Below w.heap.size w w') := by
  obtain ⟨B, d, rfl, b1, b2, b3⟩ := hs
  have ht := RepS.typ b1 b2 b3
  refine calls0 tyok mixed [] Try.func45 rfl rfl (by simp) ?_
  conv => whnf
  intro g0
  conv => whnf
  refine ⟨gf9, fun w1 hw1 => scalK (rright_calls s.t S w1 _ (ht.to (hw1.samev S) (fun _ h _ => h))) hw1 ?_⟩
  conv => whnf
  refine ⟨fun hr => ?_, fun hr => ?_⟩
  · have hr : rightT s.t = false := by simpa using hr
    conv => whnf
    intro w2 hw2
    exact ⟨retB (by simp [rightS, hr]), hw2.bel⟩
  have hr : rightT s.t = true := by simpa using hr
  have hres : rightS s = (isUp (fnd 8 s.t []) 0 && decide ((((fnd 8 s.t []).length : Nat) : Int) = s.g)) := by simp [rightS, hr]
  rw [hres]
  conv => whnf
  refine ⟨gf48, fun w3 hw3 => resN (rgens_calls S w3 s.t _ (ht.to (hw3.samev S) (fun _ h _ => h)) hlen) hw3 fun v w4 p4 hv st4 => ?_⟩
  generalize fnd 8 s.t [] = gs at *
  obtain ⟨G, gc, rfl, hG1, hG2⟩ := hv
  have hGc := hG1.nw hG2 st4
  conv => whnf
  refine ⟨fun hg => ?_, fun hg => ?_⟩
  · have hg : ((gs.length : Nat) : Int) ≠ s.g := by simpa using hg
    conv => whnf
    intro w2 hw2
    exact ⟨retB (by simp [hg]), hw2.bel⟩
  have hg : ((gs.length : Nat) : Int) = s.g := by simpa using hg
  conv => whnf
  refine ⟨fun m st => ∃ i : Nat, i ≤ gs.length ∧ m = gs.length - i ∧ isUp gs 0 = isUp (gs.drop i) i ∧ st = ⟨[(4, .v (.int .i64 i)), (3, .v (.slice G gs.length gc)), (1, .own 0 0)], [g0],
      [(0, ([.v (.int .i64 s.g), .v (.int .i64 s.t.k), .v (.int .i64 s.t.n), .v (.slice B s.t.kids.length d)], 29))], [], p4, w4⟩,
    ⟨gs.length, _, ⟨0, Nat.zero_le _, by simp, by simp, rfl⟩, weak_of (preP_refl _) ⟨rfl, rfl, rfl, trivial⟩ ⟨⟨rfl, rfl, rfl⟩, trivial⟩ (List.Sublist.refl _) rfl rfl⟩, ?_⟩
  rintro m st ⟨i, hi, hm, hx, rfl⟩
  conv => whnf
  refine ⟨fun hb => ?_, fun hb => ?_⟩
  · have hb := of_decide_eq_true hb
    have hil : i < gs.length := by omega
    obtain ⟨ad, rfl, _, hld⟩ := hGc.ld1 (P := Try.prog) tk3 rfl (i := i) (v := .int .i64 gs[i]) (by simp [hil])
    conv => whnf
    refine ⟨ad, rfl, by omega, hb, ?_⟩
    conv => whnf
    intro w1 hw
    refine ⟨_, hld w1 hw.same, ?_⟩
    conv => whnf
    refine ⟨fun h => ?_, fun h => ?_⟩
    · have h : gs[i] ≠ i := by simpa using h
      conv => whnf
      intro w2 hw2
      exact ⟨retB (by rw [hx, isUp_drop hil]; simp [h]), hw2.bel⟩
    · have h : gs[i] = i := by simpa using h
      conv => whnf
      refine ⟨gs.length - (i + 1), _, by omega, ⟨i + 1, hil, rfl, ?_, rfl⟩, weak_of (preP_refl _) ⟨incV (by omega), rfl, rfl, trivial⟩ ⟨⟨rfl, rfl, rfl⟩, trivial⟩ (List.Sublist.refl _) rfl rfl⟩
      rw [hx, isUp_drop hil]; simp [h]
  · have hb := of_decide_eq_false hb
    conv => whnf
    intro w2 hw2
    have : i = gs.length := by omega
    subst this
    exact ⟨retB (by rw [hx]; simp [isUp, hg]), hw2.bel⟩
end Go.Proofs.Ytonhlccjfbfkcaa
