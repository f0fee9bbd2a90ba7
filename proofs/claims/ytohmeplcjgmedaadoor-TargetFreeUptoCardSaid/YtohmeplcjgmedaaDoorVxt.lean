/- Small changes of what a state says. -/
import Derived.Test.YtohmeplcjgmedaaDoorVxs
namespace Go.Vx
open Go.RowKit Go.Vc
section
variable {P : Program} {G : Glob} {ty : List (Nat × TY)} {N n0 : Nat} {b : Bs G n0}
/-- A known truth, as data. -/
theorem weak_kbT {T : Tl} {H : Hp} {n : Nat} (t : Nat) (c : Bool) (ht : lk T t = some (.kb c)) : Weak b N ⟨T, H, n⟩ ⟨(t, .d (.bool c)) :: T, H, n⟩ := by
  intro e a w h
  refine ⟨e, fun _ h => h, h.sz, h.df, h.len, fun t' x hx => ?_, h.hp, h.below, h.dr, h.mine, h.frm, h.pre, h.gl⟩
  simp only [lk] at hx
  split at hx
  · rename_i e'
    obtain rfl := nbeq.1 e'
    injection hx with hx; subst hx
    have := h.tm _ _ ht
    simp only [RepSV, RepD] at this ⊢
    exact this
  · exact h.tm _ _ hx
/-- Some own objects are written no more: they are data now. -/
theorem weak_pub {st st' : St} (p : Nat → Bool) (h : pubK p st fun s => Weak b N s st') : Weak b N st st' := by
  intro e a w hok
  obtain ⟨e', s, hw, kw, ok', _⟩ := pubK_sound hok p h
  obtain ⟨e2, up, ok2⟩ := hw e' a w ok'
  exact ⟨e2, fun k hk => up k (kw.pub k hk), ok2⟩
end
end Go.Vx
