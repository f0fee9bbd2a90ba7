/- The number of draws never falls. -/
import Derived.Test.YtohmeplcjgmedaaDoorVcn
namespace Go.Vc
set_option linter.unusedVariables false

theorem exc_bind {ε α β : Type} {x : Except ε α} {f : α → Except ε β} {b : β} (h : (x >>= f) = .ok b) : ∃ a, x = .ok a ∧ f a = .ok b := by
  cases x with
  | error e => cases h
  | ok a => exact ⟨a, rfl, h⟩
def Kp (w : World) (r : Except String (World × List Addr)) : Prop := ∀ x, r = .ok x → x.1.drawn = w.drawn
theorem Kp.bind {α : Type} {w : World} {x : Except String α} {f : α → Except String (World × List Addr)} (h : ∀ a, Kp w (f a)) : Kp w (x >>= f) := by
  intro y hy
  obtain ⟨a, _, h2⟩ := exc_bind hy
  exact h a y h2
theorem Kp.throw {w : World} {e : String} : Kp w (.error e) := fun x hx => by cases hx
theorem Kp.pure {w w' : World} {l : List Addr} (h : w'.drawn = w.drawn) : Kp w (Pure.pure (w', l)) := fun x hx => by
  injection hx with hx; subst hx; exact h
theorem viewStore_kp (p : Program) (w : World) (at_ : Addr) (u : TypeId) (k : Addr) (v : Value) (b : Bool) : Kp w (w.viewStore p at_ u k v b) := by
  unfold World.viewStore
  dsimp only
  repeat' first | exact Kp.pure rfl | exact Kp.throw | (refine Kp.bind fun _ => ?_) | split
theorem viewStore_drawn {p : Program} {w w' : World} {at_ : Addr} {u : TypeId} {k : Addr} {v : Value} {b : Bool} {l : List Addr} (h : w.viewStore p at_ u k v b = .ok (w', l)) : w'.drawn = w.drawn :=
  viewStore_kp p w at_ u k v b _ h
theorem ask_drawn {α : Type} : ∀ (x : Ask α) (w : World), w.drawn ≤ (w.ask x).2.drawn
  | .done a, w => Nat.le_refl _
  | .ask what range k, w => by
    simp only [World.ask]
    split
    · exact ask_drawn _ w
    · exact Nat.le_trans (Nat.le_succ _) (ask_drawn (k _) { w with drawn := w.drawn + 1 })
theorem sys_drawn (w : World) (c : Sys) : w.drawn ≤ (w.sys c).2.drawn := by
  have h := ask_drawn (Kernel.perform c w.os) w
  unfold World.sys
  split
  · exact Nat.le_refl _
  · rename_i r os w1 he
    rw [he] at h
    exact h
def dle (n : Nat) {α : Type} : Result α → Prop
  | .ok _ w' => n ≤ w'.drawn
  | .halt _ w' => n ≤ w'.drawn
theorem run_dle {α : Type} (P : Program) (s : Sem α) : ∀ (w : World) (n : Nat), n ≤ w.drawn → dle n (s.run P w) := by
  induction s with
  | pure a => intro w n h; exact h
  | load m a k ih =>
    intro w n h
    simp only [Sem.run]
    split
    · exact ih _ _ _ h
    · split
      · exact ih _ _ _ h
      · exact h
  | store m a v k ih =>
    intro w n h
    have key : dle n (match w.cell? a with
        | some _ => if w.frozen? a then Result.halt (.unsupported (.unsafePointer "a write to bytes that a string shares")) w else k.run P (w.setCell a v)
        | none => match w.farStore P a v (m == .atomic) with
          | .ok (w, _) => k.run P w
          | .error h => .halt h w) := by
      split
      · split
        · exact h
        · exact ih _ _ h
      · split
        · rename_i w1 l he
          refine ih _ _ ?_
          unfold World.farStore at he
          split at he
          · split at he
            · rename_i r hv
              injection he with he
              subst he
              rw [viewStore_drawn hv]; exact h
            · cases he
          · cases he
        · exact h
    cases v <;> simp only [Sem.run] <;> first | exact h | exact key
  | new o k ih => intro w n h; simp only [Sem.run]; exact ih _ _ _ h
  | shape r k ih => intro w n h; simp only [Sem.run]; exact ih _ _ _ h
  | freeze a m k ih =>
    intro w n h
    simp only [Sem.run]
    have e : (w.freeze a m).drawn = w.drawn := by unfold World.freeze; first | rfl | (split <;> rfl) | (split <;> split <;> rfl)
    exact ih _ _ (by rw [e]; exact h)
  | frozen a k ih => intro w n h; simp only [Sem.run]; exact ih _ _ _ h
  | getObj r k ih =>
    intro w n h
    simp only [Sem.run]
    split
    · exact h
    · exact ih _ _ _ h
    · exact h
  | setObj r o k ih =>
    intro w n h
    simp only [Sem.run]
    split
    · exact h
    · exact ih _ _ h
    · exact h
  | choose q k ih =>
    intro w n h
    simp only [Sem.run]
    split
    · exact ih _ _ _ h
    · exact ih _ _ _ (Nat.le_trans h (Nat.le_succ _))
  | sys c k ih => intro w n h; simp only [Sem.run]; exact ih _ _ _ (Nat.le_trans h (sys_drawn w c))
  | program k ih => intro w n h; simp only [Sem.run]; exact ih _ _ _ h
  | mark m k ih => intro w n h; simp only [Sem.run]; exact ih _ _ h
  | halt hh => intro w n h; exact h
theorem run_drawn {α : Type} {P : Program} {s : Sem α} {w w' : World} {a : α} (h : s.run P w = .ok a w') : w.drawn ≤ w'.drawn := by
  have := run_dle P s w _ (Nat.le_refl _)
  rw [h] at this; exact this
end Go.Vc
