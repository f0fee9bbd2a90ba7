/- Types, numbers, lists of these, as data. -/
import Derived.Test.YtohmeplcjgmedaaDoorVxp
set_option linter.unusedSimpArgs false
set_option linter.unusedVariables false
namespace Go.Vx
open Go.RowKit Go.Vc

/-- Elements laid out one behind the other. -/
def fl {α : Type} (f : α → List D) : List α → List D
  | [] => []
  | x :: r => f x ++ fl f r
section
variable {α : Type} {f : α → List D} {w : Nat}
theorem fl_len (hf : ∀ x, (f x).length = w) : ∀ l : List α, (fl f l).length = l.length * w
  | [] => by simp [fl]
  | x :: r => by simp [fl, fl_len hf r, hf, Nat.add_mul]; omega
theorem fl_app : ∀ l m : List α, fl f (l ++ m) = fl f l ++ fl f m
  | [], m => rfl
  | x :: r, m => by simp [fl, fl_app r m]
theorem fl_one (x : α) : fl f [x] = f x := by simp [fl]
theorem fl_mem {d : D} : ∀ {l : List α}, d ∈ fl f l → ∃ x ∈ l, d ∈ f x
  | [], h => by simp [fl] at h
  | x :: r, h => by
    simp only [fl, List.mem_append] at h
    rcases h with h | h
    · exact ⟨x, by simp, h⟩
    · obtain ⟨y, h1, h2⟩ := fl_mem h
      exact ⟨y, by simp [h1], h2⟩
theorem fl_at (hf : ∀ x, (f x).length = w) : ∀ (l : List α) (i : Nat) (hi : i < l.length), ((fl f l).drop (i * w)).take w = f l[i]
  | x :: r, 0, _ => by simp [fl, hf]
  | x :: r, i + 1, hi => by
    have := fl_at hf r i (by simpa using hi)
    simp only [fl, List.getElem_cons_succ]
    have e : (f x ++ fl f r).drop ((i + 1) * w) = (fl f r).drop (i * w) := by
      rw [show (i + 1) * w = (f x).length + i * w from by rw [Nat.add_mul, hf]; omega, List.drop_append]
      simp
    rw [e]
    exact this
theorem fl_set (hf : ∀ x, (f x).length = w) (l : List α) (i : Nat) (hi : i < l.length) (x : α) : ovl (fl f l) (i * w) (f x) = fl f (l.set i x) := by
  rw [List.set_eq_take_append_cons_drop, if_pos hi]
  unfold ovl
  have h1 : (fl f l).take (i * w) = fl f (l.take i) := by
    conv => lhs; rw [← List.take_append_drop i l, fl_app]
    rw [List.take_append_of_le_length (by rw [fl_len hf]; simp; rw [Nat.min_eq_left (by omega)]; exact Nat.le_refl _)]
    rw [List.take_of_length_le (by rw [fl_len hf]; simp; exact Nat.mul_le_mul_right _ (Nat.min_le_left _ _))]
  have h2 : (fl f l).drop (i * w + (f x).length) = fl f (l.drop (i + 1)) := by
    conv => lhs; rw [← List.take_append_drop (i + 1) l, fl_app]
    have hl : (fl f (l.take (i + 1))).length = i * w + (f x).length := by
      rw [fl_len hf, hf]; simp; rw [Nat.min_eq_left (by omega), Nat.add_mul]; omega
    rw [← hl, List.drop_append_of_le_length (Nat.le_refl _)]
    simp
  rw [h1, h2, List.append_assoc, fl_app]
  rfl
theorem IdxC.fl (hf : ∀ x, (f x).length = w) {l : List α} {j : Int} {K : SV → Prop} (i : Nat) (hi : i < l.length) (hj : j = (i : Int)) (hk : K (.d (.ptr (f l[i]) 0))) : IdxC l.length w (Vx.fl f l) j K :=
  ⟨i, hj, hi, _, fl_at hf l i hi, hk⟩
end

theorem mk_k (k n : Int) (l : List Tp) : (Tp.mk k n l).k = k := rfl
theorem mk_n (k n : Int) (l : List Tp) : (Tp.mk k n l).n = n := rfl
theorem mk_kids (k n : Int) (l : List Tp) : (Tp.mk k n l).kids = l := rfl
mutual
def encT0 : Tp → List D
  | .mk k n ks => [.int .i64 k, .int .i64 n, slD 40 ks.length (encK ks)]
def encK : List Tp → List D
  | [] => []
  | t :: r => encT0 t ++ encK r
end
/-- A type's cells. -/
def encT (t : Tp) : List D := [.int .i64 t.k, .int .i64 t.n, slD 40 t.kids.length (encK t.kids)]
theorem encT0_eq (t : Tp) : encT0 t = encT t := by cases t; rfl
theorem encK_eq : ∀ l : List Tp, encK l = fl encT l
  | [] => rfl
  | t :: r => by simp only [encK, fl, encK_eq r, encT0_eq]
theorem encT_len (t : Tp) : (encT t).length = 3 := rfl
theorem encK_len (l : List Tp) : (encK l).length = l.length * 3 := by rw [encK_eq, fl_len encT_len]
theorem encK_app (l m : List Tp) : encK (l ++ m) = encK l ++ encK m := by simp only [encK_eq, fl_app]
theorem encK_at (l : List Tp) (i : Nat) (hi : i < l.length) : ((encK l).drop (i * 3)).take 3 = encT l[i] := by rw [encK_eq]; exact fl_at encT_len l i hi
theorem encT_scal (t : Tp) : ∀ d ∈ encT t, scalD d = true := by
  intro d hd
  simp only [encT, List.mem_cons, List.not_mem_nil, or_false] at hd
  rcases hd with rfl | rfl | rfl <;> rfl
theorem encK_scal (l : List Tp) : ∀ d ∈ encK l, scalD d = true := by
  intro d hd
  rw [encK_eq] at hd
  obtain ⟨t, _, h⟩ := fl_mem hd
  exact encT_scal t d h
theorem IdxC.encK {l : List Tp} {j : Int} {K : SV → Prop} (i : Nat) (hi : i < l.length) (hj : j = (i : Int)) (hk : K (.d (.ptr (encT l[i]) 0))) : IdxC l.length 3 (Vx.encK l) j K :=
  ⟨i, hj, hi, _, encK_at l i hi, hk⟩
/-- Numbers. -/
def encI (l : List Int) : List D := l.map (.int .i64)
theorem encI_at (l : List Int) (i : Nat) (hi : i < l.length) : ((encI l).drop (i * 1)).take 1 = [.int .i64 l[i]] := by
  unfold encI
  rw [Nat.mul_one, List.drop_eq_getElem_cons (by simpa using hi)]
  simp
theorem encI_len (l : List Int) : (encI l).length = l.length := by simp [encI]
theorem encI_scal (l : List Int) : ∀ d ∈ encI l, scalD d = true := by
  intro d hd
  simp only [encI, List.mem_map] at hd
  obtain ⟨n, _, rfl⟩ := hd
  rfl
theorem IdxC.encI {l : List Int} {j : Int} {K : SV → Prop} (i : Nat) (hi : i < l.length) (hj : j = (i : Int)) (hk : K (.d (.ptr [.int .i64 l[i]] 0))) : IdxC l.length 1 (Vx.encI l) j K :=
  ⟨i, hj, hi, _, encI_at l i hi, hk⟩
/-- Data of a type, of numbers, of a list of types. -/
abbrev dT (t : Tp) : D := .agg (encT t)
abbrev dI (l : List Int) : D := slD 8 l.length (encI l)
abbrev dK (l : List Tp) : D := slD 40 l.length (encK l)
theorem incD {i : Nat} (h : i < 9223372036854775807) : SV.d (.int .i64 (IntKind.i64.wrap ((i : Int) + 1))) = .d (.int .i64 ((i + 1 : Nat) : Int)) := by rw [inc h]
theorem szOk_T {t : Tp} (h : szOk (dT t)) : t.kids.length * 40 ≤ LB ∧ szOks (encK t.kids) := by
  simp only [dT, encT, szOk, szOks] at h
  exact szOk_sl h.2.2.1
theorem szOks_K : ∀ {l : List Tp}, szOks (encK l) → ∀ t ∈ l, szOk (dT t)
  | [], _, t, ht => by cases ht
  | x :: r, h, t, ht => by
    simp only [encK, encT0_eq] at h
    obtain ⟨h1, h2⟩ := szOks_app h
    rcases List.mem_cons.1 ht with rfl | ht
    · simpa only [szOk] using h1
    · exact szOks_K h2 t ht
end Go.Vx
