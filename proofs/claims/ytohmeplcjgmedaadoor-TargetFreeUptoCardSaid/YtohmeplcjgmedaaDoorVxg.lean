/- Operations that act. -/
import Derived.Test.YtohmeplcjgmedaaDoorVxf
namespace Go.Vx
open Go.RowKit Go.Vc

/-! ### Lists laid out before they are handed on -/
def nrmL : List SV → (List SV → Prop) → Prop
  | [], K => K []
  | .d x :: r, K => nrmL r fun l => K (.d x :: l)
  | .kb x :: r, K => nrmL r fun l => K (.kb x :: l)
  | .own i o :: r, K => nrmL r fun l => K (.own i o :: l)
  | .row i :: r, K => nrmL r fun l => K (.row i :: l)
  | .rowp i o :: r, K => nrmL r fun l => K (.rowp i o :: l)
  | .nm i :: r, K => nrmL r fun l => K (.nm i :: l)
  | .agg m :: r, K => nrmL r fun l => K (.agg m :: l)
  | .tup m :: r, K => nrmL r fun l => K (.tup m :: l)
  | .fn f a b :: r, K => nrmL r fun l => K (.fn f a b :: l)
  | .ifc t x :: r, K => nrmL r fun l => K (.ifc t x :: l)
  | .nl :: r, K => nrmL r fun l => K (.nl :: l)
  | .any :: r, K => nrmL r fun l => K (.any :: l)
theorem nrmL_eq : ∀ (l : List SV) (K : List SV → Prop), nrmL l K = K l
  | [], _ => rfl
  | x :: r, K => by cases x <;> simp only [nrmL, nrmL_eq r]
def nrm : SV → (SV → Prop) → Prop
  | .agg m, K => nrmL m fun l => K (.agg l)
  | .tup m, K => nrmL m fun l => K (.tup l)
  | .d (.agg m), K => nrmL (dL m) fun l => K (.agg l)
  | x, K => K x
theorem nrm_eq {e : Env} {w : World} {v : Value} (x : SV) (K : SV → Prop) (h : nrm x K) (hv : RepSV e w x v) : ∃ y, K y ∧ RepSV e w y v := by
  unfold nrm at h
  split at h
  · rw [nrmL_eq] at h; exact ⟨_, h, hv⟩
  · rw [nrmL_eq] at h; exact ⟨_, h, hv⟩
  · rw [nrmL_eq] at h
    refine ⟨_, h, ?_⟩
    simp only [RepSV, RepD] at hv ⊢
    obtain ⟨l', e', h1⟩ := hv
    exact ⟨l', e', by rw [dL_map]; exact RepSVs.ofD.1 h1⟩
  · exact ⟨_, h, hv⟩
def withoutK (r : Nat → Bool) : Hp → (Hp → Prop) → Prop
  | [], K => K []
  | (i, o) :: l, K => match r i with
    | true => withoutK r l K
    | false => withoutK r l fun l' => K ((i, o) :: l')
theorem withoutK_eq (r : Nat → Bool) : ∀ (H : Hp) (K : Hp → Prop), withoutK r H K = K (without r H)
  | [], _ => rfl
  | (i, o) :: l, K => by
    cases hr : r i <;> simp only [withoutK, without, hr, withoutK_eq r l]
def scrubTK (s : Nat → Bool) : Tl → (Tl → Prop) → Prop
  | [], K => K []
  | (t, x) :: r, K => nrmL [scrub s x] fun
    | [y] => scrubTK s r fun l => K ((t, y) :: l)
    | _ => False
theorem scrubTK_eq (s : Nat → Bool) : ∀ (T : Tl) (K : Tl → Prop), scrubTK s T K = K (scrubT s T)
  | [], _ => rfl
  | (t, x) :: r, K => by
    simp only [scrubTK, nrmL_eq, scrubTK_eq s r]
    rfl
def scrubHK (s : Nat → Bool) : Hp → (Hp → Prop) → Prop
  | [], K => K []
  | (i, .blk t cs) :: r, K => nrmL (scrubs s cs) fun cs' => scrubHK s r fun l => K ((i, .blk t cs') :: l)
  | (i, .row t eb sz n xs) :: r, K => scrubHK s r fun l => K ((i, .row t eb sz n xs) :: l)
  | (i, .ab φ) :: r, K => scrubHK s r fun l => K ((i, .ab φ) :: l)
theorem scrubHK_eq (s : Nat → Bool) : ∀ (H : Hp) (K : Hp → Prop), scrubHK s H K = K (scrubH s H)
  | [], _ => rfl
  | (i, .blk t cs) :: r, K => by
    simp only [scrubHK, nrmL_eq, scrubHK_eq s r]
    rfl
  | (i, .row t eb sz n xs) :: r, K => by
    simp only [scrubHK, scrubHK_eq s r]
    rfl
  | (i, .ab φ) :: r, K => by
    simp only [scrubHK, scrubHK_eq s r]
    rfl
mutual
theorem scrub_none : ∀ x : SV, scrub (fun _ => false) x = x
  | .row i => rfl
  | .rowp i o => rfl
  | .nm i => rfl
  | .agg l => by simp only [scrub, scrubs_none l]
  | .tup l => by simp only [scrub, scrubs_none l]
  | .fn f a b => by simp only [scrub, scrubs_none a, scrubs_none b]
  | .ifc t x => by simp only [scrub, scrub_none x]
  | .d x => rfl
  | .kb b => rfl
  | .own i o => rfl
  | .nl => rfl
  | .any => rfl
theorem scrubs_none : ∀ l : List SV, scrubs (fun _ => false) l = l
  | [] => rfl
  | x :: l => by simp only [scrubs, scrub_none x, scrubs_none l]
end
theorem scrubT_none (T : Tl) : scrubT (fun _ => false) T = T := by
  unfold scrubT
  simp [scrub_none]
theorem scrubH_none (H : Hp) : scrubH (fun _ => false) H = H := by
  unfold scrubH
  have : ∀ o : Ob, scrubO (fun _ => false) o = o := fun o => by cases o <;> simp [scrubO, scrubs_none]
  simp [this]

/-- Closed data out of symbolic values. -/
def dOf : SV → Option D
  | .d x => some x
  | .nl => some (.sl 0 0 [])
  | .kb b => some (.bool b)
  | .agg l => match dOfs l with
    | some m => some (.agg m)
    | none => none
  | .tup l => match dOfs l with
    | some m => some (.tup m)
    | none => none
  | .fn f a b => match dOfs a, dOfs b with
    | some x, some y => some (.fn f x y)
    | _, _ => none
  | .ifc t x => match dOf x with
    | some y => some (.ifc t y)
    | none => none
  | _ => none
where dOfs : List SV → Option (List D)
  | [] => some []
  | x :: r => match dOf x, dOfs r with
    | some y, some l => some (y :: l)
    | _, _ => none
mutual
theorem dOf_rep {e : Env} {w : World} : ∀ {x : SV} {y : D} {v : Value}, dOf x = some y → RepSV e w x v → RepD e.pub w y v
  | .d x, y, v, h, hx => by simp only [dOf, Option.some.injEq] at h; subst h; simpa only [RepSV] using hx
  | .kb b, y, v, h, hx => by simp only [dOf, Option.some.injEq] at h; subst h; simpa only [RepSV, RepD] using hx
  | .nl, y, v, h, hx => by
    simp only [dOf, Option.some.injEq] at h; subst h
    simp only [RepSV] at hx; subst hx
    simp only [RepD, RepC]
    exact ⟨none, 0, rfl, Nat.le_refl _, Nat.zero_le _, fun h => absurd rfl h, trivial⟩
  | .agg l, y, v, h, hx => by
    simp only [dOf] at h
    split at h <;> try (cases h; done)
    rename_i m hm
    injection h with h; subst h
    simp only [RepSV, RepD] at hx ⊢
    obtain ⟨l', e', h1⟩ := hx
    exact ⟨l', e', dOfs_rep hm h1⟩
  | .tup l, y, v, h, hx => by
    simp only [dOf] at h
    split at h <;> try (cases h; done)
    rename_i m hm
    injection h with h; subst h
    simp only [RepSV, RepD] at hx ⊢
    obtain ⟨l', e', h1⟩ := hx
    exact ⟨l', e', dOfs_rep hm h1⟩
  | .fn f a b, y, v, h, hx => by
    simp only [dOf] at h
    split at h <;> try (cases h; done)
    rename_i m n hm hn
    injection h with h; subst h
    simp only [RepSV, RepD] at hx ⊢
    obtain ⟨a', b', e', h1, h2⟩ := hx
    exact ⟨a', b', e', dOfs_rep hm h1, dOfs_rep hn h2⟩
  | .ifc t x, y, v, h, hx => by
    simp only [dOf] at h
    split at h <;> try (cases h; done)
    rename_i m hm
    injection h with h; subst h
    simp only [RepSV, RepD] at hx ⊢
    obtain ⟨z, e', h1⟩ := hx
    exact ⟨z, e', dOf_rep hm h1⟩
  | .own _ _, _, _, h, _ => by simp [dOf] at h
  | .row _, _, _, h, _ => by simp [dOf] at h
  | .rowp _ _, _, _, h, _ => by simp [dOf] at h
  | .nm _, _, _, h, _ => by simp [dOf] at h
  | .any, _, _, h, _ => by simp [dOf] at h
theorem dOfs_rep {e : Env} {w : World} : ∀ {l : List SV} {m : List D} {v : List Value}, dOf.dOfs l = some m → RepSVs e w l v → RepDs e.pub w m v
  | [], m, v, h, hx => by simp only [dOf.dOfs, Option.some.injEq] at h; subst h; simpa only [RepSVs, RepDs] using hx
  | x :: r, m, v, h, hx => by
    simp only [dOf.dOfs] at h
    split at h <;> try (cases h; done)
    rename_i y l hy hl
    injection h with h; subst h
    simp only [RepSVs, RepDs] at hx ⊢
    obtain ⟨u, s, e', h1, h2⟩ := hx
    exact ⟨u, s, e', dOf_rep hy h1, dOfs_rep hl h2⟩
end
/-- Cells: no struct, no tuple. -/
def cellB : SV → Bool
  | .agg _ => false
  | .tup _ => false
  | .any => false
  | .d (.agg _) => false
  | .d (.tup _) => false
  | .d (.val (.agg _)) => false
  | .d (.val (.tuple _)) => false
  | _ => true
def cellsB : List SV → Bool
  | [] => true
  | x :: r => match cellB x with
    | true => cellsB r
    | false => false
theorem cellB_plain {e : Env} {w : World} {x : SV} {v : Value} (h : cellB x = true) (hx : RepSV e w x v) : plainV v = true := by
  cases x with
  | d y =>
    cases y <;> first | (simp [cellB] at h; done) | skip
    case val u => simp only [RepSV, RepD] at hx; subst hx; cases v <;> first | rfl | (simp [cellB] at h; done)
    all_goals simp only [RepSV, RepD] at hx
    all_goals first | (subst hx; rfl) | (obtain ⟨_, _, rfl, _⟩ := hx; rfl) | (obtain ⟨_, rfl, _⟩ := hx; rfl)
  | agg _ => simp [cellB] at h
  | tup _ => simp [cellB] at h
  | any => simp [cellB] at h
  | kb b => simp only [RepSV] at hx; subst hx; rfl
  | nl => simp only [RepSV] at hx; subst hx; rfl
  | own i o => simp only [RepSV] at hx; obtain ⟨_, _, rfl⟩ := hx; rfl
  | row i => simp only [RepSV] at hx; obtain ⟨_, _, _, rfl, _⟩ := hx; rfl
  | rowp i o => simp only [RepSV] at hx; obtain ⟨_, _, _, _, rfl⟩ := hx; rfl
  | nm i => simp only [RepSV] at hx; obtain ⟨_, rfl, _⟩ := hx; rfl
  | fn f a b => simp only [RepSV] at hx; obtain ⟨_, _, rfl, _⟩ := hx; rfl
  | ifc t x => simp only [RepSV] at hx; obtain ⟨_, rfl, _⟩ := hx; rfl
theorem cellsB_plain {e : Env} {w : World} : ∀ {l : List SV} {v : List Value}, cellsB l = true → RepSVs e w l v → ∀ u ∈ v, plainV u = true
  | [], v, _, hx, u, hu => by simp only [RepSVs] at hx; subst hx; cases hu
  | x :: r, v, h, hx, u, hu => by
    simp only [cellsB] at h
    split at h <;> try (cases h; done)
    rename_i hc
    simp only [RepSVs] at hx
    obtain ⟨y, s, rfl, h1, h2⟩ := hx
    rcases List.mem_cons.1 hu with rfl | hu
    · exact cellB_plain hc h1
    · exact cellsB_plain h h2 u hu

section
variable {G : Glob} {n0 : Nat} {b : Bs G n0} {N : Nat} {e : Env} {st : St} {a : Act} {w : World}
/-- One object is another one now, where it was. -/
theorem Ok.setOb (h : Ok b N e st a w) {i : Nat} {o : Ob} {w' : World} (hi : has st.H i) (ho : Only (fun k => foot e i k) w w') (hd : w.drawn ≤ w'.drawn) (hob : Kept e w e w' → ObOk e w' i o) :
    Ok b N e ⟨st.T, (i, o) :: without (Nat.beq i) st.H, st.n⟩ a w' ∧ Kept e w e w' ∧ ∀ j k, has st.H j → j ≠ i → foot e j k → w'.heap[k]? = w.heap[k]? := by
  have hsame : Same e.pub w w' := fun k hk hl => ho.block k hl fun hf => h.hp.npub i k hi hf hk
  have kw : Kept e w e w' := ⟨fun _ _ h => h, fun _ h => h, hsame, ho.size⟩
  have h1 := h.frame (r := Nat.beq i) (s := fun _ => false) (fun _ h => by cases h) (e' := e) (w' := w') (H' := [(i, o)]) 0 rfl (ho.mono fun k _ hk => ⟨i, Nat.beq_refl i, hi, hk⟩) (G.dm hd) (fun _ _ h _ => h) (fun _ h => h) (fun _ h => .inl h)
    ⟨fun j o' hj => ?_, fun j j' k hj hj' hne _ _ => ?_, fun j k hj hk => ?_, fun k hk => Nat.lt_of_lt_of_le (h.hp.pubLt k hk) ho.size⟩ (fun j k hj hk => ?_)
  · rw [scrubT_none, scrubH_none] at h1
    exact ⟨h1, kw, fun j k hj hne hk => ho.block k (h.hp.lt hj hk) fun hf => h.hp.sep j i k hj hi hne hk hf⟩
  all_goals
    have one : ∀ q, has [(i, o)] q → q = i := by
      intro q hq
      unfold has at hq
      simp only [lk] at hq
      split at hq
      · rename_i e'; exact (nbeq.1 e').symm
      · cases hq
  · obtain rfl := one j (by simp [has, hj])
    simp only [lk, Nat.beq_refl] at hj
    injection hj with hj; subst hj; exact hob kw
  · exact absurd ((one j hj).trans (one j' hj').symm) hne
  · obtain rfl := one j hj; exact h.hp.npub j k hi hk
  · obtain rfl := one j hj; exact .inl ⟨j, Nat.beq_refl j, hi, hk⟩
end
end Go.Vx
