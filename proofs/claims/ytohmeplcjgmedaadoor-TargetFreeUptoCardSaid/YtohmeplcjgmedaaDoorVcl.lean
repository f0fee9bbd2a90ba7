/- Rows cut, cleared, made. -/
import Derived.Test.YtohmeplcjgmedaaDoorVck
import Derived.Laws.OwnMore
set_option linter.unusedSimpArgs false
set_option linter.unusedVariables false
namespace Go.Vc
open Go.RowKit

section
variable {P : Program} {ty : List (Nat × TI)} {N : Nat} {b : Base}

/-- An operation that yields a value and leaves the world. -/
theorem valK {T : Tl} {ρ : List Nat} {E E0 : El} {R R0 : List Row} {pub pub0 : Nat → Prop} {s s0 : World} {K : St → Prop} {dst : Option Tmp} {r : Result Next} {v : Value} {w : World} (hw : Wd b ⟨T, ρ, E, R, pub, s⟩ w) (hr : r = .ok (.value v) w)
    (hk : putK N dst (.v v) ⟨T, ρ, E, R, pub, s⟩ K) : GenR P (AfterK N b dst ⟨T, ρ, E0, R0, pub0, s0⟩ K) r := by
  rw [hr]; exact ⟨E, R, pub, s, hw, hk⟩

theorem under_slice (hty : TyOk P ty) {t e : TypeId} {ti : TI} (ht : lk ty t = some ti) (hel : ti.elem = some e) : P.underlying t = some (.slice e) := by
  obtain ⟨y, dd, hy, hd, h1, h2, h3, h4, h5, h6, h7, h8⟩ := (hty _ _ ht).get
  rw [hel] at h6
  cases dd <;> simp only [elB] at h6 <;> try (cases h6; done)
  rw [hd, nbeq.1 h6]

theorem run_sliceBound' {w : World} {k : IntKind} {i : Int} {n : Nat} {c : BoundsCode} (h0 : 0 ≤ i) (h1 : i ≤ n) : (Instr.sliceBound (.int k i) n c).run P w = .ok i.toNat w := by
  unfold Instr.sliceBound
  have : (asIntOf (.int k i)).run P w = .ok (k, i) w := rfl
  rw [Sem.run_bind, this]
  simp only [Result.andThen_ok]
  rw [if_pos ⟨h0, h1⟩]; rfl
/-- x[lo:]. -/
theorem exec_sliceL (hty : TyOk P ty) {ρ : List Nat} {T : Tl} {x y : Operand} {t e type : TypeId} {dst : Option Tmp} {pos : String} {after : Array Edge} {guard : Option (Nat × Bool)} {ti ei : TI} (ht : lk ty t = some ti) (hel : ti.elem = some e) (he : lk ty e = some ei)
    {A : Option Addr} {n c : Nat} {k : IntKind} {j : Nat} {w : World} (hx : evF ρ T x = .slice A n c) (hy : evF ρ T y = .int k j) (hj : j ≤ n) :
    (execOp (evF ρ T) { dst, op := .slice t x (some y) none none, type, pos, after, guard }).run P w = .ok (.value (.slice (if c = j then A else A.map (·.add (j * ei.size))) (n - j) (c - j))) w := by
  simp only [execOp]
  refine run_val ?_
  have hu := under_slice hty ht hel
  rw [hx]
  simp only [Option.map_some, Option.map_none, hy, Instr.sliceAt, Sem.run_bind, run_under hu, Result.andThen_ok, Instr.slice, Instr.sliceBounds, Sem.run_pure]
  rw [run_sliceBound' (by omega) (by omega)]
  simp only [Result.andThen_ok, Sem.run_pure, run_sizeOf (hty _ _ he), Int.toNat_natCast]
/-- x[:hi]. -/
theorem exec_sliceH (hty : TyOk P ty) {ρ : List Nat} {T : Tl} {x y : Operand} {t e type : TypeId} {dst : Option Tmp} {pos : String} {after : Array Edge} {guard : Option (Nat × Bool)} {ti ei : TI} (ht : lk ty t = some ti) (hel : ti.elem = some e) (he : lk ty e = some ei)
    {A : Option Addr} {n c : Nat} {k : IntKind} {j : Nat} {w : World} (hx : evF ρ T x = .slice A n c) (hy : evF ρ T y = .int k j) (hj : j ≤ c) :
    (execOp (evF ρ T) { dst, op := .slice t x none (some y) none, type, pos, after, guard }).run P w = .ok (.value (.slice A j c)) w := by
  simp only [execOp]
  refine run_val ?_
  have hu := under_slice hty ht hel
  rw [hx]
  simp only [Option.map_some, Option.map_none, hy, Instr.sliceAt, Sem.run_bind, run_under hu, Result.andThen_ok, Instr.slice, Instr.sliceBounds, Sem.run_pure, if_true]
  rw [run_sliceBound' (by omega) (by omega)]
  simp only [Result.andThen_ok, Sem.run_pure, run_sizeOf (hty _ _ he), Int.toNat_natCast, Nat.zero_mul, Nat.sub_zero]
  have : A.map (·.add 0) = A := by cases A <;> simp [Addr.add]
  simp [this]

/-- A row's first elements. -/
theorem RowOk.cut {w : World} {A : Option Addr} {n c m : Nat} {e : TypeId} {sz : Nat} {xs : List Value} (h : RowOk w ⟨.slice A n c, e, sz, xs⟩) (hm : m ≤ n) : RowOk w ⟨.slice A m c, e, sz, xs.take (m * sz)⟩ := by
  obtain ⟨n', hl, ⟨hv, h0⟩ | ⟨g', o, cap, cur, hv, hh, q1, q2, q3, q4⟩⟩ := h
  · injection hv with e1 e2 e3
    have hm0 : m = 0 := by omega
    subst hm0; subst e1; subst e3
    simpa using RowOk.nil w e sz
  · injection hv with e1 e2 e3
    subst e1; subst e2; subst e3
    have hle : m * sz ≤ n * sz := Nat.mul_le_mul_right _ hm
    have hl' : xs.length = n * sz := hl
    refine ⟨m, by simp only [List.length_take]; omega, .inr ⟨g', o, c, cur, rfl, hh, by omega, q2, q3, ?_⟩⟩
    have q4' : (cur.toList.drop o).take (n * sz) = xs := q4
    rw [← q4', List.take_take, Nat.min_eq_left hle]

/-- A row's last elements. -/
theorem RowOk.tail {w : World} {A : Option Addr} {n c j : Nat} {e : TypeId} {sz : Nat} {xs : List Value} (h : RowOk w ⟨.slice A n c, e, sz, xs⟩) (hj : j ≤ n) : RowOk w ⟨.slice (if c = j then A else A.map (·.add (j * sz))) (n - j) (c - j), e, sz, xs.drop (j * sz)⟩ := by
  have h' := h
  obtain ⟨n', hl, ⟨hv, h0⟩ | ⟨g', o, cap, cur, hv, hh, q1, q2, q3, q4⟩⟩ := h
  · injection hv with e1 e2 e3
    have hj0 : j = 0 := by omega
    subst hj0; subst e1; subst e3; subst e2
    simpa using h'
  · injection hv with e1 e2 e3
    subst e1; subst e2; subst e3
    have hl' : xs.length = n * sz := hl
    have q4' : (cur.toList.drop o).take (n * sz) = xs := q4
    simp only at q3
    by_cases hc : c = j
    · subst hc
      have hnc : n = c := by omega
      subst hnc
      rw [if_pos rfl, Nat.sub_self]
      refine ⟨0, by simp; omega, .inr ⟨g', o, 0, cur, rfl, hh, Nat.le_refl _, Nat.zero_le _, by simp; omega, ?_⟩⟩
      simp; omega
    · rw [if_neg hc]
      simp only [Option.map_some, add_own]
      refine ⟨n - j, by simp [hl', Nat.sub_mul], .inr ⟨g', o + j * sz, c - j, cur, rfl, hh, by omega, by omega, ?_, ?_⟩⟩
      · have : j * sz ≤ c * sz := Nat.mul_le_mul_right _ (by omega)
        simp only [Nat.sub_mul]; omega
      · simp only
        rw [← q4', List.drop_take, List.drop_drop, Nat.sub_mul]
theorem rowB_tail {A : Option Addr} {n c j k : Nat} : rowB (.slice (if c = j then A else A.map (·.add k)) n c) = rowB (.slice A n c) := by
  split
  · rfl
  · cases A with
    | none => rfl
    | some a => simp [rowB, add_block]
/-- v[j:], v being row number i; what was there of v is the row of the new slice. -/
theorem tailK (hty : TyOk P ty) {T : Tl} {ρ : List Nat} {E E0 : El} {R R0 : List Row} {pub pub0 : Nat → Prop} {s s0 : World} {K : St → Prop} {x y : Operand} {t type : TypeId} {dst : Option Tmp} {pos : String} {after : Array Edge} {guard : Option (Nat × Bool)}
    {ti ei : TI} {e : TypeId} (ht : lk ty t = some ti) (hel : ti.elem = some e) (he : lk ty e = some ei)
    {w : World} (hw : Wd b ⟨T, ρ, E, R, pub, s⟩ w) (i : Nat) {A : Option Addr} {n c : Nat} {xs : List Value} (hi : R[i]? = some ⟨.slice A n c, e, ei.size, xs⟩) {k : IntKind} {j : Nat} (hj : j ≤ n)
    (hx : evF ρ T x = .slice A n c) (hy : evF ρ T y = .int k j)
    (hk : ∀ A', (n - j ≠ 0 → ∃ ad, A' = Option.some ad) → putK N dst (.v (.slice A' (n - j) (c - j))) ⟨T, ρ, E, R.set i ⟨.slice A' (n - j) (c - j), e, ei.size, xs.drop (j * ei.size)⟩, pub, s⟩ K) :
    GenR P (AfterK N b dst ⟨T, ρ, E0, R0, pub0, s0⟩ K) ((execOp (evF ρ T) { dst, op := .slice t x (some y) none none, type, pos, after, guard }).run P w) := by
  rw [exec_sliceL hty ht hel he hx hy hj]
  refine ⟨E, R.set i ⟨.slice (if c = j then A else A.map (·.add (j * ei.size))) (n - j) (c - j), e, ei.size, xs.drop (j * ei.size)⟩, pub, s, hw.grow hi (World.grownBy.refl w _) ((hw.row _ (List.mem_of_getElem? hi)).1.tail hj) (.inr (.inl ?_)), hk _ ((hw.row _ (List.mem_of_getElem? hi)).1.tail hj).some⟩
  simp only
  split
  · cases A <;> rfl
  · cases A with
    | none => rfl
    | some a => simp [rowB, add_block]

/-- make([]E, n): a row of zeros. -/
theorem make_run (hty : TyOk P ty) {t e : TypeId} {ti ei : TI} (ht : lk ty t = some ti) (hel : ti.elem = some e) (he : lk ty e = some ei) {w : World} {kl kc : IntKind} {n : Nat} (hb : ei.bytes * n ≤ 281474976710656) (hm : n ≤ maxLen) :
    ∃ w', (Instr.makeSlice t (.int kl (n : Int)) (.int kc (n : Int))).run P w = .ok (.slice (some ⟨w.heap.size, 0, none⟩) n n) w' ∧ RowOk w' ⟨.slice (some ⟨w.heap.size, 0, none⟩) n n, e, ei.size, (madeCells ei.z.cells (n * ei.size)).toList⟩ ∧ Below w.heap.size w w' := by
  have hu := under_slice hty ht hel
  obtain ⟨y', dd', hy', hd', g1, g2, g3, g4, g5, g6, g7, g8⟩ := (hty _ _ he).get
  obtain ⟨w', h1, ⟨q1, ⟨hv, hn⟩ | ⟨g, cap, cur, hv, _, q2, q3, q4, q5, q6⟩⟩, h3⟩ := run_make_full (P := P) w 0 t e y' ei.z ei.size hu hy' g3 g1 kl kc n (by rw [g2]; exact hb) hm (Nat.zero_le _)
  · cases hv
  · refine ⟨w', h1, ⟨n, q1, .inr ⟨g, 0, cap, cur, hv, q2, q3, q4, by rw [q5]; simp, q6⟩⟩, ⟨h3.os, h3.tape, h3.output, h3.size, fun k hk => h3.block k hk (fun h => by cases h)⟩⟩
/-- make([]E, n). -/
theorem makeK (hty : TyOk P ty) {T : Tl} {ρ : List Nat} {E E0 : El} {R R0 : List Row} {pub pub0 : Nat → Prop} {s s0 : World} {K : St → Prop} {x y : Operand} {t type : TypeId} {dst : Option Tmp} {pos : String} {after : Array Edge} {guard : Option (Nat × Bool)}
    {ti ei : TI} {e : TypeId} (ht : lk ty t = some ti) (hel : ti.elem = some e) (he : lk ty e = some ei) {w : World} (hw : Wd b ⟨T, ρ, E, R, pub, s⟩ w) {kl kc : IntKind} {n : Nat} (hx : evF ρ T x = .int kl (n : Int)) (hy : evF ρ T y = .int kc (n : Int)) (hb : ei.bytes * n ≤ 281474976710656) (hm : n ≤ maxLen)
    (hk : ∀ ad, putK N dst (.v (.slice (some ad) n n)) ⟨T, ρ, E, ⟨.slice (some ad) n n, e, ei.size, (madeCells ei.z.cells (n * ei.size)).toList⟩ :: R, pub, s⟩ K) :
    GenR P (AfterK N b dst ⟨T, ρ, E0, R0, pub0, s0⟩ K) ((execOp (evF ρ T) { dst, op := .makeSlice t x y, type, pos, after, guard }).run P w) := by
  obtain ⟨w', h1, h2, h3⟩ := make_run (P := P) (w := w) (kl := kl) (kc := kc) hty ht hel he hb hm
  have hrun : (execOp (evF ρ T) { dst, op := .makeSlice t x y, type, pos, after, guard }).run P w = .ok (.value (.slice (some ⟨w.heap.size, 0, none⟩) n n)) w' := by
    simp only [execOp]
    refine run_val ?_
    rw [hx, hy]; exact h1
  rw [hrun]
  exact ⟨E, _, pub, s, hw.add h3 h2 (fun g hg => by simp [rowB] at hg; omega), hk _⟩

/-- appendK, told besides that what is not empty lies somewhere. -/
theorem appendK' (hty : TyOk P ty) {T : Tl} {ρ : List Nat} {E E0 : El} {R R0 : List Row} {pub pub0 : Nat → Prop} {s s0 : World} {K : St → Prop} {x y : Operand} {t type : TypeId} {dst : Option Tmp} {pos : String} {after : Array Edge} {guard : Option (Nat × Bool)}
    {ti ei : TI} {e : TypeId} (ht : lk ty t = some ti) (hel : ti.elem = some e) (he : lk ty e = some ei) (hz : ei.z.cells.size = ei.size) (h0 : 0 < ei.size) (hb0 : 0 < ei.bytes)
    {w : World} (hw : Wd b ⟨T, ρ, E, R, pub, s⟩ w) (j : Nat) {A : Option Addr} {n c : Nat} {xs : List Value} (hj : R[j]? = some ⟨.slice A n c, e, ei.size, xs⟩) (hx : evF ρ T x = .slice A n c)
    {B : Option Addr} {m d : Nat} {ys : List Value} (hy : evF ρ T y = .slice B m d) {S : Nat → Prop} (hys : ys.length = m * ei.size) (hc : Cells S w B ys) (hp : ∀ u ∈ ys, u.oneCell' = true) (hlim : (n + m) * ei.bytes ≤ 140737488355328)
    (hk : ∀ A' c', (n + m ≠ 0 → ∃ ad, A' = some ad) → putK N dst (.v (.slice A' (n + m) c')) ⟨T, ρ, E, R.set j ⟨.slice A' (n + m) c', e, ei.size, xs ++ ys⟩, pub, s⟩ K) :
    GenR P (AfterK N b dst ⟨T, ρ, E0, R0, pub0, s0⟩ K) ((execOp (evF ρ T) { dst, op := .call { callee := .builtin .append, args := #[x, y], argTypes := #[t, t] }, type, pos, after, guard }).run P w) := by
  obtain ⟨A', c', w', h1, h2, h3, h4⟩ := append_run hty ht hel he hz h0 (hw.row _ (List.mem_of_getElem? hj)).1 hys hc hp hlim hb0 type
  rw [exec_append hx hy h1]
  exact ⟨E, R.set j ⟨.slice A' (n + m) c', e, ei.size, xs ++ ys⟩, pub, s, hw.grow hj h3 h2 (h4.elim (fun h => .inr (.inl h)) (fun h => .inr (.inr ⟨_, h, Nat.le_refl _⟩))), hk A' c' h2.some⟩

/-- clear(v[j:]) of a row of single cells. -/
theorem clear_run (hty : TyOk P ty) {t e type : TypeId} {ti ei : TI} (ht : lk ty t = some ti) (hel : ti.elem = some e) (he : lk ty e = some ei) {z : Value} (hz : ei.z.cells = #[z]) (hz1 : ei.size = 1) (hzp : plainV z = true)
    {w : World} {A : Option Addr} {n c j : Nat} {xs : List Value} (hr : RowOk w ⟨.slice A n c, e, 1, xs⟩) (hj : j ≤ n) :
    ∃ w' ys, (Builtin.clear_ #[t] type #[.slice (if c = j then A else A.map (·.add (j * ei.size))) (n - j) (c - j)]).run P w = .ok (.tuple #[]) w' ∧ RowOk w' ⟨.slice A n c, e, 1, xs.take j ++ ys⟩ ∧ ys.length = n - j ∧ w.grownBy w' (rowB (.slice A n c)) := by
  have hu := under_slice hty ht hel
  have hxl : xs.length = n := by
    obtain ⟨A', n', c', hv, _, hl⟩ := hr.form
    injection hv with _ e2 _
    simp only [Nat.mul_one] at hl
    omega
  have hnc := hr.form
  by_cases hz0 : n - j = 0
  · have hnj : n = j := by omega
    subst hnj
    refine ⟨w, [], ?_, ?_, by simp, World.grownBy.refl w _⟩
    · rw [Nat.sub_self]
      unfold Builtin.clear_
      simp only [List.getElem?_toArray, List.getElem?_cons_zero, Sem.run_bind, run_under hu, Result.andThen_ok]
      generalize (if c = n then A else A.map (·.add (n * ei.size))) = B
      cases B <;> rfl
    · rw [List.append_nil, List.take_of_length_le (by omega)]; exact hr
  · obtain ⟨ad, rfl⟩ := (RowOk.some hr (by omega))
    have had : ad = ⟨ad.block, ad.off, none⟩ := by
      obtain ⟨n', hl, ⟨hv, hn⟩ | ⟨g', o, cap, cur, hv, _⟩⟩ := hr
      · cases hv
      · injection hv with e1 _ _; injection e1 with e1; rw [e1]
    have hcn : n ≤ c := by
      obtain ⟨A', n', c', hv, hn, _⟩ := hnc
      injection hv with _ e2 e3; omega
    rw [had] at hr ⊢
    have hadd : Addr.add ⟨ad.block, ad.off, none⟩ (j * ei.size) = ⟨ad.block, ad.off + j, none⟩ := by
      rw [hz1, Nat.mul_one, add_own]
    obtain ⟨w', k1, k2, k3⟩ := storeRow_run (P := P) hr (k := j) (l := List.replicate (n - j) z) (by simp; omega) (fun u hu => by rw [List.eq_of_mem_replicate hu]; exact hzp)
    refine ⟨w', List.replicate (n - j) z, ?_, ?_, by simp, k3⟩
    · rw [if_neg (by omega)]
      simp only [Option.map_some, hadd]
      obtain ⟨m, hm⟩ : ∃ m, n - j = m + 1 := ⟨n - j - 1, by omega⟩
      have hzc : (Builtin.zeroCells ei.z.cells (n - j)).toList = List.replicate (n - j) z := by
        rw [hz]
        simp [Builtin.zeroCells]
        apply List.ext_getElem
        · simp
        · intro i h1 h2
          simp [Nat.mod_one]
      rw [hm] at hzc k1 ⊢
      unfold Builtin.clear_
      simp only [List.getElem?_toArray, List.getElem?_cons_zero, Sem.run_bind, run_under hu, Result.andThen_ok]
      have hzv := run_zeroValue (w := w) (hty _ _ he)
      simp only [Sem.run_bind, hzv, Result.andThen_ok, hzc, k1, Sem.run_pure]
    · have : ovw xs j (List.replicate (n - j) z) = xs.take j ++ List.replicate (n - j) z := by
        unfold ovw
        rw [List.drop_of_length_le (by simp; omega), List.append_nil]
      rw [← this]; exact k2
theorem exec_clear {ρ : List Nat} {T : Tl} {x : Operand} {t type : TypeId} {dst : Option Tmp} {pos : String} {after : Array Edge} {guard : Option (Nat × Bool)} {v v' : Value} {w w' : World} (hx : evF ρ T x = v)
    (hrun : (Builtin.clear_ #[t] type #[v]).run P w = .ok v' w') : (execOp (evF ρ T) { dst, op := .call { callee := .builtin .clear, args := #[x], argTypes := #[t] }, type, pos, after, guard }).run P w = .ok (.value v') w' := by
  simp only [execOp, resolve, invoke, builtin, Sem.run_bind, Sem.run_pure, Result.andThen_ok, List.map_toArray, List.map_cons, List.map_nil, hx, hrun]
/-- clear(v[j:]), v being row number i. -/
theorem clearK (hty : TyOk P ty) {T : Tl} {ρ : List Nat} {E E0 : El} {R R0 : List Row} {pub pub0 : Nat → Prop} {s s0 : World} {K : St → Prop} {x : Operand} {t type : TypeId} {dst : Option Tmp} {pos : String} {after : Array Edge} {guard : Option (Nat × Bool)}
    {ti ei : TI} {e : TypeId} (ht : lk ty t = some ti) (hel : ti.elem = some e) (he : lk ty e = some ei) {z : Value} (hz : ei.z.cells = #[z]) (hz1 : ei.size = 1) (hzp : plainV z = true)
    {w : World} (hw : Wd b ⟨T, ρ, E, R, pub, s⟩ w) (i : Nat) {A : Option Addr} {n c j : Nat} {xs : List Value} (hi : R[i]? = some ⟨.slice A n c, e, 1, xs⟩) (hj : j ≤ n)
    (hx : evF ρ T x = .slice (if c = j then A else A.map (·.add (j * ei.size))) (n - j) (c - j))
    (hk : ∀ ys, ys.length = n - j → putK N dst (.v (.tuple #[])) ⟨T, ρ, E, R.set i ⟨.slice A n c, e, 1, xs.take j ++ ys⟩, pub, s⟩ K) :
    GenR P (AfterK N b dst ⟨T, ρ, E0, R0, pub0, s0⟩ K) ((execOp (evF ρ T) { dst, op := .call { callee := .builtin .clear, args := #[x], argTypes := #[t] }, type, pos, after, guard }).run P w) := by
  obtain ⟨w', ys, h1, h2, h3, h4⟩ := clear_run (P := P) (type := type) hty ht hel he hz hz1 hzp (hw.row _ (List.mem_of_getElem? hi)).1 hj
  rw [exec_clear hx h1]
  exact ⟨E, R.set i ⟨.slice A n c, e, 1, xs.take j ++ ys⟩, pub, s, hw.grow hi h4 h2 (.inr (.inl rfl)), hk ys h3⟩

/-- The start of a call that is handed a row to be written. -/
theorem Wd.startR {w : World} {r : Row} {T : Tl} {pub : Nat → Prop} (hr : RowOk w r) (hp : ∀ k, pub k → k < w.heap.size) (hp2 : ∀ k, rowB r.v = some k → ¬ pub k) :
    Wd ⟨w, fun k => rowB r.v = some k⟩ ⟨T, [], [], [r], pub, w⟩ w := by
  refine ⟨Only.refl _ _, Nat.le_refl _, fun k hk => ⟨hp k hk, rfl⟩, fun i c t' hi => ?_, fun i c t' hi => ?_, fun i j hi hj hne' => ?_, fun q hq => ?_, List.pairwise_singleton _ _⟩
  · simp [lk] at hi
  · simp [lk] at hi
  · simp [lk] at hi
  · rw [List.mem_singleton] at hq; subst hq
    exact ⟨hr, fun k hk => ⟨.inl hk, hp2 k hk, fun i hi => by simp [lk] at hi⟩⟩
/-- What a call leaves that was handed a row. -/
theorem Only.grown {w w' : World} {v : Value} (h : Only (fun k => rowB v = some k) w w') : w.grownBy w' (rowB v) := ⟨h.os, h.tape, h.output, h.size, fun k hk hne => h.block k hk (fun e => hne e.symm)⟩
/-- A nil row more. -/
theorem weak_nil {T : Tl} {ρ : List Nat} {E : El} {R : List Row} {pub : Nat → Prop} {s : World} (e : TypeId) (sz : Nat) : Weak N b ⟨T, ρ, E, R, pub, s⟩ ⟨T, ρ, E, ⟨.slice none 0 0, e, sz, []⟩ :: R, pub, s⟩ :=
  fun _ _ h => ⟨h.sz, h.df, h.tm, h.wd.addNil e sz⟩
theorem Weak.trans {st st' st'' : St} (h : Weak N b st st') (h' : Weak N b st' st'') : Weak N b st st'' := fun a w k => h' a w (h a w k)
/-- A row that is written no more: it may be read. -/
theorem Wd.publish {T : Tl} {ρ : List Nat} {E : El} {R : List Row} {pub : Nat → Prop} {s w : World} (h : Wd b ⟨T, ρ, E, R, pub, s⟩ w) {j : Nat} {r : Row} (hj : R[j]? = some r) :
    Wd b ⟨T, ρ, E, R.eraseIdx j, fun k => pub k ∨ rowB r.v = some k, w⟩ w := by
  have h' := h.now
  obtain ⟨lj, hj1⟩ := List.getElem?_eq_some_iff.1 hj
  have hmem : r ∈ R := List.mem_of_getElem? hj
  obtain ⟨r1, r2⟩ := h.row r hmem
  have hp := List.pairwise_iff_getElem.1 h.rinj
  refine ⟨h'.below, Nat.le_refl _, fun k hk => ⟨?_, rfl⟩, h'.ent, fun i c t hi => ⟨(h.entN i c t hi).1, (h.entN i c t hi).2.1, fun hk => ?_⟩, h'.inj, fun q hq => ?_, h'.rinj.sublist (List.eraseIdx_sublist R j)⟩
  · rcases hk with hk | hk
    · exact (h'.pub k hk).1
    · exact r1.lt hk
  · rcases hk with hk | hk
    · exact (h.entN i c t hi).2.2 hk
    · exact (r2 _ hk).2.2 i (by show (lk E i).isSome = true; simp only at hi; rw [hi]; rfl) rfl
  · obtain ⟨i, li, hi, hi1⟩ := List.mem_eraseIdx_iff_getElem.1 hq
    obtain ⟨k1, k2⟩ := h.row q (by rw [← hi1]; exact List.getElem_mem _)
    refine ⟨k1, fun g hg => ⟨(k2 g hg).1, fun hk => ?_, (k2 g hg).2.2⟩⟩
    rcases hk with hk | hk
    · exact (k2 g hg).2.1 hk
    · rcases Nat.lt_or_gt_of_ne hi with hlt | hlt
      · exact hp i j (by omega) lj hlt g (by rw [hi1]; exact hg) (by rw [hj1]; exact hk)
      · exact hp j i lj (by omega) hlt g (by rw [hj1]; exact hk) (by rw [hi1]; exact hg)
/-- resK, the state at hand not the one that the goal names. -/
theorem resK' {f : FuncId} {args : Array Value} {w : World} {Φ : Value → World → Prop} {dst : Option Tmp} {T : Tl} {ρ : List Nat} {E E0 : El} {R R0 : List Row} {pub pub0 : Nat → Prop} {s s0 : World} {K : St → Prop} (hc : Calls P f args w (Res w Φ)) (hw : Wd b ⟨T, ρ, E, R, pub, s⟩ w)
    (hk : ∀ v w', Φ v w' → Below w.heap.size w w' → Wd b ⟨T, ρ, E, R, extP pub w w', w'⟩ w' → putK N dst (.v v) ⟨T, ρ, E, R, extP pub w w', w'⟩ K) : Calls P f args w fun e w' => ∃ v, e = .returned v ∧ AfterK N b dst ⟨T, ρ, E0, R0, pub0, s0⟩ K v w' :=
  hc.mono fun _ w' ⟨v, he, hv, hb⟩ => ⟨v, he, E, R, extP pub w w', w', hw.call hb, hk v w' hv hb (hw.call hb)⟩
theorem extP_of {S : Nat → Prop} {w w1 w2 : World} {k : Nat} (h : ext S w1 k) (hk : k < w2.heap.size) : extP S w1 w2 k := h.elim .inl fun h => .inr ⟨h, hk⟩
theorem extP_ext {S pub : Nat → Prop} {w w1 w2 : World} (h : ∀ k, pub k → ext S w k) (hw : w.heap.size ≤ w1.heap.size) (k : Nat) (hk : extP pub w1 w2 k) : ext S w k := hk.elim (h k) fun h => .inr (Nat.le_trans hw h.1)
/-- A row that a call has made, as cells to be read. -/
theorem RowOk.pubCells {w w' : World} {A : Option Addr} {n c : Nat} {e : TypeId} {sz : Nat} {xs : List Value} (h : RowOk w' ⟨.slice A n c, e, sz, xs⟩) (hge : ∀ k, rowB (.slice A n c) = Option.some k → w.heap.size ≤ k) (pub : Nat → Prop) : Cells (extP pub w w') w' A xs :=
  h.cells rfl _ fun q hq => .inr ⟨hge q hq, h.lt hq⟩
end
end Go.Vc
namespace Go.Vc
open Go.RowKit
/-- api.Scheme: how many generic variables, a type. -/
structure Sc where
  g : Int
  t : Tp
def RepS (S : Nat → Prop) (w : World) (s : Sc) (v : Value) : Prop := ∃ A c, v = .agg #[.int .i64 s.g, .int .i64 s.t.k, .int .i64 s.t.n, .slice A s.t.kids.length c] ∧ s.t.kids.length ≤ c ∧ s.t.kids.length ≤ LIM ∧ RepKs S w s.t.kids A 0
theorem RepS.to {S S' : Nat → Prop} {w w' : World} (hs : Same S w w') (hS : ∀ k, S k → k < w.heap.size → S' k) {s : Sc} {v : Value} (h : RepS S w s v) : RepS S' w' s v := by
  obtain ⟨A, c, e, h1, h2, h3⟩ := h
  exact ⟨A, c, e, h1, h2, h3.to hs hS⟩
theorem RepS.typ {S : Nat → Prop} {w : World} {s : Sc} {A : Option Addr} {c : Nat} (h1 : s.t.kids.length ≤ c) (h2 : s.t.kids.length ≤ LIM) (h3 : RepKs S w s.t.kids A 0) : RepT S w s.t (.agg #[.int .i64 s.t.k, .int .i64 s.t.n, .slice A s.t.kids.length c]) := RepT.mk' h1 h2 h3
end Go.Vc
namespace Go.Vc
open Go.RowKit
theorem Wd.cellAt {b : Base} {T : Tl} {ρ : List Nat} {E : El} {R : List Row} {pub : Nat → Prop} {s w : World} (h : Wd b ⟨T, ρ, E, R, pub, s⟩ w) {i g o : Nat} {cs : List SV} {t : TypeId} {v : Value} (hg : ρ.getD i 0 = g) (hi : lk E i = some (cs, t)) (hv : (denL ρ cs)[o]? = some v) : w.cell? ⟨g, o, none⟩ = some v := by
  subst hg
  have := h.ent i cs t hi
  simp only at this
  rw [cell_own this, List.getElem?_toArray]
  exact hv
end Go.Vc
