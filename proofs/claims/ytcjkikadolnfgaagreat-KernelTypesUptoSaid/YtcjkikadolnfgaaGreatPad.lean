/- Texts of mine, joined: Vcl Vcm Vcn Vcz Vxa Vxb Vxc Vxd Vxe Vxf Vxg Vxh Vxi Vxj Vxk Vxl. -/
import Derived.Test.YtcjkikadolnfgaaGreatPac
import Derived.Laws.OwnMore
import Derived.OrdersHeld
import Derived.Scope
/- Rows cut, cleared, made. -/
set_option linter.unusedSimpArgs false
set_option linter.unusedVariables false
namespace Go.Vc
open Go.RowKit

section
variable {P : Program} {ty : List (Nat × TI)} {N : Nat} {b : Base}

/-- An operation that yields a value and leaves the world. -/
theorem valK {T : Tl} {ρ : List Nat} {E E0 : El} {R R0 : List Row} {pub pub0 : Nat → Prop} {s s0 : World} {K : St → Prop} {dst : Option Tmp} {r : Result Next} {v : Value} {w : World} (hw : Wd b ⟨T, ρ, E, R, pub, s⟩ w) (hr : r = .ok (.value v) w)
    (hk : putK N dst (.v v) ⟨T, ρ, E, R, pub, s⟩ K) : GenR P (AfterK N b dst ⟨T, ρ, E0, R0, pub0, s0⟩ K) r := by
  rw [hr]; exact ⟨E, R, pub, s, hw, hk⟩

theorem under_slice (hty : TyOk P ty) {t e : TypeId} {ti : TI} (ht : lk ty t = some ti) (hel : ti.elem = some e) : P.underlying t = some (.slice e) := by
  obtain ⟨y, dd, hy, hd, h1, h2, h3, h4, h5, h6, h7, h8⟩ := (hty _ _ ht).get
  rw [hel] at h6
  cases dd <;> simp only [elB] at h6 <;> try (cases h6; done)
  rw [hd, nbeq.1 h6]

theorem run_sliceBound' {w : World} {k : IntKind} {i : Int} {n : Nat} {c : BoundsCode} (h0 : 0 ≤ i) (h1 : i ≤ n) : (Instr.sliceBound (.int k i) n c).run P w = .ok i.toNat w := by
  unfold Instr.sliceBound
  have : (asIntOf (.int k i)).run P w = .ok (k, i) w := rfl
  rw [Sem.run_bind, this]
  simp only [Result.andThen_ok]
  rw [if_pos ⟨h0, h1⟩]; rfl
/-- x[lo:]. -/
theorem exec_sliceL (hty : TyOk P ty) {ρ : List Nat} {T : Tl} {x y : Operand} {t e type : TypeId} {dst : Option Tmp} {pos : String} {after : Array Edge} {guard : Option (Nat × Bool)} {ti ei : TI} (ht : lk ty t = some ti) (hel : ti.elem = some e) (he : lk ty e = some ei)
    {A : Option Addr} {n c : Nat} {k : IntKind} {j : Nat} {w : World} (hx : evF ρ T x = .slice A n c) (hy : evF ρ T y = .int k j) (hj : j ≤ n) :
    (execOp (evF ρ T) { dst, op := .slice t x (some y) none none, type, pos, after, guard }).run P w = .ok (.value (.slice (if c = j then A else A.map (·.add (j * ei.size))) (n - j) (c - j))) w := by
  simp only [execOp]
  refine run_val ?_
  have hu := under_slice hty ht hel
  rw [hx]
  simp only [Option.map_some, Option.map_none, hy, Instr.sliceAt, Sem.run_bind, run_under hu, Result.andThen_ok, Instr.slice, Instr.sliceBounds, Sem.run_pure]
  rw [run_sliceBound' (by omega) (by omega)]
  simp only [Result.andThen_ok, Sem.run_pure, run_sizeOf (hty _ _ he), Int.toNat_natCast]
/-- x[:hi]. -/
theorem exec_sliceH (hty : TyOk P ty) {ρ : List Nat} {T : Tl} {x y : Operand} {t e type : TypeId} {dst : Option Tmp} {pos : String} {after : Array Edge} {guard : Option (Nat × Bool)} {ti ei : TI} (ht : lk ty t = some ti) (hel : ti.elem = some e) (he : lk ty e = some ei)
    {A : Option Addr} {n c : Nat} {k : IntKind} {j : Nat} {w : World} (hx : evF ρ T x = .slice A n c) (hy : evF ρ T y = .int k j) (hj : j ≤ c) :
    (execOp (evF ρ T) { dst, op := .slice t x none (some y) none, type, pos, after, guard }).run P w = .ok (.value (.slice A j c)) w := by
  simp only [execOp]
  refine run_val ?_
  have hu := under_slice hty ht hel
  rw [hx]
  simp only [Option.map_some, Option.map_none, hy, Instr.sliceAt, Sem.run_bind, run_under hu, Result.andThen_ok, Instr.slice, Instr.sliceBounds, Sem.run_pure, if_true]
  rw [run_sliceBound' (by omega) (by omega)]
  simp only [Result.andThen_ok, Sem.run_pure, run_sizeOf (hty _ _ he), Int.toNat_natCast, Nat.zero_mul, Nat.sub_zero]
  have : A.map (·.add 0) = A := by cases A <;> simp [Addr.add]
  simp [this]

/-- A row's first elements. -/
theorem RowOk.cut {w : World} {A : Option Addr} {n c m : Nat} {e : TypeId} {sz : Nat} {xs : List Value} (h : RowOk w ⟨.slice A n c, e, sz, xs⟩) (hm : m ≤ n) : RowOk w ⟨.slice A m c, e, sz, xs.take (m * sz)⟩ := by
  obtain ⟨n', hl, ⟨hv, h0⟩ | ⟨g', o, cap, cur, hv, hh, q1, q2, q3, q4⟩⟩ := h
  · injection hv with e1 e2 e3
    have hm0 : m = 0 := by omega
    subst hm0; subst e1; subst e3
    simpa using RowOk.nil w e sz
  · injection hv with e1 e2 e3
    subst e1; subst e2; subst e3
    have hle : m * sz ≤ n * sz := Nat.mul_le_mul_right _ hm
    have hl' : xs.length = n * sz := hl
    refine ⟨m, by simp only [List.length_take]; omega, .inr ⟨g', o, c, cur, rfl, hh, by omega, q2, q3, ?_⟩⟩
    have q4' : (cur.toList.drop o).take (n * sz) = xs := q4
    rw [← q4', List.take_take, Nat.min_eq_left hle]

/-- A row's last elements. -/
theorem RowOk.tail {w : World} {A : Option Addr} {n c j : Nat} {e : TypeId} {sz : Nat} {xs : List Value} (h : RowOk w ⟨.slice A n c, e, sz, xs⟩) (hj : j ≤ n) : RowOk w ⟨.slice (if c = j then A else A.map (·.add (j * sz))) (n - j) (c - j), e, sz, xs.drop (j * sz)⟩ := by
  have h' := h
  obtain ⟨n', hl, ⟨hv, h0⟩ | ⟨g', o, cap, cur, hv, hh, q1, q2, q3, q4⟩⟩ := h
  · injection hv with e1 e2 e3
    have hj0 : j = 0 := by omega
    subst hj0; subst e1; subst e3; subst e2
    simpa using h'
  · injection hv with e1 e2 e3
    subst e1; subst e2; subst e3
    have hl' : xs.length = n * sz := hl
    have q4' : (cur.toList.drop o).take (n * sz) = xs := q4
    simp only at q3
    by_cases hc : c = j
    · subst hc
      have hnc : n = c := by omega
      subst hnc
      rw [if_pos rfl, Nat.sub_self]
      refine ⟨0, by simp; omega, .inr ⟨g', o, 0, cur, rfl, hh, Nat.le_refl _, Nat.zero_le _, by simp; omega, ?_⟩⟩
      simp; omega
    · rw [if_neg hc]
      simp only [Option.map_some, add_own]
      refine ⟨n - j, by simp [hl', Nat.sub_mul], .inr ⟨g', o + j * sz, c - j, cur, rfl, hh, by omega, by omega, ?_, ?_⟩⟩
      · have : j * sz ≤ c * sz := Nat.mul_le_mul_right _ (by omega)
        simp only [Nat.sub_mul]; omega
      · simp only
        rw [← q4', List.drop_take, List.drop_drop, Nat.sub_mul]
theorem rowB_tail {A : Option Addr} {n c j k : Nat} : rowB (.slice (if c = j then A else A.map (·.add k)) n c) = rowB (.slice A n c) := by
  split
  · rfl
  · cases A with
    | none => rfl
    | some a => simp [rowB, add_block]
/-- v[j:], v being row number i; what was there of v is the row of the new slice. -/
theorem tailK (hty : TyOk P ty) {T : Tl} {ρ : List Nat} {E E0 : El} {R R0 : List Row} {pub pub0 : Nat → Prop} {s s0 : World} {K : St → Prop} {x y : Operand} {t type : TypeId} {dst : Option Tmp} {pos : String} {after : Array Edge} {guard : Option (Nat × Bool)}
    {ti ei : TI} {e : TypeId} (ht : lk ty t = some ti) (hel : ti.elem = some e) (he : lk ty e = some ei)
    {w : World} (hw : Wd b ⟨T, ρ, E, R, pub, s⟩ w) (i : Nat) {A : Option Addr} {n c : Nat} {xs : List Value} (hi : R[i]? = some ⟨.slice A n c, e, ei.size, xs⟩) {k : IntKind} {j : Nat} (hj : j ≤ n)
    (hx : evF ρ T x = .slice A n c) (hy : evF ρ T y = .int k j)
    (hk : ∀ A', (n - j ≠ 0 → ∃ ad, A' = Option.some ad) → putK N dst (.v (.slice A' (n - j) (c - j))) ⟨T, ρ, E, R.set i ⟨.slice A' (n - j) (c - j), e, ei.size, xs.drop (j * ei.size)⟩, pub, s⟩ K) :
    GenR P (AfterK N b dst ⟨T, ρ, E0, R0, pub0, s0⟩ K) ((execOp (evF ρ T) { dst, op := .slice t x (some y) none none, type, pos, after, guard }).run P w) := by
  rw [exec_sliceL hty ht hel he hx hy hj]
  refine ⟨E, R.set i ⟨.slice (if c = j then A else A.map (·.add (j * ei.size))) (n - j) (c - j), e, ei.size, xs.drop (j * ei.size)⟩, pub, s, hw.grow hi (World.grownBy.refl w _) ((hw.row _ (List.mem_of_getElem? hi)).1.tail hj) (.inr (.inl ?_)), hk _ ((hw.row _ (List.mem_of_getElem? hi)).1.tail hj).some⟩
  simp only
  split
  · cases A <;> rfl
  · cases A with
    | none => rfl
    | some a => simp [rowB, add_block]

/-- make([]E, n): a row of zeros. -/
theorem make_run (hty : TyOk P ty) {t e : TypeId} {ti ei : TI} (ht : lk ty t = some ti) (hel : ti.elem = some e) (he : lk ty e = some ei) {w : World} {kl kc : IntKind} {n : Nat} (hb : ei.bytes * n ≤ 281474976710656) (hm : n ≤ maxLen) :
    ∃ w', (Instr.makeSlice t (.int kl (n : Int)) (.int kc (n : Int))).run P w = .ok (.slice (some ⟨w.heap.size, 0, none⟩) n n) w' ∧ RowOk w' ⟨.slice (some ⟨w.heap.size, 0, none⟩) n n, e, ei.size, (madeCells ei.z.cells (n * ei.size)).toList⟩ ∧ Below w.heap.size w w' := by
  have hu := under_slice hty ht hel
  obtain ⟨y', dd', hy', hd', g1, g2, g3, g4, g5, g6, g7, g8⟩ := (hty _ _ he).get
  obtain ⟨w', h1, ⟨q1, ⟨hv, hn⟩ | ⟨g, cap, cur, hv, _, q2, q3, q4, q5, q6⟩⟩, h3⟩ := run_make_full (P := P) w 0 t e y' ei.z ei.size hu hy' g3 g1 kl kc n (by rw [g2]; exact hb) hm (Nat.zero_le _)
  · cases hv
  · refine ⟨w', h1, ⟨n, q1, .inr ⟨g, 0, cap, cur, hv, q2, q3, q4, by rw [q5]; simp, q6⟩⟩, ⟨h3.os, h3.tape, h3.output, h3.size, fun k hk => h3.block k hk (fun h => by cases h)⟩⟩
/-- make([]E, n). -/
theorem makeK (hty : TyOk P ty) {T : Tl} {ρ : List Nat} {E E0 : El} {R R0 : List Row} {pub pub0 : Nat → Prop} {s s0 : World} {K : St → Prop} {x y : Operand} {t type : TypeId} {dst : Option Tmp} {pos : String} {after : Array Edge} {guard : Option (Nat × Bool)}
    {ti ei : TI} {e : TypeId} (ht : lk ty t = some ti) (hel : ti.elem = some e) (he : lk ty e = some ei) {w : World} (hw : Wd b ⟨T, ρ, E, R, pub, s⟩ w) {kl kc : IntKind} {n : Nat} (hx : evF ρ T x = .int kl (n : Int)) (hy : evF ρ T y = .int kc (n : Int)) (hb : ei.bytes * n ≤ 281474976710656) (hm : n ≤ maxLen)
    (hk : ∀ ad, putK N dst (.v (.slice (some ad) n n)) ⟨T, ρ, E, ⟨.slice (some ad) n n, e, ei.size, (madeCells ei.z.cells (n * ei.size)).toList⟩ :: R, pub, s⟩ K) :
    GenR P (AfterK N b dst ⟨T, ρ, E0, R0, pub0, s0⟩ K) ((execOp (evF ρ T) { dst, op := .makeSlice t x y, type, pos, after, guard }).run P w) := by
  obtain ⟨w', h1, h2, h3⟩ := make_run (P := P) (w := w) (kl := kl) (kc := kc) hty ht hel he hb hm
  have hrun : (execOp (evF ρ T) { dst, op := .makeSlice t x y, type, pos, after, guard }).run P w = .ok (.value (.slice (some ⟨w.heap.size, 0, none⟩) n n)) w' := by
    simp only [execOp]
    refine run_val ?_
    rw [hx, hy]; exact h1
  rw [hrun]
  exact ⟨E, _, pub, s, hw.add h3 h2 (fun g hg => by simp [rowB] at hg; omega), hk _⟩

/-- appendK, told besides that what is not empty lies somewhere. -/
theorem appendK' (hty : TyOk P ty) {T : Tl} {ρ : List Nat} {E E0 : El} {R R0 : List Row} {pub pub0 : Nat → Prop} {s s0 : World} {K : St → Prop} {x y : Operand} {t type : TypeId} {dst : Option Tmp} {pos : String} {after : Array Edge} {guard : Option (Nat × Bool)}
    {ti ei : TI} {e : TypeId} (ht : lk ty t = some ti) (hel : ti.elem = some e) (he : lk ty e = some ei) (hz : ei.z.cells.size = ei.size) (h0 : 0 < ei.size) (hb0 : 0 < ei.bytes)
    {w : World} (hw : Wd b ⟨T, ρ, E, R, pub, s⟩ w) (j : Nat) {A : Option Addr} {n c : Nat} {xs : List Value} (hj : R[j]? = some ⟨.slice A n c, e, ei.size, xs⟩) (hx : evF ρ T x = .slice A n c)
    {B : Option Addr} {m d : Nat} {ys : List Value} (hy : evF ρ T y = .slice B m d) {S : Nat → Prop} (hys : ys.length = m * ei.size) (hc : Cells S w B ys) (hp : ∀ u ∈ ys, u.oneCell' = true) (hlim : (n + m) * ei.bytes ≤ 140737488355328)
    (hk : ∀ A' c', (n + m ≠ 0 → ∃ ad, A' = some ad) → putK N dst (.v (.slice A' (n + m) c')) ⟨T, ρ, E, R.set j ⟨.slice A' (n + m) c', e, ei.size, xs ++ ys⟩, pub, s⟩ K) :
    GenR P (AfterK N b dst ⟨T, ρ, E0, R0, pub0, s0⟩ K) ((execOp (evF ρ T) { dst, op := .call { callee := .builtin .append, args := #[x, y], argTypes := #[t, t] }, type, pos, after, guard }).run P w) := by
  obtain ⟨A', c', w', h1, h2, h3, h4⟩ := append_run hty ht hel he hz h0 (hw.row _ (List.mem_of_getElem? hj)).1 hys hc hp hlim hb0 type
  rw [exec_append hx hy h1]
  exact ⟨E, R.set j ⟨.slice A' (n + m) c', e, ei.size, xs ++ ys⟩, pub, s, hw.grow hj h3 h2 (h4.elim (fun h => .inr (.inl h)) (fun h => .inr (.inr ⟨_, h, Nat.le_refl _⟩))), hk A' c' h2.some⟩

/-- clear(v[j:]) of a row of single cells. -/
theorem clear_run (hty : TyOk P ty) {t e type : TypeId} {ti ei : TI} (ht : lk ty t = some ti) (hel : ti.elem = some e) (he : lk ty e = some ei) {z : Value} (hz : ei.z.cells = #[z]) (hz1 : ei.size = 1) (hzp : plainV z = true)
    {w : World} {A : Option Addr} {n c j : Nat} {xs : List Value} (hr : RowOk w ⟨.slice A n c, e, 1, xs⟩) (hj : j ≤ n) :
    ∃ w' ys, (Builtin.clear_ #[t] type #[.slice (if c = j then A else A.map (·.add (j * ei.size))) (n - j) (c - j)]).run P w = .ok (.tuple #[]) w' ∧ RowOk w' ⟨.slice A n c, e, 1, xs.take j ++ ys⟩ ∧ ys.length = n - j ∧ w.grownBy w' (rowB (.slice A n c)) := by
  have hu := under_slice hty ht hel
  have hxl : xs.length = n := by
    obtain ⟨A', n', c', hv, _, hl⟩ := hr.form
    injection hv with _ e2 _
    simp only [Nat.mul_one] at hl
    omega
  have hnc := hr.form
  by_cases hz0 : n - j = 0
  · have hnj : n = j := by omega
    subst hnj
    refine ⟨w, [], ?_, ?_, by simp, World.grownBy.refl w _⟩
    · rw [Nat.sub_self]
      unfold Builtin.clear_
      simp only [List.getElem?_toArray, List.getElem?_cons_zero, Sem.run_bind, run_under hu, Result.andThen_ok]
      generalize (if c = n then A else A.map (·.add (n * ei.size))) = B
      cases B <;> rfl
    · rw [List.append_nil, List.take_of_length_le (by omega)]; exact hr
  · obtain ⟨ad, rfl⟩ := (RowOk.some hr (by omega))
    have had : ad = ⟨ad.block, ad.off, none⟩ := by
      obtain ⟨n', hl, ⟨hv, hn⟩ | ⟨g', o, cap, cur, hv, _⟩⟩ := hr
      · cases hv
      · injection hv with e1 _ _; injection e1 with e1; rw [e1]
    have hcn : n ≤ c := by
      obtain ⟨A', n', c', hv, hn, _⟩ := hnc
      injection hv with _ e2 e3; omega
    rw [had] at hr ⊢
    have hadd : Addr.add ⟨ad.block, ad.off, none⟩ (j * ei.size) = ⟨ad.block, ad.off + j, none⟩ := by
      rw [hz1, Nat.mul_one, add_own]
    obtain ⟨w', k1, k2, k3⟩ := storeRow_run (P := P) hr (k := j) (l := List.replicate (n - j) z) (by simp; omega) (fun u hu => by rw [List.eq_of_mem_replicate hu]; exact hzp)
    refine ⟨w', List.replicate (n - j) z, ?_, ?_, by simp, k3⟩
    · rw [if_neg (by omega)]
      simp only [Option.map_some, hadd]
      obtain ⟨m, hm⟩ : ∃ m, n - j = m + 1 := ⟨n - j - 1, by omega⟩
      have hzc : (Builtin.zeroCells ei.z.cells (n - j)).toList = List.replicate (n - j) z := by
        rw [hz]
        simp [Builtin.zeroCells]
        apply List.ext_getElem
        · simp
        · intro i h1 h2
          simp [Nat.mod_one]
      rw [hm] at hzc k1 ⊢
      unfold Builtin.clear_
      simp only [List.getElem?_toArray, List.getElem?_cons_zero, Sem.run_bind, run_under hu, Result.andThen_ok]
      have hzv := run_zeroValue (w := w) (hty _ _ he)
      simp only [Sem.run_bind, hzv, Result.andThen_ok, hzc, k1, Sem.run_pure]
    · have : ovw xs j (List.replicate (n - j) z) = xs.take j ++ List.replicate (n - j) z := by
        unfold ovw
        rw [List.drop_of_length_le (by simp; omega), List.append_nil]
      rw [← this]; exact k2
theorem exec_clear {ρ : List Nat} {T : Tl} {x : Operand} {t type : TypeId} {dst : Option Tmp} {pos : String} {after : Array Edge} {guard : Option (Nat × Bool)} {v v' : Value} {w w' : World} (hx : evF ρ T x = v)
    (hrun : (Builtin.clear_ #[t] type #[v]).run P w = .ok v' w') : (execOp (evF ρ T) { dst, op := .call { callee := .builtin .clear, args := #[x], argTypes := #[t] }, type, pos, after, guard }).run P w = .ok (.value v') w' := by
  simp only [execOp, resolve, invoke, builtin, Sem.run_bind, Sem.run_pure, Result.andThen_ok, List.map_toArray, List.map_cons, List.map_nil, hx, hrun]
/-- clear(v[j:]), v being row number i. -/
theorem clearK (hty : TyOk P ty) {T : Tl} {ρ : List Nat} {E E0 : El} {R R0 : List Row} {pub pub0 : Nat → Prop} {s s0 : World} {K : St → Prop} {x : Operand} {t type : TypeId} {dst : Option Tmp} {pos : String} {after : Array Edge} {guard : Option (Nat × Bool)}
    {ti ei : TI} {e : TypeId} (ht : lk ty t = some ti) (hel : ti.elem = some e) (he : lk ty e = some ei) {z : Value} (hz : ei.z.cells = #[z]) (hz1 : ei.size = 1) (hzp : plainV z = true)
    {w : World} (hw : Wd b ⟨T, ρ, E, R, pub, s⟩ w) (i : Nat) {A : Option Addr} {n c j : Nat} {xs : List Value} (hi : R[i]? = some ⟨.slice A n c, e, 1, xs⟩) (hj : j ≤ n)
    (hx : evF ρ T x = .slice (if c = j then A else A.map (·.add (j * ei.size))) (n - j) (c - j))
    (hk : ∀ ys, ys.length = n - j → putK N dst (.v (.tuple #[])) ⟨T, ρ, E, R.set i ⟨.slice A n c, e, 1, xs.take j ++ ys⟩, pub, s⟩ K) :
    GenR P (AfterK N b dst ⟨T, ρ, E0, R0, pub0, s0⟩ K) ((execOp (evF ρ T) { dst, op := .call { callee := .builtin .clear, args := #[x], argTypes := #[t] }, type, pos, after, guard }).run P w) := by
  obtain ⟨w', ys, h1, h2, h3, h4⟩ := clear_run (P := P) (type := type) hty ht hel he hz hz1 hzp (hw.row _ (List.mem_of_getElem? hi)).1 hj
  rw [exec_clear hx h1]
  exact ⟨E, R.set i ⟨.slice A n c, e, 1, xs.take j ++ ys⟩, pub, s, hw.grow hi h4 h2 (.inr (.inl rfl)), hk ys h3⟩

/-- The start of a call that is handed a row to be written. -/
theorem Wd.startR {w : World} {r : Row} {T : Tl} {pub : Nat → Prop} (hr : RowOk w r) (hp : ∀ k, pub k → k < w.heap.size) (hp2 : ∀ k, rowB r.v = some k → ¬ pub k) :
    Wd ⟨w, fun k => rowB r.v = some k⟩ ⟨T, [], [], [r], pub, w⟩ w := by
  refine ⟨Only.refl _ _, Nat.le_refl _, fun k hk => ⟨hp k hk, rfl⟩, fun i c t' hi => ?_, fun i c t' hi => ?_, fun i j hi hj hne' => ?_, fun q hq => ?_, List.pairwise_singleton _ _⟩
  · simp [lk] at hi
  · simp [lk] at hi
  · simp [lk] at hi
  · rw [List.mem_singleton] at hq; subst hq
    exact ⟨hr, fun k hk => ⟨.inl hk, hp2 k hk, fun i hi => by simp [lk] at hi⟩⟩
/-- What a call leaves that was handed a row. -/
theorem Only.grown {w w' : World} {v : Value} (h : Only (fun k => rowB v = some k) w w') : w.grownBy w' (rowB v) := ⟨h.os, h.tape, h.output, h.size, fun k hk hne => h.block k hk (fun e => hne e.symm)⟩
/-- A nil row more. -/
theorem weak_nil {T : Tl} {ρ : List Nat} {E : El} {R : List Row} {pub : Nat → Prop} {s : World} (e : TypeId) (sz : Nat) : Weak N b ⟨T, ρ, E, R, pub, s⟩ ⟨T, ρ, E, ⟨.slice none 0 0, e, sz, []⟩ :: R, pub, s⟩ :=
  fun _ _ h => ⟨h.sz, h.df, h.tm, h.wd.addNil e sz⟩
theorem Weak.trans {st st' st'' : St} (h : Weak N b st st') (h' : Weak N b st' st'') : Weak N b st st'' := fun a w k => h' a w (h a w k)
/-- A row that is written no more: it may be read. -/
theorem Wd.publish {T : Tl} {ρ : List Nat} {E : El} {R : List Row} {pub : Nat → Prop} {s w : World} (h : Wd b ⟨T, ρ, E, R, pub, s⟩ w) {j : Nat} {r : Row} (hj : R[j]? = some r) :
    Wd b ⟨T, ρ, E, R.eraseIdx j, fun k => pub k ∨ rowB r.v = some k, w⟩ w := by
  have h' := h.now
  obtain ⟨lj, hj1⟩ := List.getElem?_eq_some_iff.1 hj
  have hmem : r ∈ R := List.mem_of_getElem? hj
  obtain ⟨r1, r2⟩ := h.row r hmem
  have hp := List.pairwise_iff_getElem.1 h.rinj
  refine ⟨h'.below, Nat.le_refl _, fun k hk => ⟨?_, rfl⟩, h'.ent, fun i c t hi => ⟨(h.entN i c t hi).1, (h.entN i c t hi).2.1, fun hk => ?_⟩, h'.inj, fun q hq => ?_, h'.rinj.sublist (List.eraseIdx_sublist R j)⟩
  · rcases hk with hk | hk
    · exact (h'.pub k hk).1
    · exact r1.lt hk
  · rcases hk with hk | hk
    · exact (h.entN i c t hi).2.2 hk
    · exact (r2 _ hk).2.2 i (by show (lk E i).isSome = true; simp only at hi; rw [hi]; rfl) rfl
  · obtain ⟨i, li, hi, hi1⟩ := List.mem_eraseIdx_iff_getElem.1 hq
    obtain ⟨k1, k2⟩ := h.row q (by rw [← hi1]; exact List.getElem_mem _)
    refine ⟨k1, fun g hg => ⟨(k2 g hg).1, fun hk => ?_, (k2 g hg).2.2⟩⟩
    rcases hk with hk | hk
    · exact (k2 g hg).2.1 hk
    · rcases Nat.lt_or_gt_of_ne hi with hlt | hlt
      · exact hp i j (by omega) lj hlt g (by rw [hi1]; exact hg) (by rw [hj1]; exact hk)
      · exact hp j i lj (by omega) hlt g (by rw [hj1]; exact hk) (by rw [hi1]; exact hg)
/-- resK, the state at hand not the one that the goal names. -/
theorem resK' {f : FuncId} {args : Array Value} {w : World} {Φ : Value → World → Prop} {dst : Option Tmp} {T : Tl} {ρ : List Nat} {E E0 : El} {R R0 : List Row} {pub pub0 : Nat → Prop} {s s0 : World} {K : St → Prop} (hc : Calls P f args w (Res w Φ)) (hw : Wd b ⟨T, ρ, E, R, pub, s⟩ w)
    (hk : ∀ v w', Φ v w' → Below w.heap.size w w' → Wd b ⟨T, ρ, E, R, extP pub w w', w'⟩ w' → putK N dst (.v v) ⟨T, ρ, E, R, extP pub w w', w'⟩ K) : Calls P f args w fun e w' => ∃ v, e = .returned v ∧ AfterK N b dst ⟨T, ρ, E0, R0, pub0, s0⟩ K v w' :=
  hc.mono fun _ w' ⟨v, he, hv, hb⟩ => ⟨v, he, E, R, extP pub w w', w', hw.call hb, hk v w' hv hb (hw.call hb)⟩
theorem extP_of {S : Nat → Prop} {w w1 w2 : World} {k : Nat} (h : ext S w1 k) (hk : k < w2.heap.size) : extP S w1 w2 k := h.elim .inl fun h => .inr ⟨h, hk⟩
theorem extP_ext {S pub : Nat → Prop} {w w1 w2 : World} (h : ∀ k, pub k → ext S w k) (hw : w.heap.size ≤ w1.heap.size) (k : Nat) (hk : extP pub w1 w2 k) : ext S w k := hk.elim (h k) fun h => .inr (Nat.le_trans hw h.1)
/-- A row that a call has made, as cells to be read. -/
theorem RowOk.pubCells {w w' : World} {A : Option Addr} {n c : Nat} {e : TypeId} {sz : Nat} {xs : List Value} (h : RowOk w' ⟨.slice A n c, e, sz, xs⟩) (hge : ∀ k, rowB (.slice A n c) = Option.some k → w.heap.size ≤ k) (pub : Nat → Prop) : Cells (extP pub w w') w' A xs :=
  h.cells rfl _ fun q hq => .inr ⟨hge q hq, h.lt hq⟩
end
end Go.Vc
namespace Go.Vc
open Go.RowKit
/-- api.Scheme: how many generic variables, a type. -/
structure Sc where
  g : Int
  t : Tp
def RepS (S : Nat → Prop) (w : World) (s : Sc) (v : Value) : Prop := ∃ A c, v = .agg #[.int .i64 s.g, .int .i64 s.t.k, .int .i64 s.t.n, .slice A s.t.kids.length c] ∧ s.t.kids.length ≤ c ∧ s.t.kids.length ≤ LIM ∧ RepKs S w s.t.kids A 0
theorem RepS.to {S S' : Nat → Prop} {w w' : World} (hs : Same S w w') (hS : ∀ k, S k → k < w.heap.size → S' k) {s : Sc} {v : Value} (h : RepS S w s v) : RepS S' w' s v := by
  obtain ⟨A, c, e, h1, h2, h3⟩ := h
  exact ⟨A, c, e, h1, h2, h3.to hs hS⟩
theorem RepS.typ {S : Nat → Prop} {w : World} {s : Sc} {A : Option Addr} {c : Nat} (h1 : s.t.kids.length ≤ c) (h2 : s.t.kids.length ≤ LIM) (h3 : RepKs S w s.t.kids A 0) : RepT S w s.t (.agg #[.int .i64 s.t.k, .int .i64 s.t.n, .slice A s.t.kids.length c]) := RepT.mk' h1 h2 h3
end Go.Vc
namespace Go.Vc
open Go.RowKit
theorem Wd.cellAt {b : Base} {T : Tl} {ρ : List Nat} {E : El} {R : List Row} {pub : Nat → Prop} {s w : World} (h : Wd b ⟨T, ρ, E, R, pub, s⟩ w) {i g o : Nat} {cs : List SV} {t : TypeId} {v : Value} (hg : ρ.getD i 0 = g) (hi : lk E i = some (cs, t)) (hv : (denL ρ cs)[o]? = some v) : w.cell? ⟨g, o, none⟩ = some v := by
  subst hg
  have := h.ent i cs t hi
  simp only at this
  rw [cell_own this, List.getElem?_toArray]
  exact hv
end Go.Vc

/- What may be read grows: calls that make memory, rows that are written no more. -/
namespace Go.Vc
open Go.RowKit

/-- What might be read in one state reads alike in a later one, in which more may be read. -/
structure Step (b : Base) (pub : Nat → Prop) (s w : World) (pub' : Nat → Prop) (w' : World) : Prop where
  up : ∀ k, pub k → pub' k
  old : ∀ k, pub k → k < s.heap.size
  new : ∀ k, w.heap.size ≤ k → k < w'.heap.size → pub' k
  bk : ∀ k, pub' k → pub k ∨ b.mine k
  sm : Same pub s w'
  below : Below w.heap.size w w'
theorem Step.held {b : Base} {pub pub' : Nat → Prop} {s w w' : World} (h : Step b pub s w pub' w') {T : Tl} {ρ : List Nat} {E : El} {R : List Row} : HeldW pub s ⟨T, ρ, E, R, pub', w'⟩ := fun k hk => ⟨h.up k hk, h.sm k hk (h.old k hk)⟩
theorem Step.nw {b : Base} {pub pub' : Nat → Prop} {s w w' : World} (h : Step b pub s w pub' w') (k : Nat) (hk : ext pub w k) (hl : k < w'.heap.size) : pub' k := hk.elim (h.up k) fun h' => h.new k h' hl
theorem Step.fr {b : Base} {pub pub' S : Nat → Prop} {s w w' : World} (h : Step b pub s w pub' w') (hp : ∀ k, pub k → S k ∨ b.mine k) (k : Nat) (hk : pub' k) : S k ∨ b.mine k := (h.bk k hk).elim (hp k) .inr
theorem RepT.mv {b : Base} {pub pub' : Nat → Prop} {s w w' : World} {t : Tp} {v : Value} (h : RepT pub s t v) (st : Step b pub s w pub' w') : RepT pub' w' t v := h.to st.sm fun k h _ => st.up k h
theorem RepKs.mv {b : Base} {pub pub' : Nat → Prop} {s w w' : World} {t : List Tp} {A : Option Addr} {j : Nat} (h : RepKs pub s t A j) (st : Step b pub s w pub' w') : RepKs pub' w' t A j := h.to st.sm fun k h _ => st.up k h
theorem RepL.mv {b : Base} {pub pub' : Nat → Prop} {s w w' : World} {t : List Tp} {v : Value} (h : RepL pub s t v) (st : Step b pub s w pub' w') : RepL pub' w' t v := h.to st.sm fun k h _ => st.up k h
theorem RepI.mv {b : Base} {pub pub' : Nat → Prop} {s w w' : World} {t : List Int} {v : Value} (h : RepI pub s t v) (st : Step b pub s w pub' w') : RepI pub' w' t v := h.to st.sm fun k h _ => st.up k h
theorem RepS.mv {b : Base} {pub pub' : Nat → Prop} {s w w' : World} {t : Sc} {v : Value} (h : RepS pub s t v) (st : Step b pub s w pub' w') : RepS pub' w' t v := h.to st.sm fun k h _ => st.up k h
theorem Cells.mv {b : Base} {pub pub' : Nat → Prop} {s w w' : World} {A : Option Addr} {l : List Value} (h : Cells pub s A l) (st : Step b pub s w pub' w') : Cells pub' w' A l := h.to st.sm fun k h _ => st.up k h
theorem RepFlat.mv {b : Base} {pub pub' : Nat → Prop} {s w w' : World} {ts : List Tp} {l : List Value} (h : RepFlat pub s ts l) (st : Step b pub s w pub' w') : RepFlat pub' w' ts l := h.to st.sm fun k h _ => st.up k h
theorem RepT.nw {b : Base} {pub pub' : Nat → Prop} {s w w' : World} {t : Tp} {v : Value} (h : RepT (ext pub w) w' t v) (st : Step b pub s w pub' w') : RepT pub' w' t v := h.to (Same.rfl' _ _) st.nw
theorem RepKs.nw {b : Base} {pub pub' : Nat → Prop} {s w w' : World} {t : List Tp} {A : Option Addr} {j : Nat} (h : RepKs (ext pub w) w' t A j) (st : Step b pub s w pub' w') : RepKs pub' w' t A j := h.to (Same.rfl' _ _) st.nw
theorem RepL.nw {b : Base} {pub pub' : Nat → Prop} {s w w' : World} {t : List Tp} {v : Value} (h : RepL (ext pub w) w' t v) (st : Step b pub s w pub' w') : RepL pub' w' t v := h.to (Same.rfl' _ _) st.nw
theorem RepS.nw {b : Base} {pub pub' : Nat → Prop} {s w w' : World} {t : Sc} {v : Value} (h : RepS (ext pub w) w' t v) (st : Step b pub s w pub' w') : RepS pub' w' t v := h.to (Same.rfl' _ _) st.nw
theorem RowOk.nw {b : Base} {pub pub' : Nat → Prop} {s w w' : World} {A : Option Addr} {n c : Nat} {e : TypeId} {sz : Nat} {xs : List Value} (h : RowOk w' ⟨.slice A n c, e, sz, xs⟩) (hge : ∀ k, rowB (.slice A n c) = Option.some k → w.heap.size ≤ k) (st : Step b pub s w pub' w') : Cells pub' w' A xs :=
  h.cells rfl _ fun q hq => st.new q (hge q hq) (h.lt hq)

section
variable {P : Program} {N : Nat} {b : Base}
theorem Wd.step {st : St} {w w' : World} (h : Wd b st w) (hb : Below w.heap.size w w') : Step b st.pub st.s w (extP st.pub w w') w' := by
  refine ⟨fun _ h => .inl h, fun k hk => (h.pub k hk).1, fun k h1 h2 => .inr ⟨h1, h2⟩, fun k hk => ?_, h.pass hb, hb⟩
  exact hk.elim .inl fun hk => .inr (.inr (Nat.le_trans h.below.size hk.1))
/-- Behind a call that leaves what was there. -/
theorem resN {f : FuncId} {args : Array Value} {w : World} {Φ : Value → World → Prop} {dst : Option Tmp} {T : Tl} {ρ : List Nat} {E E0 : El} {R R0 : List Row} {pub pub0 : Nat → Prop} {s s0 : World} {K : St → Prop} (hc : Calls P f args w (Res w Φ)) (hw : Wd b ⟨T, ρ, E, R, pub, s⟩ w)
    (hk : ∀ v w' pub', Φ v w' → Step b pub s w pub' w' → putK N dst (.v v) ⟨T, ρ, E, R, pub', w'⟩ K) : Calls P f args w fun e w' => ∃ v, e = .returned v ∧ AfterK N b dst ⟨T, ρ, E0, R0, pub0, s0⟩ K v w' :=
  hc.mono fun _ w' ⟨v, he, hv, hb⟩ => ⟨v, he, E, R, extP pub w w', w', hw.call hb, hk v w' _ hv (hw.step hb)⟩
/-- A row that is written no more may be read. -/
theorem Wd.pubN {T : Tl} {ρ : List Nat} {E : El} {R : List Row} {pub : Nat → Prop} {s w : World} (h : Wd b ⟨T, ρ, E, R, pub, s⟩ w) {j : Nat} {A : Option Addr} {n c : Nat} {e : TypeId} {sz : Nat} {xs : List Value} (hj : R[j]? = some ⟨.slice A n c, e, sz, xs⟩) :
    ∃ pub', Wd b ⟨T, ρ, E, R.eraseIdx j, pub', w⟩ w ∧ Step b pub s w pub' w ∧ Cells pub' w A xs := by
  obtain ⟨r1, r2⟩ := h.row _ (List.mem_of_getElem? hj)
  refine ⟨_, h.publish hj, ⟨fun k hk => .inl hk, fun k hk => (h.pub k hk).1, fun k h1 h2 => by omega, fun k hk => ?_, h.same, Below.refl _ _⟩, r1.cells rfl _ fun q hq => .inr hq⟩
  exact hk.elim .inl fun hk => .inr (r2 k hk).1
end
theorem mine0 {S : Nat → Prop} {w : World} {k : Nat} (h : S k ∨ Base.mine ⟨w, fun _ => False⟩ k) : ext S w k := h.elim .inl fun h => .inr (h.elim False.elim id)
/-- A fact at the end of a call. -/
theorem ends {S pub : Nat → Prop} {w : World} (h : ∀ k, pub k → S k ∨ Base.mine ⟨w, fun _ => False⟩ k) {s : World} (k : Nat) (hk : pub k) (_ : k < s.heap.size) : ext S w k := mine0 (h k hk)
end Go.Vc

/- Elements of rows; rows of zeros. -/
namespace Go.Vc
open Go.RowKit

theorem RepFlat.atI {S : Nat → Prop} {w : World} : ∀ {ts : List Tp} {xs : List Value} {i : Nat} (_h : RepFlat S w ts xs) (hi : i < ts.length), ∃ ys v0 v1 v2 zs, xs = ys ++ v0 :: v1 :: v2 :: zs ∧ ys.length = i * 3 ∧ RepT S w ts[i] (.agg #[v0, v1, v2]) ∧
    ∀ u u0 u1 u2, RepT S w u (.agg #[u0, u1, u2]) → RepFlat S w (ts.set i u) (ys ++ u0 :: u1 :: u2 :: zs)
  | [], _, i, _, hi => by simp at hi
  | t :: r, xs, 0, h, _ => by
    obtain ⟨v0, v1, v2, ys, rfl, h2, h3⟩ := h
    exact ⟨[], v0, v1, v2, ys, rfl, rfl, h2, fun u u0 u1 u2 hu => ⟨u0, u1, u2, ys, rfl, hu, h3⟩⟩
  | t :: r, xs, i + 1, h, hi => by
    obtain ⟨a0, a1, a2, as, rfl, h2, h3⟩ := h
    obtain ⟨ys, v0, v1, v2, zs, rfl, k1, k2, k3⟩ := h3.atI (i := i) (by simpa using hi)
    exact ⟨a0 :: a1 :: a2 :: ys, v0, v1, v2, zs, rfl, by simp [k1]; omega, by simpa using k2, fun u u0 u1 u2 hu => ⟨a0, a1, a2, _, rfl, h2, k3 u u0 u1 u2 hu⟩⟩

/-- Cells of a row loaded. -/
theorem RowOk.ldA {P : Program} {w : World} {ad : Addr} {n c : Nat} {e : TypeId} {sz : Nat} {tn : TypeId} {ti : TI} (hi : TIok P tn ti) (hag : ti.agg = true) {xs l : List Value} (hl : l.length = ti.size) {k : Nat} (h : RowOk w ⟨.slice (Option.some ad) n c, e, sz, xs⟩) (hx : ∀ j v, l[j]? = Option.some v → xs[k + j]? = Option.some v) :
    (loadVar tn (ad.add k)).run P w = .ok (.agg l.toArray) w := by
  refine run_loadVar hi hl (fun j v hj => ?_) hag
  rw [add_add]
  exact h.cell (hx j v hj)
theorem RowOk.ldV {P : Program} {w : World} {ad : Addr} {n c : Nat} {e : TypeId} {sz : Nat} {tn : TypeId} {ti : TI} (hi : TIok P tn ti) (hag : ti.agg = false) {xs : List Value} {k : Nat} {v : Value} (h : RowOk w ⟨.slice (Option.some ad) n c, e, sz, xs⟩) (hx : xs[k]? = Option.some v) :
    (loadVar tn (ad.add k)).run P w = .ok v w := run_loadVar1 hi (h.cell hx) hag
theorem ovw_set {α : Type} {f : α → Value} {l : List α} {i : Nat} {x : α} (h : i < l.length) : ovw (l.map f) (i * 1) [f x] = (l.set i x).map f := by
  unfold ovw
  rw [List.set_eq_take_append_cons_drop]
  simp [h]

/-- The zero type. -/
def zeroT : Tp := .mk 0 0 []
theorem zeroT_rep (S : Nat → Prop) (w : World) : RepT S w zeroT (.agg #[.int .i64 0, .int .i64 0, .slice none 0 0]) := by
  have := RepT.mk' (t := zeroT) (S := S) (w := w) (A := none) (c := 0) (by simp [Tp.kids, zeroT]) (by simp [Tp.kids, zeroT]) (by simp [Tp.kids, RepKs, zeroT])
  exact this
theorem madeCells_add (z : Array Value) (n : Nat) (hz : z.size = 3) : (madeCells z ((n + 1) * 3)).toList = (madeCells z (n * 3)).toList ++ [z[0]!, z[1]!, z[2]!] := by
  unfold madeCells
  simp only [Array.toList_map, Array.toList_range]
  rw [show (n + 1) * 3 = n * 3 + 1 + 1 + 1 from by omega, List.range_succ, List.range_succ, List.range_succ]
  simp only [List.map_append, List.map_cons, List.map_nil, List.append_assoc, List.cons_append, List.nil_append, hz]
  rw [show n * 3 % 3 = 0 from by omega, show (n * 3 + 1) % 3 = 1 from by omega, show (n * 3 + 1 + 1) % 3 = 2 from by omega]
theorem zeros_flat (S : Nat → Prop) (w : World) : ∀ n, RepFlat S w (List.replicate n zeroT) (madeCells #[.int .i64 0, .int .i64 0, .slice none 0 0] (n * 3)).toList
  | 0 => by simp [madeCells, RepFlat]
  | n + 1 => by
    rw [madeCells_add _ n rfl, List.replicate_succ']
    exact (zeros_flat S w n).app (RepFlat.one (zeroT_rep S w))
theorem zeros_one (z : Value) (n : Nat) : (madeCells #[z] (n * 1)).toList = List.replicate n z := by
  rw [Nat.mul_one]; exact toList_madeCells_one z n

/-- An own block becomes a row. -/
theorem weak_row {N : Nat} {b : Base} {T : Tl} {ρ : List Nat} {E : El} {R : List Row} {pub : Nat → Prop} {s : World} {i : Nat} {cs : List SV} {e : TypeId} {sz n : Nat} (hi : lk E i = some (cs, e)) (hn : cs.length = n * sz) (hm : n ≤ maxLen) :
    Weak N b ⟨T, ρ, E, R, pub, s⟩ ⟨T, ρ, dropE i E, ⟨.slice (some ⟨ρ.getD i 0, 0, none⟩) n n, e, sz, denL ρ cs⟩ :: R, pub, s⟩ := fun _ _ h => ⟨h.sz, h.df, h.tm, h.wd.toRow hi hn hm⟩

mutual
/-- How many nodes. -/
def szT : Tp → Nat
  | .mk _ _ ks => szL ks + 1
def szL : List Tp → Nat
  | [] => 0
  | t :: r => szT t + szL r
end
theorem szT_pos (t : Tp) : 0 < szT t := by cases t; simp [szT]
theorem szL_len : ∀ l : List Tp, l.length ≤ szL l
  | [] => Nat.zero_le _
  | t :: r => by have := szL_len r; have := szT_pos t; simp only [szL, List.length_cons]; omega
theorem szL_append : ∀ l m : List Tp, szL (l ++ m) = szL l + szL m
  | [], m => by simp [szL]
  | t :: r, m => by simp only [List.cons_append, szL, szL_append r m]; omega
theorem szT_mem : ∀ {l : List Tp} {t : Tp}, t ∈ l → szT t ≤ szL l
  | t' :: r, t, h => by
    simp only [szL]
    rcases List.mem_cons.1 h with rfl | h
    · omega
    · have := szT_mem h; omega
theorem ovw_one {ys zs : List Value} {v u : Value} {k : Nat} (hy : ys.length = k) : ovw (ys ++ v :: zs) k [u] = ys ++ u :: zs := by
  subst hy
  simp [ovw]
theorem HeldW.trans {pub pub' : Nat → Prop} {s s' : World} {T : Tl} {ρ : List Nat} {E : El} {R : List Row} {st : St} (h : HeldW pub s ⟨T, ρ, E, R, pub', s'⟩) (h' : HeldW pub' s' st) : HeldW pub s st :=
  fun k hk => ⟨(h' k (h k hk).1).1, ((h' k (h k hk).1).2).trans (h k hk).2⟩
/-- An own block that is written no more may be read. -/
theorem Wd.pubE {b : Base} {T : Tl} {ρ : List Nat} {E : El} {R : List Row} {pub : Nat → Prop} {s w : World} (h : Wd b ⟨T, ρ, E, R, pub, s⟩ w) {i g : Nat} {cs : List SV} {t : TypeId} (hg : ρ.getD i 0 = g) (hi : lk E i = some (cs, t)) :
    ∃ pub', Wd b ⟨T, ρ, dropE i E, R, pub', w⟩ w ∧ Step b pub s w pub' w ∧ Cells pub' w (some ⟨g, 0, none⟩) (denL ρ cs) := by
  subst hg
  have h' := h.now
  obtain ⟨n1, n2, n3⟩ := h.entN i cs t hi
  have hsome : ∀ j c t, lk (dropE i E) j = some (c, t) → lk E j = some (c, t) ∧ j ≠ i := by
    intro j c t hj
    rw [dropE_get] at hj
    split at hj
    · cases hj
    · rename_i hne; exact ⟨hj, hne⟩
  have hs1 : ∀ j, (lk (dropE i E) j).isSome = true → (lk E j).isSome = true ∧ j ≠ i := by
    intro j hj
    obtain ⟨⟨c, t⟩, hc⟩ := Option.isSome_iff_exists.1 hj
    obtain ⟨h1, h2⟩ := hsome j c t hc
    exact ⟨by rw [h1]; rfl, h2⟩
  have his : (lk E i).isSome = true := by rw [hi]; rfl
  have hlt : ρ.getD i 0 < w.heap.size := (Array.getElem?_eq_some_iff.1 (h.ent i cs t hi)).1
  refine ⟨fun k => pub k ∨ k = ρ.getD i 0, ⟨h'.below, Nat.le_refl _, fun k hk => ⟨?_, rfl⟩, fun j c t hj => h.ent j c t (hsome j c t hj).1, fun j c t hj => ?_, fun j k hj hk hne => h.inj j k (hs1 j hj).1 (hs1 k hk).1 hne, fun r hr => ?_, h.rinj⟩, ⟨fun k hk => .inl hk, fun k hk => (h.pub k hk).1, fun k h1 h2 => by omega, fun k hk => ?_, h.same, Below.refl _ _⟩, ?_⟩
  · rcases hk with hk | rfl
    · exact (h'.pub k hk).1
    · exact hlt
  · obtain ⟨q1, q2⟩ := hsome j c t hj
    obtain ⟨k1, k2, k3⟩ := h.entN j c t q1
    refine ⟨k1, k2, fun hk => ?_⟩
    rcases hk with hk | hk
    · exact k3 hk
    · exact h.inj j i (by simp only; rw [q1]; rfl) his q2 hk
  · obtain ⟨k1, k2⟩ := h.row r hr
    refine ⟨k1, fun g hg => ⟨(k2 g hg).1, fun hk => ?_, fun j hj => (k2 g hg).2.2 j (hs1 j hj).1⟩⟩
    rcases hk with hk | hk
    · exact (k2 g hg).2.1 hk
    · exact (k2 g hg).2.2 i his hk.symm
  · rcases hk with hk | rfl
    · exact .inl hk
    · exact .inr n2
  · refine .inr ⟨_, rfl, .inr rfl, fun j v hj => ?_⟩
    rw [add_own, cell_own (h.ent i cs t hi), List.getElem?_toArray, Nat.zero_add]
    exact hj
/-- Behind a call that was handed a block of the call's own and the two rows, and may have written all three. -/
theorem Wd.handed2 {b : Base} {T : Tl} {ρ : List Nat} {E : El} {r1 r2 r1' r2' : Row} {pub : Nat → Prop} {s w w' : World} (h : Wd b ⟨T, ρ, E, [r1, r2], pub, s⟩ w) {i : Nat} {cs cs' : List SV} {t : TypeId} (hi : lk E i = some (cs, t))
    (ho : Only (fun k => k = ρ.getD i 0 ∨ rowB r1.v = some k ∨ rowB r2.v = some k) w w') (hc : w'.heap[ρ.getD i 0]? = some (.cells (denL ρ cs').toArray t (0, 0))) (hr1 : RowOk w' r1') (hr2 : RowOk w' r2') (hb1 : rowB r1'.v = rowB r1.v) (hb2 : rowB r2'.v = rowB r2.v) :
    Wd b ⟨T, ρ, (i, (cs', t)) :: E, [r1', r2'], pub, s⟩ w' := by
  obtain ⟨q1, q2⟩ := h.row r1 (by simp)
  obtain ⟨p1, p2⟩ := h.row r2 (by simp)
  obtain ⟨ne1, ne2, ne3⟩ := h.entN i cs t hi
  have hlt : ∀ i c t, lk E i = some (c, t) → ρ.getD i 0 < w.heap.size := fun i c t hi => (Array.getElem?_eq_some_iff.1 (h.ent i c t hi)).1
  have hsome : ∀ k, (lk ((i, (cs', t)) :: E) k).isSome = true → (lk E k).isSome = true := by
    intro k hk
    simp only [lk] at hk
    split at hk
    · rename_i e; obtain rfl := nbeq.1 e; rw [hi]; rfl
    · exact hk
  have his : (lk E i).isSome = true := by rw [hi]; rfl
  refine ⟨⟨ho.os.trans h.below.os, ho.tape.trans h.below.tape, ho.output.trans h.below.output, Nat.le_trans h.below.size ho.size, fun k hk hm => ?_⟩, Nat.le_trans h.size ho.size, fun k hk => ?_, fun k c t' hk => ?_, fun k c t' hk => ?_, fun k l hk hl hne => h.inj k l (hsome k hk) (hsome l hl) hne, fun q hq => ?_, ?_⟩
  · rw [ho.block k (Nat.lt_of_lt_of_le hk h.below.size)]
    · exact h.below.block k hk hm
    · rintro (e | e | e)
      · rcases ne2 with h' | h'
        · exact hm (by rw [e]; exact h')
        · simp only at *; omega
      · rcases (q2 k e).1 with h' | h'
        · exact hm h'
        · omega
      · rcases (p2 k e).1 with h' | h'
        · exact hm h'
        · omega
  · obtain ⟨k1, k2⟩ := h.pub k hk
    refine ⟨k1, ?_⟩
    rw [ho.block k (Nat.lt_of_lt_of_le k1 h.size)]
    · exact k2
    · rintro (e | e | e)
      · exact ne3 (by rw [e] at hk; exact hk)
      · exact (q2 k e).2.1 hk
      · exact (p2 k e).2.1 hk
  · simp only [lk] at hk
    split at hk
    · rename_i e; obtain rfl := nbeq.1 e
      injection hk with hk; injection hk with e1 e2; subst e1; subst e2
      exact hc
    · rename_i e
      show w'.heap[ρ.getD k 0]? = _
      have hks : (lk E k).isSome = true := by rw [hk]; rfl
      rw [ho.block _ (hlt k c t' hk)]
      · exact h.ent k c t' hk
      · rintro (e' | e' | e')
        · exact h.inj k i hks his (fun e2 => nbeq_ne.1 e e2.symm) e'
        · exact (q2 _ e').2.2 k hks rfl
        · exact (p2 _ e').2.2 k hks rfl
  · simp only [lk] at hk
    split at hk
    · rename_i e; obtain rfl := nbeq.1 e
      exact ⟨ne1, ne2, ne3⟩
    · exact h.entN k c t' hk
  · simp only [List.mem_cons, List.not_mem_nil, or_false] at hq
    rcases hq with rfl | rfl
    · exact ⟨hr1, fun g hg => by rw [hb1] at hg; exact ⟨(q2 g hg).1, (q2 g hg).2.1, fun l hl => (q2 g hg).2.2 l (hsome l hl)⟩⟩
    · exact ⟨hr2, fun g hg => by rw [hb2] at hg; exact ⟨(p2 g hg).1, (p2 g hg).2.1, fun l hl => (p2 g hg).2.2 l (hsome l hl)⟩⟩
  · have := h.rinj
    simp only [List.pairwise_cons, List.mem_singleton, forall_eq, List.not_mem_nil, false_imp_iff, implies_true, List.Pairwise.nil, and_true] at this ⊢
    intro g hg
    rw [hb1] at hg
    rw [hb2]
    exact this g hg
/-- The start of a call that is handed a block (its first argument's) and two rows. -/
theorem Wd.start2 {w : World} {g : Nat} {cs : List SV} {t : TypeId} {r1 r2 : Row} {T : Tl} {pub : Nat → Prop} (hc : w.heap[g]? = some (.cells (denL [g] cs).toArray t (0, 0))) (hr1 : RowOk w r1) (hr2 : RowOk w r2) (n1 : rowB r1.v ≠ some g) (n2 : rowB r2.v ≠ some g)
    (n3 : ∀ k, rowB r1.v = some k → rowB r2.v ≠ some k) (hp : ∀ k, pub k → k < w.heap.size) (hp0 : ¬ pub g) (hp1 : ∀ k, rowB r1.v = some k → ¬ pub k) (hp2 : ∀ k, rowB r2.v = some k → ¬ pub k) :
    Wd ⟨w, fun k => k = g ∨ rowB r1.v = some k ∨ rowB r2.v = some k⟩ ⟨T, [g], [(0, (cs, t))], [r1, r2], pub, w⟩ w := by
  refine ⟨Only.refl _ _, Nat.le_refl _, fun k hk => ⟨hp k hk, rfl⟩, fun i c t' hi => ?_, fun i c t' hi => ?_, fun i j hi hj hne' => ?_, fun q hq => ?_, ?_⟩
  · simp only [lk] at hi
    split at hi
    · rename_i e; obtain rfl := nbeq.1 e
      injection hi with hi; injection hi with e1 e2; subst e1; subst e2
      exact hc
    · cases hi
  · simp only [lk] at hi
    split at hi
    · rename_i e; obtain rfl := nbeq.1 e
      exact ⟨by simp, .inl (.inl rfl), hp0⟩
    · cases hi
  · simp only [lk] at hi hj
    split at hi
    · rename_i e; split at hj
      · rename_i e'; exact absurd ((nbeq.1 e).symm.trans (nbeq.1 e')) hne'
      · cases hj
    · cases hi
  · have key : ∀ (r : Row) (k : Nat), rowB r.v ≠ some g → rowB r.v = some k → ∀ i, (lk [(0, (cs, t))] i).isSome = true → [g].getD i 0 ≠ k := by
      intro r k hn hk i hi
      simp only [lk] at hi
      split at hi
      · rename_i e; obtain rfl := nbeq.1 e
        rintro rfl
        exact hn hk
      · cases hi
    simp only [List.mem_cons, List.not_mem_nil, or_false] at hq
    rcases hq with rfl | rfl
    · exact ⟨hr1, fun k hk => ⟨.inl (.inr (.inl hk)), hp1 k hk, key _ k n1 hk⟩⟩
    · exact ⟨hr2, fun k hk => ⟨.inl (.inr (.inr hk)), hp2 k hk, key _ k n2 hk⟩⟩
  · simp only [List.pairwise_cons, List.mem_singleton, forall_eq, List.not_mem_nil, false_imp_iff, implies_true, List.Pairwise.nil, and_true]
    exact n3
end Go.Vc

/- The number of draws never falls. -/
namespace Go.Vc
set_option linter.unusedVariables false

theorem exc_bind {ε α β : Type} {x : Except ε α} {f : α → Except ε β} {b : β} (h : (x >>= f) = .ok b) : ∃ a, x = .ok a ∧ f a = .ok b := by
  cases x with
  | error e => cases h
  | ok a => exact ⟨a, rfl, h⟩
def Kp (w : World) (r : Except String (World × List Addr)) : Prop := ∀ x, r = .ok x → x.1.drawn = w.drawn
theorem Kp.bind {α : Type} {w : World} {x : Except String α} {f : α → Except String (World × List Addr)} (h : ∀ a, Kp w (f a)) : Kp w (x >>= f) := by
  intro y hy
  obtain ⟨a, _, h2⟩ := exc_bind hy
  exact h a y h2
theorem Kp.throw {w : World} {e : String} : Kp w (.error e) := fun x hx => by cases hx
theorem Kp.pure {w w' : World} {l : List Addr} (h : w'.drawn = w.drawn) : Kp w (Pure.pure (w', l)) := fun x hx => by
  injection hx with hx; subst hx; exact h
theorem viewStore_kp (p : Program) (w : World) (at_ : Addr) (u : TypeId) (k : Addr) (v : Value) (b : Bool) : Kp w (w.viewStore p at_ u k v b) := by
  unfold World.viewStore
  dsimp only
  repeat' first | exact Kp.pure rfl | exact Kp.throw | (refine Kp.bind fun _ => ?_) | split
theorem viewStore_drawn {p : Program} {w w' : World} {at_ : Addr} {u : TypeId} {k : Addr} {v : Value} {b : Bool} {l : List Addr} (h : w.viewStore p at_ u k v b = .ok (w', l)) : w'.drawn = w.drawn :=
  viewStore_kp p w at_ u k v b _ h
theorem ask_drawn {α : Type} : ∀ (x : Ask α) (w : World), w.drawn ≤ (w.ask x).2.drawn
  | .done a, w => Nat.le_refl _
  | .ask what range k, w => by
    simp only [World.ask]
    split
    · exact ask_drawn _ w
    · exact Nat.le_trans (Nat.le_succ _) (ask_drawn (k _) { w with drawn := w.drawn + 1 })
theorem sys_drawn (w : World) (c : Sys) : w.drawn ≤ (w.sys c).2.drawn := by
  have h := ask_drawn (Kernel.perform c w.os) w
  unfold World.sys
  split
  · exact Nat.le_refl _
  · rename_i r os w1 he
    rw [he] at h
    exact h
def dle (n : Nat) {α : Type} : Result α → Prop
  | .ok _ w' => n ≤ w'.drawn
  | .halt _ w' => n ≤ w'.drawn
theorem run_dle {α : Type} (P : Program) (s : Sem α) : ∀ (w : World) (n : Nat), n ≤ w.drawn → dle n (s.run P w) := by
  induction s with
  | pure a => intro w n h; exact h
  | load m a k ih =>
    intro w n h
    simp only [Sem.run]
    split
    · exact ih _ _ _ h
    · split
      · exact ih _ _ _ h
      · exact h
  | store m a v k ih =>
    intro w n h
    have key : dle n (match w.cell? a with
        | some _ => if w.frozen? a then Result.halt (.unsupported (.unsafePointer "a write to bytes that a string shares")) w else k.run P (w.setCell a v)
        | none => match w.farStore P a v (m == .atomic) with
          | .ok (w, _) => k.run P w
          | .error h => .halt h w) := by
      split
      · split
        · exact h
        · exact ih _ _ h
      · split
        · rename_i w1 l he
          refine ih _ _ ?_
          unfold World.farStore at he
          split at he
          · split at he
            · rename_i r hv
              injection he with he
              subst he
              rw [viewStore_drawn hv]; exact h
            · cases he
          · cases he
        · exact h
    cases v <;> simp only [Sem.run] <;> first | exact h | exact key
  | new o k ih => intro w n h; simp only [Sem.run]; exact ih _ _ _ h
  | shape r k ih => intro w n h; simp only [Sem.run]; exact ih _ _ _ h
  | freeze a m k ih =>
    intro w n h
    simp only [Sem.run]
    have e : (w.freeze a m).drawn = w.drawn := by unfold World.freeze; first | rfl | (split <;> rfl) | (split <;> split <;> rfl)
    exact ih _ _ (by rw [e]; exact h)
  | frozen a k ih => intro w n h; simp only [Sem.run]; exact ih _ _ _ h
  | getObj r k ih =>
    intro w n h
    simp only [Sem.run]
    split
    · exact h
    · exact ih _ _ _ h
    · exact h
  | setObj r o k ih =>
    intro w n h
    simp only [Sem.run]
    split
    · exact h
    · exact ih _ _ h
    · exact h
  | choose q k ih =>
    intro w n h
    simp only [Sem.run]
    split
    · exact ih _ _ _ h
    · exact ih _ _ _ (Nat.le_trans h (Nat.le_succ _))
  | sys c k ih => intro w n h; simp only [Sem.run]; exact ih _ _ _ (Nat.le_trans h (sys_drawn w c))
  | program k ih => intro w n h; simp only [Sem.run]; exact ih _ _ _ h
  | mark m k ih => intro w n h; simp only [Sem.run]; exact ih _ _ h
  | halt hh => intro w n h; exact h
theorem run_drawn {α : Type} {P : Program} {s : Sem α} {w w' : World} {a : α} (h : s.run P w = .ok a w') : w.drawn ≤ w'.drawn := by
  have := run_dle P s w _ (Nat.le_refl _)
  rw [h] at this; exact this
end Go.Vc

/- Data without memory, and how it lies in memory. -/
namespace Go.Vx
open Go.RowKit Go.Vc

/-- Closed data: what may be read and is never written again. -/
inductive D where
  | int (k : IntKind) (n : Int)
  | bool (b : Bool)
  | str (s : ByteArray)
  | sl (eb n : Nat) (cs : List D)
  | csl (eb n : Nat) (cs : List D)
  | ptr (cs : List D) (off : Nat)
  | fn (f : FuncId) (a b : List D)
  | ifc (t : TypeId) (x : D)
  | agg (l : List D)
  | tup (l : List D)
  | val (x : Value)

/-- The most bytes of a slice. -/
def LB : Nat := 140737488355328

mutual
def RepD (S : Nat → Prop) (w : World) : D → Value → Prop
  | .int k n, v => v = .int k n
  | .bool b, v => v = .bool b
  | .str s, v => v = .string s
  | .sl eb n cs, v => ∃ A c, v = .slice A n c ∧ n ≤ c ∧ n * eb ≤ LB ∧ (n ≠ 0 → ∃ ad, A = some ad) ∧ RepC S w cs A 0
  | .csl eb n cs, v => ∃ A, v = .slice A n n ∧ n * eb ≤ LB ∧ (n ≠ 0 → ∃ ad, A = some ad) ∧ RepC S w cs A 0
  | .ptr cs off, v => ∃ ad, v = .pointer (some (ad.add off)) ∧ RepC S w cs (some ad) 0
  | .fn f a b, v => ∃ a' b', v = .func (.func f) a' b' ∧ RepDs S w a a'.toList ∧ RepDs S w b b'.toList
  | .ifc t x, v => ∃ y, v = .iface t y ∧ RepD S w x y
  | .agg l, v => ∃ l', v = .agg l' ∧ RepDs S w l l'.toList
  | .tup l, v => ∃ l', v = .tuple l' ∧ RepDs S w l l'.toList
  | .val x, v => v = x
def RepC (S : Nat → Prop) (w : World) : List D → Option Addr → Nat → Prop
  | [], _, _ => True
  | x :: r, A, j => (∃ ad v, A = some ad ∧ S ad.block ∧ w.cell? (ad.add j) = some v ∧ RepD S w x v) ∧ RepC S w r A (j + 1)
def RepDs (S : Nat → Prop) (w : World) : List D → List Value → Prop
  | [], l => l = []
  | x :: r, l => ∃ v s, l = v :: s ∧ RepD S w x v ∧ RepDs S w r s
end

mutual
theorem RepD.to {S S' : Nat → Prop} {w w' : World} (hs : Same S w w') (hS : ∀ k, S k → k < w.heap.size → S' k) : ∀ {x : D} {v : Value}, RepD S w x v → RepD S' w' x v
  | .int k n, v, h => h
  | .bool b, v, h => h
  | .str s, v, h => h
  | .sl eb n cs, v, h => by
    simp only [RepD] at h ⊢
    obtain ⟨A, c, e, h1, h2, h4, h3⟩ := h
    exact ⟨A, c, e, h1, h2, h4, RepC.to hs hS h3⟩
  | .csl eb n cs, v, h => by
    simp only [RepD] at h ⊢
    obtain ⟨A, e, h2, h4, h3⟩ := h
    exact ⟨A, e, h2, h4, RepC.to hs hS h3⟩
  | .ptr cs off, v, h => by
    simp only [RepD] at h ⊢
    obtain ⟨ad, e, h3⟩ := h
    exact ⟨ad, e, RepC.to hs hS h3⟩
  | .fn f a b, v, h => by
    simp only [RepD] at h ⊢
    obtain ⟨a', b', e, h1, h2⟩ := h
    exact ⟨a', b', e, RepDs.to hs hS h1, RepDs.to hs hS h2⟩
  | .ifc t x, v, h => by
    simp only [RepD] at h ⊢
    obtain ⟨y, e, h1⟩ := h
    exact ⟨y, e, RepD.to hs hS h1⟩
  | .agg l, v, h => by
    simp only [RepD] at h ⊢
    obtain ⟨l', e, h1⟩ := h
    exact ⟨l', e, RepDs.to hs hS h1⟩
  | .tup l, v, h => by
    simp only [RepD] at h ⊢
    obtain ⟨l', e, h1⟩ := h
    exact ⟨l', e, RepDs.to hs hS h1⟩
  | .val x, v, h => h
theorem RepC.to {S S' : Nat → Prop} {w w' : World} (hs : Same S w w') (hS : ∀ k, S k → k < w.heap.size → S' k) : ∀ {l : List D} {A : Option Addr} {j : Nat}, RepC S w l A j → RepC S' w' l A j
  | [], _, _, _ => by simp only [RepC]
  | x :: r, A, j, h => by
    simp only [RepC] at h ⊢
    obtain ⟨⟨ad, v, e, h1, h2, h3⟩, h4⟩ := h
    refine ⟨⟨ad, v, e, ?_, hs.cell (by rw [add_block]; exact h1) h2, RepD.to hs hS h3⟩, RepC.to hs hS h4⟩
    have := World.block_lt_of_cell? w _ h2
    rw [add_block] at this
    exact hS _ h1 this
theorem RepDs.to {S S' : Nat → Prop} {w w' : World} (hs : Same S w w') (hS : ∀ k, S k → k < w.heap.size → S' k) : ∀ {l : List D} {l' : List Value}, RepDs S w l l' → RepDs S' w' l l'
  | [], _, h => by simpa only [RepDs] using h
  | x :: r, l', h => by
    simp only [RepDs] at h ⊢
    obtain ⟨v, s, e, h1, h2⟩ := h
    exact ⟨v, s, e, RepD.to hs hS h1, RepDs.to hs hS h2⟩
end

theorem RepDs.len {S : Nat → Prop} {w : World} : ∀ {l : List D} {l' : List Value}, RepDs S w l l' → l'.length = l.length
  | [], _, h => by simp only [RepDs] at h; subst h; rfl
  | x :: r, l', h => by
    simp only [RepDs] at h
    obtain ⟨v, s, rfl, h1, h2⟩ := h
    simp [RepDs.len h2]
theorem RepDs.get {S : Nat → Prop} {w : World} : ∀ {l : List D} {l' : List Value} {i : Nat} {x : D}, RepDs S w l l' → l[i]? = some x → ∃ v, l'[i]? = some v ∧ RepD S w x v
  | [], _, i, x, _, hi => by simp at hi
  | y :: r, l', i, x, h, hi => by
    simp only [RepDs] at h
    obtain ⟨v, s, rfl, h1, h2⟩ := h
    cases i with
    | zero => simp at hi; subst hi; exact ⟨v, rfl, h1⟩
    | succ i => simpa using RepDs.get h2 (by simpa using hi)
theorem RepDs.mk {S : Nat → Prop} {w : World} : ∀ {l : List D} {l' : List Value}, l'.length = l.length → (∀ (i : Nat) x v, l[i]? = some x → l'[i]? = some v → RepD S w x v) → RepDs S w l l'
  | [], l', h, _ => by simp only [RepDs]; exact List.eq_nil_of_length_eq_zero (by simpa using h)
  | x :: r, [], h, _ => by simp at h
  | x :: r, v :: s, h, hg => by
    simp only [RepDs]
    exact ⟨v, s, rfl, hg 0 x v rfl rfl, RepDs.mk (by simpa using h) fun i y u h1 h2 => hg (i + 1) y u (by simpa using h1) (by simpa using h2)⟩
theorem RepDs.app {S : Nat → Prop} {w : World} : ∀ {l m : List D} {l' m' : List Value}, RepDs S w l l' → RepDs S w m m' → RepDs S w (l ++ m) (l' ++ m')
  | [], m, l', m', h, h' => by simp only [RepDs] at h; subst h; exact h'
  | x :: r, m, l', m', h, h' => by
    simp only [RepDs] at h
    obtain ⟨v, s, rfl, h1, h2⟩ := h
    simp only [List.cons_append, RepDs]
    exact ⟨v, _, rfl, h1, RepDs.app h2 h'⟩
theorem RepDs.take {S : Nat → Prop} {w : World} {l : List D} {l' : List Value} (h : RepDs S w l l') (n : Nat) : RepDs S w (l.take n) (l'.take n) := by
  refine RepDs.mk (by simp [h.len]) fun i x v h1 h2 => ?_
  rw [List.getElem?_take] at h1 h2
  split at h1
  · rename_i hi
    rw [if_pos hi] at h2
    obtain ⟨u, e, hu⟩ := h.get h1
    rw [h2] at e; injection e with e; subst e; exact hu
  · cases h1
theorem RepDs.drop {S : Nat → Prop} {w : World} {l : List D} {l' : List Value} (h : RepDs S w l l') (n : Nat) : RepDs S w (l.drop n) (l'.drop n) := by
  refine RepDs.mk (by simp [h.len]) fun i x v h1 h2 => ?_
  rw [List.getElem?_drop] at h1 h2
  obtain ⟨u, e, hu⟩ := h.get h1
  rw [h2] at e; injection e with e; subst e; exact hu
theorem RepC.get {S : Nat → Prop} {w : World} : ∀ {l : List D} {A : Option Addr} {j i : Nat} {x : D}, RepC S w l A j → l[i]? = some x → ∃ ad v, A = some ad ∧ S ad.block ∧ w.cell? (ad.add (j + i)) = some v ∧ RepD S w x v
  | [], _, _, i, x, _, hi => by simp at hi
  | y :: r, A, j, i, x, h, hi => by
    simp only [RepC] at h
    cases i with
    | zero => simp at hi; subst hi; exact h.1
    | succ i =>
      have := RepC.get h.2 (i := i) (by simpa using hi)
      rwa [show j + 1 + i = j + (i + 1) from by omega] at this
/-- The cells that are data l. -/
theorem RepC.cells {S : Nat → Prop} {w : World} : ∀ {l : List D} {ad : Addr} {j : Nat}, RepC S w l (some ad) j → ∃ xs, RepDs S w l xs ∧ ∀ (i : Nat) v, xs[i]? = some v → S ad.block ∧ w.cell? (ad.add (j + i)) = some v
  | [], ad, j, h => ⟨[], by simp only [RepDs], fun i v hv => by simp at hv⟩
  | x :: r, ad, j, h => by
    simp only [RepC] at h
    obtain ⟨⟨ad', v, e, h1, h2, h3⟩, h4⟩ := h
    injection e with e; subst e
    obtain ⟨xs, k1, k2⟩ := RepC.cells h4
    refine ⟨v :: xs, by simp only [RepDs]; exact ⟨v, xs, rfl, h3, k1⟩, fun i u hu => ?_⟩
    cases i with
    | zero => simp at hu; subst hu; exact ⟨h1, h2⟩
    | succ i =>
      have := k2 i u (by simpa using hu)
      rwa [show j + 1 + i = j + (i + 1) from by omega] at this
theorem RepC.cells0 {S : Nat → Prop} {w : World} {l : List D} {A : Option Addr} (h : RepC S w l A 0) : ∃ xs, RepDs S w l xs ∧ Cells S w A xs := by
  cases l with
  | nil => exact ⟨[], by simp only [RepDs], .inl rfl⟩
  | cons x r =>
    have h' := h
    simp only [RepC] at h'
    obtain ⟨⟨ad, v, rfl, h1, _⟩, _⟩ := h'
    obtain ⟨xs, k1, k2⟩ := h.cells
    exact ⟨xs, k1, .inr ⟨ad, rfl, h1, fun i v hv => by have := (k2 i v hv).2; simpa using this⟩⟩
theorem RepC.of {S : Nat → Prop} {w : World} {A : Option Addr} : ∀ {l : List D} {xs : List Value} {j : Nat}, RepDs S w l xs → (∀ (i : Nat) v, xs[i]? = some v → ∃ ad, A = some ad ∧ S ad.block ∧ w.cell? (ad.add (j + i)) = some v) → RepC S w l A j
  | [], _, _, _, _ => by simp only [RepC]
  | x :: r, xs, j, h, hc => by
    simp only [RepDs] at h
    obtain ⟨v, s, rfl, h1, h2⟩ := h
    simp only [RepC]
    obtain ⟨ad, e, hs, h0⟩ := hc 0 v rfl
    refine ⟨⟨ad, v, e, hs, h0, h1⟩, RepC.of h2 fun i u hu => ?_⟩
    have := hc (i + 1) u (by simpa using hu)
    rwa [show j + (i + 1) = j + 1 + i from by omega] at this
theorem RepC.ofCells {S : Nat → Prop} {w : World} {A : Option Addr} {l : List D} {xs : List Value} (h : RepDs S w l xs) (hc : Cells S w A xs) : RepC S w l A 0 := by
  refine RepC.of h fun i v hv => ?_
  rcases hc with hc | ⟨ad, rfl, h1, h2⟩
  · subst hc; simp at hv
  · exact ⟨ad, rfl, h1, by have := h2 i v hv; simpa using this⟩
/-- Cells from a place on. -/
theorem RepC.drop {S : Nat → Prop} {w : World} {l : List D} {ad : Addr} (h : RepC S w l (some ad) 0) (k : Nat) : RepC S w (l.drop k) (some (ad.add k)) 0 := by
  obtain ⟨xs, h1, h2⟩ := h.cells
  refine RepC.of (h1.drop k) fun i v hv => ⟨_, rfl, ?_⟩
  rw [List.getElem?_drop] at hv
  have := h2 _ v hv
  rw [add_block, add_add]
  simpa using this
theorem RepC.take {S : Nat → Prop} {w : World} {l : List D} {A : Option Addr} {j : Nat} (h : RepC S w l A j) (k : Nat) : RepC S w (l.take k) A j := by
  induction l generalizing j k with
  | nil => simp [RepC]
  | cons x r ih =>
    cases k with
    | zero => simp [RepC]
    | succ k =>
      simp only [RepC, List.take_succ_cons] at h ⊢
      exact ⟨h.1, ih h.2 k⟩

/-- Symbolic values: closed data, and what speaks of the call's own objects. -/
inductive SV where
  | d (x : D)
  | kb (b : Bool)
  | own (i off : Nat)
  | row (i : Nat)
  | rowp (i off : Nat)
  | nm (i : Nat)
  | osl (i n : Nat)
  | agg (l : List SV)
  | tup (l : List SV)
  | fn (f : FuncId) (a b : List SV)
  | ifc (t : TypeId) (x : SV)
  | nl
  | any

/-- What the names of the own objects stand for: a block's first place, a row's slice; and what may be read. -/
structure Env where
  m : List Value
  pub : Nat → Prop

mutual
def RepSV (e : Env) (w : World) : SV → Value → Prop
  | .d x, v => RepD e.pub w x v
  | .kb b, v => v = .bool b
  | .own i off, v => ∃ g, e.m[i]? = some (.pointer (some ⟨g, 0, none⟩)) ∧ v = .pointer (some ⟨g, off, none⟩)
  | .row i, v => ∃ A n c, v = .slice A n c ∧ e.m[i]? = some v
  | .rowp i off, v => ∃ ad n c, e.m[i]? = some (.slice (some ad) n c) ∧ v = .pointer (some (ad.add off))
  | .nm i, v => ∃ g, v = .map (some g) ∧ e.m[i]? = some v
  | .osl i n, v => ∃ g, e.m[i]? = some (.pointer (some ⟨g, 0, none⟩)) ∧ v = .slice (some ⟨g, 0, none⟩) n n
  | .agg l, v => ∃ l', v = .agg l' ∧ RepSVs e w l l'.toList
  | .tup l, v => ∃ l', v = .tuple l' ∧ RepSVs e w l l'.toList
  | .fn f a b, v => ∃ a' b', v = .func (.func f) a' b' ∧ RepSVs e w a a'.toList ∧ RepSVs e w b b'.toList
  | .ifc t x, v => ∃ y, v = .iface t y ∧ RepSV e w x y
  | .nl, v => v = .slice none 0 0
  | .any, _ => True
def RepSVs (e : Env) (w : World) : List SV → List Value → Prop
  | [], l => l = []
  | x :: r, l => ∃ v s, l = v :: s ∧ RepSV e w x v ∧ RepSVs e w r s
end

/-- One reading goes over into another one. -/
structure Kept (e : Env) (w : World) (e' : Env) (w' : World) : Prop where
  m : ∀ (i : Nat) v, e.m[i]? = some v → e'.m[i]? = some v
  pub : ∀ k, e.pub k → e'.pub k
  same : Same e.pub w w'
  sz : w.heap.size ≤ w'.heap.size
theorem Kept.refl (e : Env) (w : World) : Kept e w e w := ⟨fun _ _ h => h, fun _ h => h, Same.rfl' _ _, Nat.le_refl _⟩
theorem Kept.trans {e e1 e2 : Env} {w w1 w2 : World} (h : Kept e w e1 w1) (h' : Kept e1 w1 e2 w2) : Kept e w e2 w2 :=
  ⟨fun i v hi => h'.m i v (h.m i v hi), fun k hk => h'.pub k (h.pub k hk), fun k hk hl => by rw [h'.same k (h.pub k hk) (Nat.lt_of_lt_of_le hl h.sz), h.same k hk hl], Nat.le_trans h.sz h'.sz⟩
theorem RepD.kept {e e' : Env} {w w' : World} (h : Kept e w e' w') {x : D} {v : Value} (hx : RepD e.pub w x v) : RepD e'.pub w' x v := hx.to h.same fun k hk _ => h.pub k hk
theorem RepDs.kept {e e' : Env} {w w' : World} (h : Kept e w e' w') {x : List D} {v : List Value} (hx : RepDs e.pub w x v) : RepDs e'.pub w' x v := hx.to h.same fun k hk _ => h.pub k hk
mutual
theorem RepSV.kept {e e' : Env} {w w' : World} (h : Kept e w e' w') : ∀ {x : SV} {v : Value}, RepSV e w x v → RepSV e' w' x v
  | .d x, v, hx => by simp only [RepSV] at hx ⊢; exact RepD.kept h hx
  | .kb b, v, hx => hx
  | .own i off, v, hx => by
    simp only [RepSV] at hx ⊢
    obtain ⟨g, h1, h2⟩ := hx
    exact ⟨g, h.m _ _ h1, h2⟩
  | .row i, v, hx => by
    simp only [RepSV] at hx ⊢
    obtain ⟨A, n, c, h1, h2⟩ := hx
    exact ⟨A, n, c, h1, h.m _ _ h2⟩
  | .rowp i off, v, hx => by
    simp only [RepSV] at hx ⊢
    obtain ⟨ad, n, c, h1, h2⟩ := hx
    exact ⟨ad, n, c, h.m _ _ h1, h2⟩
  | .agg l, v, hx => by
    simp only [RepSV] at hx ⊢
    obtain ⟨l', e, h1⟩ := hx
    exact ⟨l', e, RepSVs.kept h h1⟩
  | .tup l, v, hx => by
    simp only [RepSV] at hx ⊢
    obtain ⟨l', e, h1⟩ := hx
    exact ⟨l', e, RepSVs.kept h h1⟩
  | .fn f a b, v, hx => by
    simp only [RepSV] at hx ⊢
    obtain ⟨a', b', e, h1, h2⟩ := hx
    exact ⟨a', b', e, RepSVs.kept h h1, RepSVs.kept h h2⟩
  | .ifc t x, v, hx => by
    simp only [RepSV] at hx ⊢
    obtain ⟨y, e, h1⟩ := hx
    exact ⟨y, e, RepSV.kept h h1⟩
  | .osl i n, v, hx => by
    simp only [RepSV] at hx ⊢
    obtain ⟨g, h1, h2⟩ := hx
    exact ⟨g, h.m _ _ h1, h2⟩
  | .nm i, v, hx => by
    simp only [RepSV] at hx ⊢
    obtain ⟨g, h1, h2⟩ := hx
    exact ⟨g, h1, h.m _ _ h2⟩
  | .nl, v, hx => hx
  | .any, v, hx => by simp only [RepSV]
theorem RepSVs.kept {e e' : Env} {w w' : World} (h : Kept e w e' w') : ∀ {l : List SV} {l' : List Value}, RepSVs e w l l' → RepSVs e' w' l l'
  | [], _, hx => by simpa only [RepSVs] using hx
  | x :: r, l', hx => by
    simp only [RepSVs] at hx ⊢
    obtain ⟨v, s, e, h1, h2⟩ := hx
    exact ⟨v, s, e, RepSV.kept h h1, RepSVs.kept h h2⟩
end
theorem RepSVs.len {e : Env} {w : World} : ∀ {l : List SV} {l' : List Value}, RepSVs e w l l' → l'.length = l.length
  | [], _, h => by simp only [RepSVs] at h; subst h; rfl
  | x :: r, l', h => by
    simp only [RepSVs] at h
    obtain ⟨v, s, rfl, h1, h2⟩ := h
    simp [RepSVs.len h2]
theorem RepSVs.get {e : Env} {w : World} : ∀ {l : List SV} {l' : List Value} {i : Nat} {x : SV}, RepSVs e w l l' → l[i]? = some x → ∃ v, l'[i]? = some v ∧ RepSV e w x v
  | [], _, i, x, _, hi => by simp at hi
  | y :: r, l', i, x, h, hi => by
    simp only [RepSVs] at h
    obtain ⟨v, s, rfl, h1, h2⟩ := h
    cases i with
    | zero => simp at hi; subst hi; exact ⟨v, rfl, h1⟩
    | succ i => simpa using RepSVs.get h2 (by simpa using hi)
theorem RepSVs.mk {e : Env} {w : World} : ∀ {l : List SV} {l' : List Value}, l'.length = l.length → (∀ (i : Nat) x v, l[i]? = some x → l'[i]? = some v → RepSV e w x v) → RepSVs e w l l'
  | [], l', h, _ => by simp only [RepSVs]; exact List.eq_nil_of_length_eq_zero (by simpa using h)
  | x :: r, [], h, _ => by simp at h
  | x :: r, v :: s, h, hg => by
    simp only [RepSVs]
    exact ⟨v, s, rfl, hg 0 x v rfl rfl, RepSVs.mk (by simpa using h) fun i y u h1 h2 => hg (i + 1) y u (by simpa using h1) (by simpa using h2)⟩
theorem RepSVs.app {e : Env} {w : World} : ∀ {l m : List SV} {l' m' : List Value}, RepSVs e w l l' → RepSVs e w m m' → RepSVs e w (l ++ m) (l' ++ m')
  | [], m, l', m', h, h' => by simp only [RepSVs] at h; subst h; exact h'
  | x :: r, m, l', m', h, h' => by
    simp only [RepSVs] at h
    obtain ⟨v, s, rfl, h1, h2⟩ := h
    simp only [List.cons_append, RepSVs]
    exact ⟨v, _, rfl, h1, RepSVs.app h2 h'⟩
/-- Closed data as symbolic values. -/
theorem RepSVs.ofD {e : Env} {w : World} : ∀ {l : List D} {l' : List Value}, RepDs e.pub w l l' ↔ RepSVs e w (l.map .d) l'
  | [], l' => by simp [RepDs, RepSVs]
  | x :: r, l' => by
    simp only [RepDs, List.map_cons, RepSVs, RepSV]
    constructor
    · rintro ⟨v, s, h1, h2, h3⟩; exact ⟨v, s, h1, h2, RepSVs.ofD.1 h3⟩
    · rintro ⟨v, s, h1, h2, h3⟩; exact ⟨v, s, h1, h2, RepSVs.ofD.2 h3⟩
end Go.Vx

/- States over data; what a state says of a machine's state; how it goes on. -/
namespace Go.Vx
open Go.RowKit Go.Vc

abbrev Tl := List (Nat × SV)
/-- What is said of an object's value and block: it stays, where what may be read stays. -/
structure AbP where
  φ : (Nat → Prop) → World → Value → Obj → Prop
  up : ∀ {S S' : Nat → Prop} {w w' : World} {v : Value} {o : Obj}, φ S w v o → Same S w w' → (∀ k, S k → k < w.heap.size → S' k) → φ S' w' v o
/-- Of the value and the block alone. -/
def abP (φ : Value → Obj → Prop) : AbP := ⟨fun _ _ v o => φ v o, fun h _ _ => h⟩
/-- The call's own objects: a block of cells; a slice that may be written and grow. -/
inductive Ob where
  | blk (t : TypeId) (cs : List SV)
  | row (t : TypeId) (eb sz n : Nat) (xs : List D)
  | ab (φ : AbP)
abbrev Hp := List (Nat × Ob)
structure St where
  T : Tl
  H : Hp
  n : Nat

/-- What is told of the program's package variables: it stays true. -/
structure Glob where
  p : (Nat → Prop) → World → Prop
  mono : ∀ {S S' : Nat → Prop} {w w' : World}, p S w → Same S w w' → (∀ k, S k → S' k) → w.heap.size ≤ w'.heap.size → p S' w'
  /-- How a world goes on: what is asked of it beside (that draws are counted, or nothing). -/
  d : World → World → Prop
  dt : ∀ {a b c : World}, d a b → d b c → d a c
  dm : ∀ {a b : World}, a.drawn ≤ b.drawn → d a b
/-- The world in which a call began; what might be read then; what the call may write of it. -/
structure Bs (G : Glob) (n0 : Nat) where
  w : World
  S : Nat → Prop
  M : Nat → Prop
  m : List Value
  hm : m.length = n0
  ds : List Deferred := []
def Bs.mine {G : Glob} {n0 : Nat} (b : Bs G n0) (k : Nat) : Prop := b.M k ∨ b.w.heap.size ≤ k

def footB : Value → Option Nat
  | .pointer (some a) => some a.block
  | .slice (some a) _ _ => some a.block
  | .map (some b) => some b
  | _ => none
def foot (e : Env) (i k : Nat) : Prop := ∃ v, e.m[i]? = some v ∧ footB v = some k
theorem footB_slice (A : Option Addr) (n c : Nat) : footB (.slice A n c) = rowB (.slice A n c) := by cases A <;> rfl

def ObOk (e : Env) (w : World) (i : Nat) : Ob → Prop
  | .blk t cs => ∃ g vs, e.m[i]? = some (.pointer (some ⟨g, 0, none⟩)) ∧ w.heap[g]? = some (.cells vs t (0, 0)) ∧ RepSVs e w cs vs.toList
  | .row t eb sz n xs => ∃ A c vs, e.m[i]? = some (.slice A n c) ∧ RowOk w ⟨.slice A n c, t, sz, vs⟩ ∧ RepDs e.pub w xs vs ∧ n * eb ≤ LB
  | .ab φ => ∃ v g o, e.m[i]? = some v ∧ footB v = some g ∧ (∀ A n c, v ≠ .slice A n c) ∧ w.heap[g]? = some o ∧ φ.φ e.pub w v o

def has (H : Hp) (i : Nat) : Prop := (lk H i).isSome = true
structure HpOk (e : Env) (w : World) (H : Hp) : Prop where
  ob : ∀ i o, lk H i = some o → ObOk e w i o
  sep : ∀ i j k, has H i → has H j → i ≠ j → foot e i k → ¬ foot e j k
  npub : ∀ i k, has H i → foot e i k → ¬ e.pub k
  pubLt : ∀ k, e.pub k → k < w.heap.size

theorem ObOk.lt {e : Env} {w : World} {i : Nat} {o : Ob} (h : ObOk e w i o) {k : Nat} (hk : foot e i k) : k < w.heap.size := by
  obtain ⟨v, hv, hf⟩ := hk
  cases o with
  | blk t cs =>
    obtain ⟨g, vs, h1, h2, _⟩ := h
    rw [h1] at hv; injection hv with hv; subst hv
    injection hf with hf; subst hf
    exact (Array.getElem?_eq_some_iff.1 h2).1
  | row t eb sz n xs =>
    obtain ⟨A, c, vs, h1, h2, _⟩ := h
    rw [h1] at hv; injection hv with hv; subst hv
    rw [footB_slice] at hf
    exact h2.lt hf
  | ab φ =>
    obtain ⟨v', g, o, h1, h2, _, h3, _⟩ := h
    rw [h1] at hv; injection hv with hv; subst hv
    rw [h2] at hf; injection hf with hf; subst hf
    exact (Array.getElem?_eq_some_iff.1 h3).1
theorem HpOk.lt {e : Env} {w : World} {H : Hp} (h : HpOk e w H) {i k : Nat} (hi : has H i) (hk : foot e i k) : k < w.heap.size := by
  obtain ⟨o, ho⟩ := Option.isSome_iff_exists.1 hi
  exact (h.ob i o ho).lt hk

/-- The names that a call was given stand for what they stood for (slices may move). -/
structure Pre {G : Glob} {n0 : Nat} (b : Bs G n0) (e : Env) : Prop where
  m : ∀ (i : Nat) v, b.m[i]? = some v → (∀ A n c, v ≠ .slice A n c) → e.m[i]? = some v
  le : b.m.length ≤ e.m.length
  up : ∀ k, b.S k → e.pub k
structure Ok {G : Glob} {n0 : Nat} (b : Bs G n0) (N : Nat) (e : Env) (st : St) (a : Act) (w : World) : Prop where
  sz : a.tmps.size = N
  df : a.defers = b.ds
  len : e.m.length = st.n
  tm : ∀ t sv, lk st.T t = some sv → RepSV e w sv (a.tmps.getD t undef)
  hp : HpOk e w st.H
  below : Only b.M b.w w
  dr : G.d b.w w
  mine : ∀ i k, has st.H i → foot e i k → b.mine k
  frm : ∀ k, e.pub k → b.S k ∨ b.mine k
  pre : Pre b e
  gl : G.p e.pub w

section
variable {G : Glob} {n0 : Nat} {b : Bs G n0} {N : Nat} {e : Env} {st : St} {a : Act} {w : World}

theorem Ok.drew (h : Ok b N e st a w) : Ok b N e st a { w with drawn := w.drawn + 1 } := by
  have kw : Kept e w e { w with drawn := w.drawn + 1 } := ⟨fun _ _ h => h, fun _ h => h, fun _ _ _ => rfl, Nat.le_refl _⟩
  refine ⟨h.sz, h.df, h.len, fun t sv ht => (h.tm t sv ht).kept kw, ⟨fun i o ho => ?_, h.hp.sep, h.hp.npub, h.hp.pubLt⟩, ⟨h.below.os, h.below.tape, h.below.output, h.below.size, h.below.block⟩, G.dt h.dr (G.dm (Nat.le_succ _)), h.mine, h.frm, h.pre, G.mono h.gl kw.same kw.pub (Nat.le_refl _)⟩
  have := h.hp.ob i o ho
  cases o with
  | blk t cs =>
    obtain ⟨g, vs, h1, h2, h3⟩ := this
    exact ⟨g, vs, h1, h2, h3.kept kw⟩
  | row t eb sz n xs =>
    obtain ⟨A, c, vs, h1, h2, h3, h4⟩ := this
    exact ⟨A, c, vs, h1, h2.keep fun _ _ => rfl, h3.kept kw, h4⟩
  | ab φ =>
    obtain ⟨v', g, o, h1, h2, h3, h4, h5⟩ := this
    exact ⟨v', g, o, h1, h2, h3, h4, φ.up h5 kw.same fun k hk _ => hk⟩

/-- A temporary gets a value. -/
theorem Ok.put (h : Ok b N e st a w) {d : Nat} {sv : SV} {v : Value} (hd : d < N) (hv : RepSV e w sv v) : Ok b N e ⟨(d, sv) :: st.T, st.H, st.n⟩ (a.put (some d) v) w := by
  refine ⟨by simp [Act.put, h.sz], h.df, h.len, fun t sv' ht => ?_, h.hp, h.below, h.dr, h.mine, h.frm, h.pre, h.gl⟩
  rw [put_get a d t _ (by rw [h.sz]; exact hd)]
  simp only [lk] at ht
  split at ht
  · rename_i e
    rw [if_pos (nbeq.1 e)]
    injection ht with ht; subst ht; exact hv
  · rename_i e
    rw [if_neg (nbeq_ne.1 e)]
    exact h.tm t sv' ht
def putK (N : Nat) (dst : Option Tmp) (sv : SV) (st : St) (K : St → Prop) : Prop :=
  match dst with
  | none => K st
  | some d => match Nat.blt d N, st with
    | true, ⟨T, H, n⟩ => K ⟨(d, sv) :: T, H, n⟩
    | false, _ => False
theorem putK_sound {dst : Option Tmp} {sv : SV} {K : St → Prop} {v : Value} (h : Ok b N e st a w) (hv : RepSV e w sv v) (hk : putK N dst sv st K) : ∃ st', Ok b N e st' (a.put dst v) w ∧ K st' ∧ st'.H = st.H := by
  unfold putK at hk
  split at hk
  · exact ⟨st, h, hk, rfl⟩
  · rename_i d
    split at hk
    · rename_i T H n hd
      rw [Nat.blt_eq] at hd
      exact ⟨_, h.put hd hv, hk, rfl⟩
    · exact hk.elim

/-- An object more, in new memory. -/
theorem Ok.addOb (h : Ok b N e st a w) {w' : World} {v : Value} {o : Ob} (hb : Below w.heap.size w w') (hd : w.drawn ≤ w'.drawn) (hf : ∀ k, footB v = some k → w.heap.size ≤ k) (ho : ∀ e' : Env, Kept e w e' w' → e'.m[st.n]? = some v → ObOk e' w' st.n o) :
    ∃ e', Ok b N e' ⟨st.T, (st.n, o) :: st.H, st.n + 1⟩ a w' ∧ Kept e w e' w' ∧ e'.m[st.n]? = some v ∧ e'.pub = e.pub := by
  have hm : ∀ (i : Nat) (u : Value), e.m[i]? = some u → (e.m ++ [v])[i]? = some u := fun i u hi => by
    rw [List.getElem?_append_left (List.getElem?_eq_some_iff.1 hi).1]; exact hi
  have hn : (e.m ++ [v])[st.n]? = some v := by rw [← h.len]; simp
  have kw : Kept e w ⟨e.m ++ [v], e.pub⟩ w' := ⟨hm, fun _ h => h, same_of_below hb _, hb.size⟩
  have hft : ∀ i k, has st.H i → foot ⟨e.m ++ [v], e.pub⟩ i k → foot e i k := by
    rintro i k hi ⟨u, h1, h2⟩
    obtain ⟨o', ho'⟩ := Option.isSome_iff_exists.1 hi
    have : ∃ u', e.m[i]? = some u' := by
      have := h.hp.ob i o' ho'
      cases o' with
      | blk t cs => obtain ⟨g, vs, h1, _⟩ := this; exact ⟨_, h1⟩
      | row t eb sz n xs => obtain ⟨A, c, vs, h1, _⟩ := this; exact ⟨_, h1⟩
      | ab φ => obtain ⟨v', g, o, h1, _⟩ := this; exact ⟨_, h1⟩
    obtain ⟨u', hu'⟩ := this
    have h1 : (e.m ++ [v])[i]? = some u := h1
    rw [hm i u' hu'] at h1; injection h1 with h1; subst h1
    exact ⟨_, hu', h2⟩
  have hnew : ∀ k, foot ⟨e.m ++ [v], e.pub⟩ st.n k → w.heap.size ≤ k := by
    rintro k ⟨u, h1, h2⟩
    have h1 : (e.m ++ [v])[st.n]? = some u := h1
    rw [hn] at h1; injection h1 with h1; subst h1; exact hf k h2
  have hsz := hb.size
  have hold : ∀ i, has ((st.n, o) :: st.H) i → i = st.n ∨ (has st.H i) := by
    intro i hi
    unfold has at hi
    simp only [lk] at hi
    split at hi
    · rename_i e'; exact .inl (nbeq.1 e').symm
    · exact .inr hi
  refine ⟨⟨e.m ++ [v], e.pub⟩, ⟨h.sz, h.df, by simp [h.len], fun t sv ht => (h.tm t sv ht).kept kw, ⟨fun i o' ho' => ?_, fun i j k hi hj hne h1 h2 => ?_, fun i k hi h1 h2 => ?_, fun k hk => Nat.lt_of_lt_of_le (h.hp.pubLt k hk) hsz⟩, h.below.trans (Only.of_below hb), G.dt h.dr (G.dm hd), fun i k hi h1 => ?_, h.frm, ⟨fun i v hi hv => hm i v (h.pre.m i v hi hv), by simp; have := h.pre.le; omega, h.pre.up⟩, G.mono h.gl kw.same kw.pub hsz⟩, kw, hn, rfl⟩
  · simp only [lk] at ho'
    split at ho'
    · rename_i e'
      obtain rfl := nbeq.1 e'
      injection ho' with ho'; subst ho'
      exact ho _ kw hn
    · have hlt : ∀ {k}, foot e i k → k < w.heap.size := fun hk => (h.hp.ob i o' ho').lt hk
      have := h.hp.ob i o' ho'
      cases o' with
      | blk t cs =>
        obtain ⟨g, vs, h1, h2, h3⟩ := this
        exact ⟨g, vs, hm _ _ h1, by rw [hb.block g (hlt ⟨_, h1, rfl⟩)]; exact h2, h3.kept kw⟩
      | row t eb sz n xs =>
        obtain ⟨A, c, vs, h1, h2, h3, h4⟩ := this
        exact ⟨A, c, vs, hm _ _ h1, h2.keep fun g hg => hb.block g (h2.lt hg), h3.kept kw, h4⟩
      | ab φ =>
        obtain ⟨v', g, o, h1, h2, h3, h4, h5⟩ := this
        exact ⟨v', g, o, hm _ _ h1, h2, h3, by rw [hb.block g (hlt ⟨_, h1, h2⟩)]; exact h4, φ.up h5 kw.same fun k hk _ => hk⟩
  · rcases hold i hi with rfl | hi' <;> rcases hold j hj with rfl | hj'
    · exact hne rfl
    · have := hnew k h1
      have := h.hp.lt hj' (hft j k hj' h2); omega
    · have := hnew k h2
      have := h.hp.lt hi' (hft i k hi' h1); omega
    · exact h.hp.sep i j k hi' hj' hne (hft i k hi' h1) (hft j k hj' h2)
  · rcases hold i hi with rfl | hi'
    · have := hnew k h1
      have := h.hp.pubLt k h2; omega
    · exact h.hp.npub i k hi' (hft i k hi' h1) h2
  · rcases hold i hi with rfl | hi'
    · exact .inr (Nat.le_trans h.below.size (hnew k h1))
    · exact h.mine i k hi' (hft i k hi' h1)
end

/-! ### Names that no longer stand for what they stood for -/
mutual
/-- What is known of a value, but for the slices of some rows. -/
def scrub (r : Nat → Bool) : SV → SV
  | .row i => match r i with
    | true => .any
    | false => .row i
  | .rowp i o => match r i with
    | true => .any
    | false => .rowp i o
  | .nm i => .nm i
  | .osl i n => .osl i n
  | .agg l => .agg (scrubs r l)
  | .tup l => .tup (scrubs r l)
  | .fn f a b => .fn f (scrubs r a) (scrubs r b)
  | .ifc t x => .ifc t (scrub r x)
  | .d x => .d x
  | .kb b => .kb b
  | .own i o => .own i o
  | .nl => .nl
  | .any => .any
def scrubs (r : Nat → Bool) : List SV → List SV
  | [] => []
  | x :: l => scrub r x :: scrubs r l
end
mutual
theorem RepSV.scrub {e e' : Env} {w w' : World} {r : Nat → Bool} (hm : ∀ (i : Nat) v, e.m[i]? = some v → (∀ A n c, v = .slice A n c → r i = false) → e'.m[i]? = some v) (hp : ∀ k, e.pub k → e'.pub k) (hs : Same e.pub w w') : ∀ {x : SV} {v : Value}, RepSV e w x v → RepSV e' w' (scrub r x) v
  | .d x, v, hx => by simp only [Vx.scrub, RepSV] at hx ⊢; exact hx.to hs fun k hk _ => hp k hk
  | .kb b, v, hx => by simpa only [Vx.scrub, RepSV] using hx
  | .own i off, v, hx => by
    simp only [Vx.scrub, RepSV] at hx ⊢
    obtain ⟨g, h1, h2⟩ := hx
    exact ⟨g, hm i _ h1 (fun _ _ _ h => by cases h), h2⟩
  | .row i, v, hx => by
    simp only [Vx.scrub]
    split
    · simp only [RepSV]
    · rename_i hr
      simp only [RepSV] at hx ⊢
      obtain ⟨A, n, c, h1, h2⟩ := hx
      exact ⟨A, n, c, h1, hm i _ h2 (fun _ _ _ _ => hr)⟩
  | .rowp i off, v, hx => by
    simp only [Vx.scrub]
    split
    · simp only [RepSV]
    · rename_i hr
      simp only [RepSV] at hx ⊢
      obtain ⟨ad, n, c, h1, h2⟩ := hx
      exact ⟨ad, n, c, hm i _ h1 (fun _ _ _ _ => hr), h2⟩
  | .agg l, v, hx => by
    simp only [Vx.scrub, RepSV] at hx ⊢
    obtain ⟨l', e, h1⟩ := hx
    exact ⟨l', e, RepSVs.scrub hm hp hs h1⟩
  | .tup l, v, hx => by
    simp only [Vx.scrub, RepSV] at hx ⊢
    obtain ⟨l', e, h1⟩ := hx
    exact ⟨l', e, RepSVs.scrub hm hp hs h1⟩
  | .fn f a b, v, hx => by
    simp only [Vx.scrub, RepSV] at hx ⊢
    obtain ⟨a', b', e, h1, h2⟩ := hx
    exact ⟨a', b', e, RepSVs.scrub hm hp hs h1, RepSVs.scrub hm hp hs h2⟩
  | .ifc t x, v, hx => by
    simp only [Vx.scrub, RepSV] at hx ⊢
    obtain ⟨y, e, h1⟩ := hx
    exact ⟨y, e, RepSV.scrub hm hp hs h1⟩
  | .osl i n, v, hx => by
    simp only [Vx.scrub, RepSV] at hx ⊢
    obtain ⟨g, h1, h2⟩ := hx
    exact ⟨g, hm i _ h1 (fun _ _ _ h => by cases h), h2⟩
  | .nm i, v, hx => by
    simp only [Vx.scrub, RepSV] at hx ⊢
    obtain ⟨g, h1, h2⟩ := hx
    exact ⟨g, h1, hm i v h2 fun A n c h => by rw [h1] at h; cases h⟩
  | .nl, v, hx => by simpa only [Vx.scrub, RepSV] using hx
  | .any, v, hx => by simp only [Vx.scrub, RepSV]
theorem RepSVs.scrub {e e' : Env} {w w' : World} {r : Nat → Bool} (hm : ∀ (i : Nat) v, e.m[i]? = some v → (∀ A n c, v = .slice A n c → r i = false) → e'.m[i]? = some v) (hp : ∀ k, e.pub k → e'.pub k) (hs : Same e.pub w w') : ∀ {l : List SV} {l' : List Value}, RepSVs e w l l' → RepSVs e' w' (scrubs r l) l'
  | [], _, hx => by simpa only [scrubs, RepSVs] using hx
  | x :: r, l', hx => by
    simp only [scrubs, RepSVs] at hx ⊢
    obtain ⟨v, s, e, h1, h2⟩ := hx
    exact ⟨v, s, e, RepSV.scrub hm hp hs h1, RepSVs.scrub hm hp hs h2⟩
end
def scrubO (r : Nat → Bool) : Ob → Ob
  | .blk t cs => .blk t (scrubs r cs)
  | .row t eb sz n xs => .row t eb sz n xs
  | .ab φ => .ab φ
def scrubT (r : Nat → Bool) (T : Tl) : Tl := T.map fun p => (p.1, scrub r p.2)
def without (r : Nat → Bool) : Hp → Hp
  | [] => []
  | (i, o) :: l => match r i with
    | true => without r l
    | false => (i, o) :: without r l
def scrubH (r : Nat → Bool) (H : Hp) : Hp := H.map fun p => (p.1, scrubO r p.2)
theorem lk_map {α β : Type} (f : α → β) : ∀ (l : List (Nat × α)) (i : Nat), lk (l.map fun p => (p.1, f p.2)) i = (lk l i).map f
  | [], i => rfl
  | (k, x) :: r, i => by
    simp only [List.map_cons, lk]
    split
    · rfl
    · exact lk_map f r i
theorem lk_without {r : Nat → Bool} : ∀ {H : Hp} {i : Nat}, lk (without r H) i = if r i = true then none else lk H i
  | [], i => by simp [without, lk]
  | (k, x) :: l, i => by
    simp only [without]
    split
    · rename_i hk
      rw [lk_without]
      by_cases he : k = i
      · subst he; simp [hk]
      · simp only [lk, nbeq_ne.2 he]
    · rename_i hk
      simp only [lk]
      split
      · rename_i e; obtain rfl := nbeq.1 e; simp [hk]
      · exact lk_without
theorem lk_app {α : Type} : ∀ (l m : List (Nat × α)) (i : Nat), lk (l ++ m) i = match lk l i with
    | some x => some x
    | none => lk m i
  | [], m, i => by simp [lk]
  | (k, x) :: r, m, i => by
    simp only [List.cons_append, lk]
    split
    · rfl
    · exact lk_app r m i

section
variable {G : Glob} {n0 : Nat} {b : Bs G n0} {N : Nat} {e : Env} {st : St} {a : Act} {w : World}
/-- Some objects are handed on, and come back otherwise: what else there is stays. 'r': those whose slices may be other ones now. -/
theorem Ok.frame (h : Ok b N e st a w) {r s : Nat → Bool} (hsr : ∀ i, s i = true → r i = true) {e' : Env} {w' : World} {H' : Hp} (q : Nat) (hlen : e'.m.length = e.m.length + q)
    (ho : Only (fun k => ∃ i, r i = true ∧ has st.H i ∧ foot e i k) w w') (hd : G.d w w')
    (hm : ∀ (i : Nat) v, e.m[i]? = some v → (∀ A n c, v = .slice A n c → s i = false) → e'.m[i]? = some v)
    (hp : ∀ k, e.pub k → e'.pub k) (hq : ∀ k, e'.pub k → e.pub k ∨ (∃ i, r i = true ∧ has st.H i ∧ foot e i k) ∨ w.heap.size ≤ k)
    (hH : HpOk e' w' H') (hf : ∀ i k, has H' i → foot e' i k → (∃ i, r i = true ∧ has st.H i ∧ foot e i k) ∨ w.heap.size ≤ k) :
    Ok b N e' ⟨scrubT s st.T, H' ++ scrubH s (without r st.H), st.n + q⟩ a w' := by
  have hrs : ∀ i, r i = false → s i = false := fun i hi => by
    cases hsi : s i with
    | false => rfl
    | true => rw [hsr i hsi] at hi; cases hi
  have hsame : Same e.pub w w' := fun k hk hl => ho.block k hl (by rintro ⟨i, h1, h2, h3⟩; exact h.hp.npub i k h2 h3 hk)
  have hrest : ∀ i, has (H' ++ scrubH s (without r st.H)) i → has H' i ∨ (r i = false ∧ has st.H i) := by
    intro i hi
    unfold has at hi
    rw [lk_app] at hi
    split at hi
    · rename_i x hx; exact .inl (by simp [has, hx])
    · rw [scrubH, lk_map, lk_without] at hi
      split at hi
      · cases hi
      · rename_i hr
        refine .inr ⟨by simpa using hr, ?_⟩
        unfold has
        cases hl : lk st.H i with
        | none => rw [hl] at hi; cases hi
        | some o => rfl
  have hfr : ∀ i k, r i = false → has st.H i → foot e' i k → foot e i k := by
    rintro i k hr hi ⟨u, h1, h2⟩
    obtain ⟨o, ho⟩ := Option.isSome_iff_exists.1 hi
    have : ∃ u', e.m[i]? = some u' := by
      have := h.hp.ob i o ho
      cases o with
      | blk t cs => obtain ⟨g, vs, h1, _⟩ := this; exact ⟨_, h1⟩
      | row t eb sz n xs => obtain ⟨A, c, vs, h1, _⟩ := this; exact ⟨_, h1⟩
      | ab φ => obtain ⟨v', g, o, h1, _⟩ := this; exact ⟨_, h1⟩
    obtain ⟨u', hu'⟩ := this
    have := hm i u' hu' (fun _ _ _ _ => hrs i hr)
    rw [this] at h1; injection h1 with h1; subst h1
    exact ⟨_, hu', h2⟩
  have hno : ∀ i k, r i = false → has st.H i → foot e i k → ¬ ∃ j, r j = true ∧ has st.H j ∧ foot e j k := by
    rintro i k hr hi h1 ⟨j, h2, h3, h4⟩
    exact h.hp.sep i j k hi h3 (by rintro rfl; rw [hr] at h2; cases h2) h1 h4
  refine ⟨h.sz, h.df, by rw [hlen, h.len], fun t sv ht => ?_, ⟨fun i o ho' => ?_, fun i j k hi hj hne h1 h2 => ?_, fun i k hi h1 h2 => ?_, hH.pubLt⟩, ⟨ho.os.trans h.below.os, ho.tape.trans h.below.tape, ho.output.trans h.below.output, Nat.le_trans h.below.size ho.size, fun k hk hn => ?_⟩, G.dt h.dr hd, fun i k hi h1 => ?_, fun k hk => ?_, ⟨fun i v hi hv => hm i v (h.pre.m i v hi hv) (fun A n c e => absurd e (hv A n c)), by rw [hlen]; have := h.pre.le; omega, fun k hk => hp k (h.pre.up k hk)⟩, G.mono h.gl hsame hp ho.size⟩
  · rw [scrubT, lk_map] at ht
    cases hl : lk st.T t with
    | none => rw [hl] at ht; cases ht
    | some x =>
      rw [hl] at ht; injection ht with ht; subst ht
      exact (h.tm t x hl).scrub hm hp hsame
  · rw [lk_app] at ho'
    split at ho'
    · rename_i x hx
      injection ho' with ho'; subst ho'
      exact hH.ob i _ hx
    · rw [scrubH, lk_map, lk_without] at ho'
      split at ho'
      · cases ho'
      · rename_i hr
        have hr : r i = false := by simpa using hr
        cases hl : lk st.H i with
        | none => rw [hl] at ho'; cases ho'
        | some o' =>
          rw [hl] at ho'; injection ho' with ho'; subst ho'
          have hi : has st.H i := by simp [has, hl]
          have hstay : ∀ k, foot e i k → w'.heap[k]? = w.heap[k]? := fun k hk => ho.block k (h.hp.lt hi hk) (hno i k hr hi hk)
          have := h.hp.ob i o' hl
          cases o' with
          | blk t cs =>
            obtain ⟨g, vs, h1, h2, h3⟩ := this
            exact ⟨g, vs, hm _ _ h1 (fun _ _ _ h => by cases h), by rw [hstay g ⟨_, h1, rfl⟩]; exact h2, h3.scrub hm hp hsame⟩
          | row t eb sz n xs =>
            obtain ⟨A, c, vs, h1, h2, h3, h4⟩ := this
            refine ⟨A, c, vs, hm _ _ h1 (fun _ _ _ _ => hrs i hr), h2.keep fun g hg => hstay g ⟨_, h1, by rw [footB_slice]; exact hg⟩, h3.to hsame fun k hk _ => hp k hk, h4⟩
          | ab φ =>
            obtain ⟨v', g, o, h1, h2, h3, h4, h5⟩ := this
            exact ⟨v', g, o, hm _ _ h1 (fun A n c h => absurd h (h3 A n c)), h2, h3, by rw [hstay g ⟨_, h1, h2⟩]; exact h4, φ.up h5 hsame fun k hk _ => hp k hk⟩
  · rcases hrest i hi with hi' | ⟨ri, hi'⟩ <;> rcases hrest j hj with hj' | ⟨rj, hj'⟩
    · exact hH.sep i j k hi' hj' hne h1 h2
    · have h2' := hfr j k rj hj' h2
      rcases hf i k hi' h1 with h3 | h3
      · exact hno j k rj hj' h2' h3
      · have := h.hp.lt hj' h2'; omega
    · have h1' := hfr i k ri hi' h1
      rcases hf j k hj' h2 with h3 | h3
      · exact hno i k ri hi' h1' h3
      · have := h.hp.lt hi' h1'; omega
    · exact h.hp.sep i j k hi' hj' hne (hfr i k ri hi' h1) (hfr j k rj hj' h2)
  · rcases hrest i hi with hi' | ⟨ri, hi'⟩
    · exact hH.npub i k hi' h1 h2
    · have h1' := hfr i k ri hi' h1
      rcases hq k h2 with h3 | h3 | h3
      · exact h.hp.npub i k hi' h1' h3
      · exact hno i k ri hi' h1' h3
      · have := h.hp.lt hi' h1'; omega
  · rw [ho.block k (Nat.lt_of_lt_of_le hk h.below.size) ?_]
    · exact h.below.block k hk hn
    · rintro ⟨i, h1, h2, h3⟩
      rcases h.mine i k h2 h3 with h4 | h4
      · exact hn h4
      · omega
  · rcases hrest i hi with hi' | ⟨ri, hi'⟩
    · rcases hf i k hi' h1 with ⟨j, h2, h3, h4⟩ | h3
      · exact h.mine j k h3 h4
      · exact .inr (Nat.le_trans h.below.size h3)
    · exact h.mine i k hi' (hfr i k ri hi' h1)
  · rcases hq k hk with h3 | ⟨j, h2, h3, h4⟩ | h3
    · exact h.frm k h3
    · exact .inr (h.mine j k h3 h4)
    · exact .inr (.inr (Nat.le_trans h.below.size h3))
end
end Go.Vx

/- Pure operations over symbolic values: what they come to. -/
namespace Go.Vx
open Go.RowKit Go.Vc

/-- What is told of a type. -/
inductive Kd where
  | int (k : IntKind) | bool | str | slice (e : Nat) | ptr | ifc | fn | map | other
structure TY where
  i : TI
  kd : Kd
def kdB : TypeDesc → Kd → Bool
  | .int k, .int k' => sameK k k'
  | .bool, .bool => true
  | .string, .str => true
  | .slice e, .slice e' => Nat.beq e e'
  | .pointer _, .ptr => true
  | .interface _, .ifc => true
  | .func _ _ _, .fn => true
  | .map _ _, .map => true
  | _, .other => true
  | _, _ => false
def kdOk (P : Program) (t : TypeId) (k : Kd) : Bool :=
  match P.underlying t with
  | some d => kdB d k
  | none => false
structure TYok (P : Program) (t : TypeId) (y : TY) : Prop where
  i : TIok P t y.i
  k : kdOk P t y.kd = true
def Tys (P : Program) (ty : List (Nat × TY)) : Prop := ∀ t y, lk ty t = some y → TYok P t y
theorem Tys_nil {P : Program} : Tys P [] := fun t i h => by simp [lk] at h
theorem Tys_cons {P : Program} {k : Nat} {i : TY} {r : List (Nat × TY)} (h : TYok P k i) (hr : Tys P r) : Tys P ((k, i) :: r) := by
  intro t j hj
  simp only [lk] at hj
  split at hj
  · rename_i e
    obtain rfl := nbeq.1 e
    injection hj with hj; subst hj; exact h
  · exact hr t j hj
/-- The first generator's table. -/
theorem Tys.old {P : Program} {ty : List (Nat × TY)} (h : Tys P ty) : TyOk P (ty.map fun p => (p.1, p.2.i)) := by
  intro t i hi
  rw [lk_map] at hi
  cases hl : lk ty t with
  | none => rw [hl] at hi; cases hi
  | some y => rw [hl] at hi; injection hi with hi; subst hi; exact (h t y hl).i
theorem TYok.get {P : Program} {t : TypeId} {y : TY} (h : TYok P t y) : ∃ d, P.underlying t = some d ∧ kdB d y.kd = true := by
  have := h.k
  unfold kdOk at this
  split at this
  · rename_i d hd; exact ⟨d, hd, this⟩
  · cases this
theorem TYok.int {P : Program} {t : TypeId} {y : TY} {k : IntKind} (h : TYok P t y) (hk : y.kd = .int k) : P.underlying t = some (.int k) := by
  obtain ⟨d, h1, h2⟩ := h.get
  rw [hk] at h2
  cases d <;> simp only [kdB] at h2 <;> try (cases h2; done)
  rw [h1, sameK_eq h2]
theorem TYok.bool {P : Program} {t : TypeId} {y : TY} (h : TYok P t y) (hk : y.kd = .bool) : P.underlying t = some .bool := by
  obtain ⟨d, h1, h2⟩ := h.get
  rw [hk] at h2
  cases d <;> simp only [kdB] at h2 <;> try (cases h2; done)
  exact h1
theorem TYok.str {P : Program} {t : TypeId} {y : TY} (h : TYok P t y) (hk : y.kd = .str) : P.underlying t = some .string := by
  obtain ⟨d, h1, h2⟩ := h.get
  rw [hk] at h2
  cases d <;> simp only [kdB] at h2 <;> try (cases h2; done)
  exact h1
theorem TYok.slice {P : Program} {t : TypeId} {y : TY} {e : Nat} (h : TYok P t y) (hk : y.kd = .slice e) : P.underlying t = some (.slice e) := by
  obtain ⟨d, h1, h2⟩ := h.get
  rw [hk] at h2
  cases d <;> simp only [kdB] at h2 <;> try (cases h2; done)
  rw [h1, nbeq.1 h2]
theorem TYok.ptr {P : Program} {t : TypeId} {y : TY} (h : TYok P t y) (hk : y.kd = .ptr) : ∃ e, P.underlying t = some (.pointer e) := by
  obtain ⟨d, h1, h2⟩ := h.get
  rw [hk] at h2
  cases d <;> simp only [kdB] at h2 <;> try (cases h2; done)
  exact ⟨_, h1⟩
theorem TYok.ifc {P : Program} {t : TypeId} {y : TY} (h : TYok P t y) (hk : y.kd = .ifc) : ∃ e, P.underlying t = some (.interface e) := by
  obtain ⟨d, h1, h2⟩ := h.get
  rw [hk] at h2
  cases d <;> simp only [kdB] at h2 <;> try (cases h2; done)
  exact ⟨_, h1⟩

/-- A constant, or a zero value's cell. -/
def cD : Value → SV
  | .int k n => .d (.int k n)
  | .bool b => .kb b
  | .string s => .d (.str s)
  | .slice none 0 0 => .nl
  | v => .d (.val v)
theorem cD_rep (e : Env) (w : World) (v : Value) : RepSV e w (cD v) v := by
  unfold cD
  split
  · simp only [RepSV, RepD]
  · simp only [RepSV]
  · simp only [RepSV, RepD]
  · simp only [RepSV]
  · simp only [RepSV, RepD]
/-- A zero value's cell, as data. -/
def zD : Value → D
  | .int k n => .int k n
  | .bool b => .bool b
  | .string s => .str s
  | .slice none 0 0 => .sl 0 0 []
  | v => .val v
theorem zD_rep (S : Nat → Prop) (w : World) (v : Value) : RepD S w (zD v) v := by
  unfold zD
  split
  · simp only [RepD]
  · simp only [RepD]
  · simp only [RepD]
  · simp only [RepD, RepC]
    exact ⟨none, 0, rfl, Nat.le_refl _, Nat.zero_le _, fun h => absurd rfl h, trivial⟩
  · simp only [RepD]
def cZ : Value → SV
  | .int k n => .d (.int k n)
  | .bool b => .d (.bool b)
  | .string s => .d (.str s)
  | .slice none 0 0 => .nl
  | v => .d (.val v)
theorem cZ_rep (e : Env) (w : World) (v : Value) : RepSV e w (cZ v) v := by
  unfold cZ
  split <;> simp only [RepSV, RepD]
def zs : List Value → List SV
  | [] => []
  | v :: r => cZ v :: zs r
theorem zs_rep (e : Env) (w : World) : ∀ l : List Value, RepSVs e w (zs l) l
  | [] => by simp [zs, RepSVs]
  | v :: r => by simp only [zs, RepSVs]; exact ⟨v, r, rfl, cZ_rep _ _ _, zs_rep e w r⟩

def ev (T : Tl) : Operand → Option SV
  | .tmp t => lk T t
  | .const v => some (cD v)
  | .global g => some (.d (.val (.pointer (some ⟨g, 0, none⟩))))
  | .func f => some (.d (.fn f [] []))
def evs (T : Tl) : List Operand → Option (List SV)
  | [] => some []
  | x :: r => match ev T x, evs T r with
    | some a, some l => some (a :: l)
    | _, _ => none
def evp (T : Tl) : List (Nat × Operand) → Option (List (Nat × SV))
  | [] => some []
  | (i, x) :: r => match ev T x, evp T r with
    | some a, some l => some ((i, a) :: l)
    | _, _ => none

/-- Data as a symbolic value: structs and tuples by their parts. -/
def dL : List D → List SV
  | [] => []
  | x :: r => .d x :: dL r
theorem dL_map (l : List D) : dL l = l.map .d := by
  induction l with
  | nil => rfl
  | cons x r ih => simp [dL, ih]
def cellsOf : SV → Option (List SV)
  | .agg l => some l
  | .d (.agg l) => some (dL l)
  | .d (.tup _) => none
  | .tup _ => none
  | .any => none
  | .d (.val (.agg _)) => none
  | .d (.val (.tuple _)) => none
  | x => some [x]
theorem cellsOf_rep {e : Env} {w : World} {x : SV} {l : List SV} {v : Value} (h : cellsOf x = some l) (hx : RepSV e w x v) : RepSVs e w l v.cells.toList := by
  have one : ∀ u : Value, RepSV e w x u → u.cells = #[u] → RepSVs e w [x] u.cells.toList := fun u hu hc => by
    rw [hc]; simp only [RepSVs]; exact ⟨u, [], rfl, hu, rfl⟩
  cases x with
  | agg m =>
    simp only [cellsOf, Option.some.injEq] at h; subst h
    simp only [RepSV] at hx
    obtain ⟨l', rfl, h1⟩ := hx
    exact h1
  | d y =>
    cases y with
    | agg m =>
      simp only [cellsOf, Option.some.injEq] at h; subst h
      simp only [RepSV, RepD] at hx
      obtain ⟨l', rfl, h1⟩ := hx
      rw [dL_map]
      exact RepSVs.ofD.1 h1
    | tup m => simp [cellsOf] at h
    | val u =>
      have hx' := hx
      simp only [RepSV, RepD] at hx
      subst hx
      cases v with
      | agg _ => simp [cellsOf] at h
      | tuple _ => simp [cellsOf] at h
      | _ =>
        simp only [cellsOf, Option.some.injEq] at h; subst h
        exact one _ hx' rfl
    | int k n =>
      simp only [cellsOf, Option.some.injEq] at h; subst h
      refine one _ hx ?_
      simp only [RepSV, RepD] at hx; subst hx; rfl
    | bool k =>
      simp only [cellsOf, Option.some.injEq] at h; subst h
      refine one _ hx ?_
      simp only [RepSV, RepD] at hx; subst hx; rfl
    | str k =>
      simp only [cellsOf, Option.some.injEq] at h; subst h
      refine one _ hx ?_
      simp only [RepSV, RepD] at hx; subst hx; rfl
    | sl eb n cs =>
      simp only [cellsOf, Option.some.injEq] at h; subst h
      refine one _ hx ?_
      simp only [RepSV, RepD] at hx; obtain ⟨A, c, rfl, _⟩ := hx; rfl
    | csl eb n cs =>
      simp only [cellsOf, Option.some.injEq] at h; subst h
      refine one _ hx ?_
      simp only [RepSV, RepD] at hx; obtain ⟨A, rfl, _⟩ := hx; rfl
    | ptr cs off =>
      simp only [cellsOf, Option.some.injEq] at h; subst h
      refine one _ hx ?_
      simp only [RepSV, RepD] at hx; obtain ⟨A, rfl, _⟩ := hx; rfl
    | fn f a b =>
      simp only [cellsOf, Option.some.injEq] at h; subst h
      refine one _ hx ?_
      simp only [RepSV, RepD] at hx; obtain ⟨A, c, rfl, _⟩ := hx; rfl
    | ifc t y =>
      simp only [cellsOf, Option.some.injEq] at h; subst h
      refine one _ hx ?_
      simp only [RepSV, RepD] at hx; obtain ⟨A, rfl, _⟩ := hx; rfl
  | kb k =>
    simp only [cellsOf, Option.some.injEq] at h; subst h
    refine one _ hx ?_
    simp only [RepSV] at hx; subst hx; rfl
  | own i o =>
    simp only [cellsOf, Option.some.injEq] at h; subst h
    refine one _ hx ?_
    simp only [RepSV] at hx; obtain ⟨g, _, rfl⟩ := hx; rfl
  | row i =>
    simp only [cellsOf, Option.some.injEq] at h; subst h
    refine one _ hx ?_
    simp only [RepSV] at hx; obtain ⟨A, n, c, rfl, _⟩ := hx; rfl
  | rowp i o =>
    simp only [cellsOf, Option.some.injEq] at h; subst h
    refine one _ hx ?_
    simp only [RepSV] at hx; obtain ⟨A, n, c, _, rfl⟩ := hx; rfl
  | osl i n =>
    simp only [cellsOf, Option.some.injEq] at h; subst h
    refine one _ hx ?_
    simp only [RepSV] at hx; obtain ⟨g, _, rfl⟩ := hx; rfl
  | nm i =>
    simp only [cellsOf, Option.some.injEq] at h; subst h
    refine one _ hx ?_
    simp only [RepSV] at hx; obtain ⟨g, rfl, _⟩ := hx; rfl
  | fn f a b =>
    simp only [cellsOf, Option.some.injEq] at h; subst h
    refine one _ hx ?_
    simp only [RepSV] at hx; obtain ⟨A, n, rfl, _⟩ := hx; rfl
  | ifc t y =>
    simp only [cellsOf, Option.some.injEq] at h; subst h
    refine one _ hx ?_
    simp only [RepSV] at hx; obtain ⟨A, rfl, _⟩ := hx; rfl
  | nl =>
    simp only [cellsOf, Option.some.injEq] at h; subst h
    refine one _ hx ?_
    simp only [RepSV] at hx; subst hx; rfl
  | tup m => simp [cellsOf] at h
  | any => simp [cellsOf] at h

/-- Parts laid into a zero value. -/
def fillF (flds : List (Nat × Nat)) : List SV → List (Nat × SV) → Option (List SV)
  | cs, [] => some cs
  | cs, (f, x) :: r => match nth flds f, cellsOf x with
    | some (o, n), some l => match Nat.beq l.length n, Nat.ble (o + n) cs.length, putAt o l cs with
      | true, true, some cs' => fillF flds cs' r
      | _, _, _ => none
    | _, _ => none

def isNilK : Kd → SV → Option Bool
  | .ptr, .d (.val (.pointer none)) => some true
  | .ptr, .d (.ptr _ _) => some false
  | .ptr, .own _ _ => some false
  | .ptr, .rowp _ _ => some false
  | _, _ => none
def boolOf : SV → Option Bool
  | .d (.bool b) => some b
  | .kb b => some b
  | _ => none
def binB (kd : Kd) (op : BinOp) (a b : SV) : Option SV :=
  match kd with
  | .int _ => match a, b with
    | .d (.int k a), .d (.int k' b) => match sameK k k' with
      | true => match op with
        | .add => some (.d (.int k (k.wrap (a + b))))
        | .sub => some (.d (.int k (k.wrap (a - b))))
        | .mul => some (.d (.int k (k.wrap (a * b))))
        | .eql => some (.d (.bool (a == b)))
        | .neq => some (.d (.bool (a != b)))
        | .lss => some (.d (.bool (decide (a < b))))
        | .leq => some (.d (.bool (decide (a ≤ b))))
        | .gtr => some (.d (.bool (decide (a > b))))
        | .geq => some (.d (.bool (decide (a ≥ b))))
        | _ => none
      | false => none
    | _, _ => none
  | .str => match a, b with
    | .d (.str x), .d (.str y) => match op with
      | .eql => some (.d (.bool (x.toList == y.toList)))
      | .neq => some (.d (.bool (!(x.toList == y.toList))))
      | .lss => some (.d (.bool (Op.bytesLess x.toList y.toList)))
      | .leq => some (.d (.bool (Op.bytesLess x.toList y.toList || x.toList == y.toList)))
      | .gtr => some (.d (.bool (!(Op.bytesLess x.toList y.toList || x.toList == y.toList))))
      | .geq => some (.d (.bool (!(Op.bytesLess x.toList y.toList))))
      | _ => none
    | _, _ => none
  | .bool => match boolOf a, boolOf b with
    | some x, some y => match op with
      | .eql => some (.d (.bool (x == y)))
      | .neq => some (.d (.bool (!(x == y))))
      | _ => none
    | _, _ => none
  | .ptr => match isNilK .ptr a, isNilK .ptr b with
    | some true, some y => match op with
      | .eql => some (.kb y)
      | .neq => some (.kb (!y))
      | _ => none
    | some false, some true => match op with
      | .eql => some (.kb false)
      | .neq => some (.kb true)
      | _ => none
    | _, _ => none
  | _ => none

def lenOp (ty : List (Nat × TY)) (T : Tl) (H : Hp) (args : List Operand) (tys : List TypeId) : Option SV :=
  match args, tys with
  | x :: _, t :: _ => match lk ty t with
    | some y => match y.kd with
      | .slice _ => match ev T x with
        | some (.d (.sl _ n _)) => some (.d (.int .i64 n))
        | some (.d (.csl _ n _)) => some (.d (.int .i64 n))
        | some .nl => some (.d (.int .i64 0))
        | some (.row i) => match lk H i with
          | some (.row _ _ _ n _) => some (.d (.int .i64 n))
          | _ => none
        | _ => none
      | .str => match ev T x with
        | some (.d (.str s)) => some (.d (.int .i64 s.size))
        | _ => none
      | _ => none
    | none => none
  | _, _ => none
/-- A pure operation's value. -/
def pOp (ty : List (Nat × TY)) (T : Tl) (H : Hp) : Op → Option SV
  | .move x => ev T x
  | .assign x => ev T x
  | .extract x i => match ev T x with
    | some (.tup l) => nth l i
    | _ => none
  | .unOp .not _ x => match ev T x with
    | some (.d (.bool b)) => some (.d (.bool (!b)))
    | some (.kb b) => some (.kb (!b))
    | _ => none
  | .unOp .neg _ x => match ev T x with
    | some (.d (.int k n)) => some (.d (.int k (k.wrap (0 - n))))
    | _ => none
  | .binOp op t x y _ => match lk ty t with
    | some z => match ev T x, ev T y with
      | some a, some b => binB z.kd op a b
      | _, _ => none
    | none => none
  | .fieldAddr s x f => match lk ty s with
    | some y => match nth y.i.flds f with
      | some (o, _) => match ev T x with
        | some (.own j off) => some (.own j (off + o))
        | some (.rowp j off) => some (.rowp j (off + o))
        | some (.d (.ptr cs off)) => some (.d (.ptr cs (off + o)))
        | _ => none
      | none => none
    | none => none
  | .nilCheck x => match ev T x with
    | some (.own j o) => some (.own j o)
    | some (.rowp j o) => some (.rowp j o)
    | some (.d (.ptr cs off)) => some (.d (.ptr cs off))
    | some (.d (.fn f a b)) => some (.d (.fn f a b))
    | some (.fn f a b) => some (.fn f a b)
    | _ => none
  | .load t x => match lk ty t with
    | some y => match ev T x with
      | some (.own j off) => match lk H j with
        | some (.blk _ cs) => match y.i.agg with
          | true => match takeF y.i.size (dropN off cs) with
            | some l => some (.agg l)
            | none => none
          | false => nth cs off
        | _ => none
      | some (.d (.ptr cs off)) => match y.i.agg with
        | true => match takeF y.i.size (dropN off cs) with
          | some l => some (.agg (dL l))
          | none => none
        | false => match nth cs off with
          | some x => some (.d x)
          | none => none
      | _ => none
    | none => none
  | .call { callee := .builtin .len, args := as, argTypes := ts } => lenOp ty T H as.toList ts.toList
  | .build t ps => match lk ty t with
    | some y => match evp T ps.toList, y.i.flds with
      | some l, _ :: _ => match fillF y.i.flds (zs y.i.z.cells.toList) l with
        | some cs => some (.agg cs)
        | none => none
      | _, _ => none
    | none => none
  | .makeFunc (.func f) a b => match evs T a.toList, evs T b.toList with
    | some x, some y => some (.fn f x y)
    | _, _ => none
  | .makeInterface t x => match lk ty t with
    | some y => match y.i.ifc with
      | false => match ev T x with
        | some a => some (.ifc t a)
        | none => none
      | true => none
    | none => none
  | .convert s t x => match lk ty s, lk ty t with
    | some a, some b => match a.kd, b.kd, ev T x with
      | .int _, .int k, some (.d (.int _ n)) => some (.d (.int k (k.wrap n)))
      | .str, .str, some (.d (.str s)) => some (.d (.str s))
      | _, _, _ => none
    | _, _ => none
  | _ => none

/-- What temporaries are known to hold. -/
def TmOk (e : Env) (w : World) (T : Tl) (f : Operand → Value) : Prop := ∀ x sv, ev T x = some sv → RepSV e w sv (f x)
theorem Ok.tmok {G : Glob} {n0 : Nat} {b : Bs G n0} {N : Nat} {e : Env} {st : St} {a : Act} {w : World} (h : Ok b N e st a w) : TmOk e w st.T a.eval := by
  intro x sv hx
  cases x with
  | tmp t => exact h.tm t sv hx
  | const v => simp only [ev, Option.some.injEq] at hx; subst hx; exact cD_rep _ _ _
  | global g => simp only [ev, Option.some.injEq] at hx; subst hx; simp only [RepSV, RepD]; rfl
  | func g => simp only [ev, Option.some.injEq] at hx; subst hx; simp only [RepSV, RepD]; exact ⟨#[], #[], rfl, rfl, rfl⟩
theorem evs_rep {e : Env} {w : World} {T : Tl} {f : Operand → Value} (hT : TmOk e w T f) : ∀ (l : List Operand) (r : List SV), evs T l = some r → RepSVs e w r (l.map f)
  | [], r, h => by simp [evs] at h; subst h; simp [RepSVs]
  | x :: t, r, h => by
    simp only [evs] at h
    split at h
    · rename_i a l ha hl
      injection h with h; subst h
      simp only [List.map_cons, RepSVs]
      exact ⟨_, _, rfl, hT x a ha, evs_rep hT t l hl⟩
    · cases h
theorem evp_rep {e : Env} {w : World} {T : Tl} {f : Operand → Value} (hT : TmOk e w T f) : ∀ (l : List (Nat × Operand)) (r : List (Nat × SV)), evp T l = some r → l.map (·.1) = r.map (·.1) ∧ RepSVs e w (r.map (·.2)) (l.map fun p => f p.2)
  | [], r, h => by simp [evp] at h; subst h; simp [RepSVs]
  | (i, x) :: t, r, h => by
    simp only [evp] at h
    split at h
    · rename_i a l ha hl
      injection h with h; subst h
      obtain ⟨h1, h2⟩ := evp_rep hT t l hl
      simp only [List.map_cons, RepSVs, h1]
      exact ⟨trivial, _, _, rfl, hT x a ha, h2⟩
    · cases h
end Go.Vx

/- Pure operations: soundness. -/
namespace Go.Vx
open Go.RowKit Go.Vc

/-- A later world in which the blocks at hand are as they were. -/
def Agr (e : Env) (H : Hp) (w w' : World) : Prop := Same e.pub w w' ∧ ∀ i t cs k, lk H i = some (.blk t cs) → foot e i k → w'.heap[k]? = w.heap[k]?
theorem Agr.refl (e : Env) (H : Hp) (w : World) : Agr e H w w := ⟨Same.rfl' _ _, fun _ _ _ _ _ _ => rfl⟩
def ObsOk (e : Env) (w : World) (H : Hp) : Prop := ∀ i o, lk H i = some o → ObOk e w i o

section
variable {P : Program} {w : World} {f : Operand → Value} {e : Env}

theorem binB_int {op : BinOp} {t : TypeId} {x y : Operand} {k : IntKind} {a b : Int} {sv : SV} {k0 : IntKind} (h : binB (.int k0) op (.d (.int k a)) (.d (.int k b)) = some sv) :
    ∃ v, RepSV e w sv v ∧ ∀ w', (do eqGuard op t x y (.int k a) (.int k b); binOp op t (.int k a) (.int k b) : Sem Value).run P w' = .ok v w' := by
  have hk : sameK k k = true := by cases k <;> rfl
  simp only [binB, hk] at h
  cases op <;> simp only [Option.some.injEq] at h <;> try (cases h; done)
  all_goals
    subst h
    refine ⟨_, by simp only [RepSV, RepD]; rfl, fun w' => ?_⟩
    rw [Sem.run_bind, eqGuard_int]
    simp [binOp, Op.intArith, Op.intCmp, go_sem]
theorem binB_str {op : BinOp} {t : TypeId} {x y : Operand} {a b : ByteArray} {sv : SV} (h : binB .str op (.d (.str a)) (.d (.str b)) = some sv) :
    ∃ v, RepSV e w sv v ∧ ∀ w', (do eqGuard op t x y (.string a) (.string b); binOp op t (.string a) (.string b) : Sem Value).run P w' = .ok v w' := by
  simp only [binB] at h
  cases op <;> simp only [Option.some.injEq] at h <;> try (cases h; done)
  all_goals
    subst h
    refine ⟨_, by simp only [RepSV, RepD]; rfl, fun w' => ?_⟩
    rw [Sem.run_bind, eqGuard_str]
    simp [binOp, Op.stringOp, go_sem]
theorem run_equal_bool {t : TypeId} (ht : P.underlying t = some .bool) {a b : Bool} {w' : World} : (Op.equal t (.bool a) (.bool b)).run P w' = .ok (a == b) w' := by
  unfold Op.equal
  rw [show Op.maxDepth = 9999 + 1 from rfl]
  unfold Op.equalIn
  rw [Sem.run_bind, run_under ht]
  rfl
theorem boolOf_rep {x : SV} {b : Bool} {v : Value} (h : boolOf x = some b) (hx : RepSV e w x v) : v = .bool b := by
  unfold boolOf at h
  split at h
  · injection h with h; subst h; simpa only [RepSV, RepD] using hx
  · injection h with h; subst h; simpa only [RepSV] using hx
  · cases h
theorem binB_bool {op : BinOp} {t : TypeId} (ht : P.underlying t = some .bool) {x y : Operand} {p q : SV} {u v : Value} {sv : SV} (h : binB .bool op p q = some sv) (hp : RepSV e w p u) (hq : RepSV e w q v) :
    ∃ v', RepSV e w sv v' ∧ ∀ w', (do eqGuard op t x y u v; binOp op t u v : Sem Value).run P w' = .ok v' w' := by
  simp only [binB] at h
  split at h <;> try (cases h; done)
  rename_i a b ha hb
  obtain rfl := boolOf_rep ha hp
  obtain rfl := boolOf_rep hb hq
  have hg : ∀ (w' : World), (eqGuard op t x y (.bool a) (.bool b)).run P w' = .ok () w' := by
    intro w'; unfold eqGuard; cases op <;> rfl
  cases op <;> simp only [Option.some.injEq] at h <;> try (cases h; done)
  · subst h
    refine ⟨_, by simp only [RepSV, RepD]; rfl, fun w' => ?_⟩
    rw [Sem.run_bind, hg]
    simp only [Result.andThen_ok, binOp]
    rw [Sem.run_bind, run_equal_bool ht]
    simp [go_sem]
  · subst h
    refine ⟨_, by simp only [RepSV, RepD]; rfl, fun w' => ?_⟩
    rw [Sem.run_bind, hg]
    simp only [Result.andThen_ok, binOp]
    rw [Sem.run_bind, run_equal_bool ht]
    simp [go_sem]
theorem isNil_rep {x : SV} {b : Bool} {v : Value} (h : isNilK .ptr x = some b) (hx : RepSV e w x v) : ∃ a : Option Addr, v = .pointer a ∧ a.isNone = b := by
  unfold isNilK at h
  split at h
  · injection h with h; subst h; simp only [RepSV, RepD] at hx; exact ⟨none, hx, rfl⟩
  · injection h with h; subst h; simp only [RepSV, RepD] at hx; obtain ⟨ad, rfl, _⟩ := hx; exact ⟨_, rfl, rfl⟩
  · injection h with h; subst h; simp only [RepSV] at hx; obtain ⟨ad, _, rfl⟩ := hx; exact ⟨_, rfl, rfl⟩
  · injection h with h; subst h; simp only [RepSV] at hx; obtain ⟨ad, _, _, _, rfl⟩ := hx; exact ⟨_, rfl, rfl⟩
  · cases h
theorem run_equal_ptr {t e' : TypeId} (ht : P.underlying t = some (.pointer e')) {a b : Option Addr} (h : a.isNone = true ∨ b.isNone = true) {w' : World} : (Op.equal t (.pointer a) (.pointer b)).run P w' = .ok (a.isNone && b.isNone) w' := by
  unfold Op.equal
  rw [show Op.maxDepth = 9999 + 1 from rfl]
  unfold Op.equalIn
  rw [Sem.run_bind, run_under ht]
  cases a with
  | none => rfl
  | some a => cases b with
    | none => rfl
    | some b => simp at h
theorem binB_ptr {op : BinOp} {t e' : TypeId} (ht : P.underlying t = some (.pointer e')) {x y : Operand} {p q : SV} {u v : Value} {sv : SV} (h : binB .ptr op p q = some sv) (hp : RepSV e w p u) (hq : RepSV e w q v) :
    ∃ v', RepSV e w sv v' ∧ ∀ w', (do eqGuard op t x y u v; binOp op t u v : Sem Value).run P w' = .ok v' w' := by
  have key : ∀ c : Bool, (∀ w', (Op.equal t u v).run P w' = .ok c w') → (∃ a b, u = .pointer a ∧ v = .pointer b) → (match op with | .eql => some (SV.kb c) | .neq => some (SV.kb (!c)) | _ => none) = some sv → ∃ v', RepSV e w sv v' ∧ ∀ w', (do eqGuard op t x y u v; binOp op t u v : Sem Value).run P w' = .ok v' w' := by
    rintro c hc ⟨a, b, rfl, rfl⟩ h
    have hg : ∀ (w' : World), (eqGuard op t x y (.pointer a) (.pointer b)).run P w' = .ok () w' := by
      intro w'; unfold eqGuard; cases op <;> rfl
    cases op <;> simp only [Option.some.injEq] at h <;> try (cases h; done)
    · subst h
      refine ⟨_, by simp only [RepSV]; rfl, fun w' => ?_⟩
      rw [Sem.run_bind, hg]
      simp only [Result.andThen_ok, binOp]
      rw [Sem.run_bind, hc]
      simp [go_sem]
    · subst h
      refine ⟨_, by simp only [RepSV]; rfl, fun w' => ?_⟩
      rw [Sem.run_bind, hg]
      simp only [Result.andThen_ok, binOp]
      rw [Sem.run_bind, hc]
      simp [go_sem]
  simp only [binB] at h
  split at h <;> try (cases h; done)
  · rename_i c ha hb
    obtain ⟨a, rfl, h1⟩ := isNil_rep ha hp
    obtain ⟨b, rfl, h2⟩ := isNil_rep hb hq
    refine key c (fun w' => by rw [run_equal_ptr ht (.inl h1), h1, h2]; rfl) ⟨_, _, rfl, rfl⟩ ?_
    cases op <;> exact h
  · rename_i ha hb
    obtain ⟨a, rfl, h1⟩ := isNil_rep ha hp
    obtain ⟨b, rfl, h2⟩ := isNil_rep hb hq
    refine key false (fun w' => by rw [run_equal_ptr ht (.inr h2), h1, h2]; rfl) ⟨_, _, rfl, rfl⟩ ?_
    cases op <;> exact h

theorem binB_sound {ty : List (Nat × TY)} (hty : Tys P ty) {op : BinOp} {t : TypeId} {z : TY} (hz : lk ty t = some z) {x y : Operand} {p q : SV} {u v : Value} {sv : SV} (h : binB z.kd op p q = some sv) (hp : RepSV e w p u) (hq : RepSV e w q v) :
    ∃ v', RepSV e w sv v' ∧ ∀ w', (do eqGuard op t x y u v; binOp op t u v : Sem Value).run P w' = .ok v' w' := by
  have ht := hty _ _ hz
  cases hk : z.kd with
  | int k0 =>
    rw [hk] at h
    cases p <;> try (simp [binB] at h; done)
    rename_i p; cases p <;> try (simp [binB] at h; done)
    cases q <;> try (simp [binB] at h; done)
    rename_i q; cases q <;> try (simp [binB] at h; done)
    rename_i k a k' b
    by_cases hs : sameK k k' = true
    · obtain rfl := sameK_eq hs
      simp only [RepSV, RepD] at hp hq
      subst hp; subst hq
      exact binB_int h
    · simp only [binB] at h
      rw [Bool.not_eq_true] at hs
      simp [hs] at h
  | str =>
    rw [hk] at h
    cases p <;> try (simp [binB] at h; done)
    rename_i p; cases p <;> try (simp [binB] at h; done)
    cases q <;> try (simp [binB] at h; done)
    rename_i q; cases q <;> try (simp [binB] at h; done)
    simp only [RepSV, RepD] at hp hq
    subst hp; subst hq
    exact binB_str h
  | bool => rw [hk] at h; exact binB_bool (ht.bool hk) h hp hq
  | ptr =>
    rw [hk] at h
    obtain ⟨e', he⟩ := ht.ptr hk
    exact binB_ptr he h hp hq
  | _ => rw [hk] at h; simp [binB] at h

theorem lenOp_sound {ty : List (Nat × TY)} (hty : Tys P ty) {T : Tl} {H : Hp} (hT : TmOk e w T f) (hH : ObsOk e w H) {as : Array Operand} {ts : Array TypeId} {sv : SV} {t0 : TypeId} (h : lenOp ty T H as.toList ts.toList = some sv) :
    ∃ v, RepSV e w sv v ∧ ∀ w', (Builtin.len_ ts t0 (as.map f)).run P w' = .ok v w' := by
  unfold lenOp at h
  split at h
  · rename_i x as' t ts' ha ht
    have ha' : (as.map f)[0]? = some (f x) := by rw [← Array.getElem?_toList]; simp [ha]
    have ht' : ts[0]? = some t := by rw [← Array.getElem?_toList]; simp [ht]
    unfold Builtin.len_
    rw [ha', ht']
    split at h <;> try (cases h; done)
    rename_i y hy
    have hk := hty _ _ hy
    split at h <;> try (cases h; done)
    · rename_i el hkd
      have hu := hk.slice hkd
      split at h <;> try (cases h; done)
      · rename_i eb n cs hx
        injection h with h; subst h
        have := hT _ _ hx
        simp only [RepSV, RepD] at this
        obtain ⟨A, c, hv, _⟩ := this
        rw [hv]
        refine ⟨_, by simp only [RepSV, RepD]; rfl, fun w' => ?_⟩
        simp only [Sem.run_bind, run_under hu, Result.andThen_ok]
        rfl
      · rename_i eb n cs hx
        injection h with h; subst h
        have := hT _ _ hx
        simp only [RepSV, RepD] at this
        obtain ⟨A, hv, _⟩ := this
        rw [hv]
        refine ⟨_, by simp only [RepSV, RepD]; rfl, fun w' => ?_⟩
        simp only [Sem.run_bind, run_under hu, Result.andThen_ok]
        rfl
      · rename_i hx
        injection h with h; subst h
        have := hT _ _ hx
        simp only [RepSV] at this
        rw [this]
        refine ⟨_, by simp only [RepSV, RepD]; rfl, fun w' => ?_⟩
        simp only [Sem.run_bind, run_under hu, Result.andThen_ok]
        rfl
      · rename_i i hx
        split at h <;> try (cases h; done)
        rename_i t1 eb sz n xs hi
        injection h with h; subst h
        have h1 := hT _ _ hx
        simp only [RepSV] at h1
        obtain ⟨A, n', c, hv, hm⟩ := h1
        obtain ⟨A', c', vs, hm', _⟩ := hH _ _ hi
        rw [hv, hm'] at hm
        injection hm with hm; injection hm with e1 e2 e3
        subst e2
        rw [hv]
        refine ⟨_, by simp only [RepSV, RepD]; rfl, fun w' => ?_⟩
        simp only [Sem.run_bind, run_under hu, Result.andThen_ok]
        rfl
    · rename_i hkd
      have hu := hk.str hkd
      split at h <;> try (cases h; done)
      rename_i s hx
      injection h with h; subst h
      have := hT _ _ hx
      simp only [RepSV, RepD] at this
      rw [this]
      refine ⟨_, by simp only [RepSV, RepD]; rfl, fun w' => ?_⟩
      simp only [Sem.run_bind, run_under hu, Result.andThen_ok]
      rfl
  · cases h

/-- Parts laid into a struct: the values follow the symbols. -/
theorem putAt_rep {off : Nat} {l cs cs' : List SV} {vl vc : List Value} (h : putAt off l cs = some cs') (hb : off + l.length ≤ cs.length) (hl : RepSVs e w l vl) (hc : RepSVs e w cs vc) :
    ∃ vr : Array Value, (vl.zipIdx 0).foldl (fun cs (x : Value × Nat) => cs.setIfInBounds (off + x.2) x.1) vc.toArray = vr ∧ RepSVs e w cs' vr.toList := by
  obtain ⟨g1, g2, g3⟩ := putAt_get _ _ _ _ h
  obtain ⟨k1, k2⟩ := foldl_put vc.toArray off vl 0 vc.toArray
  refine ⟨_, rfl, RepSVs.mk ?_ fun i x v hx hv => ?_⟩
  · rw [Array.length_toList, k1]; simp [hc.len, g1]
  · rw [Array.getElem?_toList, k2 i] at hv
    rw [g3 i] at hx
    simp only [Nat.add_zero, List.size_toArray, hl.len, hc.len, List.getElem?_toArray] at hv
    by_cases c : off ≤ i ∧ i < off + l.length
    · rw [if_pos c] at hx
      rw [if_pos ⟨c.1, c.2, by omega⟩] at hv
      obtain ⟨u, h1, h2⟩ := hl.get hx
      rw [hv] at h1; injection h1 with h1; subst h1; exact h2
    · rw [if_neg c] at hx
      rw [if_neg (by omega)] at hv
      obtain ⟨u, h1, h2⟩ := hc.get hx
      rw [hv] at h1; injection h1 with h1; subst h1; exact h2
theorem fill_rep {flds : List (Nat × Nat)} {place : Nat → Option (Nat × Nat)} (hp : ∀ (i o n : Nat), flds[i]? = some (o, n) → place i = some (o, n)) : ∀ (ps : List (Nat × SV)) (pv : List (Nat × Value)) (cs r : List SV) (vc : List Value), fillF flds cs ps = some r → pv.map (·.1) = ps.map (·.1) → RepSVs e w (ps.map (·.2)) (pv.map (·.2)) → RepSVs e w cs vc →
    ∃ vr : Array Value, Instr.fill place vc.toArray pv = some vr ∧ RepSVs e w r vr.toList
  | [], pv, cs, r, vc, h, he, _, hc => by
    simp [fillF] at h; subst h
    have : pv = [] := by simpa using he
    subst this
    exact ⟨vc.toArray, by simp [Instr.fill], by simpa using hc⟩
  | (i, x) :: ps, pv, cs, r, vc, h, he, hv, hc => by
    simp only [fillF] at h
    split at h <;> try (cases h; done)
    rename_i o n l h1 h2
    split at h <;> try (cases h; done)
    rename_i cs' h3 hb h4
    cases pv with
    | nil => simp at he
    | cons p pv =>
      obtain ⟨i', v⟩ := p
      simp only [List.map_cons, List.cons.injEq] at he
      obtain ⟨rfl, he⟩ := he
      simp only [List.map_cons, RepSVs] at hv
      obtain ⟨v', s, e1, hv1, hv2⟩ := hv
      simp only [List.cons.injEq] at e1
      obtain ⟨rfl, rfl⟩ := e1
      rw [nth_eq] at h1
      have hpl := hp _ _ _ h1
      have hcs := cellsOf_rep h2 hv1
      have hn := nbeq.1 h3
      have hb' := Nat.le_of_ble_eq_true hb
      have hsz : v.cells.size = n := by
        have := hcs.len
        rw [Array.length_toList] at this
        omega
      obtain ⟨vr, q1, q2⟩ := putAt_rep h4 (by omega) hcs hc
      simp only [Instr.fill, hpl, hsz]
      rw [if_neg (by have := hc.len; simp; omega)]
      have he' : v.cells.zipIdx.foldl (fun cs (c, j) => cs.setIfInBounds (o + j) c) vc.toArray = vr := by
        rw [← q1, ← Array.foldl_toList, Array.toList_zipIdx]
      rw [he']
      have := fill_rep hp ps pv cs' r vr.toList h he hv2 q2
      simpa using this

theorem build_rep {ty : List (Nat × TY)} (hty : Tys P ty) {t : TypeId} {y : TY} (ht : lk ty t = some y) {ps : List (Nat × SV)} {pv : List (Nat × Value)} {cs : List SV} (hne : y.i.flds ≠ [])
    (h : fillF y.i.flds (zs y.i.z.cells.toList) ps = some cs) (he : pv.map (·.1) = ps.map (·.1)) (hv : RepSVs e w (ps.map (·.2)) (pv.map (·.2))) :
    ∃ v, RepSV e w (.agg cs) v ∧ ∀ w', (Instr.build t pv.toArray).run P w' = .ok v w' := by
  have hyi := (hty _ _ ht).i
  obtain ⟨yy, d, hy, hd, h1, h2, h3, h4, h5, h6, h7, h8⟩ := hyi.get
  have hz := fun w' => run_zeroValue (w := w') hyi
  obtain ⟨a0, b0, hf0⟩ := List.exists_cons_of_ne_nil hne
  have h0 : y.i.flds[0]? = some a0 := by rw [hf0]; rfl
  obtain ⟨fs, _, _, rfl, hsz, _⟩ := fldB_get h5 h0
  let r : Field → Nat × Nat := fun fd => (fd.offset, ((P.info? fd.type).map (·.size)).getD 0)
  have hr : ∀ w', ∀ x, x ∈ fs.toList → (do pure (x.offset, ← sizeOf x.type) : Sem (Nat × Nat)).run P w' = .ok (r x) w' := by
    intro w' x hx
    obtain ⟨j, hj⟩ := List.mem_iff_getElem?.1 hx
    rw [Array.getElem?_toList] at hj
    have hlt : j < fs.size := (Array.getElem?_eq_some_iff.1 hj).1
    have hl : j < y.i.flds.length := by omega
    obtain ⟨fs', fd', x', e, _, k1, k2, k3, k4, k5⟩ := fldB_get h5 (List.getElem?_eq_getElem hl)
    injection e with e; subst e
    rw [hj] at k1; injection k1 with k1; subst k1
    have : (sizeOf x.type).run P w' = .ok x'.size w' := by
      unfold sizeOf
      rw [Sem.run_bind, run_info k3]; rfl
    rw [Sem.run_bind, this]
    simp [r, k3, go_sem]
  have hm2 : ∀ w', (fs.mapM fun f : Field => (do pure (f.offset, ← sizeOf f.type) : Sem (Nat × Nat))).run P w' = .ok (fs.map r) w' := by
    intro w'
    have hm := run_mapM (P := P) (w := w') (fun f : Field => (do pure (f.offset, ← sizeOf f.type) : Sem (Nat × Nat))) r fs.toList (hr w')
    rw [Array.mapM_eq_mapM_toList, map_eq_pure_bind, Sem.run_bind, hm]
    simp [go_sem]
    apply Array.ext'
    simp
  have hp : ∀ (j o n : Nat), y.i.flds[j]? = some (o, n) → (fs.map r)[j]? = some (o, n) := by
    intro j o n hj
    obtain ⟨fs', fd', x', e, _, k1, k2, k3, k4, k5⟩ := fldB_get h5 hj
    injection e with e; subst e
    rw [Array.getElem?_map, k1]
    simp [r, k3, k2, k4]
  obtain ⟨vr, q1, q2⟩ := fill_rep (e := e) (w := w) hp ps pv _ cs y.i.z.cells.toList h he hv (zs_rep _ _ _)
  refine ⟨.agg vr, by simp only [RepSV]; exact ⟨_, rfl, q2⟩, fun w' => ?_⟩
  unfold Instr.build
  simp only [Sem.run_bind, hz, Result.andThen_ok, run_under hd]
  rw [hm2]
  simp only [Result.andThen_ok]
  simp only [Array.toArray_toList] at q1
  rw [q1]
  simp [go_sem]
end
end Go.Vx

/- Pure operations: all of them; what is asked where more must be known. -/
namespace Go.Vx
open Go.RowKit Go.Vc

section
variable {P : Program} {w : World} {f : Operand → Value} {e : Env}

theorem lk_old {ty : List (Nat × TY)} (hty : Tys P ty) {t : TypeId} {y : TY} (h : lk ty t = some y) : TIok P t y.i := (hty _ _ h).i
theorem nthD {S : Nat → Prop} {w : World} {cs : List D} {off : Nat} {x : D} {ad : Addr} (h : RepC S w cs (some ad) 0) (hx : nth cs off = some x) : ∃ v, S ad.block ∧ w.cell? (ad.add off) = some v ∧ RepD S w x v := by
  rw [nth_eq] at hx
  obtain ⟨ad', v, e1, h1, h2, h3⟩ := h.get hx
  injection e1 with e1; subst e1
  exact ⟨v, h1, by simpa using h2, h3⟩

/-- Operations that look at memory. -/
def ldB : Op → Bool
  | .load _ _ => true
  | _ => false
theorem pOp_sound {ty : List (Nat × TY)} (hty : Tys P ty) {T : Tl} {H : Hp} (hT : TmOk e w T f) (hH : ObsOk e w H) {o : Oper} {sv : SV} (h : pOp ty T H o.op = some sv) :
    ∃ v, RepSV e w sv v ∧ ∀ w', (ldB o.op = true → Agr e H w w') → (execOp f o).run P w' = .ok (.value v) w' := by
  obtain ⟨dst, op, type, pos, after, guard⟩ := o
  simp only at h
  unfold pOp at h
  split at h <;> try (cases h; done)
  · exact ⟨_, hT _ _ h, fun w' _ => by simp only [execOp]; rfl⟩
  · exact ⟨_, hT _ _ h, fun w' _ => by simp only [execOp]; rfl⟩
  · rename_i x i
    split at h <;> try (cases h; done)
    rename_i l hx
    have := hT _ _ hx
    simp only [RepSV] at this
    obtain ⟨l', hv, h1⟩ := this
    rw [nth_eq] at h
    obtain ⟨v, h2, h3⟩ := h1.get h
    refine ⟨v, h3, fun w' _ => ?_⟩
    simp only [execOp]
    refine run_val ?_
    rw [hv]
    rw [Array.getElem?_toList] at h2
    simp only [Instr.extract, h2]; rfl
  · rename_i x
    split at h <;> try (cases h; done)
    · rename_i b hx
      injection h with h; subst h
      have := hT _ _ hx
      simp only [RepSV, RepD] at this
      refine ⟨.bool !b, by simp only [RepSV, RepD], fun w' _ => ?_⟩
      simp only [execOp]
      refine run_val ?_
      rw [this]; rfl
    · rename_i b hx
      injection h with h; subst h
      have := hT _ _ hx
      simp only [RepSV] at this
      refine ⟨.bool !b, by simp only [RepSV], fun w' _ => ?_⟩
      simp only [execOp]
      refine run_val ?_
      rw [this]; rfl
  · rename_i x
    split at h <;> try (cases h; done)
    rename_i k n hx
    injection h with h; subst h
    have := hT _ _ hx
    simp only [RepSV, RepD] at this
    refine ⟨_, by simp only [RepSV, RepD]; rfl, fun w' _ => ?_⟩
    simp only [execOp]
    refine run_val ?_
    rw [this]; rfl
  · rename_i op' t x y t'
    split at h <;> try (cases h; done)
    rename_i z hz
    split at h <;> try (cases h; done)
    rename_i a b hx hy
    obtain ⟨v, h1, h2⟩ := binB_sound hty hz (x := x) (y := y) h (hT _ _ hx) (hT _ _ hy)
    refine ⟨v, h1, fun w' _ => ?_⟩
    simp only [execOp]
    exact run_val (h2 w')
  · rename_i s x fd
    split at h <;> try (cases h; done)
    rename_i y hs
    split at h <;> try (cases h; done)
    rename_i o n hf
    have hlk : lk (ty.map fun p => (p.1, p.2.i)) s = some y.i := by rw [lk_map, hs]; rfl
    have hfa : ∀ (a : Addr) w', (Instr.fieldAt s (.pointer (some a)) fd).run P w' = .ok (.pointer (some (a.add o))) w' := fun a w' => fieldAt_sound hty.old hlk hf a
    split at h <;> try (cases h; done)
    · rename_i j off hx
      injection h with h; subst h
      have := hT _ _ hx
      simp only [RepSV] at this
      obtain ⟨g, h1, hv⟩ := this
      refine ⟨.pointer (some ⟨g, off + o, none⟩), by simp only [RepSV]; exact ⟨g, h1, rfl⟩, fun w' _ => ?_⟩
      simp only [execOp]
      refine run_val ?_
      rw [hv, hfa, add_own]
    · rename_i j off hx
      injection h with h; subst h
      have := hT _ _ hx
      simp only [RepSV] at this
      obtain ⟨ad, n', c, h1, hv⟩ := this
      refine ⟨.pointer (some (ad.add (off + o))), by simp only [RepSV]; exact ⟨ad, n', c, h1, rfl⟩, fun w' _ => ?_⟩
      simp only [execOp]
      refine run_val ?_
      rw [hv, hfa, add_add]
    · rename_i cs off hx
      injection h with h; subst h
      have := hT _ _ hx
      simp only [RepSV, RepD] at this
      obtain ⟨ad, hv, h1⟩ := this
      refine ⟨.pointer (some (ad.add (off + o))), by simp only [RepSV, RepD]; exact ⟨ad, rfl, h1⟩, fun w' _ => ?_⟩
      simp only [execOp]
      refine run_val ?_
      rw [hv, hfa, add_add]
  · rename_i x
    split at h <;> try (cases h; done)
    · rename_i j o' hx
      injection h with h; subst h
      have hr := hT _ _ hx
      have := hr
      simp only [RepSV] at this
      obtain ⟨g, h1, hv⟩ := this
      refine ⟨_, hr, fun w' _ => ?_⟩
      simp only [execOp]; rw [hv]; rfl
    · rename_i j o' hx
      injection h with h; subst h
      have hr := hT _ _ hx
      have := hr
      simp only [RepSV] at this
      obtain ⟨g, _, _, h1, hv⟩ := this
      refine ⟨_, hr, fun w' _ => ?_⟩
      simp only [execOp]; rw [hv]; rfl
    · rename_i cs off hx
      injection h with h; subst h
      have hr := hT _ _ hx
      have := hr
      simp only [RepSV, RepD] at this
      obtain ⟨g, hv, _⟩ := this
      refine ⟨_, hr, fun w' _ => ?_⟩
      simp only [execOp]; rw [hv]; rfl
    · rename_i g a b hx
      injection h with h; subst h
      have hr := hT _ _ hx
      have := hr
      simp only [RepSV, RepD] at this
      obtain ⟨a', b', hv, _⟩ := this
      refine ⟨_, hr, fun w' _ => ?_⟩
      simp only [execOp]; rw [hv]; rfl
    · rename_i g a b hx
      injection h with h; subst h
      have hr := hT _ _ hx
      have := hr
      simp only [RepSV] at this
      obtain ⟨a', b', hv, _⟩ := this
      refine ⟨_, hr, fun w' _ => ?_⟩
      simp only [execOp]; rw [hv]; rfl
  · rename_i t x
    split at h <;> try (cases h; done)
    rename_i y hy
    have hyi := lk_old hty hy
    split at h <;> try (cases h; done)
    · rename_i j off hx
      have hr := hT _ _ hx
      simp only [RepSV] at hr
      obtain ⟨g, hm, hv⟩ := hr
      split at h <;> try (cases h; done)
      rename_i t1 cs hj
      obtain ⟨g', vs, hm', hh, hcs⟩ := hH _ _ hj
      rw [hm] at hm'; injection hm' with hm'; injection hm' with hm'; injection hm' with hm'; injection hm' with hm'
      subst hm'
      have hcell : ∀ w', Agr e H w w' → ∀ o, w'.cell? ⟨g, o, none⟩ = vs[o]? := fun w' hw o => cell_own (by rw [hw.2 j t1 cs g hj ⟨_, hm, rfl⟩]; exact hh) o
      split at h
      · rename_i hagg
        split at h <;> try (cases h; done)
        rename_i l hl
        injection h with h; subst h
        obtain ⟨rfl, h2⟩ := takeF_eq _ _ _ hl
        rw [dropN_eq] at h2 ⊢
        refine ⟨.agg ((vs.toList.drop off).take y.i.size).toArray, ?_, fun w' hw => ?_⟩
        · simp only [RepSV]
          refine ⟨_, rfl, RepSVs.mk ?_ fun i x' v h3 h4 => ?_⟩
          · have := hcs.len; simp at this ⊢; omega
          · rw [List.getElem?_take] at h3
            simp only [List.getElem?_take] at h4
            split at h3
            · rename_i hi
              rw [if_pos hi, List.getElem?_drop] at h4
              rw [List.getElem?_drop] at h3
              obtain ⟨u, h5, h6⟩ := hcs.get h3
              rw [h4] at h5; injection h5 with h5; subst h5; exact h6
            · cases h3
        · have hw := hw rfl
          simp only [execOp]
          refine run_val ?_
          rw [hv]
          simp only [Instr.loadAt, Sem.run_bind, Instr.sureAddr, Sem.run_pure, Result.andThen_ok]
          refine run_loadVar hyi ?_ (fun k v hk => ?_) hagg
          · have := hcs.len; simp at this h2 ⊢; omega
          · rw [add_own, hcell w' hw]
            rw [List.getElem?_take] at hk
            split at hk
            · rw [List.getElem?_drop, Array.getElem?_toList] at hk; exact hk
            · cases hk
      · rename_i hagg
        rw [nth_eq] at h
        obtain ⟨v, h1, h2⟩ := hcs.get h
        refine ⟨v, h2, fun w' hw => ?_⟩
        have hw := hw rfl
        simp only [execOp]
        refine run_val ?_
        rw [hv]
        simp only [Instr.loadAt, Sem.run_bind, Instr.sureAddr, Sem.run_pure, Result.andThen_ok]
        refine run_loadVar1 hyi ?_ hagg
        rw [hcell w' hw, ← Array.getElem?_toList]; exact h1
    · rename_i cs off hx
      have hr := hT _ _ hx
      simp only [RepSV, RepD] at hr
      obtain ⟨ad, hv, hc⟩ := hr
      split at h
      · rename_i hagg
        split at h <;> try (cases h; done)
        rename_i l hl
        injection h with h; subst h
        obtain ⟨rfl, h2⟩ := takeF_eq _ _ _ hl
        rw [dropN_eq] at h2 ⊢
        obtain ⟨xs, k1, k2⟩ := (hc.drop off).cells
        have hlen := k1.len
        refine ⟨.agg (xs.take y.i.size).toArray, ?_, fun w' hw => ?_⟩
        · simp only [RepSV]
          refine ⟨_, rfl, ?_⟩
          rw [dL_map]
          exact RepSVs.ofD.1 (k1.take _)
        · have hw := hw rfl
          simp only [execOp]
          refine run_val ?_
          rw [hv]
          simp only [Instr.loadAt, Sem.run_bind, Instr.sureAddr, Sem.run_pure, Result.andThen_ok]
          refine run_loadVar hyi (by simp; omega) (fun k v hk => ?_) hagg
          rw [List.getElem?_take] at hk
          split at hk
          · obtain ⟨q1, q2⟩ := k2 k v hk
            exact hw.1.cell (by rw [add_block]; exact q1) (by simpa using q2)
          · cases hk
      · rename_i hagg
        split at h <;> try (cases h; done)
        rename_i x' hx'
        injection h with h; subst h
        obtain ⟨v, h1, h2, h3⟩ := nthD hc hx'
        refine ⟨v, by simpa only [RepSV] using h3, fun w' hw => ?_⟩
        have hw := hw rfl
        simp only [execOp]
        refine run_val ?_
        rw [hv]
        simp only [Instr.loadAt, Sem.run_bind, Instr.sureAddr, Sem.run_pure, Result.andThen_ok]
        exact run_loadVar1 hyi (hw.1.cell (by rw [add_block]; exact h1) h2) hagg
  · rename_i as ts
    obtain ⟨v, h1, h2⟩ := lenOp_sound hty hT hH (t0 := type) h
    refine ⟨v, h1, fun w' _ => ?_⟩
    simp only [execOp, resolve, invoke, builtin, Sem.run_bind, Sem.run_pure, Result.andThen_ok, h2]
  · rename_i t ps
    split at h <;> try (cases h; done)
    rename_i y hy
    split at h <;> try (cases h; done)
    rename_i l a0 b0 hl hf
    split at h <;> try (cases h; done)
    rename_i cs hcs
    injection h with h; subst h
    obtain ⟨e1, e2⟩ := evp_rep hT _ _ hl
    obtain ⟨v, h1, h2⟩ := build_rep (pv := ps.toList.map fun p => (p.1, f p.2)) hty hy (by rw [hf]; simp) hcs (by simpa [Function.comp_def] using e1) (by simpa [Function.comp_def] using e2)
    refine ⟨v, h1, fun w' _ => ?_⟩
    simp only [execOp]
    refine run_val ?_
    rw [← h2 w']
    congr 2
    apply Array.ext'
    simp
  · rename_i g a b
    split at h <;> try (cases h; done)
    rename_i x y hx hy
    injection h with h; subst h
    have h1 := evs_rep hT _ _ hx
    have h2 := evs_rep hT _ _ hy
    refine ⟨.func (.func g) (a.map f) (b.map f), by simp only [RepSV]; exact ⟨_, _, rfl, by simpa using h1, by simpa using h2⟩, fun w' _ => ?_⟩
    simp only [execOp]
    exact run_val rfl
  · rename_i t x
    split at h <;> try (cases h; done)
    rename_i y hy
    split at h <;> try (cases h; done)
    rename_i hif
    split at h <;> try (cases h; done)
    rename_i a hx
    injection h with h; subst h
    obtain ⟨_, d, _, hd, _, _, _, _, _, _, _, h8⟩ := (lk_old hty hy).get
    refine ⟨.iface t (f x), by simp only [RepSV]; exact ⟨_, rfl, hT _ _ hx⟩, fun w' _ => ?_⟩
    simp only [execOp]
    refine run_val ?_
    rw [hif] at h8
    unfold Instr.makeInterface
    rw [Sem.run_bind, run_under hd]
    simp only [Result.andThen_ok]
    cases d <;> first | rfl | simp [ifcB] at h8
  · rename_i s t x
    split at h <;> try (cases h; done)
    rename_i a b ha hb
    split at h <;> try (cases h; done)
    · rename_i k0 k k1 n hka hkb hx
      injection h with h; subst h
      have := hT _ _ hx
      simp only [RepSV, RepD] at this
      have hs := (hty _ _ ha).int hka
      have ht := (hty _ _ hb).int hkb
      refine ⟨_, by simp only [RepSV, RepD]; rfl, fun w' _ => ?_⟩
      simp only [execOp]
      refine run_val ?_
      rw [this]
      unfold convert
      simp only [Sem.run_bind, run_under hs, run_under ht, Result.andThen_ok]
      rfl
    · rename_i s' hka hkb hx
      injection h with h; subst h
      have := hT _ _ hx
      simp only [RepSV, RepD] at this
      have hs := (hty _ _ ha).str hka
      have ht := (hty _ _ hb).str hkb
      refine ⟨_, by simp only [RepSV, RepD]; rfl, fun w' _ => ?_⟩
      simp only [execOp]
      refine run_val ?_
      rw [this]
      unfold convert
      simp only [Sem.run_bind, run_under hs, run_under ht, Result.andThen_ok]
      rfl
end
end Go.Vx

/- What single operations ask for, where more must be known. -/
namespace Go.Vx
open Go.RowKit Go.Vc

/-- An element of a slice that may be read: its cells are told. -/
inductive IdxC (n sz : Nat) (cs : List D) (j : Int) (K : SV → Prop) : Prop
  | mk (i : Nat) (hj : j = (i : Int)) (hi : i < n) (l : List D) (hl : (cs.drop (i * sz)).take sz = l) (hk : K (.d (.ptr l 0)))
/-- An element of an own slice. -/
inductive IdxR (n sz r : Nat) (j : Int) (K : SV → Prop) : Prop
  | mk (i : Nat) (hj : j = (i : Int)) (hi : i < n) (hk : K (.rowp r (i * sz)))

def pStop (ty : List (Nat × TY)) (T : Tl) (H : Hp) : Op → Option ((SV → Prop) → Prop)
  | .indexAddr t x ix => match lk ty t with
    | some y => match y.kd with
      | .slice e => match lk ty e with
        | some ey => match ev T x, ev T ix with
          | some (.d (.sl _ n cs)), some (.d (.int _ j)) => some (IdxC n ey.i.size cs j)
          | some (.row r), some (.d (.int _ j)) => match lk H r with
            | some (.row _ _ _ n _) => some (IdxR n ey.i.size r j)
            | _ => none
          | _, _ => none
        | none => none
      | _ => none
    | none => none
  | .pick c x y => match ev T c, ev T x, ev T y with
    | some (.kb b), some p, some q => match b with
      | true => some fun K => K p
      | false => some fun K => K q
    | some (.d (.bool b)), some p, some q => some fun K => (b = true → K p) ∧ (b = false → K q)
    | _, _, _ => none
  | .index t x ix => match lk ty t with
    | some y => match y.kd with
      | .str => match ev T x, ev T ix with
        | some (.d (.str s)), some (.d (.int _ j)) => some fun K => ∃ b, 0 ≤ j ∧ s[j.toNat]? = some b ∧ K (.d (.int .u8 b.toNat))
        | _, _ => none
      | _ => none
    | none => none
  | .binOp op t x y _ => match lk ty t with
    | some z => match z.kd with
      | .str => match op with
        | .add => match ev T x, ev T y with
          | some (.d (.str a)), some (.d (.str b)) => some fun K => a.size + b.size ≤ 9223372036854775807 ∧ K (.d (.str (a ++ b)))
          | _, _ => none
        | _ => none
      | .slice _ => match op, ev T x, ev T y with
        | .eql, some (.d (.sl _ n _)), some .nl => some fun K => ∀ c : Bool, (c = true → n = 0) → K (.d (.bool c))
        | .neq, some (.d (.sl _ n _)), some .nl => some fun K => ∀ c : Bool, (c = false → n = 0) → K (.d (.bool c))
        | _, _, _ => none
      | .int _ => match ev T x, ev T y with
        | some (.d (.int k a)), some (.d (.int k' b)) => match sameK k k' with
          | true => match op with
            | .quo => some fun K => b ≠ 0 ∧ K (.d (.int k (k.wrap (a.tdiv b))))
            | .rem => some fun K => b ≠ 0 ∧ K (.d (.int k (a.tmod b)))
            | _ => none
          | false => none
        | _, _ => none
      | _ => none
    | none => none
  | _ => none

section
variable {P : Program} {w : World} {f : Operand → Value} {e : Env}

theorem pStop_sound {ty : List (Nat × TY)} (hty : Tys P ty) {T : Tl} {H : Hp} (hT : TmOk e w T f) (hH : ObsOk e w H) {o : Oper} {g : (SV → Prop) → Prop} {K : SV → Prop} (h : pStop ty T H o.op = some g) (hg : g K) :
    ∃ sv v, RepSV e w sv v ∧ (∀ w', (execOp f o).run P w' = .ok (.value v) w') ∧ K sv := by
  obtain ⟨dst, op, type, pos, after, guard⟩ := o
  simp only at h
  unfold pStop at h
  split at h <;> try (cases h; done)
  · rename_i t x ix
    split at h <;> try (cases h; done)
    rename_i y hy
    split at h <;> try (cases h; done)
    rename_i el hkd
    split at h <;> try (cases h; done)
    rename_i ey hey
    have hu := (hty _ _ hy).slice hkd
    have hsz := fun w' => Vc.run_sizeOf (w := w') (hty _ _ hey).i
    have key : ∀ (A : Addr) (n c : Nat) (k : IntKind) (i : Nat), i < n → f x = .slice (some A) n c → f ix = .int k (i : Int) → ∀ w', (execOp f { dst, op := .indexAddr t x ix, type, pos, after, guard }).run P w' = .ok (.value (.pointer (some (A.add (i * ey.i.size))))) w' := by
      intro A n c k i hi hx hix w'
      simp only [execOp]
      refine run_val ?_
      rw [hx, hix]
      unfold Instr.indexAt
      simp only [asIntOf, Sem.run_bind, Sem.run_pure, Result.andThen_ok, run_under hu]
      have h0 : (0 : Int) ≤ (i : Int) := by omega
      have h1 : (i : Int) < (n : Int) := by omega
      simp only [Bool.and_false, Bool.false_eq_true, if_false, h0, h1, and_self, if_true]
      rw [Sem.run_bind, hsz]
      rfl
    split at h <;> try (cases h; done)
    · rename_i eb n cs k j hx hix
      injection h with h; subst h
      obtain ⟨i, rfl, hi, l, hl, hk⟩ := hg
      have h1 := hT _ _ hx
      have h2 := hT _ _ hix
      simp only [RepSV, RepD] at h1 h2
      obtain ⟨A, c, hv, hc1, hc2, hcA, hc3⟩ := h1
      obtain ⟨ad, rfl⟩ := hcA (by omega)
      refine ⟨_, .pointer (some (ad.add (i * ey.i.size))), ?_, fun w' => key ad n c k i hi hv h2 w', hk⟩
      simp only [RepSV, RepD]
      refine ⟨ad.add (i * ey.i.size), by rw [add_add]; simp, ?_⟩
      rw [← hl]
      exact (hc3.drop _).take _
    · rename_i r k j hx hix
      split at h <;> try (cases h; done)
      rename_i t1 eb sz n xs hr
      injection h with h; subst h
      obtain ⟨i, rfl, hi, hk⟩ := hg
      have h1 := hT _ _ hx
      have h2 := hT _ _ hix
      simp only [RepSV, RepD] at h1 h2
      obtain ⟨A, n', c, hv, hm⟩ := h1
      obtain ⟨A', c', vs, hm', hrow, _⟩ := hH _ _ hr
      rw [hv, hm'] at hm
      injection hm with hm; injection hm with e1 e2 e3
      subst e1; subst e2; subst e3
      obtain ⟨ad, rfl⟩ := hrow.some (by omega)
      refine ⟨_, .pointer (some (ad.add (i * ey.i.size))), ?_, fun w' => key ad n c' k i hi hv h2 w', hk⟩
      simp only [RepSV]
      exact ⟨ad, n, c', hm', rfl⟩
  · rename_i c x y
    split at h <;> try (cases h; done)
    · rename_i b p q hc hx hy
      have h1 := hT _ _ hc
      simp only [RepSV] at h1
      split at h
      · injection h with h; subst h
        refine ⟨p, _, hT _ _ hx, fun w' => ?_, hg⟩
        simp only [execOp, h1]; rfl
      · injection h with h; subst h
        refine ⟨q, _, hT _ _ hy, fun w' => ?_, hg⟩
        simp only [execOp, h1]; rfl
    · rename_i b p q hc hx hy
      have h1 := hT _ _ hc
      simp only [RepSV, RepD] at h1
      injection h with h; subst h
      cases b
      · refine ⟨q, _, hT _ _ hy, fun w' => ?_, hg.2 rfl⟩
        simp only [execOp, h1]; rfl
      · refine ⟨p, _, hT _ _ hx, fun w' => ?_, hg.1 rfl⟩
        simp only [execOp, h1]; rfl
  · rename_i t x ix
    split at h <;> try (cases h; done)
    rename_i y hy
    split at h <;> try (cases h; done)
    rename_i hkd
    have hu := (hty _ _ hy).str hkd
    split at h <;> try (cases h; done)
    rename_i s k j hx hix
    injection h with h; subst h
    obtain ⟨b, h0, hb, hk⟩ := hg
    have h1 := hT _ _ hx
    have h2 := hT _ _ hix
    simp only [RepSV, RepD] at h1 h2
    refine ⟨_, .int .u8 b.toNat, by simp only [RepSV, RepD], fun w' => ?_, hk⟩
    simp only [execOp]
    refine run_val ?_
    rw [h1, h2]
    unfold Instr.index
    simp only [asIntOf, Sem.run_bind, Sem.run_pure, Result.andThen_ok, run_under hu, h0, if_true, hb]
  · rename_i op' t x y t'
    split at h <;> try (cases h; done)
    rename_i z hz
    split at h <;> try (cases h; done)
    · rename_i hkd
      split at h <;> try (cases h; done)
      split at h <;> try (cases h; done)
      rename_i a b hx hy
      injection h with h; subst h
      have h1 := hT _ _ hx
      have h2 := hT _ _ hy
      simp only [RepSV, RepD] at h1 h2
      refine ⟨_, .string (a ++ b), by simp only [RepSV, RepD], fun w' => ?_, hg.2⟩
      simp only [execOp]
      refine run_val ?_
      rw [h1, h2, Sem.run_bind, eqGuard_str]
      have hle : ¬ (((a.size + b.size : Nat) : Int) > IntKind.i64.max) := by
        have : IntKind.i64.max = 9223372036854775807 := by decide
        rw [this]; have := hg.1; omega
      simp only [Result.andThen_ok, binOp, Op.stringOp, hle, if_false]
      rfl
    · rename_i el hkd
      have hu := (hty _ _ hz).slice hkd
      have heq : ∀ (A : Option Addr) (n c : Nat) (w' : World), (Op.equal t (.slice A n c) (.slice none 0 0)).run P w' = .ok A.isNone w' := by
        intro A n c w'
        unfold Op.equal
        rw [show Op.maxDepth = 9999 + 1 from rfl]
        unfold Op.equalIn
        rw [Sem.run_bind, run_under hu]
        cases A <;> rfl
      have hgu : ∀ (A : Option Addr) (n c : Nat) (w' : World), (eqGuard op' t x y (.slice A n c) (.slice none 0 0)).run P w' = .ok () w' := by
        intro A n c w'; unfold eqGuard; cases op' <;> rfl
      split at h <;> try (cases h; done)
      · rename_i eb n cs hx hy
        have h1 := hT _ _ hx
        have h2 := hT _ _ hy
        simp only [RepSV, RepD] at h1 h2
        obtain ⟨A, c, hv, _, _, hA, _⟩ := h1
        injection h with h; subst h
        refine ⟨_, .bool A.isNone, by simp only [RepSV, RepD], fun w' => ?_, hg A.isNone fun hn => ?_⟩
        · simp only [execOp]
          refine run_val ?_
          rw [hv, h2, Sem.run_bind, hgu]
          simp only [Result.andThen_ok, binOp]
          rw [Sem.run_bind, heq]
          rfl
        · rcases Nat.eq_zero_or_pos n with h0 | h0
          · exact h0
          · obtain ⟨ad, rfl⟩ := hA (by omega)
            cases hn
      · rename_i eb n cs hx hy
        have h1 := hT _ _ hx
        have h2 := hT _ _ hy
        simp only [RepSV, RepD] at h1 h2
        obtain ⟨A, c, hv, _, _, hA, _⟩ := h1
        injection h with h; subst h
        refine ⟨_, .bool (!A.isNone), by simp only [RepSV, RepD], fun w' => ?_, hg (!A.isNone) fun hn => ?_⟩
        · simp only [execOp]
          refine run_val ?_
          rw [hv, h2, Sem.run_bind, hgu]
          simp only [Result.andThen_ok, binOp]
          rw [Sem.run_bind, heq]
          rfl
        · rcases Nat.eq_zero_or_pos n with h0 | h0
          · exact h0
          · obtain ⟨ad, rfl⟩ := hA (by omega)
            cases hn
    · rename_i k0 hkd
      split at h <;> try (cases h; done)
      rename_i k a k' b hx hy
      split at h <;> try (cases h; done)
      rename_i hs
      obtain rfl := sameK_eq hs
      have h1 := hT _ _ hx
      have h2 := hT _ _ hy
      simp only [RepSV, RepD] at h1 h2
      split at h <;> try (cases h; done)
      · injection h with h; subst h
        refine ⟨_, .int k (k.wrap (a.tdiv b)), by simp only [RepSV, RepD], fun w' => ?_, hg.2⟩
        simp only [execOp]
        refine run_val ?_
        rw [h1, h2, Sem.run_bind, eqGuard_int]
        simp only [Result.andThen_ok, binOp, Op.intDiv, ne_eq, not_true, if_false, hg.1]
        rfl
      · injection h with h; subst h
        refine ⟨_, .int k (a.tmod b), by simp only [RepSV, RepD], fun w' => ?_, hg.2⟩
        simp only [execOp]
        refine run_val ?_
        rw [h1, h2, Sem.run_bind, eqGuard_int]
        simp only [Result.andThen_ok, binOp, Op.intDiv, ne_eq, not_true, if_false, hg.1]
        rfl
end
end Go.Vx

/- Operations that act. -/
namespace Go.Vx
open Go.RowKit Go.Vc

/-! ### Lists laid out before they are handed on -/
def nrmL : List SV → (List SV → Prop) → Prop
  | [], K => K []
  | .d x :: r, K => nrmL r fun l => K (.d x :: l)
  | .kb x :: r, K => nrmL r fun l => K (.kb x :: l)
  | .own i o :: r, K => nrmL r fun l => K (.own i o :: l)
  | .row i :: r, K => nrmL r fun l => K (.row i :: l)
  | .rowp i o :: r, K => nrmL r fun l => K (.rowp i o :: l)
  | .nm i :: r, K => nrmL r fun l => K (.nm i :: l)
  | .osl i n :: r, K => nrmL r fun l => K (.osl i n :: l)
  | .agg m :: r, K => nrmL r fun l => K (.agg m :: l)
  | .tup m :: r, K => nrmL r fun l => K (.tup m :: l)
  | .fn f a b :: r, K => nrmL r fun l => K (.fn f a b :: l)
  | .ifc t x :: r, K => nrmL r fun l => K (.ifc t x :: l)
  | .nl :: r, K => nrmL r fun l => K (.nl :: l)
  | .any :: r, K => nrmL r fun l => K (.any :: l)
theorem nrmL_eq : ∀ (l : List SV) (K : List SV → Prop), nrmL l K = K l
  | [], _ => rfl
  | x :: r, K => by cases x <;> simp only [nrmL, nrmL_eq r]
def nrm : SV → (SV → Prop) → Prop
  | .agg m, K => nrmL m fun l => K (.agg l)
  | .tup m, K => nrmL m fun l => K (.tup l)
  | .d (.agg m), K => nrmL (dL m) fun l => K (.agg l)
  | x, K => K x
theorem nrm_eq {e : Env} {w : World} {v : Value} (x : SV) (K : SV → Prop) (h : nrm x K) (hv : RepSV e w x v) : ∃ y, K y ∧ RepSV e w y v := by
  unfold nrm at h
  split at h
  · rw [nrmL_eq] at h; exact ⟨_, h, hv⟩
  · rw [nrmL_eq] at h; exact ⟨_, h, hv⟩
  · rw [nrmL_eq] at h
    refine ⟨_, h, ?_⟩
    simp only [RepSV, RepD] at hv ⊢
    obtain ⟨l', e', h1⟩ := hv
    exact ⟨l', e', by rw [dL_map]; exact RepSVs.ofD.1 h1⟩
  · exact ⟨_, h, hv⟩
def withoutK (r : Nat → Bool) : Hp → (Hp → Prop) → Prop
  | [], K => K []
  | (i, o) :: l, K => match r i with
    | true => withoutK r l K
    | false => withoutK r l fun l' => K ((i, o) :: l')
theorem withoutK_eq (r : Nat → Bool) : ∀ (H : Hp) (K : Hp → Prop), withoutK r H K = K (without r H)
  | [], _ => rfl
  | (i, o) :: l, K => by
    cases hr : r i <;> simp only [withoutK, without, hr, withoutK_eq r l]
def scrubTK (s : Nat → Bool) : Tl → (Tl → Prop) → Prop
  | [], K => K []
  | (t, x) :: r, K => nrmL [scrub s x] fun
    | [y] => scrubTK s r fun l => K ((t, y) :: l)
    | _ => False
theorem scrubTK_eq (s : Nat → Bool) : ∀ (T : Tl) (K : Tl → Prop), scrubTK s T K = K (scrubT s T)
  | [], _ => rfl
  | (t, x) :: r, K => by
    simp only [scrubTK, nrmL_eq, scrubTK_eq s r]
    rfl
def scrubHK (s : Nat → Bool) : Hp → (Hp → Prop) → Prop
  | [], K => K []
  | (i, .blk t cs) :: r, K => nrmL (scrubs s cs) fun cs' => scrubHK s r fun l => K ((i, .blk t cs') :: l)
  | (i, .row t eb sz n xs) :: r, K => scrubHK s r fun l => K ((i, .row t eb sz n xs) :: l)
  | (i, .ab φ) :: r, K => scrubHK s r fun l => K ((i, .ab φ) :: l)
theorem scrubHK_eq (s : Nat → Bool) : ∀ (H : Hp) (K : Hp → Prop), scrubHK s H K = K (scrubH s H)
  | [], _ => rfl
  | (i, .blk t cs) :: r, K => by
    simp only [scrubHK, nrmL_eq, scrubHK_eq s r]
    rfl
  | (i, .row t eb sz n xs) :: r, K => by
    simp only [scrubHK, scrubHK_eq s r]
    rfl
  | (i, .ab φ) :: r, K => by
    simp only [scrubHK, scrubHK_eq s r]
    rfl
mutual
theorem scrub_none : ∀ x : SV, scrub (fun _ => false) x = x
  | .row i => rfl
  | .rowp i o => rfl
  | .nm i => rfl
  | .osl i n => rfl
  | .agg l => by simp only [scrub, scrubs_none l]
  | .tup l => by simp only [scrub, scrubs_none l]
  | .fn f a b => by simp only [scrub, scrubs_none a, scrubs_none b]
  | .ifc t x => by simp only [scrub, scrub_none x]
  | .d x => rfl
  | .kb b => rfl
  | .own i o => rfl
  | .nl => rfl
  | .any => rfl
theorem scrubs_none : ∀ l : List SV, scrubs (fun _ => false) l = l
  | [] => rfl
  | x :: l => by simp only [scrubs, scrub_none x, scrubs_none l]
end
theorem scrubT_none (T : Tl) : scrubT (fun _ => false) T = T := by
  unfold scrubT
  simp [scrub_none]
theorem scrubH_none (H : Hp) : scrubH (fun _ => false) H = H := by
  unfold scrubH
  have : ∀ o : Ob, scrubO (fun _ => false) o = o := fun o => by cases o <;> simp [scrubO, scrubs_none]
  simp [this]

/-- Closed data out of symbolic values. -/
def dOf : SV → Option D
  | .d x => some x
  | .nl => some (.sl 0 0 [])
  | .kb b => some (.bool b)
  | .agg l => match dOfs l with
    | some m => some (.agg m)
    | none => none
  | .tup l => match dOfs l with
    | some m => some (.tup m)
    | none => none
  | .fn f a b => match dOfs a, dOfs b with
    | some x, some y => some (.fn f x y)
    | _, _ => none
  | .ifc t x => match dOf x with
    | some y => some (.ifc t y)
    | none => none
  | _ => none
where dOfs : List SV → Option (List D)
  | [] => some []
  | x :: r => match dOf x, dOfs r with
    | some y, some l => some (y :: l)
    | _, _ => none
mutual
theorem dOf_rep {e : Env} {w : World} : ∀ {x : SV} {y : D} {v : Value}, dOf x = some y → RepSV e w x v → RepD e.pub w y v
  | .d x, y, v, h, hx => by simp only [dOf, Option.some.injEq] at h; subst h; simpa only [RepSV] using hx
  | .kb b, y, v, h, hx => by simp only [dOf, Option.some.injEq] at h; subst h; simpa only [RepSV, RepD] using hx
  | .nl, y, v, h, hx => by
    simp only [dOf, Option.some.injEq] at h; subst h
    simp only [RepSV] at hx; subst hx
    simp only [RepD, RepC]
    exact ⟨none, 0, rfl, Nat.le_refl _, Nat.zero_le _, fun h => absurd rfl h, trivial⟩
  | .agg l, y, v, h, hx => by
    simp only [dOf] at h
    split at h <;> try (cases h; done)
    rename_i m hm
    injection h with h; subst h
    simp only [RepSV, RepD] at hx ⊢
    obtain ⟨l', e', h1⟩ := hx
    exact ⟨l', e', dOfs_rep hm h1⟩
  | .tup l, y, v, h, hx => by
    simp only [dOf] at h
    split at h <;> try (cases h; done)
    rename_i m hm
    injection h with h; subst h
    simp only [RepSV, RepD] at hx ⊢
    obtain ⟨l', e', h1⟩ := hx
    exact ⟨l', e', dOfs_rep hm h1⟩
  | .fn f a b, y, v, h, hx => by
    simp only [dOf] at h
    split at h <;> try (cases h; done)
    rename_i m n hm hn
    injection h with h; subst h
    simp only [RepSV, RepD] at hx ⊢
    obtain ⟨a', b', e', h1, h2⟩ := hx
    exact ⟨a', b', e', dOfs_rep hm h1, dOfs_rep hn h2⟩
  | .ifc t x, y, v, h, hx => by
    simp only [dOf] at h
    split at h <;> try (cases h; done)
    rename_i m hm
    injection h with h; subst h
    simp only [RepSV, RepD] at hx ⊢
    obtain ⟨z, e', h1⟩ := hx
    exact ⟨z, e', dOf_rep hm h1⟩
  | .own _ _, _, _, h, _ => by simp [dOf] at h
  | .row _, _, _, h, _ => by simp [dOf] at h
  | .rowp _ _, _, _, h, _ => by simp [dOf] at h
  | .nm _, _, _, h, _ => by simp [dOf] at h
  | .osl _ _, _, _, h, _ => by simp [dOf] at h
  | .any, _, _, h, _ => by simp [dOf] at h
theorem dOfs_rep {e : Env} {w : World} : ∀ {l : List SV} {m : List D} {v : List Value}, dOf.dOfs l = some m → RepSVs e w l v → RepDs e.pub w m v
  | [], m, v, h, hx => by simp only [dOf.dOfs, Option.some.injEq] at h; subst h; simpa only [RepSVs, RepDs] using hx
  | x :: r, m, v, h, hx => by
    simp only [dOf.dOfs] at h
    split at h <;> try (cases h; done)
    rename_i y l hy hl
    injection h with h; subst h
    simp only [RepSVs, RepDs] at hx ⊢
    obtain ⟨u, s, e', h1, h2⟩ := hx
    exact ⟨u, s, e', dOf_rep hy h1, dOfs_rep hl h2⟩
end
/-- Cells: no struct, no tuple. -/
def cellB : SV → Bool
  | .agg _ => false
  | .tup _ => false
  | .any => false
  | .d (.agg _) => false
  | .d (.tup _) => false
  | .d (.val (.agg _)) => false
  | .d (.val (.tuple _)) => false
  | _ => true
def cellsB : List SV → Bool
  | [] => true
  | x :: r => match cellB x with
    | true => cellsB r
    | false => false
theorem cellB_plain {e : Env} {w : World} {x : SV} {v : Value} (h : cellB x = true) (hx : RepSV e w x v) : plainV v = true := by
  cases x with
  | d y =>
    cases y <;> first | (simp [cellB] at h; done) | skip
    case val u => simp only [RepSV, RepD] at hx; subst hx; cases v <;> first | rfl | (simp [cellB] at h; done)
    all_goals simp only [RepSV, RepD] at hx
    all_goals first | (subst hx; rfl) | (obtain ⟨_, _, rfl, _⟩ := hx; rfl) | (obtain ⟨_, rfl, _⟩ := hx; rfl)
  | agg _ => simp [cellB] at h
  | tup _ => simp [cellB] at h
  | any => simp [cellB] at h
  | kb b => simp only [RepSV] at hx; subst hx; rfl
  | nl => simp only [RepSV] at hx; subst hx; rfl
  | own i o => simp only [RepSV] at hx; obtain ⟨_, _, rfl⟩ := hx; rfl
  | row i => simp only [RepSV] at hx; obtain ⟨_, _, _, rfl, _⟩ := hx; rfl
  | rowp i o => simp only [RepSV] at hx; obtain ⟨_, _, _, _, rfl⟩ := hx; rfl
  | nm i => simp only [RepSV] at hx; obtain ⟨_, rfl, _⟩ := hx; rfl
  | osl i n => simp only [RepSV] at hx; obtain ⟨_, _, rfl⟩ := hx; rfl
  | fn f a b => simp only [RepSV] at hx; obtain ⟨_, _, rfl, _⟩ := hx; rfl
  | ifc t x => simp only [RepSV] at hx; obtain ⟨_, rfl, _⟩ := hx; rfl
theorem cellsB_plain {e : Env} {w : World} : ∀ {l : List SV} {v : List Value}, cellsB l = true → RepSVs e w l v → ∀ u ∈ v, plainV u = true
  | [], v, _, hx, u, hu => by simp only [RepSVs] at hx; subst hx; cases hu
  | x :: r, v, h, hx, u, hu => by
    simp only [cellsB] at h
    split at h <;> try (cases h; done)
    rename_i hc
    simp only [RepSVs] at hx
    obtain ⟨y, s, rfl, h1, h2⟩ := hx
    rcases List.mem_cons.1 hu with rfl | hu
    · exact cellB_plain hc h1
    · exact cellsB_plain h h2 u hu

section
variable {G : Glob} {n0 : Nat} {b : Bs G n0} {N : Nat} {e : Env} {st : St} {a : Act} {w : World}
/-- One object is another one now, where it was. -/
theorem Ok.setOb (h : Ok b N e st a w) {i : Nat} {o : Ob} {w' : World} (hi : has st.H i) (ho : Only (fun k => foot e i k) w w') (hd : w.drawn ≤ w'.drawn) (hob : Kept e w e w' → ObOk e w' i o) :
    Ok b N e ⟨st.T, (i, o) :: without (Nat.beq i) st.H, st.n⟩ a w' ∧ Kept e w e w' ∧ ∀ j k, has st.H j → j ≠ i → foot e j k → w'.heap[k]? = w.heap[k]? := by
  have hsame : Same e.pub w w' := fun k hk hl => ho.block k hl fun hf => h.hp.npub i k hi hf hk
  have kw : Kept e w e w' := ⟨fun _ _ h => h, fun _ h => h, hsame, ho.size⟩
  have h1 := h.frame (r := Nat.beq i) (s := fun _ => false) (fun _ h => by cases h) (e' := e) (w' := w') (H' := [(i, o)]) 0 rfl (ho.mono fun k _ hk => ⟨i, Nat.beq_refl i, hi, hk⟩) (G.dm hd) (fun _ _ h _ => h) (fun _ h => h) (fun _ h => .inl h)
    ⟨fun j o' hj => ?_, fun j j' k hj hj' hne _ _ => ?_, fun j k hj hk => ?_, fun k hk => Nat.lt_of_lt_of_le (h.hp.pubLt k hk) ho.size⟩ (fun j k hj hk => ?_)
  · rw [scrubT_none, scrubH_none] at h1
    exact ⟨h1, kw, fun j k hj hne hk => ho.block k (h.hp.lt hj hk) fun hf => h.hp.sep j i k hj hi hne hk hf⟩
  all_goals
    have one : ∀ q, has [(i, o)] q → q = i := by
      intro q hq
      unfold has at hq
      simp only [lk] at hq
      split at hq
      · rename_i e'; exact (nbeq.1 e').symm
      · cases hq
  · obtain rfl := one j (by simp [has, hj])
    simp only [lk, Nat.beq_refl] at hj
    injection hj with hj; subst hj; exact hob kw
  · exact absurd ((one j hj).trans (one j' hj').symm) hne
  · obtain rfl := one j hj; exact h.hp.npub j k hi hk
  · obtain rfl := one j hj; exact .inl ⟨j, Nat.beq_refl j, hi, hk⟩
end
end Go.Vx

/- What a run of an operation must come to; operations that act: their conditions, and that these are enough. -/
namespace Go.Vx
open Go.RowKit Go.Vc

inductive SExit where
  | normal | exit (id : Nat) | goto (l : Nat) | ret | pan (x : SV)

/-- What may be read stays readable, and reads as before. -/
structure KeptP (e : Env) (w : World) (e' : Env) (w' : World) : Prop where
  pub : ∀ k, e.pub k → e'.pub k
  same : Same e.pub w w'
  sz : w.heap.size ≤ w'.heap.size
theorem KeptP.refl (e : Env) (w : World) : KeptP e w e w := ⟨fun _ h => h, Same.rfl' _ _, Nat.le_refl _⟩
theorem KeptP.trans {e e1 e2 : Env} {w w1 w2 : World} (h : KeptP e w e1 w1) (h' : KeptP e1 w1 e2 w2) : KeptP e w e2 w2 :=
  ⟨fun k hk => h'.pub k (h.pub k hk), fun k hk hl => by rw [h'.same k (h.pub k hk) (Nat.lt_of_lt_of_le hl h.sz), h.same k hk hl], Nat.le_trans h.sz h'.sz⟩
theorem Kept.p {e e' : Env} {w w' : World} (h : Kept e w e' w') : KeptP e w e' w' := ⟨h.pub, h.same, h.sz⟩
/-- What an operation leaves as it was: 'kp': all that might be read; what may be read by anyone at any rate. -/
structure KpS (kp : Bool) (e : Env) (H : Hp) (w : World) (e' : Env) (w' : World) : Prop where
  all : kp = true → Kept e w e' w' ∧ Agr e H w w'
  p : KeptP e w e' w'
theorem KpS.of {kp : Bool} {e e' : Env} {H : Hp} {w w' : World} (h : Kept e w e' w' ∧ Agr e H w w') : KpS kp e H w e' w' := ⟨fun _ => h, h.1.p⟩
section
variable (P : Program) (ty : List (Nat × TY)) {G : Glob} {n0 : Nat} (b : Bs G n0) (N : Nat)

/-- Behind an operation that goes on: 'kp': what might be read reads as before, and the blocks are as before. -/
def AftS (kp : Bool) (e : Env) (H : Hp) (w : World) (a : Act) (dst : Option Tmp) (K : SExit → St → Prop) (v : Value) (w' : World) : Prop :=
  ∃ e' st', KpS kp e H w e' w' ∧ Ok b N e' st' (a.put dst v) w' ∧ K .normal st'
def PanS (a : Act) (K : SExit → St → Prop) (c : List PanicEntry) (w' : World) : Prop :=
  ∃ e' st' x v, c = [{ v, recovered := false }] ∧ RepSV e' w' x v ∧ Ok b N e' st' a w' ∧ K (.pan x) st'
def OpR (kp : Bool) (e : Env) (H : Hp) (a : Act) (dst : Option Tmp) (w : World) (K : SExit → St → Prop) : Result Next → Prop
  | .ok (.value v) w' => AftS b N kp e H w a dst K v w'
  | .ok .skip w' => AftS b N kp e H w a dst K undef w'
  | .ok (.enter f args) w' => Calls P f args w' fun
    | .returned v, w'' => AftS b N kp e H w a dst K v w''
    | .panicked c, w'' => PanS b N a K c w''
    | .outgrown, _ => False
  | .halt (.panic v) w' => PanS b N a K [{ v, recovered := false }] w'
  | _ => False
/-- An operation from a state: what laws of calls, append and the like are told of. -/
inductive OpC (kp : Bool) (o : Oper) (st : St) (K : SExit → St → Prop) : Prop
  | mk (h : ∀ e a w, Ok b N e st a w → OpR P b N kp e st.H a o.dst w K ((execOp a.eval o).run P w))

/-- Cells of an own slice are told; a cell is. -/
inductive LdA (sz off : Nat) (xs : List D) (K : List D → Prop) : Prop
  | mk (l : List D) (h : (xs.drop off).take sz = l) (hl : l.length = sz) (hk : K l)
inductive LdS (off : Nat) (xs : List D) (K : D → Prop) : Prop
  | mk (x : D) (h : xs[off]? = some x) (hk : K x)
def ovl {α : Type} (xs : List α) (k : Nat) (l : List α) : List α := xs.take k ++ l ++ xs.drop (k + l.length)
/-- Cells of an own slice are others now. -/
inductive StC (off : Nat) (l xs : List D) (K : List D → Prop) : Prop
  | mk (xs' : List D) (hl : off + l.length ≤ xs.length) (h : ovl xs off l = xs') (hk : K xs')

def zdL : List Value → List D
  | [] => []
  | v :: r => zD v :: zdL r
def rep (l : List D) : Nat → List D
  | 0 => []
  | n + 1 => l ++ rep l n
def fillA (sz : Nat) : List D → List (Nat × SV) → Option (List D)
  | cs, [] => some cs
  | cs, (i, x) :: r => match cellsOf x with
    | some l => match dOf.dOfs l, cellsB l with
      | some m, true => match Nat.beq m.length sz, Nat.ble (i * sz + sz) cs.length, putAt (i * sz) m cs with
        | true, true, some cs' => fillA sz cs' r
        | _, _, _ => none
      | _, _ => none
    | none => none
def scalD : D → Bool
  | .agg _ => false
  | .tup _ => false
  | .val (.agg _) => false
  | .val (.tuple _) => false
  | _ => true
def scalDs : List D → Bool
  | [] => true
  | x :: r => match scalD x with
    | true => scalDs r
    | false => false

def vcEff (kp : Bool) (o : Oper) (st : St) (K : SExit → St → Prop) : Prop :=
  match o.op with
  | .box t x => match ev st.T x with
    | some sv => match cellsOf sv with
      | some cs => nrmL cs fun cs => match st with
        | ⟨T, H, n⟩ => putK N o.dst (.own n 0) ⟨T, (n, .blk t cs) :: H, n + 1⟩ (K .normal)
      | none => False
    | none => False
  | .alloc t => match lk ty t with
    | some y => nrmL (zs y.i.z.cells.toList) fun cs => match st with
      | ⟨T, H, n⟩ => putK N o.dst (.own n 0) ⟨T, (n, .blk t cs) :: H, n + 1⟩ (K .normal)
    | none => False
  | .buildSlice t n ps => match lk ty t with
    | some y => match y.kd with
      | .slice el => match lk ty el with
        | some ey => match evp st.T ps.toList, Nat.ble (n * ey.i.size) 16777216, Nat.beq ey.i.z.cells.toList.length ey.i.size, Nat.ble (n * ey.i.bytes) 140737488355328, Nat.ble 1 ey.i.size, scalDs (zdL ey.i.z.cells.toList) with
          | some l, true, true, true, true, true => match fillA ey.i.size (rep (zdL ey.i.z.cells.toList) n) l with
            | some xs => match st with
              | ⟨T, H, m⟩ => putK N o.dst (.row m) ⟨T, (m, .row el ey.i.bytes ey.i.size n xs) :: H, m + 1⟩ (K .normal)
            | none => OpC P b N kp o st K
          | _, _, _, _, _, _ => False
        | none => False
      | _ => False
    | none => False
  | .store t ad x => match ev st.T ad with
    | some (.own i off) => match lk ty t, ev st.T x with
      | some y, some sv => match cellsOf sv with
        | some l => match Nat.beq l.length y.i.size, cellsB l, lk st.H i, kp with
          | true, true, some (.blk t' cs), false => match putAt off l cs, Nat.ble (off + l.length) cs.length with
            | some cs', true => nrmL cs' fun cs' => match st with
              | ⟨T, H, n⟩ => withoutK (Nat.beq i) H fun H' => putK N o.dst .any ⟨T, (i, .blk t' cs') :: H', n⟩ (K .normal)
            | _, _ => False
          | _, _, _, _ => False
        | none => False
      | _, _ => False
    | some (.rowp i off) => match lk ty t, ev st.T x with
      | some y, some sv => match cellsOf sv with
        | some l => match Nat.beq l.length y.i.size, cellsB l, dOf.dOfs l, lk st.H i with
          | true, true, some m, some (.row t' eb sz n xs) => StC off m xs fun xs' => match st with
            | ⟨T, H, q⟩ => withoutK (Nat.beq i) H fun H' => putK N o.dst .any ⟨T, (i, .row t' eb sz n xs') :: H', q⟩ (K .normal)
          | _, _, _, _ => OpC P b N kp o st K
        | none => False
      | _, _ => False
    | _ => OpC P b N kp o st K
  | .load t x => match ev st.T x with
    | some (.rowp i off) => match lk ty t, lk st.H i with
      | some y, some (.row _ _ _ _ xs) => match y.i.agg with
        | true => LdA y.i.size off xs fun l => nrmL (dL l) fun l' => putK N o.dst (.agg l') st (K .normal)
        | false => LdS off xs fun x => putK N o.dst (.d x) st (K .normal)
      | _, _ => False
    | _ => OpC P b N kp o st K
  | .panic x => match ev st.T x with
    | some (.ifc t y) => K (.pan (.ifc t y)) st
    | some (.d (.ifc t y)) => K (.pan (.d (.ifc t y))) st
    | _ => OpC P b N kp o st K
  | _ => OpC P b N kp o st K

def vcOp (kp : Bool) (o : Oper) (st : St) (K : SExit → St → Prop) : Prop :=
  match pOp ty st.T st.H o.op with
  | some sv => nrm sv fun sv => putK N o.dst sv st (K .normal)
  | none => match pStop ty st.T st.H o.op with
    | some g => g fun sv => putK N o.dst sv st (K .normal)
    | none => vcEff P ty b N kp o st K
end

section
variable {P : Program} {ty : List (Nat × TY)} {G : Glob} {n0 : Nat} {b : Bs G n0} {N : Nat}

theorem Agr.of {e : Env} {H : Hp} {w w' : World} (h : Same e.pub w w') (hf : ∀ j k, has H j → foot e j k → w'.heap[k]? = w.heap[k]?) : Agr e H w w' :=
  ⟨h, fun i t cs k hi hk => hf i k (by simp [has, hi]) hk⟩
theorem Agr.below {e : Env} {H : Hp} {w w' : World} (hp : HpOk e w H) (h : Below w.heap.size w w') : Agr e H w w' :=
  .of (same_of_below h _) fun _ k hj hk => h.block k (hp.lt hj hk)
theorem pushW_below (w : World) (o : Obj) : Below w.heap.size w (pushW w o) := ⟨rfl, rfl, rfl, by simp [pushW], fun k hk => pushW_old w o hk⟩
theorem pushW_new (w : World) (o : Obj) : (pushW w o).heap[w.heap.size]? = some o := by simp only [pushW, Array.getElem?_push, if_true]

theorem zdL_rep (S : Nat → Prop) (w : World) : ∀ l : List Value, RepDs S w (zdL l) l
  | [] => by simp [zdL, RepDs]
  | v :: r => by simp only [zdL, RepDs]; exact ⟨v, r, rfl, zD_rep _ _ _, zdL_rep S w r⟩
def repV (l : List Value) : Nat → List Value
  | 0 => []
  | n + 1 => l ++ repV l n
theorem rep_rep {S : Nat → Prop} {w : World} {l : List D} {v : List Value} (h : RepDs S w l v) : ∀ n, RepDs S w (rep l n) (repV v n)
  | 0 => by simp [rep, repV, RepDs]
  | n + 1 => by simp only [rep, repV]; exact h.app (rep_rep h n)
theorem repV_length (l : List Value) : ∀ n, (repV l n).length = n * l.length
  | 0 => by simp [repV]
  | n + 1 => by simp [repV, repV_length l n, Nat.add_mul]; omega
theorem repV_get (l : List Value) : ∀ n j, j < n * l.length → (repV l n)[j]? = l[j % l.length]?
  | 0, j, h => by simp at h
  | n + 1, j, h => by
    simp only [repV]
    rcases Nat.lt_or_ge j l.length with h1 | h1
    · rw [List.getElem?_append_left h1, Nat.mod_eq_of_lt h1]
    · rw [List.getElem?_append_right h1, repV_get l n (j - l.length) (by rw [Nat.add_mul] at h; omega)]
      rw [Nat.mod_eq_sub_mod h1]
theorem zero_repV {z : Array Value} {n sz : Nat} (hz : z.size = sz) (h0 : sz ≠ 0) : (Array.range (n * sz)).map (fun i => z[i % z.size]!) = (repV z.toList n).toArray := by
  apply Array.ext_getElem?
  intro j
  rw [Array.getElem?_map, Array.getElem?_range, List.getElem?_toArray]
  split
  · rename_i hj
    have hl : z.toList.length = sz := by simpa using hz
    rw [repV_get _ _ _ (by rw [hl]; exact hj), hl, hz]
    have hm : j % sz < z.size := by rw [hz]; exact Nat.mod_lt _ (by omega)
    simp [hm]
  · rename_i hj
    simp only [Option.map_none]
    rw [List.getElem?_eq_none]
    rw [repV_length]; simp [hz]; omega
theorem putAt_repD {S : Nat → Prop} {w : World} {off : Nat} {l cs cs' : List D} {vl vc : List Value} (h : putAt off l cs = some cs') (hb : off + l.length ≤ cs.length) (hl : RepDs S w l vl) (hc : RepDs S w cs vc) :
    ∃ vr : Array Value, (vl.zipIdx 0).foldl (fun cs (x : Value × Nat) => cs.setIfInBounds (off + x.2) x.1) vc.toArray = vr ∧ RepDs S w cs' vr.toList ∧ vr.size = vc.length := by
  obtain ⟨g1, g2, g3⟩ := putAt_get _ _ _ _ h
  obtain ⟨k1, k2⟩ := foldl_put vc.toArray off vl 0 vc.toArray
  refine ⟨_, rfl, RepDs.mk ?_ fun i x v hx hv => ?_, by rw [k1]; simp⟩
  · rw [Array.length_toList, k1]; simp [hc.len, g1]
  · rw [Array.getElem?_toList, k2 i] at hv
    rw [g3 i] at hx
    simp only [Nat.add_zero, List.size_toArray, hl.len, hc.len, List.getElem?_toArray] at hv
    by_cases c : off ≤ i ∧ i < off + l.length
    · rw [if_pos c] at hx
      rw [if_pos ⟨c.1, c.2, by omega⟩] at hv
      obtain ⟨u, h1, h2⟩ := hl.get hx
      rw [hv] at h1; injection h1 with h1; subst h1; exact h2
    · rw [if_neg c] at hx
      rw [if_neg (by omega)] at hv
      obtain ⟨u, h1, h2⟩ := hc.get hx
      rw [hv] at h1; injection h1 with h1; subst h1; exact h2
theorem fillA_rep {e : Env} {w : World} {sz : Nat} : ∀ (ps : List (Nat × SV)) (pv : List (Nat × Value)) (cs r : List D) (vc : List Value), fillA sz cs ps = some r → pv.map (·.1) = ps.map (·.1) → RepSVs e w (ps.map (·.2)) (pv.map (·.2)) → RepDs e.pub w cs vc →
    ∃ vr : Array Value, Instr.fill (fun i => some (i * sz, sz)) vc.toArray pv = some vr ∧ RepDs e.pub w r vr.toList ∧ vr.size = vc.length
  | [], pv, cs, r, vc, h, he, _, hc => by
    simp [fillA] at h; subst h
    have : pv = [] := by simpa using he
    subst this
    exact ⟨vc.toArray, by simp [Instr.fill], by simpa using hc, by simp⟩
  | (i, x) :: ps, pv, cs, r, vc, h, he, hv, hc => by
    simp only [fillA] at h
    split at h <;> try (cases h; done)
    rename_i l h2
    split at h <;> try (cases h; done)
    rename_i m hm hcl
    split at h <;> try (cases h; done)
    rename_i cs' h3 hb h4
    cases pv with
    | nil => simp at he
    | cons p pv =>
      obtain ⟨i', v⟩ := p
      simp only [List.map_cons, List.cons.injEq] at he
      obtain ⟨rfl, he⟩ := he
      simp only [List.map_cons, RepSVs] at hv
      obtain ⟨v', s, e1, hv1, hv2⟩ := hv
      simp only [List.cons.injEq] at e1
      obtain ⟨rfl, rfl⟩ := e1
      have hcs := dOfs_rep hm (cellsOf_rep h2 hv1)
      have hn := nbeq.1 h3
      have hb' := Nat.le_of_ble_eq_true hb
      have hsz : v.cells.size = sz := by
        have := hcs.len
        rw [Array.length_toList] at this
        omega
      obtain ⟨vr, q1, q2, q3⟩ := putAt_repD h4 (by omega) hcs hc
      simp only [Instr.fill, hsz]
      rw [if_neg (by have := hc.len; simp; omega)]
      have he' : v.cells.zipIdx.foldl (fun cs (c, j) => cs.setIfInBounds (i' * sz + j) c) vc.toArray = vr := by
        rw [← q1, ← Array.foldl_toList, Array.toList_zipIdx]
      rw [he']
      obtain ⟨vr', p1, p2, p3⟩ := fillA_rep ps pv cs' r vr.toList h he hv2 q2
      exact ⟨vr', by simpa using p1, p2, by rw [p3]; simpa using q3⟩
end
end Go.Vx

/- Operations that act: soundness. -/
namespace Go.Vx
open Go.RowKit Go.Vc

section
variable {P : Program} {ty : List (Nat × TY)} {G : Glob} {n0 : Nat} {b : Bs G n0} {N : Nat} {kp : Bool}

/-- A new block. -/
theorem Ok.newBlk {e : Env} {st : St} {a : Act} {w : World} (h : Ok b N e st a w) {t : TypeId} {cs : List SV} {vs : Array Value} (hc : RepSVs e w cs vs.toList) {dst : Option Tmp} {K : St → Prop}
    (hk : putK N dst (.own st.n 0) ⟨st.T, (st.n, .blk t cs) :: st.H, st.n + 1⟩ K) :
    ∃ e' st', (Kept e w e' (pushW w (.cells vs t (0, 0))) ∧ Agr e st.H w (pushW w (.cells vs t (0, 0)))) ∧ Ok b N e' st' (a.put dst (.pointer (some ⟨w.heap.size, 0, none⟩))) (pushW w (.cells vs t (0, 0))) ∧ K st' := by
  have hb := pushW_below w (.cells vs t (0, 0))
  obtain ⟨e', h1, kw, hm, _⟩ := h.addOb (v := .pointer (some ⟨w.heap.size, 0, none⟩)) (o := .blk t cs) hb (Nat.le_refl _) (fun k hk => by injection hk with hk; subst hk; exact Nat.le_refl _)
    (fun e' kw hm => ⟨w.heap.size, vs, hm, pushW_new _ _, hc.kept kw⟩)
  obtain ⟨st', h2, h3, _⟩ := putK_sound (v := .pointer (some ⟨w.heap.size, 0, none⟩)) h1 (by simp only [RepSV]; exact ⟨_, hm, rfl⟩) hk
  exact ⟨e', st', ⟨kw, Agr.below h.hp hb⟩, h2, h3⟩

theorem store_run (hty : Tys P ty) {f : Operand → Value} {x y : Operand} {t type : TypeId} {dst : Option Tmp} {pos : String} {after : Array Edge} {guard : Option (Nat × Bool)} {ti : TY} (ht : lk ty t = some ti) {ad : Addr} {w w' : World}
    (hx : f x = .pointer (some ad)) (hl : (f y).cells.toList.length = ti.i.size) (hrun : (storeCells ad (f y).cells.toList 0).run P w = .ok () w') :
    (execOp f { dst, op := .store t x y, type, pos, after, guard }).run P w = .ok .skip w' := by
  simp only [execOp]
  refine run_unit ?_
  rw [hx]
  simp only [Instr.storeAt, Instr.sureAddr, Sem.run_bind, Sem.run_pure, Result.andThen_ok, storeVar, Vc.run_sizeOf (hty _ _ ht).i]
  rw [if_neg (by rw [Array.length_toList] at hl; simp [hl])]
  exact hrun

theorem vcEff_sound (hty : Tys P ty) {o : Oper} {e : Env} {st : St} {K : SExit → St → Prop} {a : Act} {w : World} (h : Ok b N e st a w) (hk : vcEff P ty b N kp o st K) : OpR P b N kp e st.H a o.dst w K ((execOp a.eval o).run P w) := by
  have hT := h.tmok
  obtain ⟨T, H, n⟩ := st
  obtain ⟨dst, op, type, pos, after, guard⟩ := o
  have gen : OpC P b N kp { dst, op, type, pos, after, guard } ⟨T, H, n⟩ K → OpR P b N kp e H a dst w K ((execOp a.eval { dst, op, type, pos, after, guard }).run P w) := fun hc => by
    obtain ⟨hc⟩ := hc; exact hc e a w h
  unfold vcEff at hk
  simp only at hk hT ⊢
  split at hk
  · -- box
    rename_i t x
    split at hk <;> try (exact hk.elim)
    rename_i sv hx
    split at hk <;> try (exact hk.elim)
    rename_i cs hcs
    rw [nrmL_eq] at hk
    have hr := cellsOf_rep hcs (hT _ _ hx)
    obtain ⟨e', st', h1, h2, h3⟩ := h.newBlk (t := t) hr hk
    have hrun : (execOp a.eval { dst, op := .box t x, type, pos, after, guard }).run P w = .ok (.value (.pointer (some ⟨w.heap.size, 0, none⟩))) (pushW w (.cells (a.eval x).cells t (0, 0))) := by
      simp only [execOp]
      refine run_val ?_
      simp only [Instr.box, newVar, Sem.run_bind, run_newRow, Result.andThen_ok, Sem.run_pure]
    rw [hrun]
    exact ⟨e', st', .of h1, h2, h3⟩
  · -- alloc
    rename_i t
    split at hk <;> try (exact hk.elim)
    rename_i y hy
    rw [nrmL_eq] at hk
    obtain ⟨e', st', h1, h2, h3⟩ := h.newBlk (t := t) (vs := y.i.z.cells) (zs_rep e w y.i.z.cells.toList) hk
    have hrun : (execOp a.eval { dst, op := .alloc t, type, pos, after, guard }).run P w = .ok (.value (.pointer (some ⟨w.heap.size, 0, none⟩))) (pushW w (.cells y.i.z.cells t (0, 0))) := by
      simp only [execOp]
      refine run_val ?_
      unfold Instr.alloc
      rw [Sem.run_bind, Vc.run_zeroValue (hty _ _ hy).i]
      simp only [newVar, Sem.run_bind, run_newRow, Result.andThen_ok, Sem.run_pure]
    rw [hrun]
    exact ⟨e', st', .of h1, h2, h3⟩
  · -- buildSlice
    rename_i t m ps
    split at hk <;> try (exact hk.elim)
    rename_i y hy
    split at hk <;> try (exact hk.elim)
    rename_i el hkd
    split at hk <;> try (exact hk.elim)
    rename_i ey hey
    split at hk <;> try (exact hk.elim)
    rename_i l hl hle hsz hby h1 hsd
    split at hk <;> try (first | exact hk.elim | exact gen hk)
    rename_i xs hfill
    have hu := (hty _ _ hy).slice hkd
    have hle' := Nat.le_of_ble_eq_true hle
    have hsz' := nbeq.1 hsz
    have hby' := Nat.le_of_ble_eq_true hby
    have h1' := Nat.le_of_ble_eq_true h1
    have h0 : ey.i.size ≠ 0 := by omega
    have hzs : ey.i.z.cells.size = ey.i.size := by rw [← Array.length_toList]; exact hsz'
    obtain ⟨p1, p2⟩ := evp_rep hT _ _ hl
    have hz : ((if m * ey.i.size = 0 then pure #[] else do pure (← zeroValue el).cells : Sem (Array Value))).run P w = .ok (if m * ey.i.size = 0 then #[] else ey.i.z.cells) w := by
      split
      · rfl
      · rw [Sem.run_bind, Vc.run_zeroValue (hty _ _ hey).i]; rfl
    have hzc : (Array.range (m * ey.i.size)).map (fun i => (if m * ey.i.size = 0 then #[] else ey.i.z.cells)[i % (if m * ey.i.size = 0 then (#[] : Array Value) else ey.i.z.cells).size]!) = (repV ey.i.z.cells.toList m).toArray := by
      split
      · rename_i hm0
        have : m = 0 := by rcases Nat.mul_eq_zero.1 hm0 with h' | h'; exact h'; exact absurd h' h0
        subst this
        simp [repV]
      · exact zero_repV hzs h0
    obtain ⟨vr, q1, q2, q3⟩ := fillA_rep (e := e) (w := w) l (ps.toList.map fun p => (p.1, a.eval p.2)) _ _ _ hfill (by simpa [Function.comp_def] using p1) (by simpa [Function.comp_def] using p2) (rep_rep (zdL_rep e.pub w _) m)
    have hb := pushW_below w (.cells vr el (0, 0))
    have hvl : vr.size = m * ey.i.size := by rw [q3, repV_length, hsz']
    have hrow : RowOk (pushW w (.cells vr el (0, 0))) ⟨.slice (some ⟨w.heap.size, 0, none⟩) m m, el, ey.i.size, vr.toList⟩ := by
      refine ⟨m, by simp [hvl], .inr ⟨w.heap.size, 0, m, vr, rfl, pushW_new _ _, Nat.le_refl _, ?_, by simp [hvl], ?_⟩⟩
      rotate_left
      · simp only [List.drop_zero]; rw [List.take_of_length_le (by simp [hvl])]
      have : m ≤ m * ey.i.size := Nat.le_mul_of_pos_right _ h1'
      simp only [maxLen]; omega
    obtain ⟨e', g1, kw, hm, _⟩ := h.addOb (v := .slice (some ⟨w.heap.size, 0, none⟩) m m) (o := .row el ey.i.bytes ey.i.size m xs) hb (Nat.le_refl _) (fun k hk => by injection hk with hk; subst hk; exact Nat.le_refl _)
      (fun e' kw hm => ⟨_, _, vr.toList, hm, hrow, q2.kept kw, hby'⟩)
    obtain ⟨st', g2, g3, _⟩ := putK_sound (v := .slice (some ⟨w.heap.size, 0, none⟩) m m) g1 (by simp only [RepSV]; exact ⟨_, _, _, rfl, hm⟩) hk
    have hrun : (execOp a.eval { dst, op := .buildSlice t m ps, type, pos, after, guard }).run P w = .ok (.value (.slice (some ⟨w.heap.size, 0, none⟩) m m)) (pushW w (.cells vr el (0, 0))) := by
      simp only [execOp]
      refine run_val ?_
      unfold Instr.buildSlice
      simp only [Sem.run_bind, run_under hu, Result.andThen_ok, Vc.run_sizeOf (hty _ _ hey).i]
      rw [if_neg (by omega)]
      have hmap : (ps.map fun x => (x.1, a.eval x.2)).toList = ps.toList.map fun x => (x.1, a.eval x.2) := by simp
      by_cases hm0 : m * ey.i.size = 0
      · rw [if_pos hm0]
        rw [if_pos hm0] at hzc
        simp only [Sem.run_bind, Sem.run_pure, Result.andThen_ok]
        rw [hzc, hmap, q1]
        simp only [Sem.run_bind, Sem.run_pure, run_newRow, Result.andThen_ok]
      · rw [if_neg hm0]
        rw [if_neg hm0] at hzc
        simp only [Sem.run_bind, Sem.run_pure, Vc.run_zeroValue (hty _ _ hey).i, Result.andThen_ok]
        rw [hzc, hmap, q1]
        simp only [Sem.run_bind, Sem.run_pure, run_newRow, Result.andThen_ok]
    rw [hrun]
    exact ⟨e', st', .of ⟨kw, Agr.below h.hp hb⟩, g2, g3⟩
  · -- store
    rename_i t ad x
    split at hk
    · rename_i i off ha
      split at hk <;> try (exact hk.elim)
      rename_i y sv hy hx
      split at hk <;> try (exact hk.elim)
      rename_i l hl
      split at hk <;> try (exact hk.elim)
      rename_i t' cs hsz hcl hi
      split at hk <;> try (exact hk.elim)
      rename_i cs' hp hb
      rw [nrmL_eq] at hk
      simp only [withoutK_eq] at hk
      have hb' := Nat.le_of_ble_eq_true hb
      have h1 := hT _ _ ha
      simp only [RepSV] at h1
      obtain ⟨g, hm, hv⟩ := h1
      have hr := cellsOf_rep hl (hT _ _ hx)
      have hlen := hr.len
      obtain ⟨g', vs, hm', hh, hcs⟩ := h.hp.ob _ _ hi
      rw [hm] at hm'; injection hm' with hm'; injection hm' with hm'; injection hm' with hm'; injection hm' with hm'
      subst hm'
      have hcl' := hcs.len
      obtain ⟨vr, q1, q2⟩ := putAt_rep hp hb' hr hcs
      have hlt := (Array.getElem?_eq_some_iff.1 hh).1
      have hrun := run_storeCells (P := P) (g := g) (off := off) (t := t') (a.eval x).cells.toList 0 vs w (cellsB_plain hcl hr) hh (by rw [Array.length_toList] at hlen hcl' ⊢; omega)
      rw [store_run hty hy hv (by rw [hlen]; exact nbeq.1 hsz) hrun]
      have q1' : ((a.eval x).cells.toList.zipIdx 0).foldl (fun cs (x : Value × Nat) => cs.setIfInBounds (off + x.2) x.1) vs = vr := by
        rw [← q1]
      rw [q1']
      have ho : Only (fun k => foot e i k) w (setW w g (.cells vr t' (0, 0))) := ⟨rfl, rfl, rfl, by rw [setW_size]; exact Nat.le_refl _, fun k hk hn => setW_ne _ _ (fun e' => hn ⟨_, hm, by rw [← e']; rfl⟩)⟩
      obtain ⟨g1, kw, g3⟩ := h.setOb (i := i) (o := .blk t' cs') (by simp [has, hi]) ho (Nat.le_refl _) (fun kw => ⟨g, vr, hm, setW_at _ _ _ hlt, q2.kept kw⟩)
      obtain ⟨st', g4, g5, _⟩ := putK_sound (v := undef) g1 (by simp only [RepSV]) hk
      exact ⟨e, st', ⟨fun hkp => (by cases hkp), kw.p⟩, g4, g5⟩
    · rename_i i off ha
      split at hk <;> try (exact hk.elim)
      rename_i y sv hy hx
      split at hk <;> try (exact hk.elim)
      rename_i l hl
      split at hk <;> try (first | exact hk.elim | exact gen hk)
      rename_i m t' eb sz q xs hsz hcl hm hi
      obtain ⟨xs', hle, hov, hk⟩ := hk
      simp only [withoutK_eq] at hk
      have h1 := hT _ _ ha
      simp only [RepSV] at h1
      obtain ⟨adr, n', c, hme, hv⟩ := h1
      have hr := cellsOf_rep hl (hT _ _ hx)
      have hlen := hr.len
      have hrd := dOfs_rep hm hr
      obtain ⟨A', c', vs, hme', hrow, hxs, hlb⟩ := h.hp.ob _ _ hi
      rw [hme] at hme'; injection hme' with hme'; injection hme' with e1 e2 e3
      subst e1; subst e2; subst e3
      have had : adr = ⟨adr.block, adr.off, none⟩ := by
        obtain ⟨n', hl, ⟨hv, hn⟩ | ⟨g', o, cap, cur, hv, _⟩⟩ := hrow
        · cases hv
        · injection hv with e1 _ _; injection e1 with e1; rw [e1]
      have hrow' := hrow
      rw [had] at hrow'
      have hml := hrd.len
      have hxl := hxs.len
      obtain ⟨w', p1, p2, p3⟩ := storeRow_run (P := P) hrow' (k := off) (l := (a.eval x).cells.toList) (by omega) (cellsB_plain hcl hr)
      have hadd : adr.add off = ⟨adr.block, adr.off + off, none⟩ := by rw [had, add_own]
      rw [hadd] at hv
      rw [store_run hty hy hv (by rw [hlen]; exact nbeq.1 hsz) p1]
      rw [← had] at p2
      have ho : Only (fun k => foot e i k) w w' := ⟨p3.os, p3.tape, p3.output, p3.size, fun k hk hn => p3.block k hk (fun e' => hn ⟨_, hme, e'.symm⟩)⟩
      obtain ⟨g1, kw, g3⟩ := h.setOb (i := i) (o := .row t' eb sz n' xs') (by simp [has, hi]) ho (run_drawn p1) (fun kw => ⟨_, _, _, hme, p2, by
        rw [← hov, ovl, ← hml]
        exact (((hxs.take off).app hrd).app (hxs.drop _)).kept kw, hlb⟩)
      obtain ⟨st', g4, g5, _⟩ := putK_sound (v := undef) g1 (by simp only [RepSV]) hk
      refine ⟨e, st', .of ⟨kw, kw.same, fun j t2 cs2 k hj hf => ?_⟩, g4, g5⟩
      refine g3 j k (by simp [has]; rw [hj]; rfl) ?_ hf
      rintro rfl
      rw [hi] at hj; cases hj
    · exact gen hk
  · -- load
    rename_i t x
    split at hk
    · rename_i i off hx
      split at hk <;> try (exact hk.elim)
      rename_i y t' eb sz n' xs hy hi
      have hyi := (hty _ _ hy).i
      have h1 := hT _ _ hx
      simp only [RepSV] at h1
      obtain ⟨adr, n', c, hme, hv⟩ := h1
      obtain ⟨A', c', vs, hme', hrow, hxs, hlb⟩ := h.hp.ob _ _ hi
      rw [hme] at hme'; injection hme' with hme'; injection hme' with e1 e2 e3
      subst e1; subst e2; subst e3
      split at hk
      · rename_i hagg
        obtain ⟨l, hl, hll, hk⟩ := hk
        rw [nrmL_eq] at hk
        have hvl : ((vs.drop off).take y.i.size).length = y.i.size := by
          have := ((hxs.drop off).take y.i.size).len
          rw [this, hl, hll]
        have hrun : (execOp a.eval { dst, op := .load t x, type, pos, after, guard }).run P w = .ok (.value (.agg ((vs.drop off).take y.i.size).toArray)) w := by
          simp only [execOp]
          refine run_val ?_
          rw [hv]
          simp only [Instr.loadAt, Sem.run_bind, Instr.sureAddr, Sem.run_pure, Result.andThen_ok]
          refine hrow.ldA hyi hagg hvl fun j v hj => ?_
          rw [List.getElem?_take] at hj
          split at hj
          · rw [List.getElem?_drop] at hj; exact hj
          · cases hj
        rw [hrun]
        obtain ⟨st', g4, g5, _⟩ := putK_sound (v := .agg ((vs.drop off).take y.i.size).toArray) h (by
          simp only [RepSV]
          refine ⟨_, rfl, ?_⟩
          rw [dL_map, ← hl]
          exact RepSVs.ofD.1 ((hxs.drop off).take _)) hk
        exact ⟨e, st', .of ⟨Kept.refl _ _, Agr.refl _ _ _⟩, g4, g5⟩
      · rename_i hagg
        obtain ⟨x', hx', hk⟩ := hk
        obtain ⟨v, hv1, hv2⟩ := hxs.get hx'
        have hrun : (execOp a.eval { dst, op := .load t x, type, pos, after, guard }).run P w = .ok (.value v) w := by
          simp only [execOp]
          refine run_val ?_
          rw [hv]
          simp only [Instr.loadAt, Sem.run_bind, Instr.sureAddr, Sem.run_pure, Result.andThen_ok]
          exact hrow.ldV hyi hagg hv1
        rw [hrun]
        obtain ⟨st', g4, g5, _⟩ := putK_sound (v := v) h (by simpa only [RepSV] using hv2) hk
        exact ⟨e, st', .of ⟨Kept.refl _ _, Agr.refl _ _ _⟩, g4, g5⟩
    · exact gen hk
  · -- panic
    rename_i x
    split at hk
    · rename_i t y hx
      have h1 := hT _ _ hx
      have h2 := h1
      simp only [RepSV] at h2
      obtain ⟨z, hz, _⟩ := h2
      have hrun : (execOp a.eval { dst, op := .panic x, type, pos, after, guard }).run P w = .halt (.panic (.iface t z)) w := by
        simp only [execOp]
        rw [Sem.run_bind, hz]; rfl
      rw [hrun]
      rw [hz] at h1
      exact ⟨e, _, _, _, rfl, h1, h, hk⟩
    · rename_i t y hx
      have h1 := hT _ _ hx
      have h2 := h1
      simp only [RepSV, RepD] at h2
      obtain ⟨z, hz, _⟩ := h2
      have hrun : (execOp a.eval { dst, op := .panic x, type, pos, after, guard }).run P w = .halt (.panic (.iface t z)) w := by
        simp only [execOp]
        rw [Sem.run_bind, hz]; rfl
      rw [hrun]
      rw [hz] at h1
      exact ⟨e, _, _, _, rfl, h1, h, hk⟩
    · exact gen hk
  · exact gen hk

theorem vcOp_sound (hty : Tys P ty) {o : Oper} {e : Env} {st : St} {K : SExit → St → Prop} {a : Act} {w : World} (h : Ok b N e st a w) (hk : vcOp P ty b N kp o st K) : OpR P b N kp e st.H a o.dst w K ((execOp a.eval o).run P w) := by
  unfold vcOp at hk
  split at hk
  · rename_i sv hsv
    obtain ⟨v, h1, h2⟩ := pOp_sound hty h.tmok h.hp.ob hsv
    obtain ⟨y, hy, hr⟩ := nrm_eq sv _ hk h1
    obtain ⟨st', g1, g2, _⟩ := putK_sound h hr hy
    rw [h2 w fun _ => Agr.refl _ _ _]
    exact ⟨e, st', .of ⟨Kept.refl _ _, Agr.refl _ _ _⟩, g1, g2⟩
  · split at hk
    · rename_i g hg
      obtain ⟨sv, v, h1, h2, h3⟩ := pStop_sound hty h.tmok h.hp.ob hg hk
      obtain ⟨st', g1, g2, _⟩ := putK_sound h h1 h3
      rw [h2 w]
      exact ⟨e, st', .of ⟨Kept.refl _ _, Agr.refl _ _ _⟩, g1, g2⟩
    · exact vcEff_sound hty h hk
/-- An operation whose conditions hold (behind a state that was said anew). -/
theorem effC (hty : Tys P ty) {o : Oper} {st : St} {K : SExit → St → Prop} (h : vcOp P ty b N kp o st K) : OpC P b N kp o st K :=
  ⟨fun _ _ _ hok => vcOp_sound hty hok h⟩
end
end Go.Vx

/- Guards, regions, code: their conditions, and that these are enough. -/
namespace Go.Vx
open Go.RowKit Go.Vc

section
variable (P : Program) (ty : List (Nat × TY)) {G : Glob} {n0 : Nat} (b : Bs G n0) (N : Nat) (plans : List (Nat × Pl))

/-- An operation under its guard. -/
def guardK (ops : Array Oper) (o : Oper) (st : St) (A : St → Prop) (K : St → Prop) : Prop :=
  match o.guard with
  | none => A st
  | some (j, want) => match (nth ops.toList j).bind (·.dst) with
    | some d => match lk st.T d with
      | some (.kb c) => match c == want with
        | true => A st
        | false => putK N o.dst (.tup []) st K
      | some (.d (.bool c)) => match st with
        | ⟨T, H, n⟩ => (c = want → A ⟨(d, .kb want) :: T, H, n⟩) ∧ (c = !want → putK N o.dst (.tup []) ⟨(d, .kb (!want)) :: T, H, n⟩ K)
      | some (.tup []) => putK N o.dst (.tup []) st K
      | _ => False
    | none => False

def vcSeq (ops : Array Oper) : List Oper → St → (SExit → St → Prop) → Prop
  | [], st, K => K .normal st
  | o :: r, st, K => guardK N ops o st (fun st => vcOp P ty b N false o st fun x st' => match x with
    | .normal => vcSeq ops r st' K
    | x => K x st') fun st' => vcSeq ops r st' K

/-- The blocks among the own objects. -/
def blksK (H0 : Hp) : Hp → (Hp → Prop) → Prop
  | [], K => K []
  | (i, _) :: r, K => match lk H0 i with
    | some (.blk t cs) => blksK H0 r fun l => K ((i, .blk t cs) :: l)
    | _ => blksK H0 r K
/-- Are they still there? -/
def stillB : Hp → Hp → Bool
  | [], _ => true
  | (i, _) :: r, H => match lk H i with
    | some (.blk _ _) => stillB r H
    | _ => false
/-- Does an operand name a place of own block i? -/
def isOwn (T : Tl) (x : Operand) (i : Nat) : Bool :=
  match ev T x with
  | some (.own j _) => Nat.beq j i
  | _ => false
def stIn (T : Tl) (i : Nat) : List Oper → Bool
  | [] => false
  | o :: r => match o.op with
    | .store _ ad _ => isOwn T ad i || stIn T i r
    | _ => stIn T i r
def ldIn (T : Tl) (i : Nat) : List Oper → Bool
  | [] => false
  | o :: r => match o.op with
    | .load _ ad => isOwn T ad i || ldIn T i r
    | .fieldAddr _ ad _ => isOwn T ad i || ldIn T i r
    | _ => ldIn T i r
/-- The objects without the blocks that a region writes and does not read. -/
def offK (T : Tl) (ops : List Oper) : Hp → Hp
  | [] => []
  | (i, o) :: r => match stIn T i ops && !ldIn T i ops with
    | true => offK T ops r
    | false => (i, o) :: offK T ops r
def upd (dst : Option Tmp) (x : SV) (T0 : Tl) (K : Tl → Prop) : Prop :=
  match dst with
  | none => K T0
  | some d => K ((d, x) :: T0)
mutual
/-- Is a value data that anyone may read? -/
def pubS : SV → Bool
  | .d _ => true
  | .kb _ => true
  | .nl => true
  | .agg l => pubSs l
  | .tup l => pubSs l
  | .fn _ a b => pubSs a && pubSs b
  | .ifc _ x => pubS x
  | _ => false
def pubSs : List SV → Bool
  | [] => true
  | x :: r => match pubS x with
    | true => pubSs r
    | false => false
end
/-- An operation that may be taken ahead: out of what was known when the region began, or without memory. -/
def pLow (T : Tl) (H : Hp) (op : Op) (k : Bool → SV → Prop) : Prop :=
  match ldB op with
  | true => False
  | false => match pOp ty T H op with
    | some sv => nrm sv (k false)
    | none => match pStop ty T H op with
      | some g => g (k false)
      | none => False
/-- Does operation j wait for operation i, by edges in a row? -/
def depT (ops : Array Oper) : Nat → Nat → Nat → Bool
  | 0, _, _ => false
  | n + 1, j, i => match ops[j]? with
    | some o => o.after.any fun e => Region.binds .any e && (Nat.beq e.on i || depT ops n e.on i)
    | none => false
def finT (ops : Array Oper) (pl : Pl) : Bool := pl.fins.all fun j => pl.takes.all fun i => depT ops 7 j i
def isPick : Op → Bool
  | .pick _ _ _ => true
  | _ => false
def pTake (md : Bool) (T0 : Tl) (HL : Hp) (T : Tl) (H : Hp) (op : Op) (k : Bool → SV → Prop) : Prop :=
  match pOp ty T0 HL op with
  | some .any => pLow ty T H op k
  | some sv => match md && !pubS sv with
    | true => pLow ty T H op k
    | false => nrm sv (k true)
  | none => match isPick op with
    | true => pLow ty T H op k
    | false => match pStop ty T0 HL op with
      | some g => match md with
        | false => g (k true)
        | true => g fun sv => match pubS sv with
          | true => k true sv
          | false => False
      | none => pLow ty T H op k
/-- A guard in a region that draws. -/
def guardP (ops : Array Oper) (o : Oper) (T0 : Tl) (st : St) (A : Tl → St → Prop) (K : Tl → St → Prop) : Prop :=
  match o.guard with
  | none => A T0 st
  | some (j, want) => match (nth ops.toList j).bind (·.dst) with
    | some d => match lk st.T d with
      | some (.kb c) => match c == want with
        | true => A T0 st
        | false => putK N o.dst .any st fun st' => upd o.dst .any T0 fun T0' => K T0' st'
      | some (.d (.bool c)) => match st with
        | ⟨T, H, n⟩ => (c = want → A ((d, .kb want) :: T0) ⟨(d, .kb want) :: T, H, n⟩) ∧ (c = !want → putK N o.dst .any ⟨(d, .kb (!want)) :: T, H, n⟩ fun st' => upd o.dst .any ((d, .kb (!want)) :: T0) fun T0' => K T0' st')
      | _ => False
    | none => False

/-- Must an operation leave what the loads that are taken ahead lean on? Not if it stores in another own block. -/
def kpOf (HL : Hp) (T : Tl) : Op → Bool
  | .store _ ad _ => match ev T ad with
    | some (.own i _) => match lk HL i with
      | none => false
      | _ => true
    | _ => true
  | _ => true
def kpM (md : Bool) (HL : Hp) (T : Tl) (op : Op) : Bool :=
  match md with
  | true => false
  | false => kpOf HL T op
def vcPlan (md : Bool) (ops : Array Oper) (HL : Hp) : Pl → Tl → St → (SExit → St → Prop) → Prop
  | .done, _, st, K => K .normal st
  | .take i r, T0, st, K => match nth ops.toList i with
    | none => False
    | some o => guardP N ops o T0 st (fun T0 st => pTake ty md T0 HL st.T st.H o.op fun c sv => putK N o.dst sv st fun st' => upd o.dst (match c with | true => sv | false => .any) T0 fun T0' => vcPlan md ops HL r T0' st' K) fun T0' st' => vcPlan md ops HL r T0' st' K
  | .pure i r, T0, st, K => match nth ops.toList i with
    | none => False
    | some o => match ldB o.op with
      | true => False
      | false => guardP N ops o T0 st (fun T0 st => pTake ty md T0 [] st.T st.H o.op fun c sv => putK N o.dst sv st fun st' => upd o.dst (match c with | true => sv | false => .any) T0 fun T0' => vcPlan md ops HL r T0' st' K) fun T0' st' => vcPlan md ops HL r T0' st' K
  | .run i r, T0, st, K => match nth ops.toList i with
    | none => False
    | some o => guardP N ops o T0 st (fun T0 st => vcOp P ty b N (kpM md HL st.T o.op) o st fun x st' => match x with
      | .normal => match stillB HL st'.H with
        | true => upd o.dst .any T0 fun T0' => vcPlan md ops HL r T0' st' K
        | false => False
      | x => K x st') fun T0' st' => vcPlan md ops HL r T0' st' K
  | .two i j ri rj, T0, st, K => match nth ops.toList i, nth ops.toList j with
    | some o, some o' => (guardP N ops o T0 st (fun T0 st => vcOp P ty b N (kpM md HL st.T o.op) o st fun x st' => match x with
        | .normal => match stillB HL st'.H with
          | true => upd o.dst .any T0 fun T0' => vcPlan md ops HL ri T0' st' K
          | false => False
        | x => K x st') fun T0' st' => vcPlan md ops HL ri T0' st' K) ∧
      (guardP N ops o' T0 st (fun T0 st => vcOp P ty b N (kpM md HL st.T o'.op) o' st fun x st' => match x with
        | .normal => match stillB HL st'.H with
          | true => upd o'.dst .any T0 fun T0' => vcPlan md ops HL rj T0' st' K
          | false => False
        | x => K x st') fun T0' st' => vcPlan md ops HL rj T0' st' K)
    | _, _ => False
  | .three i j k ri rj rk, T0, st, K => match nth ops.toList i, nth ops.toList j, nth ops.toList k with
    | some o, some o', some o'' => (guardP N ops o T0 st (fun T0 st => vcOp P ty b N (kpM md HL st.T o.op) o st fun x st' => match x with
        | .normal => match stillB HL st'.H with
          | true => upd o.dst .any T0 fun T0' => vcPlan md ops HL ri T0' st' K
          | false => False
        | x => K x st') fun T0' st' => vcPlan md ops HL ri T0' st' K) ∧
      (guardP N ops o' T0 st (fun T0 st => vcOp P ty b N (kpM md HL st.T o'.op) o' st fun x st' => match x with
        | .normal => match stillB HL st'.H with
          | true => upd o'.dst .any T0 fun T0' => vcPlan md ops HL rj T0' st' K
          | false => False
        | x => K x st') fun T0' st' => vcPlan md ops HL rj T0' st' K) ∧
      (guardP N ops o'' T0 st (fun T0 st => vcOp P ty b N (kpM md HL st.T o''.op) o'' st fun x st' => match x with
        | .normal => match stillB HL st'.H with
          | true => upd o''.dst .any T0 fun T0' => vcPlan md ops HL rk T0' st' K
          | false => False
        | x => K x st') fun T0' st' => vcPlan md ops HL rk T0' st' K)
    | _, _, _ => False
  | .fin i r, _, st, K => match nth ops.toList i with
    | none => False
    | some o => guardK N ops o st (fun st => vcOp P ty b N false o st fun x st' => match x with
      | .normal => vcPlan md ops HL r [] st' K
      | x => K x st') fun st' => vcPlan md ops HL r [] st' K

/-- A state says no more than another one. -/
def Weak (st st' : St) : Prop := ∀ e a w, Ok b N e st a w → ∃ e' : Env, (∀ k, e.pub k → e'.pub k) ∧ Ok b N e' st' a w
theorem Weak.refl (st : St) : Weak b N st st := fun e _ _ h => ⟨e, fun _ h => h, h⟩

/-- A loop: an invariant, with a measure. T0: the temporaries that the loop does not assign. -/
inductive LoopC (T0 : Tl) (body : St → (SExit → St → Prop) → Prop) (st : St) (K : SExit → St → Prop) : Prop
  | mk (I : Nat → St → Prop) (h0 : ∃ n st', I n st' ∧ Weak b N st st')
    (h : ∀ n st, I n st → body st fun x st' => match x with
      | .normal => ∃ m st'', m < n ∧ I m st'' ∧ Weak b N st' st''
      | x => K x st')
/-- Here a state may be said anew. -/
inductive CutC (one : (SExit → St → Prop) → Prop) (two : St → (SExit → St → Prop) → Prop) (K : SExit → St → Prop) : Prop
  | mk (M : St → Prop) (h1 : one fun x st' => match x with
      | .normal => ∃ st'', M st'' ∧ Weak b N st' st''
      | x => K x st') (h2 : ∀ st', M st' → two st' K)

/-- The temporaries that are data; of any other one nothing is said. -/
def pubTK : Tl → (Tl → Prop) → Prop
  | [], K => K []
  | (t, x) :: r, K => match pubS x with
    | true => pubTK r fun T => K ((t, x) :: T)
    | false => pubTK r fun T => K ((t, .any) :: T)
def headR : Code → Option Nat
  | .region id _ _ => some id
  | .seq a b => match headR a with
    | some i => some i
    | none => headR b
  | .block _ b => headR b
  | .loop b => headR b
  | _ => none
def dsts : List Oper → List Nat
  | [] => []
  | o :: r => match o.dst with
    | some d => d :: dsts r
    | none => dsts r
/-- The temporaries that a piece of code assigns. -/
def asgC : Code → List (List Nat)
  | .region _ ops _ => [dsts ops.toList]
  | .seq a b => asgC a ++ asgC b
  | .block _ b => asgC b
  | .loop b => asgC b
  | .scope b => asgC b
  | .cond _ x y => asgC x ++ asgC y
  | _ => []
def memN (t : Nat) : List Nat → Bool
  | [] => false
  | d :: r => match Nat.beq d t with
    | true => true
    | false => memN t r
def memNN (t : Nat) : List (List Nat) → Bool
  | [] => false
  | d :: r => match memN t d with
    | true => true
    | false => memNN t r
def keepK (l : List (List Nat)) : List Nat → Tl → (Tl → Prop) → Prop
  | _, [], K => K []
  | seen, (t, x) :: r, K => match memNN t l with
    | false => match memN t seen with
      | false => keepK l (t :: seen) r fun T => K ((t, x) :: T)
      | true => keepK l seen r K
    | true => keepK l seen r K
/-- Is there a cut ahead of this piece? (A key from 100000 on among the plans.) -/
def isCut (c : Code) : Bool :=
  match headR c with
  | some i => match lk plans (100000 + i) with
    | some _ => true
    | none => false
  | none => false

def vcCode : Code → St → (SExit → St → Prop) → Prop
  | .skip, st, K => K .normal st
  | .label _, st, K => K .normal st
  | .exit id, st, K => K (.exit id) st
  | .goto l, st, K => K (.goto l) st
  | .ret, st, K => K .ret st
  | .seq x y, st, K => match isCut plans y with
    | false => vcCode x st fun e st' => match e with
      | .normal => vcCode y st' K
      | e => K e st'
    | true => CutC b N (vcCode x st) (vcCode y) K
  | .block id c, st, K => vcCode c st fun e st' => match e with
    | .exit id' => match Nat.beq id' id with
      | true => K .normal st'
      | false => K (.exit id') st'
    | e => K e st'
  | .cond c x y, st, K => match ev st.T c with
    | some (.kb c) => match c with
      | true => vcCode x st K
      | false => vcCode y st K
    | some (.d (.bool q)) => match c, st with
      | .tmp t, ⟨T, H, n⟩ => (q = true → vcCode x ⟨(t, .kb true) :: T, H, n⟩ K) ∧ (q = false → vcCode y ⟨(t, .kb false) :: T, H, n⟩ K)
      | _, st => (q = true → vcCode x st K) ∧ (q = false → vcCode y st K)
    | _ => False
  | .region id ops draw, st, K => match draw with
    | false => vcSeq P ty b N ops ops.toList st K
    | true => match lk plans id with
      | some plan => match st with
        | ⟨T, H, n⟩ => (Region.noSelect ops && Nat.ble plan.len ops.size && finT ops plan && planB ops plan (Array.replicate ops.size false)) = true ∧ match lk plans (200000 + id) with
          | some _ => pubTK T fun T0 => vcPlan P ty b N true ops [] plan T0 ⟨T, H, n⟩ K
          | none => blksK H (offK T ops.toList H) fun HL => vcPlan P ty b N false ops HL plan T ⟨T, H, n⟩ K
      | none => False
  | .loop c, st, K => keepK (asgC c) [] st.T fun T0 => LoopC b N T0 (vcCode c) st K
  | .scope c, st, K => vcCode c st fun e st' => match e with
    | .goto _ => False
    | e => K e st'
  | _, _, _ => False
end

section
variable {P : Program} {ty : List (Nat × TY)} {G : Glob} {n0 : Nat} {b : Bs G n0} {N : Nat} {plans : List (Nat × Pl)}

theorem Ok.know {e : Env} {st : St} {a : Act} {w : World} (h : Ok b N e st a w) {d : Nat} {c : Bool} (hd : lk st.T d = some (.d (.bool c))) : Ok b N e ⟨(d, .kb c) :: st.T, st.H, st.n⟩ a w := by
  refine ⟨h.sz, h.df, h.len, ?_, h.hp, h.below, h.dr, h.mine, h.frm, h.pre, h.gl⟩
  intro t sv ht
  simp only [lk] at ht
  split at ht
  · rename_i e
    obtain rfl := nbeq.1 e
    injection ht with ht; subst ht
    have := h.tm d _ hd
    simpa only [RepSV, RepD] using this
  · exact h.tm t sv ht
theorem Ok.boolAt {e : Env} {st : St} {a : Act} {w : World} (h : Ok b N e st a w) {d : Nat} {c : Bool} (hd : lk st.T d = some (.d (.bool c)) ∨ lk st.T d = some (.kb c)) : a.tmps.getD d undef = .bool c := by
  rcases hd with hd | hd
  · have := h.tm d _ hd; simpa only [RepSV, RepD] using this
  · have := h.tm d _ hd; simpa only [RepSV] using this

theorem rep_undef {e : Env} {w : World} : RepSV e w (.tup []) undef := by
  simp only [RepSV, RepSVs]
  exact ⟨#[], rfl, rfl⟩
theorem guardK_sound {ops : Array Oper} {o : Oper} {e : Env} {st : St} {A K : St → Prop} {a : Act} {w : World} (h : Ok b N e st a w) (hk : guardK N ops o st A K) :
    (Region.wanted o (yielded ops a.tmps) = true ∧ ∃ st', st'.H = st.H ∧ Ok b N e st' a w ∧ A st') ∨ (Region.wanted o (yielded ops a.tmps) = false ∧ ∃ st', Ok b N e st' (a.put o.dst undef) w ∧ K st') := by
  unfold guardK at hk
  split at hk
  · rename_i hg
    exact .inl ⟨by simp [Region.wanted, hg], st, rfl, h, hk⟩
  · rename_i j want hg
    split at hk <;> try (exact hk.elim)
    rename_i d hd
    split at hk <;> try (exact hk.elim)
    · rename_i c hc
      have hy := yielded_of hd (h.boolAt (.inr hc))
      split at hk
      · rename_i he
        exact .inl ⟨by simp [Region.wanted, hg, hy, eq_of_beq he], st, rfl, h, hk⟩
      · rename_i he
        obtain ⟨st', k1, k2, _⟩ := putK_sound (v := undef) h rep_undef hk
        exact .inr ⟨by simp only [Region.wanted, hg, hy]; simpa using he, st', k1, k2⟩
    · rename_i c hc
      have hy := yielded_of hd (h.boolAt (.inl hc))
      by_cases he : c = want
      · subst he
        exact .inl ⟨by simp [Region.wanted, hg, hy], ⟨(d, .kb c) :: st.T, st.H, st.n⟩, rfl, h.know hc, hk.1 rfl⟩
      · have he' : c = !want := by cases c <;> cases want <;> simp_all
        subst he'
        obtain ⟨st', k1, k2, _⟩ := putK_sound (v := undef) (h.know hc) rep_undef (hk.2 rfl)
        exact .inr ⟨by simp only [Region.wanted, hg, hy]; cases want <;> rfl, st', k1, k2⟩
    · rename_i hc
      have hv := h.tm d _ hc
      simp only [RepSV, RepSVs] at hv
      obtain ⟨l', e1, e2⟩ := hv
      have hy : yielded ops a.tmps j = none := by
        unfold yielded
        rw [← Array.getElem?_toList, ← nth_eq, hd]
        simp only [Option.bind_some]
        cases hg' : a.tmps[d]? with
        | none => rfl
        | some x =>
          have : a.tmps.getD d undef = x := by simp [hg']
          rw [e1] at this
          subst this
          rfl
      obtain ⟨st', k1, k2, _⟩ := putK_sound (v := undef) h rep_undef hk
      exact .inr ⟨by simp only [Region.wanted, hg, hy]; cases want <;> rfl, st', k1, k2⟩

/-- What is asked behind a piece of code, as a condition on the machine's state. -/
def Kden {G : Glob} {n0 : Nat} (b : Bs G n0) (N : Nat) (K : SExit → St → Prop) : Exit → Act → World → Prop
  | .normal, a, w => ∃ e st, Ok b N e st a w ∧ K .normal st
  | .exit id, a, w => ∃ e st, Ok b N e st a w ∧ K (.exit id) st
  | .goto l, a, w => ∃ e st, Ok b N e st a w ∧ K (.goto l) st
  | .ret, a, w => ∃ e st, Ok b N e st a w ∧ K .ret st
  | .panic c, a, w => ∃ e st x v, c = [{ v, recovered := false }] ∧ RepSV e w x v ∧ Ok b N e ⟨[], st.H, st.n⟩ a w ∧ K (.pan x) st
  | .outgrown, _, _ => False
theorem Kden_mono {K K' : SExit → St → Prop} (h : ∀ e st, K e st → K' e st) {x : Exit} {a : Act} {w : World} (hk : Kden b N K x a w) : Kden b N K' x a w := by
  cases x <;> first | exact hk.elim | (obtain ⟨e, st, h1, h2⟩ := hk; exact ⟨e, st, h1, h _ _ h2⟩) | (obtain ⟨e, st, x, v, h1, h2, h3, h4⟩ := hk; exact ⟨e, st, x, v, h1, h2, h3, h _ _ h4⟩)
theorem Ok.noT {e : Env} {st : St} {a : Act} {w : World} (h : Ok b N e st a w) : Ok b N e ⟨[], st.H, st.n⟩ a w :=
  ⟨h.sz, h.df, h.len, fun t sv ht => by simp [lk] at ht, h.hp, h.below, h.dr, h.mine, h.frm, h.pre, h.gl⟩
theorem Kden_pan {K : SExit → St → Prop} {c : List PanicEntry} {a : Act} {d : Option Tmp} {v : Value} {w : World} (h : Kden b N K (.panic c) (a.put d v) w) : Kden b N K (.panic c) a w := by
  obtain ⟨e, st, x, u, h1, h2, h3, h4⟩ := h
  refine ⟨e, st, x, u, h1, h2, ⟨?_, ?_, h3.len, fun t sv ht => by simp [lk] at ht, h3.hp, h3.below, h3.dr, h3.mine, h3.frm, h3.pre, h3.gl⟩, h4⟩
  · have := h3.sz; cases d <;> simpa [Act.put] using this
  · have := h3.df; cases d <;> simpa [Act.put] using this

/-- A run of an operation, as the machine's rule has it. -/
theorem OpR.wp {kp : Bool} {o : Oper} {e : Env} {H : Hp} {a : Act} {w : World} {K : SExit → St → Prop} {next : Act → World → Prop} {Q : Exit → Act → World → Prop}
    (h : OpR P b N kp e H a o.dst w K ((execOp a.eval o).run P w)) (hn : ∀ v w', AftS b N kp e H w a o.dst K v w' → next (a.put o.dst v) w') (hp : ∀ c w', PanS b N a K c w' → Q (.panic c) a w') : o.wp P a w next Q := by
  unfold Oper.wp
  generalize (execOp a.eval o).run P w = r at h
  cases r with
  | halt x w' =>
    cases x <;> simp only [OpR] at h
    exact hp _ _ h
  | ok n w' =>
    cases n <;> simp only [OpR] at h
    · exact hn _ _ h
    · exact hn _ _ h
    · refine Calls.mono h fun e w'' he => ?_
      cases e with
      | returned v => exact hn _ _ he
      | panicked c => exact hp _ _ he
      | outgrown => exact he.elim

theorem vcSeq_sound (hty : Tys P ty) {ops : Array Oper} : ∀ (l : List Oper) (e : Env) (st : St) (K : SExit → St → Prop) (a : Act) (w : World), Ok b N e st a w → vcSeq P ty b N ops l st K → wpList P ops (Kden b N K) l a w
  | [], e, st, K, a, w, h, hk => ⟨e, st, h, hk⟩
  | o :: r, e, st, K, a, w, h, hk => by
    simp only [vcSeq] at hk
    unfold wpList
    rcases guardK_sound h hk with ⟨hw, st', _, k1, k2⟩ | ⟨hw, st', k1, k2⟩
    · rw [if_pos hw]
      refine .inl ((vcOp_sound hty k1 k2).wp (fun v w' ha => ?_) fun c w' hc => ?_)
      · obtain ⟨e', st'', _, q1, q2⟩ := ha
        exact vcSeq_sound hty r e' st'' K _ w' q1 q2
      · obtain ⟨e', st'', x, v, q1, q2, q3, q4⟩ := hc
        exact ⟨e', st'', x, v, q1, q2, q3.noT, q4⟩
    · rw [if_neg (by simp [hw])]
      exact vcSeq_sound hty r e st' K _ w k1 k2
end
end Go.Vx

/- Regions that draw their order, code, calls: soundness. -/
namespace Go.Vc
open Go.RowKit
section
variable {P : Program} {ops : Array Oper} {Q : Exit → Act → World → Prop} {Z : World → Prop} {F : List Nat}
/-- What is listed has been waited for. -/
def ClosedL (ops : Array Oper) (l : Array Bool) : Prop := ∀ j o, ops[j]? = some o → l.getD j false = true → ∀ e ∈ o.after, Region.binds .any e = true → l.getD e.on false = true
theorem ClosedL.zero (ops : Array Oper) (n : Nat) : ClosedL ops (Array.replicate n false) := by
  intro j o _ h
  exfalso
  rcases Nat.lt_or_ge j n with h' | h'
  · simp [h'] at h
  · simp [Array.getElem?_eq_none (xs := Array.replicate n false) (i := j) (by simpa using h')] at h
theorem getD_set_mono {l : Array Bool} {i k : Nat} (h : l.getD k false = true) : (l.setIfInBounds i true).getD k false = true := by
  rcases Decidable.em (i = k) with rfl | hne
  · rcases Nat.lt_or_ge i l.size with h' | h'
    · simp [h']
    · simp [Array.getElem?_eq_none h'] at h
  · simpa [Array.getElem?_setIfInBounds_ne hne] using h
theorem ClosedL.set {ops : Array Oper} {l : Array Bool} {i : Nat} (h : ClosedL ops l) (hi : i ∈ Region.ready .any ops l) : ClosedL ops (l.setIfInBounds i true) := by
  intro j o ho hj e he hb
  refine getD_set_mono ?_
  rcases Decidable.em (i = j) with rfl | hne
  · obtain ⟨_, o', ho', hall⟩ := mem_ready.1 hi
    rw [ho] at ho'; injection ho' with ho'; subst ho'
    exact hall e he hb
  · refine h j o ho ?_ e he hb
    simpa [Array.getElem?_setIfInBounds_ne hne] using hj
theorem ClosedL.dep {ops : Array Oper} {l : Array Bool} (h : ClosedL ops l) {i : Nat} : ∀ (n j : Nat) (o : Oper), ops[j]? = some o → (∀ e ∈ o.after, Region.binds .any e = true → l.getD e.on false = true) → Vx.depT ops n j i = true → l.getD i false = true
  | 0, j, o, _, _, hd => by cases hd
  | n + 1, j, o, ho, hall, hd => by
    simp only [Vx.depT, ho, Array.any_eq_true', Bool.and_eq_true, Bool.or_eq_true, nbeq] at hd
    obtain ⟨e, he, e1, e2⟩ := hd
    have hl := hall e he e1
    rcases e2 with rfl | e2
    · exact hl
    · cases hoe : ops[e.on]? with
      | none =>
        cases n with
        | zero => cases e2
        | succ n => simp [Vx.depT, hoe] at e2
      | some o' => exact h.dep n e.on o' hoe (fun e' he' hb' => h e.on o' hoe hl e' he' hb') e2
/-- An operation that yields one value wherever the condition holds may be taken first, if those of F wait for it. -/
theorem AnyR.firstQ {i : Nat} {oi : Oper} {v : Value} {Z0 : World → Prop} (hi : ops[i]? = some oi) (hs : Region.noSelect ops = true) (hQ : ∀ c a w, Q (.panic c) (a.put oi.dst v) w → Q (.panic c) a w) (hF : (∀ w, Z0 w) ∨ ((∀ w, Z w → Z0 w) ∧ ∀ j ∈ F, Vx.depT ops 7 j i = true)) :
    ∀ (n : Nat) (l : Array Bool) (a : Act) (w : World), ClosedL ops l → (∀ j oj, ops[j]? = some oj → j ≠ i → l.getD j true = false → (∀ e ∈ oj.after, Region.binds .any e = true → e.on ≠ i) → oi.apart ops oj = true) →
      i ∈ Region.ready .any ops l → YieldsIf P ops Z0 oi v a → ((∀ w, Z0 w) ∨ Z w) → AnyR P ops Q Z F n (l.setIfInBounds i true) (a.put oi.dst v) w → AnyR P ops Q Z F (n + 1) l a w := by
  have hsel := Region.noSelect_spec hs
  have own : ∀ {n : Nat} {l : Array Bool} {a : Act} {w : World}, YieldsIf P ops Z0 oi v a → ((∀ w, Z0 w) ∨ Z w) → AnyR P ops Q Z F n (l.setIfInBounds i true) (a.put oi.dst v) w →
      wpOp P ops Q i (fun a' w' => (i ∉ F → Z w → Z w') ∧ AnyR P ops Q Z F n (l.setIfInBounds i true) a' w') a w := by
    intro n l a w hy hZ H
    have hZ0 : Z0 w := by
      rcases hZ with h | h
      · exact h w
      · rcases hF with h' | h'
        · exact h' w
        · exact h'.1 w h
    exact hy.wpOp hi hZ0 ⟨fun _ h => h, H⟩
  intro n
  induction n with
  | zero =>
    intro l a w _ _ hr hy hZ H
    refine ⟨fun h => (by rw [h] at hr; cases hr), fun j hj => ?_⟩
    rcases Decidable.em (j = i) with rfl | hne
    · exact own hy hZ H
    · have h0 := ready_mono hj hne
      rw [H.1] at h0; cases h0
  | succ n ih =>
    intro l a w hcl hfree hr hy hZ H
    refine ⟨fun h => (by rw [h] at hr; cases hr), fun j hj => ?_⟩
    rcases Decidable.em (j = i) with rfl | hne
    · exact own hy hZ H
    · have hrun := H.2 j (ready_mono hj hne)
      obtain ⟨hun, oj, hoj, hall⟩ := mem_ready.1 hj
      have hi0 := (mem_ready.1 hr).1
      -- j does not wait for i
      have hnot : ∀ e ∈ oj.after, Region.binds .any e = true → e.on ≠ i := by
        intro e he hb heq
        have ht := hall e he hb
        rw [heq] at ht
        rcases Nat.lt_or_ge i l.size with h' | h'
        · simp [h'] at hi0 ht; rw [hi0] at ht; cases ht
        · simp [Array.getElem?_eq_none h'] at ht
      have hstep : ∀ w', (j ∉ F → Z w → Z w') → (∀ w, Z0 w) ∨ Z w' := by
        intro w' hw'
        rcases hF with h' | ⟨_, h'⟩
        · exact .inl h'
        · rcases hZ with h | h
          · exact .inl h
          · refine .inr (hw' (fun hjF => ?_) h)
            have hd := h' j hjF
            have ht := hcl.dep 7 j oj hoj hall hd
            rcases Nat.lt_or_ge i l.size with h' | h'
            · simp [h'] at hi0 ht; rw [hi0] at ht; cases ht
            · simp [Array.getElem?_eq_none h'] at ht
      have hput := wpOp_putIf hoj (hfree j oj hoj hne hun hnot) (fun cs b => hsel i oi cs b hi) (fun cs b => hsel j oj cs b hoj) hQ hy hrun
      refine wpOp_mono (fun a' w' h3 => ⟨h3.2.1, ih (l.setIfInBounds j true) a' w' (hcl.set hj) ?_ (ready_mono hr (Ne.symm hne)) h3.1 (hstep w' h3.2.1) ?_⟩) hput
      · intro k ok hk hki hun' hno
        refine hfree k ok hk hki ?_ hno
        rcases Decidable.em (j = k) with rfl | hjk
        · exact hun
        · rwa [getD_set_ne true hjk] at hun'
      · rw [Array.setIfInBounds_comm _ _ hne]
        exact h3.2.2
end
end Go.Vc
namespace Go.Vx
open Go.RowKit Go.Vc

section
variable {P : Program} {ty : List (Nat × TY)} {G : Glob} {n0 : Nat} {b : Bs G n0} {N : Nat} {plans : List (Nat × Pl)}

def T0Ok (e : Env) (w : World) (T0 : Tl) (a : Act) : Prop := ∀ t sv, lk T0 t = some sv → RepSV e w sv (a.tmps.getD t undef)
theorem T0Ok.tm {e : Env} {w : World} {T0 : Tl} {a : Act} (h : T0Ok e w T0 a) : TmOk e w T0 a.eval := by
  intro x sv hx
  cases x with
  | tmp t => exact h t sv hx
  | const v => simp only [ev, Option.some.injEq] at hx; subst hx; exact cD_rep _ _ _
  | global g => simp only [ev, Option.some.injEq] at hx; subst hx; simp only [RepSV, RepD]; rfl
  | func g => simp only [ev, Option.some.injEq] at hx; subst hx; simp only [RepSV, RepD]; exact ⟨#[], #[], rfl, rfl, rfl⟩
theorem putK_lt {dst : Option Tmp} {sv : SV} {st : St} {K : St → Prop} (h : putK N dst sv st K) : ∀ d, dst = some d → d < N := by
  intro d hd
  subst hd
  unfold putK at h
  simp only at h
  split at h
  · rename_i hd; rwa [Nat.blt_eq] at hd
  · exact h.elim
theorem T0Ok.upd {e : Env} {w : World} {T0 : Tl} {a : Act} (h : T0Ok e w T0 a) (ha : a.tmps.size = N) {dst : Option Tmp} (hd : ∀ d, dst = some d → d < N) {x : SV} {v : Value} (hx : RepSV e w x v) {K : Tl → Prop} (hk : Vx.upd dst x T0 K) : ∃ T0', T0Ok e w T0' (a.put dst v) ∧ K T0' := by
  unfold Vx.upd at hk
  split at hk
  · exact ⟨T0, h, hk⟩
  · rename_i d
    refine ⟨_, fun t sv ht => ?_, hk⟩
    rw [put_get a d t v (by rw [ha]; exact hd d rfl)]
    simp only [lk] at ht
    split at ht
    · rename_i e'
      rw [if_pos (nbeq.1 e')]
      injection ht with ht; subst ht; exact hx
    · rename_i e'
      rw [if_neg (nbeq_ne.1 e')]
      exact h t sv ht
theorem T0Ok.updAny {e : Env} {w : World} {T0 : Tl} {a : Act} (h : T0Ok e w T0 a) {dst : Option Tmp} {v : Value} {K : Tl → Prop} (hk : Vx.upd dst .any T0 K) : ∃ T0', T0Ok e w T0' (a.put dst v) ∧ K T0' := by
  unfold Vx.upd at hk
  split at hk
  · exact ⟨T0, h, hk⟩
  · rename_i d
    refine ⟨_, fun t sv ht => ?_, hk⟩
    simp only [lk] at ht
    split at ht
    · injection ht with ht; subst ht; simp only [RepSV]
    · rename_i e'
      have : (a.put (some d) v).tmps.getD t undef = a.tmps.getD t undef := by
        simp only [Act.put, Array.getD_eq_getD_getElem?, Array.getElem?_setIfInBounds]
        rw [if_neg (nbeq_ne.1 e')]
      rw [this]
      exact h t sv ht
theorem T0Ok.know {e : Env} {w : World} {T0 : Tl} {a : Act} (h : T0Ok e w T0 a) {d : Nat} {c : Bool} (hd : a.tmps.getD d undef = .bool c) : T0Ok e w ((d, .kb c) :: T0) a := by
  intro t sv ht
  simp only [lk] at ht
  split at ht
  · rename_i e'
    obtain rfl := nbeq.1 e'
    injection ht with ht; subst ht
    simpa only [RepSV] using hd
  · exact h t sv ht

theorem guardP_sound {ops : Array Oper} {o : Oper} {e : Env} {T0 : Tl} {st : St} {A K : Tl → St → Prop} {a : Act} {w : World} {e0 : Env} {w0 : World} (h : Ok b N e st a w) (h0 : T0Ok e0 w0 T0 a) (hk : guardP N ops o T0 st A K) :
    (Region.wanted o (yielded ops a.tmps) = true ∧ ∃ T0' st', st'.H = st.H ∧ Ok b N e st' a w ∧ T0Ok e0 w0 T0' a ∧ A T0' st') ∨ (Region.wanted o (yielded ops a.tmps) = false ∧ ∃ T0' st', st'.H = st.H ∧ Ok b N e st' (a.put o.dst undef) w ∧ T0Ok e0 w0 T0' (a.put o.dst undef) ∧ K T0' st') := by
  unfold guardP at hk
  split at hk
  · rename_i hg
    exact .inl ⟨by simp [Region.wanted, hg], T0, st, rfl, h, h0, hk⟩
  · rename_i j want hg
    split at hk <;> try (exact hk.elim)
    rename_i d hd
    split at hk <;> try (exact hk.elim)
    · rename_i c hc
      have hy := yielded_of hd (h.boolAt (.inr hc))
      split at hk
      · rename_i he
        exact .inl ⟨by simp [Region.wanted, hg, hy, eq_of_beq he], T0, st, rfl, h, h0, hk⟩
      · rename_i he
        have hlt := putK_lt hk
        obtain ⟨st', k1, k2, k3⟩ := putK_sound (v := undef) h (by simp only [RepSV]) hk
        obtain ⟨T0', k4, k5⟩ := h0.upd h.sz hlt (v := undef) (by simp only [RepSV]) k2
        exact .inr ⟨by simp only [Region.wanted, hg, hy]; simpa using he, T0', st', k3, k1, k4, k5⟩
    · rename_i c hc
      have hba := h.boolAt (.inl hc)
      have hy := yielded_of hd hba
      by_cases he : c = want
      · subst he
        exact .inl ⟨by simp [Region.wanted, hg, hy], _, ⟨(d, .kb c) :: st.T, st.H, st.n⟩, rfl, h.know hc, h0.know hba, hk.1 rfl⟩
      · have he' : c = !want := by cases c <;> cases want <;> simp_all
        subst he'
        have hk' := hk.2 rfl
        have hlt := putK_lt hk'
        obtain ⟨st', k1, k2, k3⟩ := putK_sound (v := undef) (h.know hc) (by simp only [RepSV]) hk'
        obtain ⟨T0', k4, k5⟩ := (h0.know hba).upd h.sz hlt (v := undef) (by simp only [RepSV]) k2
        exact .inr ⟨by simp only [Region.wanted, hg, hy]; cases want <;> rfl, T0', st', k3, k1, k4, k5⟩

mutual
theorem pubS_kept {e e' : Env} {w w' : World} (h : KeptP e w e' w') : ∀ {x : SV} {v : Value}, pubS x = true → RepSV e w x v → RepSV e' w' x v
  | .d x, v, _, hx => by simp only [RepSV] at hx ⊢; exact hx.to h.same fun k hk _ => h.pub k hk
  | .kb b, v, _, hx => by simpa only [RepSV] using hx
  | .nl, v, _, hx => by simpa only [RepSV] using hx
  | .agg l, v, hp, hx => by
    simp only [RepSV] at hx ⊢
    obtain ⟨l', e, h1⟩ := hx
    exact ⟨l', e, pubSs_kept h (by simpa only [pubS] using hp) h1⟩
  | .tup l, v, hp, hx => by
    simp only [RepSV] at hx ⊢
    obtain ⟨l', e, h1⟩ := hx
    exact ⟨l', e, pubSs_kept h (by simpa only [pubS] using hp) h1⟩
  | .fn f a b, v, hp, hx => by
    simp only [pubS, Bool.and_eq_true] at hp
    simp only [RepSV] at hx ⊢
    obtain ⟨a', b', e, h1, h2⟩ := hx
    exact ⟨a', b', e, pubSs_kept h hp.1 h1, pubSs_kept h hp.2 h2⟩
  | .ifc t x, v, hp, hx => by
    simp only [RepSV] at hx ⊢
    obtain ⟨y, e, h1⟩ := hx
    exact ⟨y, e, pubS_kept h (by simpa only [pubS] using hp) h1⟩
  | .own _ _, _, hp, _ => by simp [pubS] at hp
  | .row _, _, hp, _ => by simp [pubS] at hp
  | .rowp _ _, _, hp, _ => by simp [pubS] at hp
  | .nm _, _, hp, _ => by simp [pubS] at hp
  | .osl _ _, _, hp, _ => by simp [pubS] at hp
  | .any, _, hp, _ => by simp [pubS] at hp
theorem pubSs_kept {e e' : Env} {w w' : World} (h : KeptP e w e' w') : ∀ {l : List SV} {v : List Value}, pubSs l = true → RepSVs e w l v → RepSVs e' w' l v
  | [], v, _, hx => by simpa only [RepSVs] using hx
  | x :: r, v, hp, hx => by
    simp only [pubSs] at hp
    split at hp <;> try (cases hp; done)
    rename_i hp1
    simp only [RepSVs] at hx ⊢
    obtain ⟨u, s, e, h1, h2⟩ := hx
    exact ⟨u, s, e, pubS_kept h hp1 h1, pubSs_kept h hp h2⟩
end
theorem nrm_eq2 (x : SV) (K : SV → Prop) (h : nrm x K) : ∃ y, K y ∧ ∀ {e : Env} {w : World} {v : Value}, RepSV e w x v → RepSV e w y v := by
  unfold nrm at h
  split at h
  · rw [nrmL_eq] at h; exact ⟨_, h, fun hv => hv⟩
  · rw [nrmL_eq] at h; exact ⟨_, h, fun hv => hv⟩
  · rw [nrmL_eq] at h
    refine ⟨_, h, fun hv => ?_⟩
    simp only [RepSV, RepD] at hv ⊢
    obtain ⟨l', e', h1⟩ := hv
    exact ⟨l', e', by rw [dL_map]; exact RepSVs.ofD.1 h1⟩
  · exact ⟨_, h, fun hv => hv⟩
def pubOr (x : SV) : SV :=
  match pubS x with
  | true => x
  | false => .any
theorem pubTK_eq : ∀ (T : Tl) (K : Tl → Prop), pubTK T K = K (T.map fun p => (p.1, pubOr p.2))
  | [], K => rfl
  | (t, x) :: r, K => by
    simp only [pubTK, List.map_cons]
    cases h : pubS x <;> simp only [pubTK_eq r, pubOr, h]
theorem pubTK_get {e : Env} {w : World} {T0 T : Tl} {a : Act} (h0 : T0 = T.map fun p => (p.1, pubOr p.2)) (h : T0Ok e w T a) : T0Ok e w T0 a := by
  intro t sv ht
  rw [h0, lk_map] at ht
  cases hl : lk T t with
  | none => rw [hl] at ht; cases ht
  | some x =>
    rw [hl] at ht; injection ht with ht; subst ht
    have := h t x hl
    unfold pubOr
    split
    · exact this
    · simp only [RepSV]
/-- What stays, by the way in which a region is gone through. -/
structure KeptM (md : Bool) (e : Env) (w : World) (e' : Env) (w' : World) : Prop where
  all : md = false → Kept e w e' w'
  p : KeptP e w e' w'
theorem Kept.m' {md : Bool} {e e' : Env} {w w' : World} (h : Kept e w e' w') : KeptM md e w e' w' := ⟨fun _ => h, h.p⟩
theorem KeptM.sv {md : Bool} {e e' : Env} {w w' : World} (h : KeptM md e w e' w') {x : SV} {v : Value} (hp : (md && !pubS x) = false) (hx : RepSV e w x v) : RepSV e' w' x v := by
  cases md with
  | false => exact hx.kept (h.all rfl)
  | true => exact pubS_kept h.p (by simpa using hp) hx

theorem pTake_sound (hty : Tys P ty) {T0 : Tl} {HL : Hp} {e e0 : Env} {w w0 : World} {st : St} {a : Act} {o : Oper} {k : Bool → SV → Prop} (h : Ok b N e st a w) (h0 : T0Ok e0 w0 T0 a) (hH : ObsOk e0 w0 HL) {md : Bool} (hk0 : KeptM md e0 w0 e w) (hk : pTake ty md T0 HL st.T st.H o.op k) :
    ∃ c sv v, k c sv ∧ RepSV e w sv v ∧ (c = true → RepSV e0 w0 sv v) ∧ ∀ w', (ldB o.op = true → Agr e0 HL w0 w') → (execOp a.eval o).run P w' = .ok (.value v) w' := by
  have low : pLow ty st.T st.H o.op k → ∃ c sv v, k c sv ∧ RepSV e w sv v ∧ (c = true → RepSV e0 w0 sv v) ∧ ∀ w', (ldB o.op = true → Agr e0 HL w0 w') → (execOp a.eval o).run P w' = .ok (.value v) w' := by
    intro hk
    unfold pLow at hk
    split at hk
    · exact hk.elim
    · rename_i hld
      split at hk
      · rename_i sv hsv
        obtain ⟨v, h1, h2⟩ := pOp_sound hty h.tmok h.hp.ob hsv
        obtain ⟨y, hy, hr⟩ := nrm_eq sv _ hk h1
        exact ⟨false, y, v, hy, hr, fun h => by (cases h), fun w' _ => h2 w' fun hl => by rw [hld] at hl; cases hl⟩
      · split at hk
        · rename_i g hg
          obtain ⟨sv, v, h1, h2, h3⟩ := pStop_sound hty h.tmok h.hp.ob hg hk
          exact ⟨false, sv, v, h3, h1, fun h => by (cases h), fun w' _ => h2 w'⟩
        · exact hk.elim
  unfold pTake at hk
  split at hk
  · exact low hk
  · rename_i sv _ hsv
    split at hk
    · exact low hk
    rename_i hmd
    obtain ⟨v, h1, h2⟩ := pOp_sound hty h0.tm hH hsv
    obtain ⟨y, hy, hr⟩ := nrm_eq2 sv _ hk
    exact ⟨true, y, v, hy, hr (hk0.sv hmd h1), fun _ => hr h1, h2⟩
  · split at hk
    · exact low hk
    split at hk
    · rename_i g hg
      split at hk
      · obtain ⟨sv, v, h1, h2, h3⟩ := pStop_sound hty h0.tm hH hg hk
        exact ⟨true, sv, v, h3, h1.kept (hk0.all rfl), fun _ => h1, fun w' _ => h2 w'⟩
      · obtain ⟨sv, v, h1, h2, h3⟩ := pStop_sound hty h0.tm hH hg hk
        split at h3 <;> try (exact h3.elim)
        rename_i hp
        exact ⟨true, sv, v, h3, pubS_kept hk0.p hp h1, fun _ => h1, fun w' _ => h2 w'⟩
    · exact low hk

theorem stillB_get : ∀ {HL H : Hp} {i : Nat} {o : Ob}, stillB HL H = true → lk HL i = some o → ∃ t cs, lk H i = some (.blk t cs)
  | [], H, i, o, _, h => by simp [lk] at h
  | (j, x) :: r, H, i, o, hs, h => by
    simp only [stillB] at hs
    split at hs <;> try (cases hs; done)
    rename_i t cs hj
    simp only [lk] at h
    split at h
    · rename_i e; obtain rfl := nbeq.1 e; exact ⟨t, cs, hj⟩
    · exact stillB_get hs h
theorem blksK_eq (H0 : Hp) : ∀ (H : Hp) (K : Hp → Prop), blksK H0 H K → ∃ HL, K HL ∧ (∀ i o, lk HL i = some o → lk H0 i = some o ∧ ∃ t cs, o = .blk t cs) ∧ stillB HL H0 = true
  | [], K, h => ⟨[], h, fun i o ho => by simp [lk] at ho, rfl⟩
  | (i, x) :: r, K, h => by
    simp only [blksK] at h
    split at h
    · rename_i t cs hi
      obtain ⟨HL, h1, h2, h3⟩ := blksK_eq H0 r _ h
      refine ⟨_, h1, fun j o ho => ?_, by simp only [stillB, hi, h3]⟩
      simp only [lk] at ho
      split at ho
      · rename_i e; obtain rfl := nbeq.1 e
        injection ho with ho; subst ho
        exact ⟨hi, t, cs, rfl⟩
      · exact h2 j o ho
    · exact blksK_eq H0 r K h

theorem vcStore_sound (hty : Tys P ty) {HL : Hp} {o : Oper} {e : Env} {st : St} {K : SExit → St → Prop} {a : Act} {w : World} (h : Ok b N e st a w) (hk : vcOp P ty b N false o st K) (hs : kpOf HL st.T o.op = false) :
    ∃ i w', lk HL i = none ∧ (execOp a.eval o).run P w = .ok .skip w' ∧ Kept e w e w' ∧ (∀ j k, j ≠ i → has st.H j → foot e j k → w'.heap[k]? = w.heap[k]?) ∧ ∃ st', Ok b N e st' (a.put o.dst undef) w' ∧ K .normal st' := by
  have hT := h.tmok
  obtain ⟨dst, op, type, pos, after, guard⟩ := o
  simp only at hs
  unfold kpOf at hs
  split at hs <;> try (cases hs; done)
  rename_i t ad x
  split at hs <;> try (cases hs; done)
  rename_i i off ha
  split at hs <;> try (cases hs; done)
  rename_i hHL
  unfold vcOp at hk
  have e1 : pOp ty st.T st.H (.store t ad x) = none := by simp only [pOp]
  have e2 : pStop ty st.T st.H (.store t ad x) = none := by simp only [pStop]
  rw [e1, e2] at hk
  simp only [vcEff, ha] at hk
  split at hk <;> try (exact hk.elim)
  rename_i y sv hy hx
  split at hk <;> try (exact hk.elim)
  rename_i l hl
  split at hk <;> try (exact hk.elim)
  rename_i t' cs hsz hcl hi _
  split at hk <;> try (exact hk.elim)
  rename_i cs' hp hb
  rw [nrmL_eq] at hk
  simp only [withoutK_eq] at hk
  have hb' := Nat.le_of_ble_eq_true hb
  have h1 := hT _ _ ha
  simp only [RepSV] at h1
  obtain ⟨g, hm, hv⟩ := h1
  have hr := cellsOf_rep hl (hT _ _ hx)
  have hlen := hr.len
  obtain ⟨g', vs, hm', hh, hcs⟩ := h.hp.ob _ _ hi
  rw [hm] at hm'; injection hm' with hm'; injection hm' with hm'; injection hm' with hm'; injection hm' with hm'
  subst hm'
  have hcl' := hcs.len
  obtain ⟨vr, q1, q2⟩ := putAt_rep hp hb' hr hcs
  have hlt := (Array.getElem?_eq_some_iff.1 hh).1
  have hrun := run_storeCells (P := P) (g := g) (off := off) (t := t') (a.eval x).cells.toList 0 vs w (cellsB_plain hcl hr) hh (by rw [Array.length_toList] at hlen hcl' ⊢; omega)
  rw [store_run hty hy hv (by rw [hlen]; exact nbeq.1 hsz) hrun]
  have q1' : ((a.eval x).cells.toList.zipIdx 0).foldl (fun cs (x : Value × Nat) => cs.setIfInBounds (off + x.2) x.1) vs = vr := by
    rw [← q1]
  rw [q1']
  have ho : Only (fun k => foot e i k) w (setW w g (.cells vr t' (0, 0))) := ⟨rfl, rfl, rfl, by rw [setW_size]; exact Nat.le_refl _, fun k hk hn => setW_ne _ _ (fun e' => hn ⟨_, hm, by rw [← e']; rfl⟩)⟩
  obtain ⟨g1, kw, g3⟩ := h.setOb (i := i) (o := .blk t' cs') (by simp [has, hi]) ho (Nat.le_refl _) (fun kw => ⟨g, vr, hm, setW_at _ _ _ hlt, q2.kept kw⟩)
  obtain ⟨st', g4, g5, _⟩ := putK_sound (v := undef) g1 (by simp only [RepSV]) hk
  refine ⟨i, _, hHL, rfl, kw, fun j k hj hh' hf => ?_, st', g4, g5⟩
  exact setW_ne _ _ (fun e' => h.hp.sep j i k hh' (by simp [has, hi]) hj hf ⟨_, hm, by rw [← e']; rfl⟩)

/-- In a region: every order. -/
theorem vcPlan_sound (hty : Tys P ty) {ops : Array Oper} (hs : Region.noSelect ops = true) {md : Bool} {HL : Hp} (hmd : md = true → HL = []) {es : Env} {ws : World} {K : SExit → St → Prop} (hHL : ObsOk es ws HL) {F : List Nat} :
    ∀ (plan : Pl) (listed : Array Bool) (fuel : Nat) (T0 : Tl) (e : Env) (st : St) (a : Act) (w : World), plan.len ≤ fuel → planB ops plan listed = true → (∀ j ∈ F, ∀ i ∈ plan.takes, Vx.depT ops 7 j i = true) → (∀ j ∈ plan.fins, j ∈ F) → ClosedL ops listed →
      Ok b N e st a w → ((plan.onlyFins = true ∧ ∃ e0 w0, T0Ok e0 w0 T0 a ∧ KeptM md e0 w0 e w) ∨ (T0Ok es ws T0 a ∧ KeptM md es ws e w ∧ Agr es HL ws w ∧ stillB HL st.H = true)) →
      vcPlan P ty b N md ops HL plan T0 st K → AnyR P ops (Kden b N K) (Agr es HL ws) F fuel listed a w := by
  have runOp : ∀ {i : Nat} {o : Oper} {r : Pl} {fuel : Nat} {listed : Array Bool} {T0 : Tl} {e : Env} {st : St} {a : Act} {w : World}, ops[i]? = some o → Ok b N e st a w → T0Ok es ws T0 a → KeptM md es ws e w → Agr es HL ws w → stillB HL st.H = true →
      (∀ (T0 : Tl) (e : Env) (st : St) (a : Act) (w : World), Ok b N e st a w → T0Ok es ws T0 a → KeptM md es ws e w → Agr es HL ws w → stillB HL st.H = true → vcPlan P ty b N md ops HL r T0 st K → AnyR P ops (Kden b N K) (Agr es HL ws) F fuel (listed.setIfInBounds i true) a w) →
      (guardP N ops o T0 st (fun T0 st => vcOp P ty b N (kpM md HL st.T o.op) o st fun x st' => match x with
        | .normal => match stillB HL st'.H with
          | true => upd o.dst .any T0 fun T0' => vcPlan P ty b N md ops HL r T0' st' K
          | false => False
        | x => K x st') fun T0' st' => vcPlan P ty b N md ops HL r T0' st' K) →
      wpOp P ops (Kden b N K) i (fun a' w' => (i ∉ F → Agr es HL ws w → Agr es HL ws w') ∧ AnyR P ops (Kden b N K) (Agr es HL ws) F fuel (listed.setIfInBounds i true) a' w') a w := by
    intro i o r fuel listed T0 e st a w ho h h0 hkp hag hst ih hk
    unfold wpOp
    simp only [ho]
    rcases guardP_sound h h0 hk with ⟨hw, T0', st', e1, k1, k2, k3⟩ | ⟨hw, T0', st', e1, k1, k2, k3⟩
    · rw [if_pos hw]
      cases hkk : kpM md HL st'.T o.op with
      | true =>
        rw [hkk] at k3
        refine .inl ((vcOp_sound hty k1 k3).wp (fun v w' ha => ?_) fun c w' hc => ?_)
        · obtain ⟨e', st'', q0, q1, q2⟩ := ha
          have hmf : md = false := by cases md with
            | false => rfl
            | true => cases hkk
          obtain ⟨q3, q4⟩ := q0.all rfl
          have hkp' := hkp.all hmf
          simp only at q2
          split at q2 <;> try (exact q2.elim)
          rename_i hst'
          have hag' : Agr es HL ws w' := by
            refine ⟨fun k hk hl => ?_, fun j t cs k hj hf => ?_⟩
            · rw [q3.same k (hkp'.pub k hk) (Nat.lt_of_lt_of_le hl hkp'.sz)]
              exact hkp'.same k hk hl
            · obtain ⟨t', cs', hj'⟩ := stillB_get hst hj
              rw [← e1] at hj'
              obtain ⟨u, hu, hfu⟩ := hf
              rw [q4.2 j t' cs' k hj' ⟨u, hkp'.m _ _ hu, hfu⟩]
              exact hag.2 j t cs k hj ⟨u, hu, hfu⟩
          obtain ⟨T0'', k4, k5⟩ := k2.updAny (v := v) q2
          exact ⟨fun _ _ => hag', ih T0'' e' st'' _ w' q1 k4 (hkp'.trans q3).m' hag' hst' k5⟩
        · obtain ⟨e', st'', x, v, q1, q2, q3, q4⟩ := hc
          exact ⟨e', st'', x, v, q1, q2, q3.noT, q4⟩
      | false =>
        rw [hkk] at k3
        cases md with
        | true =>
          obtain rfl := hmd rfl
          refine .inl ((vcOp_sound hty k1 k3).wp (fun v w' ha => ?_) fun c w' hc => ?_)
          · obtain ⟨e', st'', q0, q1, q2⟩ := ha
            simp only at q2
            split at q2 <;> try (exact q2.elim)
            rename_i hst'
            have hk2 := hkp.p.trans q0.p
            have hag' : Agr es [] ws w' := ⟨hk2.same, fun j t cs k hj _ => by simp [lk] at hj⟩
            obtain ⟨T0'', k4, k5⟩ := k2.updAny (v := v) q2
            exact ⟨fun _ _ => hag', ih T0'' e' st'' _ w' q1 k4 ⟨fun h => by (cases h), hk2⟩ hag' hst' k5⟩
          · obtain ⟨e', st'', x, v, q1, q2, q3, q4⟩ := hc
            exact ⟨e', st'', x, v, q1, q2, q3.noT, q4⟩
        | false =>
        have hkp' := hkp.all rfl
        obtain ⟨i0, w', r1, r2, q3, r4, st'', q1, q2⟩ := vcStore_sound hty k1 k3 hkk
        simp only at q2
        split at q2 <;> try (exact q2.elim)
        rename_i hst'
        have hag' : Agr es HL ws w' := by
          refine ⟨fun k hk hl => ?_, fun j t cs k hj hf => ?_⟩
          · rw [q3.same k (hkp'.pub k hk) (Nat.lt_of_lt_of_le hl hkp'.sz)]
            exact hkp'.same k hk hl
          · obtain ⟨t', cs', hj'⟩ := stillB_get hst hj
            rw [← e1] at hj'
            obtain ⟨u, hu, hfu⟩ := hf
            rw [r4 j k (by rintro rfl; rw [hj] at r1; cases r1) (by simp [has, hj']) ⟨u, hkp'.m _ _ hu, hfu⟩]
            exact hag.2 j t cs k hj ⟨u, hu, hfu⟩
        obtain ⟨T0'', k4, k5⟩ := k2.updAny (v := undef) q2
        refine .inl ?_
        unfold Oper.wp
        rw [r2]
        exact ⟨fun _ _ => hag', ih T0'' e st'' _ w' q1 k4 (hkp'.trans q3).m' hag' hst' k5⟩
    · rw [if_neg (by simp [hw])]
      exact ⟨fun _ h => h, ih T0' e st' _ w k1 k2 hkp hag (by rw [e1]; exact hst) k3⟩
  intro plan
  induction plan with
  | done =>
    intro listed fuel T0 e st a w hf hp hF hF2 hcl h hpre hk
    simp only [planB, List.isEmpty_iff] at hp
    exact AnyR.stop hp ⟨e, st, h, hk⟩ fuel
  | take i r ih =>
    intro listed fuel T0 e st a w hf hp hF hF2 hcl h hpre hk
    obtain ⟨fuel, rfl⟩ : ∃ f, fuel = f + 1 := ⟨fuel - 1, by simp only [Pl.len] at hf; omega⟩
    have hf' : r.len ≤ fuel := by simp only [Pl.len] at hf; omega
    rcases hpre with ⟨hpre, _⟩ | ⟨h0, hkp, hag, hst⟩
    · simp [Pl.onlyFins] at hpre
    simp only [vcPlan] at hk
    split at hk <;> try (exact hk.elim)
    rename_i o ho
    have ho' : ops[i]? = some o := by rw [← Array.getElem?_toList, ← nth_eq]; exact ho
    simp only [planB, Bool.and_eq_true] at hp
    obtain ⟨⟨p1, p2⟩, p3⟩ := hp
    have hFi : ∀ j ∈ F, Vx.depT ops 7 j i = true := fun j hj => hF j hj i (by simp [Pl.takes])
    have hFr : ∀ j ∈ F, ∀ q ∈ r.takes, Vx.depT ops 7 j q = true := fun j hj q hq => hF j hj q (by simp [Pl.takes, hq])
    rcases guardP_sound h h0 hk with ⟨hw, T0', st', e1, k1, k2, k3⟩ | ⟨hw, T0', st', e1, k1, k2, k3⟩
    · obtain ⟨c, sv, v, y1, y2, y3, y4⟩ := pTake_sound hty k1 k2 hHL hkp k3
      have hlt := putK_lt y1
      obtain ⟨st'', q1, q2, q3⟩ := putK_sound k1 y2 y1
      refine AnyR.firstQ (Z0 := Agr es HL ws) ho' hs (fun c a w => Kden_pan) (.inr ⟨fun _ h => h, hFi⟩) fuel listed a w hcl (Region.free_spec ho' p1) (by simpa using p2) (v := v) (.inl ⟨hw, fun w' hw' => y4 w' fun _ => hw'⟩) (.inr hag) ?_
      obtain ⟨T0'', k4, k5⟩ : ∃ T0'', T0Ok es ws T0'' (a.put o.dst v) ∧ vcPlan P ty b N md ops HL r T0'' st'' K := by
        cases c with
        | true => exact k2.upd k1.sz hlt (y3 rfl) q2
        | false => exact k2.updAny q2
      exact ih _ fuel T0'' e st'' _ w hf' p3 hFr hF2 (hcl.set (by simpa using p2)) q1 (.inr ⟨k4, hkp, hag, by rw [q3, e1]; exact hst⟩) k5
    · refine AnyR.firstQ (Z0 := fun _ => True) ho' hs (fun c a w => Kden_pan) (.inl fun _ => trivial) fuel listed a w hcl (Region.free_spec ho' p1) (by simpa using p2) (v := undef) (.inr ⟨hw, rfl⟩) (.inl fun _ => trivial) ?_
      exact ih _ fuel T0' e st' _ w hf' p3 hFr hF2 (hcl.set (by simpa using p2)) k1 (.inr ⟨k2, hkp, hag, by rw [e1]; exact hst⟩) k3
  | run i r ih =>
    intro listed fuel T0 e st a w hf hp hF hF2 hcl h hpre hk
    obtain ⟨fuel, rfl⟩ : ∃ f, fuel = f + 1 := ⟨fuel - 1, by simp only [Pl.len] at hf; omega⟩
    have hf' : r.len ≤ fuel := by simp only [Pl.len] at hf; omega
    rcases hpre with ⟨hpre, _⟩ | ⟨h0, hkp, hag, hst⟩
    · simp [Pl.onlyFins] at hpre
    simp only [vcPlan] at hk
    split at hk <;> try (exact hk.elim)
    rename_i o ho
    have ho' : ops[i]? = some o := by rw [← Array.getElem?_toList, ← nth_eq]; exact ho
    simp only [planB, Bool.and_eq_true, beq_iff_eq] at hp
    obtain ⟨p1, p3⟩ := hp
    refine ⟨fun h0 => (by rw [p1] at h0; cases h0), fun j hj => ?_⟩
    rw [p1, List.mem_singleton] at hj
    subst hj
    exact runOp ho' h h0 hkp hag hst (fun T0 e st a w q1 q2 q3 q4 q5 q6 => ih _ fuel T0 e st a w hf' p3 hF hF2 (hcl.set (by rw [p1]; simp)) q1 (.inr ⟨q2, q3, q4, q5⟩) q6) hk
  | two i j ri rj ihi ihj =>
    intro listed fuel T0 e st a w hf hp hF hF2 hcl h hpre hk
    obtain ⟨fuel, rfl⟩ : ∃ f, fuel = f + 1 := ⟨fuel - 1, by simp only [Pl.len] at hf; omega⟩
    have hf1 : ri.len ≤ fuel := by simp only [Pl.len] at hf; have := Nat.le_max_left ri.len rj.len; have e : Nat.max ri.len rj.len = max ri.len rj.len := rfl; omega
    have hf2 : rj.len ≤ fuel := by simp only [Pl.len] at hf; have := Nat.le_max_right ri.len rj.len; have e : Nat.max ri.len rj.len = max ri.len rj.len := rfl; omega
    rcases hpre with ⟨hpre, _⟩ | ⟨h0, hkp, hag, hst⟩
    · simp [Pl.onlyFins] at hpre
    simp only [vcPlan] at hk
    split at hk <;> try (exact hk.elim)
    rename_i o o' ho1 ho2
    have ho1' : ops[i]? = some o := by rw [← Array.getElem?_toList, ← nth_eq]; exact ho1
    have ho2' : ops[j]? = some o' := by rw [← Array.getElem?_toList, ← nth_eq]; exact ho2
    simp only [planB, Bool.and_eq_true, beq_iff_eq] at hp
    obtain ⟨⟨p1, p2⟩, p3⟩ := hp
    simp only [Pl.takes, Pl.fins, List.mem_append] at hF hF2
    refine ⟨fun h0 => (by rw [p1] at h0; cases h0), fun q hq => ?_⟩
    rw [p1] at hq
    simp only [List.mem_cons, List.not_mem_nil, or_false] at hq
    rcases hq with rfl | rfl
    · exact runOp ho1' h h0 hkp hag hst (fun T0 e st a w q1 q2 q3 q4 q5 q6 => ihi _ fuel T0 e st a w hf1 p2 (fun j hj i hi => hF j hj i (.inl hi)) (fun j hj => hF2 j (.inl hj)) (hcl.set (by rw [p1]; simp)) q1 (.inr ⟨q2, q3, q4, q5⟩) q6) hk.1
    · exact runOp ho2' h h0 hkp hag hst (fun T0 e st a w q1 q2 q3 q4 q5 q6 => ihj _ fuel T0 e st a w hf2 p3 (fun j hj i hi => hF j hj i (.inr hi)) (fun j hj => hF2 j (.inr hj)) (hcl.set (by rw [p1]; simp)) q1 (.inr ⟨q2, q3, q4, q5⟩) q6) hk.2
  | three i j k ri rj rk ihi ihj ihk =>
    intro listed fuel T0 e st a w hf hp hF hF2 hcl h hpre hk
    obtain ⟨fuel, rfl⟩ : ∃ f, fuel = f + 1 := ⟨fuel - 1, by simp only [Pl.len] at hf; omega⟩
    have hf1 : ri.len ≤ fuel := by simp only [Pl.len] at hf; omega
    have hf2 : rj.len ≤ fuel := by simp only [Pl.len] at hf; omega
    have hf3 : rk.len ≤ fuel := by simp only [Pl.len] at hf; omega
    rcases hpre with ⟨hpre, _⟩ | ⟨h0, hkp, hag, hst⟩
    · simp [Pl.onlyFins] at hpre
    simp only [vcPlan] at hk
    split at hk <;> try (exact hk.elim)
    rename_i o o' o'' ho1 ho2 ho3
    have ho1' : ops[i]? = some o := by rw [← Array.getElem?_toList, ← nth_eq]; exact ho1
    have ho2' : ops[j]? = some o' := by rw [← Array.getElem?_toList, ← nth_eq]; exact ho2
    have ho3' : ops[k]? = some o'' := by rw [← Array.getElem?_toList, ← nth_eq]; exact ho3
    simp only [planB, Bool.and_eq_true, beq_iff_eq] at hp
    obtain ⟨⟨⟨p1, p2⟩, p3⟩, p4⟩ := hp
    simp only [Pl.takes, Pl.fins, List.mem_append] at hF hF2
    refine ⟨fun h0 => (by rw [p1] at h0; cases h0), fun q hq => ?_⟩
    rw [p1] at hq
    simp only [List.mem_cons, List.not_mem_nil, or_false] at hq
    rcases hq with rfl | rfl | rfl
    · exact runOp ho1' h h0 hkp hag hst (fun T0 e st a w q1 q2 q3 q4 q5 q6 => ihi _ fuel T0 e st a w hf1 p2 (fun j hj i hi => hF j hj i (.inl hi)) (fun j hj => hF2 j (.inl hj)) (hcl.set (by rw [p1]; simp)) q1 (.inr ⟨q2, q3, q4, q5⟩) q6) hk.1
    · exact runOp ho2' h h0 hkp hag hst (fun T0 e st a w q1 q2 q3 q4 q5 q6 => ihj _ fuel T0 e st a w hf2 p3 (fun j hj i hi => hF j hj i (.inr (.inl hi))) (fun j hj => hF2 j (.inr (.inl hj))) (hcl.set (by rw [p1]; simp)) q1 (.inr ⟨q2, q3, q4, q5⟩) q6) hk.2.1
    · exact runOp ho3' h h0 hkp hag hst (fun T0 e st a w q1 q2 q3 q4 q5 q6 => ihk _ fuel T0 e st a w hf3 p4 (fun j hj i hi => hF j hj i (.inr (.inr hi))) (fun j hj => hF2 j (.inr (.inr hj))) (hcl.set (by rw [p1]; simp)) q1 (.inr ⟨q2, q3, q4, q5⟩) q6) hk.2.2
  | pure i r ih =>
    intro listed fuel T0 e st a w hf hp hF hF2 hcl h hpre hk
    obtain ⟨fuel, rfl⟩ : ∃ f, fuel = f + 1 := ⟨fuel - 1, by simp only [Pl.len] at hf; omega⟩
    have hf' : r.len ≤ fuel := by simp only [Pl.len] at hf; omega
    simp only [vcPlan] at hk
    split at hk <;> try (exact hk.elim)
    rename_i o ho
    split at hk <;> try (exact hk.elim)
    rename_i hld
    have ho' : ops[i]? = some o := by rw [← Array.getElem?_toList, ← nth_eq]; exact ho
    simp only [planB, Bool.and_eq_true] at hp
    obtain ⟨⟨p1, p2⟩, p3⟩ := hp
    obtain ⟨e0, w0, h0, hkp, hrest⟩ : ∃ e0 w0, T0Ok e0 w0 T0 a ∧ KeptM md e0 w0 e w ∧ ∀ (T0' : Tl) (a' : Act) (st' : St), T0Ok e0 w0 T0' a' → st'.H = st.H → ((r.onlyFins = true ∧ ∃ e0 w0, T0Ok e0 w0 T0' a' ∧ KeptM md e0 w0 e w) ∨ (T0Ok es ws T0' a' ∧ KeptM md es ws e w ∧ Agr es HL ws w ∧ stillB HL st'.H = true)) := by
      rcases hpre with ⟨h', e0, w0, h1, h2⟩ | ⟨h1, h2, h3, h4⟩
      · exact ⟨e0, w0, h1, h2, fun T0' a' st' h3 _ => .inl ⟨h', e0, w0, h3, h2⟩⟩
      · exact ⟨es, ws, h1, h2, fun T0' a' st' h5 h6 => .inr ⟨h5, h2, h3, by rw [h6]; exact h4⟩⟩
    rcases guardP_sound h h0 hk with ⟨hw, T0', st', e1, k1, k2, k3⟩ | ⟨hw, T0', st', e1, k1, k2, k3⟩
    · obtain ⟨c, sv, v, y1, y2, y3, y4⟩ := pTake_sound hty k1 k2 (fun i o hi => by simp [lk] at hi) hkp k3
      have hlt := putK_lt y1
      obtain ⟨st'', q1, q2, q3⟩ := putK_sound k1 y2 y1
      refine AnyR.firstQ (Z0 := fun _ => True) ho' hs (fun c a w => Kden_pan) (.inl fun _ => trivial) fuel listed a w hcl (Region.free_spec ho' p1) (by simpa using p2) (v := v) (.inl ⟨hw, fun w' _ => y4 w' fun hl => by rw [hld] at hl; cases hl⟩) (.inl fun _ => trivial) ?_
      obtain ⟨T0'', k4, k5⟩ : ∃ T0'', T0Ok e0 w0 T0'' (a.put o.dst v) ∧ vcPlan P ty b N md ops HL r T0'' st'' K := by
        cases c with
        | true => exact k2.upd k1.sz hlt (y3 rfl) q2
        | false => exact k2.updAny q2
      exact ih _ fuel T0'' e st'' _ w hf' p3 hF hF2 (hcl.set (by simpa using p2)) q1 (hrest _ _ _ k4 (q3.trans e1)) k5
    · refine AnyR.firstQ (Z0 := fun _ => True) ho' hs (fun c a w => Kden_pan) (.inl fun _ => trivial) fuel listed a w hcl (Region.free_spec ho' p1) (by simpa using p2) (v := undef) (.inr ⟨hw, rfl⟩) (.inl fun _ => trivial) ?_
      exact ih _ fuel T0' e st' _ w hf' p3 hF hF2 (hcl.set (by simpa using p2)) k1 (hrest _ _ _ k2 e1) k3
  | fin i r ih =>
    intro listed fuel T0 e st a w hf hp hF hF2 hcl h hpre hk
    obtain ⟨fuel, rfl⟩ : ∃ f, fuel = f + 1 := ⟨fuel - 1, by simp only [Pl.len] at hf; omega⟩
    have hf' : r.len ≤ fuel := by simp only [Pl.len] at hf; omega
    simp only [vcPlan] at hk
    split at hk <;> try (exact hk.elim)
    rename_i o ho
    have ho' : ops[i]? = some o := by rw [← Array.getElem?_toList, ← nth_eq]; exact ho
    simp only [planB, Bool.and_eq_true, beq_iff_eq] at hp
    obtain ⟨⟨p1, p2⟩, p3⟩ := hp
    have hiF : i ∈ F := hF2 i (by simp [Pl.fins])
    refine ⟨fun h0 => (by rw [p1] at h0; cases h0), fun j hj => ?_⟩
    rw [p1, List.mem_singleton] at hj
    subst hj
    unfold wpOp
    simp only [ho']
    have nil : ∀ (e : Env) (w : World) (a : Act), T0Ok e w [] a := fun e w a t sv ht => by simp [lk] at ht
    rcases guardK_sound h hk with ⟨hw, st', e1, k1, k2⟩ | ⟨hw, st', k1, k2⟩
    · rw [if_pos hw]
      refine .inl ((vcOp_sound hty k1 k2).wp (fun v w' ha => ?_) fun c w' hc => ?_)
      · obtain ⟨e', st'', _, q1, q2⟩ := ha
        exact ⟨fun hnF _ => absurd hiF hnF, ih _ fuel [] e' st'' _ w' hf' p3 hF (fun q hq => hF2 q (by simp [Pl.fins, hq])) (hcl.set (by rw [p1]; simp)) q1 (.inl ⟨p2, e', w', nil _ _ _, (Kept.refl _ _).m'⟩) q2⟩
      · obtain ⟨e', st'', x, v, q1, q2, q3, q4⟩ := hc
        exact ⟨e', st'', x, v, q1, q2, q3.noT, q4⟩
    · rw [if_neg (by simp [hw])]
      exact ⟨fun hnF _ => absurd hiF hnF, ih _ fuel [] e st' _ w hf' p3 hF (fun q hq => hF2 q (by simp [Pl.fins, hq])) (hcl.set (by rw [p1]; simp)) k1 (.inl ⟨p2, e, w, nil _ _ _, (Kept.refl _ _).m'⟩) k2⟩
end
end Go.Vx

/- Code and calls: soundness. -/
namespace Go.Vx
open Go.RowKit Go.Vc

section
variable {P : Program} {ty : List (Nat × TY)} {G : Glob} {n0 : Nat} {b : Bs G n0} {N : Nat} {plans : List (Nat × Pl)}

theorem keepK_get (l : List (List Nat)) : ∀ (seen : List Nat) (T : Tl) (K : Tl → Prop), keepK l seen T K → ∃ T0, K T0
  | _, [], K, h => ⟨[], h⟩
  | seen, (t, x) :: r, K, h => by
    simp only [keepK] at h
    split at h
    · split at h
      · obtain ⟨T0, h1⟩ := keepK_get l _ r _ h; exact ⟨_, h1⟩
      · exact keepK_get l _ r K h
    · exact keepK_get l _ r K h
theorem vcCode_sound (hty : Tys P ty) (hm : P.follows .mixedOrders = true) : ∀ (c : Code) (e : Env) (st : St) (K : SExit → St → Prop) (a : Act) (w : World), Ok b N e st a w → vcCode P ty b N plans c st K → c.wp P (Kden b N K) a w
  | .skip, e, st, K, a, w, h, hk => wp_skip ⟨e, st, h, hk⟩
  | .label _, e, st, K, a, w, h, hk => wp_label ⟨e, st, h, hk⟩
  | .exit id, e, st, K, a, w, h, hk => wp_exit ⟨e, st, h, hk⟩
  | .goto l, e, st, K, a, w, h, hk => wp_goto ⟨e, st, h, hk⟩
  | .ret, e, st, K, a, w, h, hk => wp_ret ⟨e, st, h, hk⟩
  | .seq x y, e, st, K, a, w, h, hk => by
    simp only [vcCode] at hk
    split at hk
    · refine wp_seq (wp_mono (vcCode_sound hty hm x e st _ a w h hk) fun ex a w hq => ?_)
      cases ex with
      | normal =>
        obtain ⟨e', st', h1, h2⟩ := hq
        exact vcCode_sound hty hm y e' st' K a w h1 h2
      | outgrown => exact hq.elim
      | panic c => obtain ⟨e', st', x, v, h1, h2, h3, h4⟩ := hq; exact ⟨e', st', x, v, h1, h2, h3, h4⟩
      | _ => obtain ⟨e', st', h1, h2⟩ := hq; exact ⟨e', st', h1, h2⟩
    · obtain ⟨M, hk1, hk2⟩ := hk
      refine wp_seq (wp_mono (vcCode_sound hty hm x e st _ a w h hk1) fun ex a w hq => ?_)
      cases ex with
      | normal =>
        obtain ⟨e', st', h1, st'', h2, h3⟩ := hq
        obtain ⟨e'', _, h4⟩ := h3 e' a w h1
        exact vcCode_sound hty hm y e'' st'' K a w h4 (hk2 st'' h2)
      | outgrown => exact hq.elim
      | panic c => obtain ⟨e', st', x, v, h1, h2, h3, h4⟩ := hq; exact ⟨e', st', x, v, h1, h2, h3, h4⟩
      | _ => obtain ⟨e', st', h1, h2⟩ := hq; exact ⟨e', st', h1, h2⟩
  | .block id c, e, st, K, a, w, h, hk => by
    simp only [vcCode] at hk
    refine wp_block (wp_mono (vcCode_sound hty hm c e st _ a w h hk) fun ex a w hq => ?_)
    cases ex with
    | exit id' =>
      obtain ⟨e', st', h1, h2⟩ := hq
      simp only at h2
      simp only [Exit.inBlock]
      split at h2
      · rename_i e
        rw [if_pos (nbeq.1 e)]
        exact ⟨e', st', h1, h2⟩
      · rename_i e
        rw [if_neg (nbeq_ne.1 e)]
        exact ⟨e', st', h1, h2⟩
    | outgrown => exact hq.elim
    | panic c => obtain ⟨e', st', x, v, h1, h2, h3, h4⟩ := hq; exact ⟨e', st', x, v, h1, h2, h3, h4⟩
    | _ => obtain ⟨e', st', h1, h2⟩ := hq; exact ⟨e', st', h1, h2⟩
  | .cond c x y, e, st, K, a, w, h, hk => by
    simp only [vcCode] at hk
    split at hk <;> try (exact hk.elim)
    · rename_i q hq
      have := h.tmok c _ hq
      simp only [RepSV] at this
      split at hk
      · exact wp_cond_true this (vcCode_sound hty hm x e st K a w h hk)
      · exact wp_cond_false this (vcCode_sound hty hm y e st K a w h hk)
    · rename_i q hq
      have := h.tmok c _ hq
      simp only [RepSV, RepD] at this
      split at hk
      · rename_i t T H n
        have hkn := h.know (d := t) (c := q) hq
        cases q
        · exact wp_cond_false this (vcCode_sound hty hm y e _ K a w hkn (hk.2 rfl))
        · exact wp_cond_true this (vcCode_sound hty hm x e _ K a w hkn (hk.1 rfl))
      · cases q
        · exact wp_cond_false this (vcCode_sound hty hm y e _ K a w h (hk.2 rfl))
        · exact wp_cond_true this (vcCode_sound hty hm x e _ K a w h (hk.1 rfl))
  | .region id ops false, e, st, K, a, w, h, hk => by
    simp only [vcCode] at hk
    exact wp_region_list (vcSeq_sound hty ops.toList e st _ a w h hk)
  | .region id ops true, e, st, K, a, w, h, hk => by
    simp only [vcCode] at hk
    split at hk <;> try (exact hk.elim)
    rename_i plan hL
    obtain ⟨hb, hk⟩ := hk
    simp only [Bool.and_eq_true] at hb
    obtain ⟨⟨⟨b1, b2⟩, bf⟩, b3⟩ := hb
    have hd := h.drew
    split at hk
    · rw [pubTK_eq] at hk
      refine wp_region_any hm (AnyR.any (Z := Agr e [] { w with drawn := w.drawn + 1 }) (F := plan.fins) _ _ _ _ ?_)
      refine vcPlan_sound hty b1 (fun _ => rfl) (fun i o hi => by simp [lk] at hi) plan _ _ _ e st a _ (Nat.le_of_ble_eq_true b2) b3 (fun j hj i hi => ?_) (fun j hj => hj) (ClosedL.zero _ _) hd (.inr ⟨pubTK_get rfl hd.tm, (Kept.refl _ _).m', Agr.refl _ _ _, rfl⟩) hk
      exact List.all_eq_true.1 (List.all_eq_true.1 bf j hj) i hi
    obtain ⟨HL, hk, hHL, hst⟩ := blksK_eq _ _ _ hk
    refine wp_region_any hm (AnyR.any (Z := Agr e HL { w with drawn := w.drawn + 1 }) (F := plan.fins) _ _ _ _ ?_)
    refine vcPlan_sound hty b1 (fun h => by (cases h)) (fun i o hi => hd.hp.ob i o (hHL i o hi).1) plan _ _ st.T e st a _ (Nat.le_of_ble_eq_true b2) b3 (fun j hj i hi => ?_) (fun j hj => hj) (ClosedL.zero _ _) hd (.inr ⟨hd.tm, (Kept.refl _ _).m', Agr.refl _ _ _, hst⟩) hk
    exact List.all_eq_true.1 (List.all_eq_true.1 bf j hj) i hi
  | .loop c, e, st, K, a, w, h, hk => by
    simp only [vcCode] at hk
    obtain ⟨T0, hk⟩ := keepK_get _ _ _ _ hk
    obtain ⟨I, ⟨m0, st0, hI0, hw0⟩, hk⟩ := hk
    let J : Nat → Act → World → Prop := fun n a w => ∃ e st, I n st ∧ Ok b N e st a w
    have key : ∀ n a w, J n a w → (Code.loop c).wp P (Kden b N K) a w := by
      intro n a w hJ
      classical
      let μ : Act → World → Nat := fun a w => if hx : ∃ n, J n a w then Classical.choose (least hx) else 0
      refine wp_loop (fun a w => ∃ n, J n a w) μ ⟨n, hJ⟩ ?_
      intro a w hx
      have hμ : μ a w = Classical.choose (least hx) := by simp only [μ, dif_pos hx]
      obtain ⟨e, st, hI, hok⟩ := (Classical.choose_spec (least hx)).1
      refine wp_mono (vcCode_sound hty hm c e st _ a w hok (hk _ st hI)) fun ex a' w' hq => ?_
      cases ex with
      | normal =>
        obtain ⟨e', st', h1, m, st'', h2, h3, h4⟩ := hq
        obtain ⟨e'', _, h5⟩ := h4 e' a' w' h1
        have hJ' : J m a' w' := ⟨e'', st'', h3, h5⟩
        refine ⟨⟨m, hJ'⟩, ?_⟩
        have : μ a' w' ≤ m := by
          have hx' : ∃ n, J n a' w' := ⟨m, hJ'⟩
          simp only [μ, dif_pos hx']
          exact (Classical.choose_spec (least hx')).2 m hJ'
        omega
      | outgrown => exact hq.elim
      | panic c => obtain ⟨e', st', x, v, h1, h2, h3, h4⟩ := hq; exact ⟨e', st', x, v, h1, h2, h3, h4⟩
      | _ => obtain ⟨e', st', h1, h2⟩ := hq; exact ⟨e', st', h1, h2⟩
    obtain ⟨e', _, h1⟩ := hw0 e a w h
    exact key m0 a w ⟨e', st0, hI0, h1⟩
  | .rangeFunc _ _ _ _, _, _, _, _, _, _, hk => (hk : False).elim
  | .scope c, e, st, K, a, w, h, hk => by
    simp only [vcCode] at hk
    refine wp_scope_straight (wp_mono (vcCode_sound hty hm c e st _ a w h hk) fun ex a w hq => ?_)
    cases ex with
    | goto l =>
      obtain ⟨e', st', h1, h2⟩ := hq
      exact h2.elim
    | outgrown => exact hq.elim
    | panic c => obtain ⟨e', st', x, v, h1, h2, h3, h4⟩ := hq; exact ⟨e', st', x, v, h1, h2, h3, h4⟩
    | _ => obtain ⟨e', st', h1, h2⟩ := hq; exact ⟨e', st', h1, h2⟩
  | .refuse _, _, _, _, _, _, _, hk => (hk : False).elim
end

/-! ### Own objects that are written no more -/
def mapO (f : SV → Option SV) : List SV → Option (List SV)
  | [] => some []
  | x :: r => match f x, mapO f r with
    | some y, some l => some (y :: l)
    | _, _ => none
def ebn (eb : Nat) : Nat → Nat
  | 0 => 0
  | _ + 1 => eb
/-- The slice of a row, as data. -/
def slD (eb n : Nat) (xs : List D) : D := .sl (ebn eb n) n xs
/-- A value, with some own objects taken as data, the others by other numbers. -/
def frz (p : Nat → Bool) (f : Nat → Nat) (H : Hp) : Nat → SV → Option SV
  | 0, _ => none
  | k + 1, x => match x with
    | .d y => some (.d y)
    | .kb c => some (.kb c)
    | .own i off => match p i with
      | false => some (.own (f i) off)
      | true => match lk H i with
        | some (.blk _ cs) => match mapO (frz p f H k) cs with
          | some cs' => match dOf.dOfs cs' with
            | some l => some (.d (.ptr l off))
            | none => none
          | none => none
        | _ => none
    | .row i => match p i with
      | false => some (.row (f i))
      | true => match lk H i with
        | some (.row _ eb _ m xs) => some (.d (slD eb m xs))
        | _ => none
    | .rowp i off => match p i with
      | false => some (.rowp (f i) off)
      | true => match lk H i with
        | some (.row _ _ _ _ xs) => some (.d (.ptr xs off))
        | _ => none
    | .nm i => match p i with
      | false => some (.nm (f i))
      | true => none
    | .osl i n => match p i with
      | false => some (.osl (f i) n)
      | true => none
    | .agg l => match mapO (frz p f H k) l with
      | some m => some (.agg m)
      | none => none
    | .tup l => match mapO (frz p f H k) l with
      | some m => some (.tup m)
      | none => none
    | .fn g a b => match mapO (frz p f H k) a, mapO (frz p f H k) b with
      | some x, some y => some (.fn g x y)
      | _, _ => none
    | .ifc t x => match frz p f H k x with
      | some y => some (.ifc t y)
      | none => none
    | .nl => some .nl
    | .any => none

section
variable {e : Env} {w : World} {H : Hp} {p : Nat → Bool}
/-- What may be read, when some own objects are written no more. -/
def pubN (e : Env) (H : Hp) (p : Nat → Bool) (k : Nat) : Prop := e.pub k ∨ ∃ i, p i = true ∧ has H i ∧ foot e i k
theorem blt_false {i n : Nat} (h : Nat.blt i n = false) : n ≤ i := Nat.le_of_not_lt fun h' => by
  rw [← Nat.blt_eq, h] at h'; cases h'
theorem take_get {l : List Value} {n i : Nat} {v : Value} (h : l[i]? = some v) (hi : i < n) : (l.take n)[i]? = some v := by
  rw [List.getElem?_take, if_pos hi]; exact h
theorem mapO_rep {f : SV → Option SV} {e' : Env} (hf : ∀ x y v, f x = some y → RepSV e w x v → RepSV e' w y v) : ∀ {l m : List SV} {vs : List Value}, mapO f l = some m → RepSVs e w l vs → RepSVs e' w m vs
  | [], m, vs, h, hx => by simp only [mapO, Option.some.injEq] at h; subst h; simpa only [RepSVs] using hx
  | x :: r, m, vs, h, hx => by
    simp only [mapO] at h
    split at h <;> try (cases h; done)
    rename_i y l hy hl
    injection h with h; subst h
    simp only [RepSVs] at hx ⊢
    obtain ⟨v, s, e1, h1, h2⟩ := hx
    exact ⟨v, s, e1, hf _ _ _ hy h1, mapO_rep hf hl h2⟩
theorem sl_of_row {S : Nat → Prop} {t : TypeId} {eb sz m c : Nat} {A : Option Addr} {xs : List D} {vs : List Value} (hr : RowOk w ⟨.slice A m c, t, sz, vs⟩) (hx : RepDs S w xs vs) (hS : ∀ g, rowB (.slice A m c) = some g → S g) (hb : m * eb ≤ LB) : RepD S w (slD eb m xs) (.slice A m c) := by
  simp only [slD, RepD]
  refine ⟨A, c, rfl, hr.cap, ?_, fun h0 => hr.some h0, RepC.ofCells hx (hr.cells rfl S hS)⟩
  cases m with
  | zero => simp [ebn, LB]
  | succ m => exact hb
theorem frz_rep {f : Nat → Nat} (hH : HpOk e w H) {m' : List Value} (hm : ∀ (i : Nat) v, e.m[i]? = some v → p i = false → m'[f i]? = some v) : ∀ (k : Nat) (x y : SV) (v : Value), frz p f H k x = some y → RepSV e w x v → RepSV ⟨m', pubN e H p⟩ w y v := by
  have hup : ∀ {x : D} {v : Value}, RepD e.pub w x v → RepD (pubN e H p) w x v := fun h => h.to (Same.rfl' _ _) fun k hk _ => .inl hk
  have hups : ∀ {x : List D} {v : List Value}, RepDs e.pub w x v → RepDs (pubN e H p) w x v := fun h => h.to (Same.rfl' _ _) fun k hk _ => .inl hk
  intro k
  induction k with
  | zero => intro x y v h; simp [frz] at h
  | succ k ih =>
    intro x y v h hx
    simp only [frz] at h
    split at h
    · injection h with h; subst h
      simp only [RepSV] at hx ⊢
      exact hup hx
    · injection h with h; subst h
      simpa only [RepSV] using hx
    · rename_i i off
      simp only [RepSV] at hx
      obtain ⟨g, h1, rfl⟩ := hx
      split at h
      · rename_i hi
        injection h with h; subst h
        simp only [RepSV]
        exact ⟨g, hm _ _ h1 hi, rfl⟩
      · rename_i hi
        split at h <;> try (cases h; done)
        rename_i t cs hb
        split at h <;> try (cases h; done)
        rename_i cs' hcs'
        split at h <;> try (cases h; done)
        rename_i l hl
        injection h with h; subst h
        obtain ⟨g', vs, h2, h3, h4⟩ := hH.ob _ _ hb
        rw [h1] at h2; injection h2 with h2; injection h2 with h2; injection h2 with h2; injection h2 with h2
        subst h2
        have hr := dOfs_rep hl (mapO_rep (fun x y v => ih x y v) hcs' h4)
        simp only [RepSV, RepD]
        refine ⟨⟨g, 0, none⟩, by rw [add_own, Nat.zero_add], RepC.of hr fun j u hu => ⟨_, rfl, .inr ⟨i, hi, by simp [has, hb], _, h1, rfl⟩, ?_⟩⟩
        rw [add_own, cell_own h3, ← Array.getElem?_toList]
        simpa using hu
    · rename_i i
      simp only [RepSV] at hx
      obtain ⟨A, m, c, rfl, h1⟩ := hx
      split at h
      · rename_i hi
        injection h with h; subst h
        simp only [RepSV]
        exact ⟨A, m, c, rfl, hm _ _ h1 hi⟩
      · rename_i hi
        split at h <;> try (cases h; done)
        rename_i t eb sz m' xs hb
        injection h with h; subst h
        obtain ⟨A', c', vs, h2, h3, h4, h5⟩ := hH.ob _ _ hb
        rw [h1] at h2; injection h2 with h2; injection h2 with e1 e2 e3
        subst e1; subst e2; subst e3
        simp only [RepSV]
        exact sl_of_row h3 (hups h4) (fun g hg => .inr ⟨i, hi, by simp [has, hb], _, h1, by rw [footB_slice]; exact hg⟩) h5
    · rename_i i off
      simp only [RepSV] at hx
      obtain ⟨ad, m, c, h1, rfl⟩ := hx
      split at h
      · rename_i hi
        injection h with h; subst h
        simp only [RepSV]
        exact ⟨ad, m, c, hm _ _ h1 hi, rfl⟩
      · rename_i hi
        split at h <;> try (cases h; done)
        rename_i t eb sz m' xs hb
        injection h with h; subst h
        obtain ⟨A', c', vs, h2, h3, h4, h5⟩ := hH.ob _ _ hb
        rw [h1] at h2; injection h2 with h2; injection h2 with e1 e2 e3
        subst e1; subst e2; subst e3
        simp only [RepSV, RepD]
        exact ⟨ad, rfl, RepC.ofCells (hups h4) (h3.cells rfl _ fun g hg => .inr ⟨i, hi, by simp [has, hb], _, h1, by rw [footB_slice]; exact hg⟩)⟩
    · rename_i i
      simp only [RepSV] at hx
      obtain ⟨g, h1, h2⟩ := hx
      split at h <;> try (cases h; done)
      rename_i hi
      injection h with h; subst h
      simp only [RepSV]
      exact ⟨g, h1, hm _ _ h2 hi⟩
    · rename_i i n
      simp only [RepSV] at hx
      obtain ⟨g, h1, h2⟩ := hx
      split at h <;> try (cases h; done)
      rename_i hi
      injection h with h; subst h
      simp only [RepSV]
      exact ⟨g, hm _ _ h1 hi, h2⟩
    · rename_i l
      split at h <;> try (cases h; done)
      rename_i m hm
      injection h with h; subst h
      simp only [RepSV] at hx ⊢
      obtain ⟨l', e1, h1⟩ := hx
      exact ⟨l', e1, mapO_rep (fun x y v => ih x y v) hm h1⟩
    · rename_i l
      split at h <;> try (cases h; done)
      rename_i m hm
      injection h with h; subst h
      simp only [RepSV] at hx ⊢
      obtain ⟨l', e1, h1⟩ := hx
      exact ⟨l', e1, mapO_rep (fun x y v => ih x y v) hm h1⟩
    · rename_i g a b
      split at h <;> try (cases h; done)
      rename_i x y hxx hyy
      injection h with h; subst h
      simp only [RepSV] at hx ⊢
      obtain ⟨a', b', e1, h1, h2⟩ := hx
      exact ⟨a', b', e1, mapO_rep (fun x y v => ih x y v) hxx h1, mapO_rep (fun x y v => ih x y v) hyy h2⟩
    · rename_i t x'
      split at h <;> try (cases h; done)
      rename_i y' hy
      injection h with h; subst h
      simp only [RepSV] at hx ⊢
      obtain ⟨z, e1, h1⟩ := hx
      exact ⟨z, e1, ih _ _ _ hy h1⟩
    · injection h with h; subst h
      simpa only [RepSV] using hx
    · cases h
end
end Go.Vx

