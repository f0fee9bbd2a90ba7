/- Texts of mine, joined: Vpi Vpt. -/
import Derived.Test.YtcjkikadolnfgaaGreatPal
import Derived.Lib.AppendStr
import Derived.Lib.Builder
import Derived.Lib.UnsafeStr
import Derived.Test.YtcjkikadolnfgaaGreatPah
/- Laws: pointers to and from unsafe.Pointer; append of a string's bytes to an own slice. -/
set_option linter.unusedVariables false
set_option linter.unusedSimpArgs false
namespace Go.Vx
open Go.RowKit Go.Vc

section
variable {P : Program} {G : Glob} {ty : List (Nat × TY)} {N n0 : Nat} {b : Bs G n0}
theorem own_shape {e : Env} {w : World} {H : Hp} (hH : HpOk e w H) {i off : Nat} {t : TypeId} {ci : List SV} (hi : lk H i = some (.blk t ci)) {v : Value} (hv : RepSV e w (.own i off) v) : ∃ g, v = .pointer (some ⟨g, off, none⟩) ∧ w.shape? g = some (t, ci.length) := by
  simp only [RepSV] at hv
  obtain ⟨g, hm, rfl⟩ := hv
  obtain ⟨g', vs, hm', hg, hvs⟩ := hH.ob _ _ hi
  rw [hm] at hm'; injection hm' with hm'; injection hm' with hm'; injection hm' with hm'; injection hm' with hm' _ _
  subst hm'
  refine ⟨g, rfl, ?_⟩
  have := hvs.len
  simp only [World.shape?, hg]
  rw [← this]; simp
/-- *T to unsafe.Pointer. -/
theorem toUnsafeC {kp : Bool} {o : Oper} {st : St} {K : SExit → St → Prop} {src dst t' : TypeId} {sz : Nat} {x : Operand} {i off : Nat} {t : TypeId} {ci : List SV} (ho : o.op = .convert src dst x) (hx : ev st.T x = some (.own i off)) (hi : lk st.H i = some (.blk t ci)) (hs : P.underlying src = some (.pointer t')) (hd : P.underlying dst = some .unsafePointer) (hj : (P.info? t').map (·.size) = some sz) (hj0 : sz ≠ 0) (hoff : off < ci.length)
    (hk : putK N o.dst (.own i off) st (K .normal)) : OpC P b N kp o st K := by
  refine valC _ (fun e a w hok => ?_) hk
  have h1 := hok.tmok _ _ hx
  obtain ⟨g, hv, hsh⟩ := own_shape hok.hp hi h1
  refine ⟨_, h1, ?_⟩
  obtain ⟨dst', op, type, pos, after, guard⟩ := o
  simp only at ho; subst ho
  simp only [execOp]
  refine run_val ?_
  rw [hv]
  obtain ⟨j, hj1, rfl⟩ := Option.map_eq_some_iff.1 hj
  exact Go.Lib.run_to_unsafe w ⟨g, off, none⟩ hs hd hj1 hj0 hsh hoff
/-- unsafe.Pointer to *U. -/
theorem fromUnsafeC {kp : Bool} {o : Oper} {st : St} {K : SExit → St → Prop} {src dst u : TypeId} {sz : Nat} {x : Operand} {i off : Nat} {t : TypeId} {ci : List SV} (ho : o.op = .convert src dst x) (hx : ev st.T x = some (.own i off)) (hi : lk st.H i = some (.blk t ci)) (hs : P.underlying src = some .unsafePointer) (hd : P.underlying dst = some (.pointer u)) (hj : (P.info? u).map (·.size) = some sz) (hl : liesAt P P.depth t (ci.length / P.cellsOf t) off u 1 = true)
    (hk : putK N o.dst (.own i off) st (K .normal)) : OpC P b N kp o st K := by
  refine valC _ (fun e a w hok => ?_) hk
  have h1 := hok.tmok _ _ hx
  obtain ⟨g, hv, hsh⟩ := own_shape hok.hp hi h1
  refine ⟨_, h1, ?_⟩
  obtain ⟨dst', op, type, pos, after, guard⟩ := o
  simp only at ho; subst ho
  simp only [execOp]
  refine run_val ?_
  rw [hv]
  obtain ⟨j, hj1, _⟩ := Option.map_eq_some_iff.1 hj
  exact Go.Lib.run_from_unsafe w ⟨g, off, none⟩ hs hd hj1 hsh hl
/-- A call of a function that hands back its argument. -/
theorem sameC {kp : Bool} {o : Oper} {st : St} {K : SExit → St → Prop} {f : FuncId} {x : Operand} {ts : Array TypeId} {y : SV} (ho : o.op = .call { callee := .value (.func f), args := #[x], argTypes := ts }) (hf : ∀ (v : Value) (w : World), (callFunc f #[v]).run P w = .ok (.value v) w) (hx : ev st.T x = some y)
    (hk : putK N o.dst y st (K .normal)) : OpC P b N kp o st K := by
  refine valC _ (fun e a w hok => ⟨_, hok.tmok _ _ hx, ?_⟩) hk
  obtain ⟨dst', op, type, pos, after, guard⟩ := o
  simp only at ho; subst ho
  have e1 : a.eval (.func f) = .func (.func f) #[] #[] := rfl
  simp only [execOp, resolve, e1, Deferred.ofValue, Sem.run_bind, Sem.run_pure, Result.andThen_ok, invoke]
  have e2 : (#[] ++ Array.map a.eval #[x] ++ #[] : Array Value) = #[a.eval x] := by simp
  rw [e2]
  exact hf _ _
/-! ### append, of a string's bytes -/
theorem appStr_run {t u e : TypeId} {i : TypeInfo} (hd : P.underlying t = some (.slice e)) (hu : P.underlying u = some .string) (hi : P.info? e = some i) (hz : i.zero = some (.int .u8 0)) (hsize : i.size = 1) (hby : i.bytes = 1)
    {w : World} {A : Option Addr} {n c : Nat} {xs : List Value} (hr : RowOk w ⟨.slice A n c, e, 1, xs⟩) (s : ByteArray) (hlim : n + s.size ≤ 140737488355328) (ty' : TypeId) :
    ∃ A' c' w', (Builtin.append_ #[t, u] ty' #[.slice A n c, .string s]).run P w = .ok (.slice A' (n + s.size) c') w' ∧ RowOk w' ⟨.slice A' (n + s.size) c', e, 1, xs ++ Lib.strCells s⟩ ∧ w.grownBy w' (Vc.rowB (.slice A n c)) ∧
      (Vc.rowB (.slice A' (n + s.size) c') = Vc.rowB (.slice A n c) ∨ Vc.rowB (.slice A' (n + s.size) c') = some w.heap.size) := by
  obtain ⟨n', hown⟩ := hr
  obtain rfl : n' = n := by
    rcases hown.2 with ⟨hv, hn⟩ | ⟨g, o, cap, cur, hv, _⟩
    · injection hv with _ e1 _; rw [hn]; exact e1.symm
    · injection hv with _ e1 _; exact e1.symm
  have hxl : xs.length = n' := by simpa using hown.1
  have hmx : n' + s.size ≤ maxLen := by simp only [maxLen]; omega
  have hlen : (xs ++ Lib.strCells s).length = (n' + s.size) * 1 := by rw [List.length_append, hxl, Lib.strCells_length, Nat.mul_one]
  have grown : ∀ (old : Nat), old < n' + s.size → ∀ (row : Option Nat),
      RowOk (w.drew.alloc (.cells (xs.toArray ++ (Lib.strCells s).toArray ++ Builtin.zeroCells (Value.int .u8 0).cells (grownCap w (n' + s.size) old e - (n' + s.size))) e)) ⟨.slice (some ⟨w.heap.size, 0, none⟩) (n' + s.size) (grownCap w (n' + s.size) old e), e, 1, xs ++ Lib.strCells s⟩ ∧
      w.grownBy (w.drew.alloc (.cells (xs.toArray ++ (Lib.strCells s).toArray ++ Builtin.zeroCells (Value.int .u8 0).cells (grownCap w (n' + s.size) old e - (n' + s.size))) e)) row := by
    intro old ho row
    have hge := grownCap_ge w (n' + s.size) old e
    have hcm : grownCap w (n' + s.size) old e ≤ maxLen := grownCap_le_maxLen w (n' + s.size) old e hmx
    refine ⟨⟨n' + s.size, hlen, .inr ⟨w.heap.size, 0, _, _, rfl, heap_alloc_new w.drew _, hge, hcm, ?_, ?_⟩⟩, ⟨rfl, rfl, rfl, by simp, fun k hk _ => heap_alloc_old w.drew _ hk⟩⟩
    · have hz1 : (Value.int IntKind.u8 0).cells.size = 1 := rfl
      simp only [Array.size_append, List.size_toArray, size_zeroCells, hz1, hxl, Lib.strCells_length]
      omega
    · simp only [Array.toList_append, List.append_assoc, List.drop_zero]
      rw [← List.append_assoc, ← hlen]
      exact List.take_left
  rcases hown.2 with ⟨hv, hn⟩ | ⟨g, o, cap, cur, hv, hh, hnc, hcm, hcs, htake⟩
  · injection hv with e1 e2 e3; subst e1; subst e2; subst e3
    have hx : xs = [] := List.eq_nil_of_length_eq_zero hxl
    subst hx
    by_cases hm : s.size = 0
    · have hn : Lib.strCells s = [] := List.eq_nil_of_length_eq_zero (by rw [Lib.strCells_length]; exact hm)
      refine ⟨none, 0, w, ?_, by rw [hm, hn]; exact RowOk.nil w e 1, ⟨rfl, rfl, rfl, Nat.le_refl _, fun _ _ _ => rfl⟩, .inl (by rw [hm])⟩
      have hf := Lib.run_firstCells_string (P := P) w 1 s
      rw [hm] at hf
      simp [Builtin.append_, Go.run_underlying hd, Go.run_underlying hu, sizeOf, typeInfo, hi, hsize, Builtin.lenOf, hm, hf]
    · have hr := run_append_nil_string (P := P) w t u ty' e i (.int .u8 0) hd hu hi hz s (by omega) (by omega) (by rw [hby]; omega)
      have hgr := grown 0 (by omega) (Vc.rowB (.slice none 0 0))
      simp only [Nat.zero_add, List.nil_append, Array.empty_append] at hgr ⊢
      have e1 : (s.data.map fun b => Value.int .u8 b.toNat) = (Lib.strCells s).toArray := by
        apply Array.ext'
        simp [Lib.strCells]
      rw [e1] at hr
      exact ⟨_, _, _, hr, hgr.1, hgr.2, .inr rfl⟩
  · injection hv with e1 e2 e3; subst e1; subst e3
    simp only [Nat.mul_one] at hcs htake
    by_cases hroom : n' + s.size ≤ c
    · have hf := Lib.run_firstCells_string (P := P) w 1 s
      have hst := run_storeCells_at P g (o + n') e (Lib.strCells s) 0 cur w hh (by simp [Lib.strCells_length]; omega) (Lib.strCells_oneCell s)
      simp only [Nat.add_zero, Lib.strCells_length] at hst
      have hr : (Builtin.append_ #[t, u] ty' #[.slice (some ⟨g, o, none⟩) n' c, .string s]).run P w = .ok (.slice (some ⟨g, o, none⟩) (n' + s.size) c) (w.setRow g (cur.toList.take (o + n') ++ Lib.strCells s ++ cur.toList.drop (o + n' + s.size)).toArray) := by
        simp [Builtin.append_, Go.run_underlying hd, Go.run_underlying hu, sizeOf, typeInfo, hi, hsize, Builtin.lenOf, hroom, hf, Addr.add_lit, hst]
      refine ⟨_, c, _, hr, ⟨n' + s.size, hlen, .inr ⟨g, o, c, _, rfl, setRow_heap w g cur _ e _ hh, hroom, hcm, ?_, ?_⟩⟩, ⟨rfl, rfl, rfl, by simp, fun k _ hk => setRow_other w g k _ (fun e => hk (by simp [Vc.rowB, e]))⟩, .inl rfl⟩
      · simp only [List.size_toArray, List.length_append, List.length_take, List.length_drop, Array.length_toList, Lib.strCells_length]
        omega
      · have ht : cur.toList.take (o + n') = cur.toList.take o ++ xs := by
          rw [List.take_add, htake]
        have hto : (cur.toList.take o).length = o := by
          simp only [List.length_take, Array.length_toList]; omega
        simp only [ht, List.append_assoc]
        rw [List.drop_append_of_le_length (by omega), List.drop_of_length_le (by omega), List.nil_append, ← List.append_assoc, ← hlen]
        exact List.take_left
    · have holds : ∀ j u, xs[j]? = some u → w.cell? ((⟨g, o, none⟩ : Addr).add j) = some u := by
        intro j u hj
        have : Cells (fun _ => True) w (some ⟨g, o, none⟩) xs := (RowOk.cells (r := ⟨.slice (some ⟨g, o, none⟩) n' c, e, 1, xs⟩) ⟨n', hown⟩) rfl _ (fun _ _ => trivial)
        rcases this with h | ⟨ad, e1, _, h⟩
        · subst h; simp at hj
        · injection e1 with e1; subst e1; exact h j u hj
      have hr := Lib.run_append_grow_string (P := P) w t u ty' e i (.int .u8 0) hd hu hi hz ⟨g, o, none⟩ n' c xs (by rw [hsize]; simpa using hxl) holds s (by omega) (by omega) (by rw [hby]; exact growslice_fits (by omega) (by omega))
      have hgr := grown c (by omega) (Vc.rowB (.slice (some ⟨g, o, none⟩) n' c))
      exact ⟨_, _, _, hr, hgr.1, hgr.2, .inr rfl⟩
/-- A row is another one now, by a step that has grown it. -/
theorem rowGrown {e : Env} {st : St} {a : Act} {w w' : World} (h : Ok b N e st a w) {i : Nat} {el : TypeId} {eb sz n m c' : Nat} {A' : Option Addr} {xs ys : List D} {vs yv : List Value} (hi : lk st.H i = some (.row el eb sz n xs)) {u : Value} (hu : e.m[i]? = some u) (hxs : RepDs e.pub w xs vs) (hys : RepDs e.pub w ys yv) (hlim : (n + m) * eb ≤ LB) (dr : Nat → Bool) (hdr : w.drawn ≤ w'.drawn)
    (r2 : RowOk w' ⟨.slice A' (n + m) c', el, sz, vs ++ yv⟩) (r3 : w.grownBy w' (Vc.rowB u)) (r4 : Vc.rowB (.slice A' (n + m) c') = Vc.rowB u ∨ Vc.rowB (.slice A' (n + m) c') = some w.heap.size) (hus : ∃ A n c, u = .slice A n c) :
    ∃ e', e'.m[i]? = some (.slice A' (n + m) c') ∧ KeptP e w e' w' ∧
      Ok b N e' ⟨scrubT (fun k => Nat.beq k i || dr k) st.T, (i, .row el eb sz (n + m) (xs ++ ys)) :: scrubH (fun k => Nat.beq k i || dr k) (without (fun k => Nat.beq k i || dr k) st.H), st.n⟩ a w' := by
  obtain ⟨A, n1, c, rfl⟩ := hus
  have hil : i < e.m.length := (List.getElem?_eq_some_iff.1 hu).1
  have hne : ∀ (j : Nat) v, j ≠ i → e.m[j]? = some v → (e.m.set i (.slice A' (n + m) c'))[j]? = some v := fun j v hj hv => by
    rw [List.getElem?_set_ne (Ne.symm hj)]; exact hv
  have hnew : (e.m.set i (.slice A' (n + m) c'))[i]? = some (.slice A' (n + m) c') := by simp [hil]
  have ho : Only (fun k => ∃ j, (Nat.beq j i || dr j) = true ∧ has st.H j ∧ foot e j k) w w' := by
    refine ⟨r3.os, r3.tape, r3.output, r3.size, fun k hk hn => r3.block k hk fun e' => hn ⟨i, by simp, by simp [has, hi], _, hu, ?_⟩⟩
    rw [footB_slice, ← e']
  have hft : ∀ k, foot ⟨e.m.set i (.slice A' (n + m) c'), e.pub⟩ i k → foot e i k ∨ w.heap.size ≤ k := by
    rintro k ⟨v, h1, h2⟩
    have h1 : (e.m.set i (.slice A' (n + m) c'))[i]? = some v := h1
    rw [hnew] at h1; injection h1 with h1; subst h1
    rw [footB_slice] at h2
    rcases r4 with r4 | r4
    · rw [r4] at h2
      exact .inl ⟨_, hu, by rw [footB_slice]; exact h2⟩
    · rw [r4] at h2; injection h2 with h2; exact .inr (Nat.le_of_eq h2)
  have hsame : Same e.pub w w' := fun k hk hl => ho.block k hl (by rintro ⟨j, _, h2, h3⟩; exact h.hp.npub j k h2 h3 hk)
  have one : ∀ q, has [(i, Ob.row el eb sz (n + m) (xs ++ ys))] q → q = i := by
    intro q hq
    unfold has at hq
    simp only [lk] at hq
    split at hq
    · rename_i e'; exact (nbeq.1 e').symm
    · cases hq
  have hmm : ∀ (j : Nat) v, e.m[j]? = some v → (∀ A n c, v = .slice A n c → (Nat.beq j i || dr j) = false) → (e.m.set i (.slice A' (n + m) c'))[j]? = some v := by
    intro j v hj hv
    rcases Decidable.em (j = i) with hji | hji
    · rw [hji, hu] at hj
      injection hj with hj
      have hfalse := hv A n1 c hj.symm
      rw [hji, Nat.beq_refl] at hfalse
      cases hfalse
    · exact hne j v hji hj
  have h1 := h.frame (r := fun k => Nat.beq k i || dr k) (s := fun k => Nat.beq k i || dr k) (fun _ h => h) (e' := ⟨e.m.set i (.slice A' (n + m) c'), e.pub⟩) (w' := w') (H' := [(i, .row el eb sz (n + m) (xs ++ ys))]) 0 (by simp) ho (G.dm hdr)
    hmm (fun _ h => h) (fun _ h => .inl h)
    ⟨fun j o' hj => ?_, fun j j' k hj hj' hne _ _ => absurd ((one j hj).trans (one j' hj').symm) hne, fun j k hj hk hp => ?_, fun k hk => Nat.lt_of_lt_of_le (h.hp.pubLt k hk) r3.size⟩ (fun j k hj hk => ?_)
  · exact ⟨⟨e.m.set i (.slice A' (n + m) c'), e.pub⟩, hnew, ⟨fun _ h => h, hsame, r3.size⟩, h1⟩
  · obtain rfl := one j (by simp [has, hj])
    simp only [lk, Nat.beq_refl] at hj
    injection hj with hj; subst hj
    exact ⟨A', c', vs ++ yv, hnew, r2, (hxs.to hsame fun k hk _ => hk).app (hys.to hsame fun k hk _ => hk), hlim⟩
  · obtain rfl := one j hj
    rcases hft k hk with h2 | h2
    · exact h.hp.npub j k (by simp [has, hi]) h2 hp
    · have := h.hp.pubLt k hp; omega
  · obtain rfl := one j hj
    rcases hft k hk with h2 | h2
    · exact .inl ⟨j, by simp, by simp [has, hi], h2⟩
    · exact .inr h2
def encB (l : List UInt8) : List D := l.map fun b => .int .u8 b.toNat
theorem encB_app (l m : List UInt8) : encB (l ++ m) = encB l ++ encB m := by simp [encB]
theorem encB_len (l : List UInt8) : (encB l).length = l.length := by simp [encB]
theorem encB_rep (S : Nat → Prop) (w : World) (s : ByteArray) : RepDs S w (encB s.data.toList) (Lib.strCells s) := by
  unfold encB Lib.strCells
  generalize s.data.toList = l
  induction l with
  | nil => simp only [List.map_nil, RepDs]
  | cons x r ih => simp only [List.map_cons, RepDs, RepD]; exact ⟨_, _, rfl, rfl, ih⟩
/-- append(row, string...). -/
theorem appStrC {o : Oper} {st : St} {K : SExit → St → Prop} {i : Nat} {t u el : TypeId} {x y : Operand} {n : Nat} {l : List UInt8} {s : ByteArray} (dr : Nat → Bool) (ho : o.op = .call { callee := .builtin .append, args := #[x, y], argTypes := #[t, u] }) (hx : ev st.T x = some (.row i)) (hy : ev st.T y = some (.d (.str s))) (hi : lk st.H i = some (.row el 1 1 n (encB l)))
    (hd : P.underlying t = some (.slice el)) (hu : P.underlying u = some .string) (hj : (P.info? el).map (fun i => (i.zero, i.size, i.bytes)) = some (some (.int .u8 0), 1, 1)) (n' : Nat) (hn : n + s.size = n') (hlim : n' ≤ LB)
    (hk : match st with
      | ⟨T, H, q⟩ => scrubTK (fun k => Nat.beq k i || dr k) T fun T' => withoutK (fun k => Nat.beq k i || dr k) H fun H1 => scrubHK (fun k => Nat.beq k i || dr k) H1 fun H2 => putK N o.dst (.row i) ⟨T', (i, .row el 1 1 n' (encB (l ++ s.data.toList))) :: H2, q⟩ (K .normal)) : OpC P b N false o st K := by
  subst hn
  obtain ⟨j, hj1, hjj⟩ := Option.map_eq_some_iff.1 hj
  injection hjj with hz hjj; injection hjj with hsize hby
  obtain ⟨T, H, q⟩ := st
  simp only [scrubTK_eq, withoutK_eq, scrubHK_eq] at hk
  refine ⟨fun e a w hok => ?_⟩
  have h1 := hok.tmok _ _ hx
  have h2 := hok.tmok _ _ hy
  simp only [RepSV, RepD] at h1 h2
  obtain ⟨A, n1, c, hv, hm⟩ := h1
  obtain ⟨A1, c1, vs, hm1, hrow, hxs, hlb⟩ := hok.hp.ob _ _ hi
  rw [hv] at hm
  rw [hm] at hm1; injection hm1 with hm1; injection hm1 with q1 q2 q3
  subst q1; subst q2; subst q3
  obtain ⟨A', c', w', r1, r2, r3, r4⟩ := appStr_run hd hu hj1 hz hsize hby hrow s (by simpa only [LB] using hlim) o.type
  obtain ⟨e', hm', kpp, r5⟩ := rowGrown hok hi hm hxs (encB_rep e.pub w s) (by rw [Nat.mul_one]; exact hlim) dr (run_drawn r1) r2 r3 r4 ⟨_, _, _, rfl⟩
  have hrun : (execOp a.eval o).run P w = .ok (.value (.slice A' (n1 + s.size) c')) w' := by
    obtain ⟨dst', op, type, pos, after, guard⟩ := o
    simp only at ho; subst ho
    simp only [execOp, resolve, invoke, builtin, Sem.run_bind, Sem.run_pure, Result.andThen_ok, List.map_toArray, List.map_cons, List.map_nil, hv, h2, r1]
  rw [hrun]
  rw [← encB_app] at r5
  obtain ⟨st', g1, g2, _⟩ := putK_sound (v := .slice A' (n1 + s.size) c') r5 (by simp only [RepSV]; exact ⟨_, _, _, rfl, hm'⟩) hk
  exact ⟨e', st', ⟨fun h => by (cases h), kpp⟩, g1, g2⟩
/-! ### unsafe.SliceData, unsafe.String -/
theorem liesAt_at {e : TypeId} (hc : P.cellsOf e = 1) (count off n : Nat) (hn : off + n ≤ count) : liesAt P P.depth e count off e n = true := by
  have hd : P.depth = (2 * (P.types.size + Made.depth) + 1) + 1 := rfl
  rw [hd]
  simp only [liesAt, Bool.or_eq_true]
  left
  rw [hd]
  simp [rowAt, hc, sameLayout, Nat.mod_one]
  omega
theorem unsafeString_at {w : World} (pt it ty e : TypeId) (hp : P.underlying pt = some (.pointer e)) (hc : P.cellsOf e = 1) (g o cells : Nat) (hsh : w.shape? g = some (e, cells)) (l : List UInt8) (h0 : l ≠ []) (hn : o + l.length ≤ cells) (h63 : l.length ≤ 9223372036854775807)
    (hcell : ∀ j x, l[j]? = some x → w.cell? ((⟨g, o, none⟩ : Addr).add j) = some (.int .u8 x.toNat)) :
    (Builtin.unsafeString_ #[pt, it] ty #[.pointer (some ⟨g, o, none⟩), .int .i64 l.length]).run P w = .ok (.string ⟨l.toArray⟩) (w.freeze ⟨g, o, none⟩ l.length) := by
  have hl : l.length ≠ 0 := by simpa using h0
  have hlb := Lib.run_loadBytes (P := P) w l ⟨g, o, none⟩ .empty hcell
  have hlies := liesAt_at (P := P) hc (cells / P.cellsOf e) o l.length (by rw [hc]; simpa using hn)
  have h63' : ¬ (9223372036854775807 : Int) < (l.length : Int) := by omega
  have hdef : Builtin.unsafeString_ #[pt, it] ty #[.pointer (some ⟨g, o, none⟩), .int .i64 l.length] =
      (do
        let n ← asInt (.int .i64 l.length)
        if n < 0 then runtimePanic (.error "unsafe.String: len out of range")
        if n > IntKind.i64.max then unsupported (.unsafePointer "String: a length above the largest int")
        if n = 0 then pure (.string .empty)
        else if ← variablesAt ⟨g, o, none⟩ (← elemOf pt) n.toNat then do
          let s ← loadBytes ⟨g, o, none⟩ .empty n.toNat
          freeze ⟨g, o, none⟩ n.toNat
          pure (.string s)
        else unsupported (.unsafePointer "String: not so many bytes at ptr")) := rfl
  rw [hdef]
  have hmax : IntKind.i64.max = 9223372036854775807 := rfl
  have hneg : ¬ (l.length : Int) < 0 := by omega
  simp [asInt, asIntOf, hmax, h63', hneg, hl, variablesAt, hsh, elemOf, Go.run_underlying hp, hlies, hlb]
/-- unsafe.SliceData of an own slice. -/
theorem sliceDataC {kp : Bool} {o : Oper} {st : St} {K : SExit → St → Prop} {i : Nat} {t el : TypeId} {eb sz n : Nat} {xs : List D} {x : Operand} (ho : o.op = .call { callee := .builtin .unsafeSliceData, args := #[x], argTypes := #[t] }) (hx : ev st.T x = some (.row i)) (hi : lk st.H i = some (.row el eb sz n xs)) (hn : n ≠ 0)
    (hk : putK N o.dst (.rowp i 0) st (K .normal)) : OpC P b N kp o st K := by
  refine valC _ (fun e a w hok => ?_) hk
  have h1 := hok.tmok _ _ hx
  simp only [RepSV] at h1
  obtain ⟨A, n1, c, hv, hm⟩ := h1
  obtain ⟨A1, c1, vs, hm1, hrow, hxs, hlb⟩ := hok.hp.ob _ _ hi
  rw [hv] at hm
  rw [hm] at hm1; injection hm1 with hm1; injection hm1 with q1 q2 q3
  subst q1; subst q2; subst q3
  obtain ⟨n', hown⟩ := hrow
  rcases hown.2 with ⟨hv', hn'⟩ | ⟨g, of, cap, cur, hv', hh, hnc, hcm, hcs, htake⟩
  · injection hv' with _ e1 _; exact absurd e1 hn
  injection hv' with e1 e2 e3; subst e1; subst e2; subst e3
  refine ⟨.pointer (some ⟨g, of, none⟩), by simp only [RepSV]; exact ⟨_, _, _, hm, by simp [Addr.add]⟩, ?_⟩
  obtain ⟨dst', op, type, pos, after, guard⟩ := o
  simp only at ho; subst ho
  simp only [execOp, resolve, invoke, builtin, Sem.run_bind, Sem.run_pure, Result.andThen_ok, List.map_toArray, List.map_cons, List.map_nil, hv]
  rw [Lib.run_unsafeSliceData_row _ _ _ _ _ _ (by omega)]
  rfl
/-- unsafe.String of an own row's bytes: the row is written no more, and looked at no more. -/
theorem unsafeStringC {o : Oper} {st : St} {K : SExit → St → Prop} {i : Nat} {pt it el : TypeId} {n : Nat} {l : List UInt8} {x y : Operand} (ho : o.op = .call { callee := .builtin .unsafeString, args := #[x, y], argTypes := #[pt, it] }) (hx : ev st.T x = some (.rowp i 0)) (hy : ev st.T y = some (.d (.int .i64 n))) (hi : lk st.H i = some (.row el 1 1 n (encB l)))
    (hp : P.underlying pt = some (.pointer el)) (hc : P.cellsOf el = 1) (hn : n = l.length) (h0 : l ≠ [])
    (hk : match st with
      | ⟨T, H, q⟩ => scrubTK (fun k => Nat.beq k i) T fun T' => withoutK (fun k => Nat.beq k i) H fun H1 => scrubHK (fun k => Nat.beq k i) H1 fun H2 => putK N o.dst (.d (.str ⟨l.toArray⟩)) ⟨T', H2, q⟩ (K .normal)) : OpC P b N false o st K := by
  subst hn
  obtain ⟨T, H, q⟩ := st
  simp only [scrubTK_eq, withoutK_eq, scrubHK_eq] at hk
  refine ⟨fun e a w hok => ?_⟩
  have h1 := hok.tmok _ _ hx
  have h2 := hok.tmok _ _ hy
  simp only [RepSV, RepD] at h1 h2
  obtain ⟨ad, n1, c, hm, hv⟩ := h1
  obtain ⟨A1, c1, vs, hm1, hrow, hxs, hlb⟩ := hok.hp.ob _ _ hi
  rw [hm] at hm1; injection hm1 with hm1; injection hm1 with q1 q2 q3
  subst q1; subst q2; subst q3
  obtain ⟨n', hown⟩ := hrow
  have hvs : vs = l.map fun b => Value.int .u8 b.toNat := by
    clear hk hown hlb hi hm h0
    unfold encB at hxs
    generalize hl1 : l = l1 at hxs ⊢
    clear hl1 h2 hv
    induction l1 generalizing vs with
    | nil => simpa only [List.map_nil, RepDs] using hxs
    | cons x r ih =>
      simp only [List.map_cons, RepDs, RepD] at hxs
      obtain ⟨v, s, rfl, rfl, h3⟩ := hxs
      rw [List.map_cons, ih s h3]
  rcases hown.2 with ⟨hv', hn'⟩ | ⟨g, of, cap, cur, hv', hh, hnc, hcm, hcs, htake⟩
  · injection hv' with e0 _ _; cases e0
  injection hv' with e1 e2 e3
  injection e1 with e1
  subst e1; subst e2; subst e3
  simp only [Nat.mul_one] at hcs htake
  have hcell : ∀ j x, l[j]? = some x → w.cell? ((⟨g, of, none⟩ : Addr).add j) = some (.int .u8 x.toNat) := by
    intro j x hj
    rw [add_own, cell_own hh]
    have hjl := (List.getElem?_eq_some_iff.1 hj).1
    have h5 : ((cur.toList.drop of).take l.length)[j]? = vs[j]? := by rw [htake]
    rw [List.getElem?_take_of_lt hjl, List.getElem?_drop, Array.getElem?_toList] at h5
    rw [h5, hvs]
    simp [hj]
  have hsh : w.shape? g = some (el, cur.size) := by simp only [World.shape?, hh]
  have hus := unsafeString_at (P := P) pt it o.type el hp hc g of cur.size hsh l h0 (by omega) (by simp only [maxLen] at hcm; omega) hcell
  have hrun : (execOp a.eval o).run P w = .ok (.value (.string ⟨l.toArray⟩)) (w.freeze ⟨g, of, none⟩ l.length) := by
    obtain ⟨dst', op, type, pos, after, guard⟩ := o
    simp only at ho; subst ho
    have hv2 : a.eval x = .pointer (some ⟨g, of, none⟩) := by rw [hv]; simp [Addr.add]
    simp only [execOp, resolve, invoke, builtin, Sem.run_bind, Sem.run_pure, Result.andThen_ok, List.map_toArray, List.map_cons, List.map_nil, hv2, h2]
    simp only at hus
    rw [hus]
    rfl
  have hsz : w.heap.size ≤ (w.freeze ⟨g, of, none⟩ l.length).heap.size := by
    unfold World.freeze; split <;> simp
  have hbl : ∀ k, k ≠ g → (w.freeze ⟨g, of, none⟩ l.length).heap[k]? = w.heap[k]? := by
    intro k hk
    unfold World.freeze
    split
    · rfl
    · simp only [Array.getElem?_modify]
      rw [if_neg (Ne.symm hk)]
  have hall : (w.freeze ⟨g, of, none⟩ l.length).os = w.os ∧ (w.freeze ⟨g, of, none⟩ l.length).tape = w.tape ∧ (w.freeze ⟨g, of, none⟩ l.length).output = w.output := by
    unfold World.freeze; split <;> exact ⟨rfl, rfl, rfl⟩
  have hf : foot e i g := ⟨_, hm, rfl⟩
  have hon : Only (fun k => ∃ j, Nat.beq j i = true ∧ has H j ∧ foot e j k) w (w.freeze ⟨g, of, none⟩ l.length) :=
    ⟨hall.1, hall.2.1, hall.2.2, hsz, fun k hk hn => hbl k fun e' => hn ⟨i, by simp, by simp [has, hi], e' ▸ hf⟩⟩
  have hsame : Same e.pub w (w.freeze ⟨g, of, none⟩ l.length) := fun k hk hl => hon.block k hl (by rintro ⟨j, _, h2, h3⟩; exact hok.hp.npub j k h2 h3 hk)
  have r5 := hok.frame (r := fun k => Nat.beq k i) (s := fun k => Nat.beq k i) (fun _ h => h) (e' := e) (w' := w.freeze ⟨g, of, none⟩ l.length) (H' := []) 0 (by simp) hon (G.dm (run_drawn hrun))
    (fun j v h _ => h) (fun _ h => h) (fun _ h => .inl h)
    ⟨fun j o' hj => (by cases hj), fun j j' k hj => (by cases hj), fun j k hj => (by cases hj), fun k hk => Nat.lt_of_lt_of_le (hok.hp.pubLt k hk) hsz⟩ (fun j k hj => (by cases hj))
  rw [hrun]
  obtain ⟨st', g1, g2, _⟩ := putK_sound (v := .string ⟨l.toArray⟩) r5 (by simp only [RepSV, RepD]) hk
  exact ⟨e, st', ⟨fun h => by (cases h), ⟨fun _ h => h, hsame, hsz⟩⟩, g1, g2⟩
/-- An operation whose value is known. -/
theorem valKC {kp : Bool} {o : Oper} {st : St} {K : SExit → St → Prop} (v : Value) (h : ∀ (a : Act) (w : World), (execOp a.eval o).run P w = .ok (.value v) w) (hk : putK N o.dst (.d (.val v)) st (K .normal)) : OpC P b N kp o st K :=
  valC _ (fun _ a w _ => ⟨v, by simp only [RepSV, RepD], h a w⟩) hk
/-- An element of a known array. -/
theorem idxKC {kp : Bool} {o : Oper} {st : St} {K : SExit → St → Prop} {t el : TypeId} {len : Nat} {x ix : Operand} {cs : Array Value} {k : IntKind} {j : Int} (s : ByteArray) (ho : o.op = .index t x ix) (hx : ev st.T x = some (.d (.val (.agg cs)))) (hi : ev st.T ix = some (.d (.int k j))) (hu : P.underlying t = some (.array len el)) (h : ∀ w : World, (Instr.index t (.agg cs) (.int k j)).run P w = .ok (.string s) w)
    (hk : putK N o.dst (.d (.str s)) st (K .normal)) : OpC P b N kp o st K := by
  refine valC _ (fun e a w hok => ⟨.string s, by simp only [RepSV, RepD], ?_⟩) hk
  have h1 := hok.tmok _ _ hx
  have h2 := hok.tmok _ _ hi
  simp only [RepSV, RepD] at h1 h2
  obtain ⟨dst', op, type, pos, after, guard⟩ := o
  simp only at ho; subst ho
  simp only [execOp]
  refine run_val ?_
  rw [h1, h2]
  exact h w
end
end Go.Vx

/- Elements of arrays. -/
set_option linter.unusedVariables false
set_option linter.unusedSimpArgs false
namespace Go.Vx
open Go.RowKit Go.Vc
section
variable {P : Program} {ty : List (Nat × TY)} {G : Glob} {n0 : Nat} {b : Bs G n0} {N : Nat}
theorem idxAC (hty : Tys P ty) {kp : Bool} {o : Oper} {st : St} {K : SExit → St → Prop} {t el : TypeId} {len : Nat} {ye : TY} {x ix : Operand} {l : List SV} {k : IntKind} (i : Nat) (sv : SV) (ho : o.op = .index t x ix) (hx : ev st.T x = some (.agg l)) (hi : ev st.T ix = some (.d (.int k (i : Int)))) (hu : P.underlying t = some (.array len el)) (hlt : i < len) (hye : lk ty el = some ye) (hag : ye.i.agg = false) (hsz : ye.i.size = 1) (hl : l[i]? = some sv)
    (hk : putK N o.dst sv st (K .normal)) : OpC P b N kp o st K := by
  refine valC _ (fun e a w hok => ?_) hk
  have h1 := hok.tmok _ _ hx
  have h2 := hok.tmok _ _ hi
  simp only [RepSV, RepD] at h1 h2
  obtain ⟨l', h1, h3⟩ := h1
  obtain ⟨v, hv, hr⟩ := h3.get hl
  refine ⟨v, hr, ?_⟩
  obtain ⟨dst', op, type, pos, after, guard⟩ := o
  simp only at ho; subst ho
  simp only [execOp]
  refine run_val ?_
  rw [h1, h2]
  have hA := run_isAgg (w := w) (hty el ye hye).i
  have hS := Go.Vc.run_sizeOf (w := w) (hty el ye hye).i
  rw [hag] at hA
  rw [hsz] at hS
  have hv : l'[i]? = some v := by rw [← Array.getElem?_toList]; exact hv
  simp only [Instr.index, asIntOf, Sem.run_bind, Sem.run_pure, Result.andThen_ok, Go.run_underlying hu, part, hS, hA]
  rw [if_pos ⟨by omega, by omega⟩]
  simp only [Sem.run_bind, hS, hA, Result.andThen_ok, Bool.false_eq_true, if_false, Int.toNat_natCast, Nat.mul_one, hv, Sem.run_pure]
theorem idxAA (hty : Tys P ty) {kp : Bool} {o : Oper} {st : St} {K : SExit → St → Prop} {t el : TypeId} {len sz : Nat} {ye : TY} {x ix : Operand} {l r : List SV} {k : IntKind} (i : Nat) (ho : o.op = .index t x ix) (hx : ev st.T x = some (.agg l)) (hi : ev st.T ix = some (.d (.int k (i : Int)))) (hu : P.underlying t = some (.array len el)) (hlt : i < len) (hye : lk ty el = some ye) (hag : ye.i.agg = true) (hsz : ye.i.size = sz) (hr : (l.drop (i * sz)).take sz = r)
    (hk : putK N o.dst (.agg r) st (K .normal)) : OpC P b N kp o st K := by
  refine valC _ (fun e a w hok => ?_) hk
  have h1 := hok.tmok _ _ hx
  have h2 := hok.tmok _ _ hi
  simp only [RepSV, RepD] at h1 h2
  obtain ⟨l', h1, h3⟩ := h1
  have h4 : RepSVs e w r ((l'.toList.drop (i * sz)).take sz) := by
    have hlen := h3.len
    refine RepSVs.mk ?_ ?_
    · rw [← hr]; simp [hlen]
    · intro j x' v' q1 q2
      rw [← hr, List.getElem?_take] at q1
      rw [List.getElem?_take] at q2
      split at q1
      · rename_i hj
        rw [if_pos hj] at q2
        rw [List.getElem?_drop] at q1 q2
        obtain ⟨v2, g1, g2⟩ := h3.get q1
        rw [q2] at g1; injection g1 with g1; subst g1
        exact g2
      · cases q1
  refine ⟨.agg ((l'.toList.drop (i * sz)).take sz).toArray, by simp only [RepSV]; exact ⟨_, rfl, h4⟩, ?_⟩
  obtain ⟨dst', op, type, pos, after, guard⟩ := o
  simp only at ho; subst ho
  simp only [execOp]
  refine run_val ?_
  rw [h1, h2]
  have hA := run_isAgg (w := w) (hty el ye hye).i
  have hS := Go.Vc.run_sizeOf (w := w) (hty el ye hye).i
  rw [hag] at hA
  rw [hsz] at hS
  simp [Instr.index, asIntOf, Go.run_underlying hu, part, hS, hA, hlt]
  apply Array.ext'
  simp [Array.toList_extract, List.extract_eq_take_drop]
end
end Go.Vx

