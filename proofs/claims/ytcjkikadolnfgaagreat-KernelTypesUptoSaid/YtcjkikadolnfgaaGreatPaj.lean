/- Texts of mine, joined: Vxu Vxv Vxw. -/
import Derived.Test.YtcjkikadolnfgaaGreatPai
import Derived.Laws.StructEq
/- Laws: maps from strings to ints. -/
namespace Go.Vx
open Go.RowKit Go.Vc
set_option linter.unusedVariables false
set_option linter.unusedSimpArgs false

theorem toList_inj {a b : ByteArray} (h : a.toList = b.toList) : a = b := by
  rw [ByteArray.toList_eq, ByteArray.toList_eq] at h
  apply ByteArray.ext; apply Array.ext'; exact h
theorem beqB {a b : ByteArray} : (a == b) = true ↔ a = b := by
  rw [Go.beq_toListBytes, beq_iff_eq]
  exact ⟨toList_inj, fun h => by rw [h]⟩
theorem beqB_ne {a b : ByteArray} : (a == b) = false ↔ a ≠ b := by
  rw [← Bool.not_eq_true, beqB]
abbrev Ent := (ByteArray × Int) × Nat
def enM (x : Ent) : MapEntry := { key := .string x.1.1, val := .int .i64 x.1.2, born := x.2 }
def keysM (l : List Ent) : List ByteArray := l.map (·.1.1)
def atM : List Ent → ByteArray → Option Int
  | [], _ => none
  | x :: r, s => if s = x.1.1 then some x.1.2 else atM r s
/-- A map's block, by what it tells. -/
def MapIs (mp : ByteArray → Option Int) (v : Value) (o : Obj) : Prop :=
  ∃ g l clock, v = .map (some g) ∧ o = .map (l.map enM).toArray clock ∧ (keysM l).Nodup ∧ ∀ s, atM l s = mp s
def updM (mp : ByteArray → Option Int) (s : ByteArray) (n : Int) : ByteArray → Option Int := fun t => if t = s then some n else mp t
def delM (mp : ByteArray → Option Int) (s : ByteArray) : ByteArray → Option Int := fun t => if t = s then none else mp t

theorem atM_none {s : ByteArray} : ∀ {l : List Ent}, s ∉ keysM l → atM l s = none
  | [], _ => rfl
  | x :: r, h => by
    simp only [keysM, List.map_cons, List.mem_cons, not_or] at h
    rw [atM, if_neg h.1]; exact atM_none h.2
theorem atM_app {s : ByteArray} {n : Int} {k : Nat} : ∀ {l r : List Ent}, s ∉ keysM l → atM (l ++ ((s, n), k) :: r) s = some n
  | [], r, _ => by simp [atM]
  | x :: l, r, h => by
    simp only [keysM, List.map_cons, List.mem_cons, not_or] at h
    rw [List.cons_append, atM, if_neg h.1]; exact atM_app h.2
theorem atM_other {s t : ByteArray} {n : Int} {k : Nat} (ht : t ≠ s) : ∀ {l r : List Ent}, atM (l ++ ((s, n), k) :: r) t = atM (l ++ r) t
  | [], r => by simp [atM, ht]
  | x :: l, r => by
    simp only [List.cons_append, atM]
    rw [atM_other ht]
theorem findNow_none {s : ByteArray} : ∀ {l : List Ent} (i : Nat), s ∉ keysM l → Instr.findNow .string (.string s) (l.map enM) i = some none
  | [], i, _ => rfl
  | x :: r, i, h => by
    simp only [keysM, List.map_cons, List.mem_cons, not_or] at h
    simp only [List.map_cons, Instr.findNow, enM, Instr.sameNow]
    rw [beqB_ne.2 h.1]
    exact findNow_none (i + 1) h.2
theorem findNow_app {s : ByteArray} {n : Int} {k : Nat} : ∀ {l r : List Ent} (i : Nat), s ∉ keysM l → Instr.findNow .string (.string s) ((l ++ ((s, n), k) :: r).map enM) i = some (some (i + l.length, .int .i64 n))
  | [], r, i, _ => by
    simp only [List.nil_append, List.map_cons, Instr.findNow, enM, Instr.sameNow]
    rw [beqB.2 rfl]; rfl
  | x :: l, r, i, h => by
    simp only [keysM, List.map_cons, List.mem_cons, not_or] at h
    simp only [List.cons_append, List.map_cons, Instr.findNow, enM, Instr.sameNow]
    rw [beqB_ne.2 h.1]
    have := findNow_app (s := s) (n := n) (k := k) (l := l) (r := r) (i + 1) h.2
    refine (show _ = Instr.findNow .string (.string s) ((l ++ ((s, n), k) :: r).map enM) (i + 1) from rfl).trans (this.trans ?_)
    simp only [List.length_cons]
    congr 3; omega
theorem splitM {s : ByteArray} : ∀ {l : List Ent}, s ∈ keysM l → ∃ l1 n k l2, l = l1 ++ ((s, n), k) :: l2 ∧ s ∉ keysM l1
  | x :: r, h => by
    by_cases e : s = x.1.1
    · obtain ⟨⟨a, n⟩, k⟩ := x
      simp only at e; subst e
      exact ⟨[], n, k, r, rfl, by simp [keysM]⟩
    · have h' : s ∈ keysM r := by
        simp only [keysM, List.map_cons, List.mem_cons] at h
        exact h.resolve_left e
      obtain ⟨l1, n, k, l2, rfl, h2⟩ := splitM h'
      exact ⟨x :: l1, n, k, l2, rfl, by simp only [keysM, List.map_cons, List.mem_cons, not_or]; exact ⟨e, h2⟩⟩
section
variable {P : Program} {w : World} {t k e : TypeId}
theorem run_checkKey (hk : P.underlying k = some .string) (b : Bool) (s : ByteArray) : (Instr.checkKey b 10000 k (.string s)).run P w = .ok () w := by
  rw [show (10000 : Nat) = 9999 + 1 from rfl, Instr.checkKey, Sem.run_bind, run_under hk]
  rfl
theorem run_findKey (hk : P.underlying k = some .string) {s : ByteArray} {es : List MapEntry} {r : Option (Nat × Value)} (h : Instr.findNow .string (.string s) es 0 = some r) : (Instr.findKey k (.string s) es).run P w = .ok r w := by
  unfold Instr.findKey
  rw [Sem.run_bind, run_under hk]
  simp only [Result.andThen_ok, h]
  rfl
theorem run_getMap {g : Nat} {es : Array MapEntry} {c : Nat} (h : w.heap[g]? = some (.map es c)) : (getObj g).run P w = .ok (.map es c) w := by
  simp [getObj, Sem.run, h]
theorem run_setMap {g : Nat} {es : Array MapEntry} {c : Nat} (o : Obj) (h : w.heap[g]? = some (.map es c)) : (setObj g o).run P w = .ok () { w with heap := w.heap.set! g o } := by
  simp [setObj, Sem.run, h]
end
end Go.Vx

/- Laws of operations: maps, assertions of types, slices cut, structs compared. -/
namespace Go.Vx
open Go.RowKit Go.Vc
set_option linter.unusedVariables false
set_option linter.unusedSimpArgs false

section
variable {P : Program} {w : World} {t k e : TypeId}
/-- What is told of a map's type. -/
structure MapTy (P : Program) (t k e : TypeId) : Prop where
  t : P.underlying t = some (.map k e)
  k : P.underlying k = some .string
  z : ∀ w, (zeroValue e).run P w = .ok (.int .i64 0) w
theorem run_lookM (M : MapTy P t k e) {mp : ByteArray → Option Int} {v : Value} {g : Nat} {o : Obj} (hv : v = .map (some g)) (hg : w.heap[g]? = some o) (hm : MapIs mp v o) (s : ByteArray) (ok : Bool) :
    (Instr.lookup t v (.string s) ok).run P w = .ok (if ok then .tuple #[.int .i64 ((mp s).getD 0), .bool (mp s).isSome] else .int .i64 ((mp s).getD 0)) w := by
  obtain ⟨g', l, c, hv', rfl, hnd, hat⟩ := hm
  rw [hv'] at hv; injection hv with hv; injection hv with hv; subst hv
  subst hv'
  have hf : Instr.findNow .string (.string s) (l.map enM) 0 = some (match mp s with | some n => (match Instr.findNow .string (.string s) (l.map enM) 0 with | some r => r | none => none) | none => none) := by
    by_cases hs : s ∈ keysM l
    · obtain ⟨l1, n, k', l2, rfl, h1⟩ := splitM hs
      rw [← hat s, atM_app h1, findNow_app 0 h1]
    · rw [← hat s, atM_none hs, findNow_none 0 hs]
  unfold Instr.lookup
  simp only [Sem.run_bind, run_under M.t, Result.andThen_ok, run_getMap hg, Sem.run_pure, run_checkKey M.k]
  by_cases hs : s ∈ keysM l
  · obtain ⟨l1, n, k', l2, rfl, h1⟩ := splitM hs
    rw [run_findKey M.k (findNow_app 0 h1), ← hat s, atM_app h1]
    simp only [Result.andThen_ok, Sem.run_pure, Option.getD_some, Option.isSome_some]
    cases ok <;> rfl
  · rw [run_findKey M.k (by simpa using findNow_none 0 hs), ← hat s, atM_none hs]
    simp only [Result.andThen_ok, Sem.run_bind, M.z, Sem.run_pure, Option.getD_none, Option.isSome_none]
    first | done | (cases ok <;> rfl)
theorem run_updM (M : MapTy P t k e) {mp : ByteArray → Option Int} {v : Value} {g : Nat} {o : Obj} (hv : v = .map (some g)) (hg : w.heap[g]? = some o) (hm : MapIs mp v o) (s : ByteArray) (n : Int) :
    ∃ o', (Instr.mapUpdate t v (.string s) (.int .i64 n)).run P w = .ok () { w with heap := w.heap.set! g o' } ∧ MapIs (updM mp s n) v o' := by
  obtain ⟨g', l, c, hv', rfl, hnd, hat⟩ := hm
  rw [hv'] at hv; injection hv with hv; injection hv with hv; subst hv
  subst hv'
  by_cases hs : s ∈ keysM l
  · obtain ⟨l1, n', k', l2, rfl, h1⟩ := splitM hs
    refine ⟨.map (((l1 ++ ((s, n), k') :: l2).map enM).toArray) c, ?_, _, _, _, rfl, rfl, by simpa [keysM] using hnd, fun x => ?_⟩
    · unfold Instr.mapUpdate
      simp only [Sem.run_bind, run_under M.t, Result.andThen_ok, run_getMap hg, Sem.run_pure, run_checkKey M.k]
      rw [run_findKey M.k (by simpa using findNow_app (n := n') (k := k') (r := l2) 0 h1)]
      simp only [Result.andThen_ok, Sem.run_bind, Nat.zero_add]
      have hget : ((l1 ++ ((s, n'), k') :: l2).map enM).toArray[l1.length]? = some (enM ((s, n'), k')) := by simp
      have hks : ∀ old : Value, old = .string s → (Instr.keyThatStays old (.string s)).run P w = .ok (.string s) w := by
        rintro old rfl
        unfold Instr.keyThatStays
        have : Instr.sameBits 10000 (.string s) (.string s) = true := by
          rw [show (10000 : Nat) = 9999 + 1 from rfl, Instr.sameBits]; exact beqB.2 rfl
        rw [if_pos this]; rfl
      have hk : (Instr.keyThatStays (((((l1 ++ ((s, n'), k') :: l2).map enM).toArray[l1.length]?).map (·.key)).getD (.string s)) (.string s)).run P w = .ok (.string s) w :=
        hks _ (by rw [hget]; rfl)
      rw [hk]
      simp only [Result.andThen_ok]
      rw [run_setMap _ hg]
      have hmod : (List.map enM (l1 ++ ((s, n'), k') :: l2)).toArray.modify l1.length (fun e => { e with key := Value.string s, val := Value.int IntKind.i64 n }) = (List.map enM (l1 ++ ((s, n), k') :: l2)).toArray := by
        apply Array.ext'
        rw [Array.toList_modify]
        simp only [List.map_append, List.map_cons]
        rw [List.modify_eq_take_cons_drop (by simp)]
        have hdr : ∀ (x : MapEntry), List.drop (l1.length + 1) (List.map enM l1 ++ x :: List.map enM l2) = List.map enM l2 := fun x => by
          rw [show l1.length + 1 = (List.map enM l1 ++ [x]).length from by simp, show List.map enM l1 ++ x :: List.map enM l2 = (List.map enM l1 ++ [x]) ++ List.map enM l2 from by simp, List.drop_left]
        simp only [hdr]
        simp [enM]
      rw [hmod]
    · unfold updM
      by_cases e' : x = s
      · subst e'; rw [if_pos rfl, atM_app h1]
      · rw [if_neg e', ← hat x, atM_other e', atM_other e']
  · refine ⟨.map (((l ++ [((s, n), c)]).map enM).toArray) (c + 1), ?_, _, _, _, rfl, rfl, ?_, fun x => ?_⟩
    · unfold Instr.mapUpdate
      simp only [Sem.run_bind, run_under M.t, Result.andThen_ok, run_getMap hg, Sem.run_pure, run_checkKey M.k]
      rw [run_findKey M.k (by simpa using findNow_none 0 hs)]
      simp only [Result.andThen_ok]
      rw [run_setMap _ hg]
      have hpush : (List.map enM l).toArray.push { key := Value.string s, val := Value.int IntKind.i64 n, born := c } = (List.map enM (l ++ [((s, n), c)])).toArray := by
        apply Array.ext'
        simp [enM]
      rw [hpush]
    · unfold keysM at *
      rw [List.map_append, List.nodup_append]
      exact ⟨hnd, by simp, fun a ha b hb => by simp at hb; subst hb; rintro rfl; exact hs ha⟩
    · unfold updM
      by_cases e' : x = s
      · subst e'; rw [if_pos rfl, atM_app hs]
      · rw [if_neg e', ← hat x, atM_other e', List.append_nil]
theorem run_delM (M : MapTy P t k e) {mp : ByteArray → Option Int} {v : Value} {g : Nat} {o : Obj} (hv : v = .map (some g)) (hg : w.heap[g]? = some o) (hm : MapIs mp v o) (s : ByteArray) (ty : TypeId) {ts : Array TypeId} (hts : ts[0]? = some t) :
    ∃ o', (Builtin.delete_ ts ty #[v, .string s]).run P w = .ok (.tuple #[]) { w with heap := w.heap.set! g o' } ∧ MapIs (delM mp s) v o' := by
  obtain ⟨g', l, c, hv', rfl, hnd, hat⟩ := hm
  rw [hv'] at hv; injection hv with hv; injection hv with hv; subst hv
  subst hv'
  by_cases hs : s ∈ keysM l
  · obtain ⟨l1, n', k', l2, rfl, h1⟩ := splitM hs
    refine ⟨.map (((l1 ++ l2).map enM).toArray) c, ?_, _, _, _, rfl, rfl, ?_, fun x => ?_⟩
    · unfold Builtin.delete_
      simp only [hts, show (#[Value.map (some g'), Value.string s] : Array Value)[0]? = some (.map (some g')) from rfl, show (#[Value.map (some g'), Value.string s] : Array Value)[1]? = some (.string s) from rfl]
      simp only [Sem.run_bind, run_under M.t, Result.andThen_ok, run_getMap hg, Sem.run_pure, run_checkKey M.k]
      rw [run_findKey M.k (by simpa using findNow_app (n := n') (k := k') (r := l2) 0 h1)]
      simp only [Result.andThen_ok, Nat.zero_add, Sem.run_bind]
      rw [run_setMap _ hg]
      simp only [Result.andThen_ok]
      have her : (List.map enM (l1 ++ ((s, n'), k') :: l2)).toArray.eraseIdxIfInBounds l1.length = (List.map enM (l1 ++ l2)).toArray := by
        apply Array.ext'
        simp [Array.eraseIdxIfInBounds, List.eraseIdx_append_of_length_le]
      rw [her]
      rfl
    · have : (keysM (l1 ++ ((s, n'), k') :: l2)) = keysM l1 ++ s :: keysM l2 := by simp [keysM]
      rw [this] at hnd
      have := hnd.sublist (List.Sublist.append_left (List.sublist_cons_self s (keysM l2)) (keysM l1))
      simpa [keysM] using this
    · have h2 : s ∉ keysM l2 := by
        have : (keysM (l1 ++ ((s, n'), k') :: l2)) = keysM l1 ++ s :: keysM l2 := by simp [keysM]
        rw [this, List.nodup_append] at hnd
        exact (List.nodup_cons.1 hnd.2.1).1
      unfold delM
      by_cases e' : x = s
      · subst e'
        rw [if_pos rfl]
        exact atM_none (by simp only [keysM, List.map_append, List.mem_append, not_or]; exact ⟨h1, h2⟩)
      · rw [if_neg e', ← hat x, atM_other e']
  · refine ⟨.map ((l.map enM).toArray) c, ?_, _, _, _, rfl, rfl, hnd, fun x => ?_⟩
    · unfold Builtin.delete_
      simp only [hts, show (#[Value.map (some g'), Value.string s] : Array Value)[0]? = some (.map (some g')) from rfl, show (#[Value.map (some g'), Value.string s] : Array Value)[1]? = some (.string s) from rfl]
      simp only [Sem.run_bind, run_under M.t, Result.andThen_ok, run_getMap hg, Sem.run_pure, run_checkKey M.k]
      rw [run_findKey M.k (by simpa using findNow_none 0 hs)]
      simp only [Result.andThen_ok, Sem.run_bind]
      rw [run_setMap _ hg]
      rfl
    · unfold delM
      by_cases e' : x = s
      · subst e'; rw [if_pos rfl, atM_none hs]
      · rw [if_neg e']; exact hat x
end
end Go.Vx

/- Laws of operations: maps, assertions of types, slices cut, structs and pointers compared. -/
namespace Go.Vx
open Go.RowKit Go.Vc
set_option linter.unusedVariables false
set_option linter.unusedSimpArgs false

section
variable {P : Program} {G : Glob} {ty : List (Nat × TY)} {N n0 : Nat} {b : Bs G n0}

theorem ab_get {e : Env} {w : World} {i : Nat} {mp : ByteArray → Option Int} {v : Value} (h : ObOk e w i (.ab (abP (MapIs mp)))) (hv : e.m[i]? = some v) : ∃ g o, v = .map (some g) ∧ w.heap[g]? = some o ∧ MapIs mp v o := by
  obtain ⟨v', g, o, h1, h2, h3, h4, h5⟩ := h
  rw [hv] at h1; injection h1 with h1; subst h1
  have h5' := h5
  obtain ⟨g', l, c, rfl, _⟩ := h5
  simp only [footB] at h2
  injection h2 with h2; subst h2
  exact ⟨g', o, rfl, h4, h5'⟩
/-- v, ok := m[s]. -/
theorem lkpC {t k e : TypeId} (M : MapTy P t k e) {kp : Bool} {o : Oper} {st : St} {K : SExit → St → Prop} {m x : Operand} {i : Nat} {mp : ByteArray → Option Int} {s : ByteArray} (n : Int) (r : Bool) (ho : o.op = .lookup t m x true) (hm : ev st.T m = some (.nm i)) (hi : lk st.H i = some (.ab (abP (MapIs mp)))) (hx : ev st.T x = some (.d (.str s)))
    (hn : (mp s).getD 0 = n) (hr : (mp s).isSome = r) (hk : putK N o.dst (.tup [.d (.int .i64 n), .d (.bool r)]) st (K .normal)) : OpC P b N kp o st K := by
  subst hn; subst hr
  refine valC _ (fun e' a w hok => ?_) hk
  have h1 := hok.tmok _ _ hm
  have h2 := hok.tmok _ _ hx
  simp only [RepSV, RepD] at h1 h2
  obtain ⟨g, hv, hme⟩ := h1
  obtain ⟨g', o', hv', hg, hM⟩ := ab_get (hok.hp.ob _ _ hi) hme
  refine ⟨.tuple #[.int .i64 ((mp s).getD 0), .bool (mp s).isSome], ?_, ?_⟩
  · simp only [RepSV, RepSVs, RepD]
    exact ⟨_, rfl, _, _, rfl, rfl, _, _, rfl, rfl, rfl⟩
  · obtain ⟨dst, op, type, pos, after, guard⟩ := o
    simp only at ho; subst ho
    simp only [execOp]
    refine run_val ?_
    rw [h2]
    exact run_lookM M hv' hg hM s true
/-- m[s]. -/
theorem lk1C {t k e : TypeId} (M : MapTy P t k e) {kp : Bool} {o : Oper} {st : St} {K : SExit → St → Prop} {m x : Operand} {i : Nat} {mp : ByteArray → Option Int} {s : ByteArray} (n : Int) (ho : o.op = .lookup t m x false) (hm : ev st.T m = some (.nm i)) (hi : lk st.H i = some (.ab (abP (MapIs mp)))) (hx : ev st.T x = some (.d (.str s)))
    (hn : (mp s).getD 0 = n) (hk : putK N o.dst (.d (.int .i64 n)) st (K .normal)) : OpC P b N kp o st K := by
  subst hn
  refine valC _ (fun e' a w hok => ?_) hk
  have h1 := hok.tmok _ _ hm
  have h2 := hok.tmok _ _ hx
  simp only [RepSV, RepD] at h1 h2
  obtain ⟨g, hv, hme⟩ := h1
  obtain ⟨g', o', hv', hg, hM⟩ := ab_get (hok.hp.ob _ _ hi) hme
  refine ⟨.int .i64 ((mp s).getD 0), by simp only [RepSV, RepD], ?_⟩
  obtain ⟨dst, op, type, pos, after, guard⟩ := o
  simp only at ho; subst ho
  simp only [execOp]
  refine run_val ?_
  rw [h2]
  exact run_lookM M hv' hg hM s false
/-- A map's block is another one now. -/
theorem Ok.setMap {e : Env} {st : St} {a : Act} {w : World} (h : Ok b N e st a w) {i g : Nat} {mp mp' : ByteArray → Option Int} {v : Value} {o o' : Obj} (hi : lk st.H i = some (.ab (abP (MapIs mp)))) (hv : e.m[i]? = some v) (hvg : v = .map (some g)) (hg : w.heap[g]? = some o) (hm : MapIs mp' v o') :
    Ok b N e ⟨st.T, (i, .ab (abP (MapIs mp'))) :: without (Nat.beq i) st.H, st.n⟩ a { w with heap := w.heap.set! g o' } ∧ Kept e w e { w with heap := w.heap.set! g o' } ∧ Agr e st.H w { w with heap := w.heap.set! g o' } := by
  have hlt : g < w.heap.size := (Array.getElem?_eq_some_iff.1 hg).1
  have hfoot : foot e i g := ⟨v, hv, by rw [hvg]; rfl⟩
  have hot : ∀ k, k ≠ g → (w.heap.set! g o')[k]? = w.heap[k]? := fun k hk => by
    rw [Array.set!_eq_setIfInBounds, Array.getElem?_setIfInBounds_ne (Ne.symm hk)]
  obtain ⟨h1, h2, h3⟩ := h.setOb (i := i) (o := .ab (abP (MapIs mp'))) (w' := { w with heap := w.heap.set! g o' }) (by simp [has, hi])
    ⟨rfl, rfl, rfl, by simp, fun k hk hn => hot k fun e' => hn (by rw [e']; exact hfoot)⟩ (Nat.le_refl _)
    (fun _ => ⟨v, g, o', hv, by rw [hvg]; rfl, (fun A n c e' => by rw [hvg] at e'; cases e'), by simp [hlt], hm⟩)
  refine ⟨h1, h2, h2.same, fun j t cs k hj hk => h3 j k (by simp [has, hj]) (by rintro rfl; rw [hi] at hj; cases hj) hk⟩
/-- m[s] = n. -/
theorem updC {t k e : TypeId} (M : MapTy P t k e) {kp : Bool} {o : Oper} {st : St} {K : SExit → St → Prop} {m x y : Operand} {i : Nat} {mp : ByteArray → Option Int} {s : ByteArray} {n : Int} (mp' : ByteArray → Option Int) (ho : o.op = .mapUpdate t m x y) (hm : ev st.T m = some (.nm i)) (hi : lk st.H i = some (.ab (abP (MapIs mp)))) (hx : ev st.T x = some (.d (.str s))) (hy : ev st.T y = some (.d (.int .i64 n)))
    (hn : updM mp s n = mp') (hk : match st with
      | ⟨T, H, q⟩ => withoutK (Nat.beq i) H fun H' => putK N o.dst .any ⟨T, (i, .ab (abP (MapIs mp'))) :: H', q⟩ (K .normal)) : OpC P b N kp o st K := by
  subst hn
  obtain ⟨T, H, q⟩ := st
  simp only [withoutK_eq] at hk
  refine ⟨fun e' a w hok => ?_⟩
  have h1 := hok.tmok _ _ hm
  have h2 := hok.tmok _ _ hx
  have h3 := hok.tmok _ _ hy
  simp only [RepSV, RepD] at h1 h2 h3
  obtain ⟨g, hv, hme⟩ := h1
  obtain ⟨g', o', hv', hg, hM⟩ := ab_get (hok.hp.ob _ _ hi) hme
  obtain ⟨o2, hrun, hM2⟩ := run_updM M hv' hg hM s n
  obtain ⟨k1, k2, k3⟩ := hok.setMap hi hme hv' hg hM2
  obtain ⟨st', g1, g2, _⟩ := putK_sound (v := undef) k1 (by simp only [RepSV]) hk
  have hr : (execOp a.eval o).run P w = .ok .skip { w with heap := w.heap.set! g' o2 } := by
    obtain ⟨dst, op, type, pos, after, guard⟩ := o
    simp only at ho; subst ho
    simp only [execOp, Sem.run_bind]
    rw [h2, h3, hrun]
    rfl
  rw [hr]
  exact ⟨e', st', .of ⟨k2, k3⟩, g1, g2⟩
/-- delete(m, s). -/
theorem delC {t k e : TypeId} (M : MapTy P t k e) {kp : Bool} {o : Oper} {st : St} {K : SExit → St → Prop} {m x : Operand} {i : Nat} {mp : ByteArray → Option Int} {s : ByteArray} {t' : TypeId} (mp' : ByteArray → Option Int) (ho : o.op = .call { callee := .builtin .delete, args := #[m, x], argTypes := #[t, t'] }) (hm : ev st.T m = some (.nm i)) (hi : lk st.H i = some (.ab (abP (MapIs mp)))) (hx : ev st.T x = some (.d (.str s)))
    (hn : delM mp s = mp') (hk : match st with
      | ⟨T, H, q⟩ => withoutK (Nat.beq i) H fun H' => putK N o.dst .any ⟨T, (i, .ab (abP (MapIs mp'))) :: H', q⟩ (K .normal)) : OpC P b N kp o st K := by
  subst hn
  obtain ⟨T, H, q⟩ := st
  simp only [withoutK_eq] at hk
  refine ⟨fun e' a w hok => ?_⟩
  have h1 := hok.tmok _ _ hm
  have h2 := hok.tmok _ _ hx
  simp only [RepSV, RepD] at h1 h2
  obtain ⟨g, hv, hme⟩ := h1
  obtain ⟨g', o', hv', hg, hM⟩ := ab_get (hok.hp.ob _ _ hi) hme
  obtain ⟨o2, hrun, hM2⟩ := run_delM M hv' hg hM s o.type (ts := #[t, t']) rfl
  obtain ⟨k1, k2, k3⟩ := hok.setMap hi hme hv' hg hM2
  obtain ⟨st', g1, g2, _⟩ := putK_sound (v := .tuple #[]) k1 (by simp only [RepSV]) hk
  have hr : (execOp a.eval o).run P w = .ok (.value (.tuple #[])) { w with heap := w.heap.set! g' o2 } := by
    obtain ⟨dst, op, type, pos, after, guard⟩ := o
    simp only at ho; subst ho
    simp only [execOp, resolve, Sem.run_bind, Sem.run_pure, Result.andThen_ok, invoke, builtin]
    have ea : Array.map a.eval #[m, x] = #[a.eval m, .string s] := by simp [h2]
    rw [ea, hrun]
    rfl
  rw [hr]
  exact ⟨e', st', .of ⟨k2, k3⟩, g1, g2⟩
/-- make(map). -/
theorem mkMapC {t k e : TypeId} (M : MapTy P t k e) {kp : Bool} {o : Oper} {st : St} {K : SExit → St → Prop} (ho : o.op = .makeMap t none)
    (hk : match st with
      | ⟨T, H, q⟩ => putK N o.dst (.nm q) ⟨T, (q, .ab (abP (MapIs fun _ => none))) :: H, q + 1⟩ (K .normal)) : OpC P b N kp o st K := by
  obtain ⟨T, H, q⟩ := st
  refine ⟨fun e' a w hok => ?_⟩
  have hbl : Below w.heap.size w (pushW w (.map #[] 0)) := pushW_below w _
  obtain ⟨e1, ok1, kw, hm, hpb⟩ := hok.addOb (w' := pushW w (.map #[] 0)) (v := .map (some w.heap.size)) (o := .ab (abP (MapIs fun _ => none))) hbl (Nat.le_refl _) (fun k hk => by simp only [footB] at hk; injection hk with hk; omega)
    (fun e2 _ hm => ⟨_, w.heap.size, _, hm, rfl, (fun A n c e' => by cases e'), pushW_new w _, w.heap.size, [], 0, rfl, rfl, by simp [keysM], fun s => rfl⟩)
  obtain ⟨st', g1, g2, _⟩ := putK_sound (v := .map (some w.heap.size)) ok1 (by simp only [RepSV]; exact ⟨_, rfl, hm⟩) hk
  have hr : (execOp a.eval o).run P w = .ok (.value (.map (some w.heap.size))) (pushW w (.map #[] 0)) := by
    obtain ⟨dst, op, type, pos, after, guard⟩ := o
    simp only at ho; subst ho
    simp only [execOp, Option.map_none]
    refine run_val ?_
    unfold Instr.makeMap
    rfl
  rw [hr]
  exact ⟨e1, st', .of ⟨kw, Agr.below hok.hp hbl⟩, g1, g2⟩
end
end Go.Vx

