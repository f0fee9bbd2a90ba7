/- Laws of operations: maps, assertions of types, slices cut, structs compared. -/
import Derived.Test.YtohmeplcjgmedaaDoorVxu
namespace Go.Vx
open Go.RowKit Go.Vc
set_option linter.unusedVariables false
set_option linter.unusedSimpArgs false

section
variable {P : Program} {w : World} {t k e : TypeId}
/-- What is told of a map's type. -/
structure MapTy (P : Program) (t k e : TypeId) : Prop where
  t : P.underlying t = some (.map k e)
  k : P.underlying k = some .string
  z : ∀ w, (zeroValue e).run P w = .ok (.int .i64 0) w
theorem run_lookM (M : MapTy P t k e) {mp : ByteArray → Option Int} {v : Value} {g : Nat} {o : Obj} (hv : v = .map (some g)) (hg : w.heap[g]? = some o) (hm : MapIs mp v o) (s : ByteArray) (ok : Bool) :
    (Instr.lookup t v (.string s) ok).run P w = .ok (if ok then .tuple #[.int .i64 ((mp s).getD 0), .bool (mp s).isSome] else .int .i64 ((mp s).getD 0)) w := by
  obtain ⟨g', l, c, hv', rfl, hnd, hat⟩ := hm
  rw [hv'] at hv; injection hv with hv; injection hv with hv; subst hv
  subst hv'
  have hf : Instr.findNow .string (.string s) (l.map enM) 0 = some (match mp s with | some n => (match Instr.findNow .string (.string s) (l.map enM) 0 with | some r => r | none => none) | none => none) := by
    by_cases hs : s ∈ keysM l
    · obtain ⟨l1, n, k', l2, rfl, h1⟩ := splitM hs
      rw [← hat s, atM_app h1, findNow_app 0 h1]
    · rw [← hat s, atM_none hs, findNow_none 0 hs]
  unfold Instr.lookup
  simp only [Sem.run_bind, run_under M.t, Result.andThen_ok, run_getMap hg, Sem.run_pure, run_checkKey M.k]
  by_cases hs : s ∈ keysM l
  · obtain ⟨l1, n, k', l2, rfl, h1⟩ := splitM hs
    rw [run_findKey M.k (findNow_app 0 h1), ← hat s, atM_app h1]
    simp only [Result.andThen_ok, Sem.run_pure, Option.getD_some, Option.isSome_some]
    cases ok <;> rfl
  · rw [run_findKey M.k (by simpa using findNow_none 0 hs), ← hat s, atM_none hs]
    simp only [Result.andThen_ok, Sem.run_bind, M.z, Sem.run_pure, Option.getD_none, Option.isSome_none]
    first | done | (cases ok <;> rfl)
theorem run_updM (M : MapTy P t k e) {mp : ByteArray → Option Int} {v : Value} {g : Nat} {o : Obj} (hv : v = .map (some g)) (hg : w.heap[g]? = some o) (hm : MapIs mp v o) (s : ByteArray) (n : Int) :
    ∃ o', (Instr.mapUpdate t v (.string s) (.int .i64 n)).run P w = .ok () { w with heap := w.heap.set! g o' } ∧ MapIs (updM mp s n) v o' := by
  obtain ⟨g', l, c, hv', rfl, hnd, hat⟩ := hm
  rw [hv'] at hv; injection hv with hv; injection hv with hv; subst hv
  subst hv'
  by_cases hs : s ∈ keysM l
  · obtain ⟨l1, n', k', l2, rfl, h1⟩ := splitM hs
    refine ⟨.map (((l1 ++ ((s, n), k') :: l2).map enM).toArray) c, ?_, _, _, _, rfl, rfl, by simpa [keysM] using hnd, fun x => ?_⟩
    · unfold Instr.mapUpdate
      simp only [Sem.run_bind, run_under M.t, Result.andThen_ok, run_getMap hg, Sem.run_pure, run_checkKey M.k]
      rw [run_findKey M.k (by simpa using findNow_app (n := n') (k := k') (r := l2) 0 h1)]
      simp only [Result.andThen_ok, Sem.run_bind, Nat.zero_add]
      have hget : ((l1 ++ ((s, n'), k') :: l2).map enM).toArray[l1.length]? = some (enM ((s, n'), k')) := by simp
      have hks : ∀ old : Value, old = .string s → (Instr.keyThatStays old (.string s)).run P w = .ok (.string s) w := by
        rintro old rfl
        unfold Instr.keyThatStays
        have : Instr.sameBits 10000 (.string s) (.string s) = true := by
          rw [show (10000 : Nat) = 9999 + 1 from rfl, Instr.sameBits]; exact beqB.2 rfl
        rw [if_pos this]; rfl
      have hk : (Instr.keyThatStays (((((l1 ++ ((s, n'), k') :: l2).map enM).toArray[l1.length]?).map (·.key)).getD (.string s)) (.string s)).run P w = .ok (.string s) w :=
        hks _ (by rw [hget]; rfl)
      rw [hk]
      simp only [Result.andThen_ok]
      rw [run_setMap _ hg]
      have hmod : (List.map enM (l1 ++ ((s, n'), k') :: l2)).toArray.modify l1.length (fun e => { e with key := Value.string s, val := Value.int IntKind.i64 n }) = (List.map enM (l1 ++ ((s, n), k') :: l2)).toArray := by
        apply Array.ext'
        rw [Array.toList_modify]
        simp only [List.map_append, List.map_cons]
        rw [List.modify_eq_take_cons_drop (by simp)]
        have hdr : ∀ (x : MapEntry), List.drop (l1.length + 1) (List.map enM l1 ++ x :: List.map enM l2) = List.map enM l2 := fun x => by
          rw [show l1.length + 1 = (List.map enM l1 ++ [x]).length from by simp, show List.map enM l1 ++ x :: List.map enM l2 = (List.map enM l1 ++ [x]) ++ List.map enM l2 from by simp, List.drop_left]
        simp only [hdr]
        simp [enM]
      rw [hmod]
    · unfold updM
      by_cases e' : x = s
      · subst e'; rw [if_pos rfl, atM_app h1]
      · rw [if_neg e', ← hat x, atM_other e', atM_other e']
  · refine ⟨.map (((l ++ [((s, n), c)]).map enM).toArray) (c + 1), ?_, _, _, _, rfl, rfl, ?_, fun x => ?_⟩
    · unfold Instr.mapUpdate
      simp only [Sem.run_bind, run_under M.t, Result.andThen_ok, run_getMap hg, Sem.run_pure, run_checkKey M.k]
      rw [run_findKey M.k (by simpa using findNow_none 0 hs)]
      simp only [Result.andThen_ok]
      rw [run_setMap _ hg]
      have hpush : (List.map enM l).toArray.push { key := Value.string s, val := Value.int IntKind.i64 n, born := c } = (List.map enM (l ++ [((s, n), c)])).toArray := by
        apply Array.ext'
        simp [enM]
      rw [hpush]
    · unfold keysM at *
      rw [List.map_append, List.nodup_append]
      exact ⟨hnd, by simp, fun a ha b hb => by simp at hb; subst hb; rintro rfl; exact hs ha⟩
    · unfold updM
      by_cases e' : x = s
      · subst e'; rw [if_pos rfl, atM_app hs]
      · rw [if_neg e', ← hat x, atM_other e', List.append_nil]
theorem run_delM (M : MapTy P t k e) {mp : ByteArray → Option Int} {v : Value} {g : Nat} {o : Obj} (hv : v = .map (some g)) (hg : w.heap[g]? = some o) (hm : MapIs mp v o) (s : ByteArray) (ty : TypeId) {ts : Array TypeId} (hts : ts[0]? = some t) :
    ∃ o', (Builtin.delete_ ts ty #[v, .string s]).run P w = .ok (.tuple #[]) { w with heap := w.heap.set! g o' } ∧ MapIs (delM mp s) v o' := by
  obtain ⟨g', l, c, hv', rfl, hnd, hat⟩ := hm
  rw [hv'] at hv; injection hv with hv; injection hv with hv; subst hv
  subst hv'
  by_cases hs : s ∈ keysM l
  · obtain ⟨l1, n', k', l2, rfl, h1⟩ := splitM hs
    refine ⟨.map (((l1 ++ l2).map enM).toArray) c, ?_, _, _, _, rfl, rfl, ?_, fun x => ?_⟩
    · unfold Builtin.delete_
      simp only [hts, show (#[Value.map (some g'), Value.string s] : Array Value)[0]? = some (.map (some g')) from rfl, show (#[Value.map (some g'), Value.string s] : Array Value)[1]? = some (.string s) from rfl]
      simp only [Sem.run_bind, run_under M.t, Result.andThen_ok, run_getMap hg, Sem.run_pure, run_checkKey M.k]
      rw [run_findKey M.k (by simpa using findNow_app (n := n') (k := k') (r := l2) 0 h1)]
      simp only [Result.andThen_ok, Nat.zero_add, Sem.run_bind]
      rw [run_setMap _ hg]
      simp only [Result.andThen_ok]
      have her : (List.map enM (l1 ++ ((s, n'), k') :: l2)).toArray.eraseIdxIfInBounds l1.length = (List.map enM (l1 ++ l2)).toArray := by
        apply Array.ext'
        simp [Array.eraseIdxIfInBounds, List.eraseIdx_append_of_length_le]
      rw [her]
      rfl
    · have : (keysM (l1 ++ ((s, n'), k') :: l2)) = keysM l1 ++ s :: keysM l2 := by simp [keysM]
      rw [this] at hnd
      have := hnd.sublist (List.Sublist.append_left (List.sublist_cons_self s (keysM l2)) (keysM l1))
      simpa [keysM] using this
    · have h2 : s ∉ keysM l2 := by
        have : (keysM (l1 ++ ((s, n'), k') :: l2)) = keysM l1 ++ s :: keysM l2 := by simp [keysM]
        rw [this, List.nodup_append] at hnd
        exact (List.nodup_cons.1 hnd.2.1).1
      unfold delM
      by_cases e' : x = s
      · subst e'
        rw [if_pos rfl]
        exact atM_none (by simp only [keysM, List.map_append, List.mem_append, not_or]; exact ⟨h1, h2⟩)
      · rw [if_neg e', ← hat x, atM_other e']
  · refine ⟨.map ((l.map enM).toArray) c, ?_, _, _, _, rfl, rfl, hnd, fun x => ?_⟩
    · unfold Builtin.delete_
      simp only [hts, show (#[Value.map (some g'), Value.string s] : Array Value)[0]? = some (.map (some g')) from rfl, show (#[Value.map (some g'), Value.string s] : Array Value)[1]? = some (.string s) from rfl]
      simp only [Sem.run_bind, run_under M.t, Result.andThen_ok, run_getMap hg, Sem.run_pure, run_checkKey M.k]
      rw [run_findKey M.k (by simpa using findNow_none 0 hs)]
      simp only [Result.andThen_ok, Sem.run_bind]
      rw [run_setMap _ hg]
      rfl
    · unfold delM
      by_cases e' : x = s
      · subst e'; rw [if_pos rfl, atM_none hs]
      · rw [if_neg e']; exact hat x
end
end Go.Vx
