/- The conditions are enough: single operations. -/
import Derived.Test.YtohmeplcjgmedaaDoorVcd
namespace Go.Vc
open Go.RowKit

section
variable {P : Program} {ty : List (Nat × TI)} {N : Nat} {w0 : Base} {plans : List (Nat × (List Nat × Pl))}

theorem Wd.drew {st : St} {w : World} (h : Wd w0 st w) : Wd w0 st { w with drawn := w.drawn + 1 } where
  below := ⟨h.below.os, h.below.tape, h.below.output, h.below.size, h.below.block⟩
  size := h.size
  pub := h.pub
  ent := h.ent
  entN := h.entN
  inj := h.inj
  row := h.row
  rinj := h.rinj

theorem put_get (a : Act) (d t : Nat) (v : Value) (h : d < a.tmps.size) : (a.put (some d) v).tmps.getD t undef = if d = t then v else a.tmps.getD t undef := by
  simp only [Act.put, Array.getD_eq_getD_getElem?, Array.getElem?_setIfInBounds]
  split
  · rename_i he; subst he; simp
  · rfl
theorem putK_sound' {dst : Option Tmp} {sv : SV} {st : St} {K : St → Prop} {a : Act} {w : World} (h : Ok N w0 st a w) (hk : putK N dst sv st K) : ∃ st', st'.ρ = st.ρ ∧ Ok N w0 st' (a.put dst (den st.ρ sv)) w ∧ K st' := by
  unfold putK at hk
  split at hk
  · exact ⟨st, rfl, h, hk⟩
  · rename_i d
    split at hk
    · rename_i T ρ E R pub s hd
      rw [Nat.blt_eq] at hd
      refine ⟨⟨(d, sv) :: T, ρ, E, R, pub, s⟩, rfl, ⟨?_, h.df, ?_, ?_⟩, hk⟩
      · simp [Act.put, h.sz]
      · intro t sv' ht
        rw [put_get a d t _ (by rw [h.sz]; exact hd)]
        simp only [lk] at ht
        split at ht
        · rename_i e
          rw [if_pos (nbeq.1 e)]
          injection ht with ht; subst ht; rfl
        · rename_i e
          rw [if_neg (nbeq_ne.1 e)]
          exact h.tm t sv' ht
      · exact ⟨h.wd.below, h.wd.size, h.wd.pub, h.wd.ent, h.wd.entN, h.wd.inj, h.wd.row, h.wd.rinj⟩
    · exact hk.elim

theorem putK_sound {dst : Option Tmp} {sv : SV} {st : St} {K : St → Prop} {a : Act} {w : World} (h : Ok N w0 st a w) (hk : putK N dst sv st K) : ∃ st', Ok N w0 st' (a.put dst (den st.ρ sv)) w ∧ K st' := by
  obtain ⟨st', _, h1, h2⟩ := putK_sound' h hk
  exact ⟨st', h1, h2⟩

theorem asBool_run (b : Bool) (w : World) : (asBool (.bool b)).run P w = .ok b w := rfl

theorem pStep_sound (hty : TyOk P ty) {ρ : List Nat} {T : Tl} {E : El} {f : Operand → Value} (hT : TmOk ρ T f) {o : Oper} {K : SV → Prop} {Stb : World → Prop} (h : pStep P ty Stb T E o.op K) :
    ∃ sv, (∀ w, EntOk ρ E w → Stb w → (execOp f o).run P w = .ok (.value (den ρ sv)) w) ∧ K sv := by
  unfold pStep at h
  split at h
  · rename_i sv hsv
    exact ⟨sv, fun w hE _ => pOp_sound hty hT hE hsv, h⟩
  · obtain ⟨dst, op, type, pos, after, guard⟩ := o
    simp only at h
    split at h
    · rename_i t x
      split at h <;> try (exact h.elim)
      rename_i a hx
      obtain ⟨v, hv, hK⟩ := h
      refine ⟨_, fun w hE hS => ?_, hK⟩
      simp only [execOp]
      refine run_val ?_
      rw [hT _ _ hx]
      simp only [den, Instr.loadAt, Instr.sureAddr, Sem.run_bind, Sem.run_pure, Result.andThen_ok]
      exact hv w hS
    · rename_i t x i
      split at h <;> try (exact h.elim)
      rename_i ti hti
      split at h <;> try (exact h.elim)
      rename_i e he
      split at h <;> try (exact h.elim)
      rename_i ei hei
      obtain ⟨y, d, hy, hd, h1, h2, h3, h4, h5, h6, h7, h8⟩ := (hty _ _ hti).get
      rw [he] at h6
      split at h <;> try (exact h.elim)
      · rename_i A n c k j hx hi
        obtain ⟨ad, rfl, hj0, hj1, hK⟩ := h
        refine ⟨_, fun w hE _ => ?_, hK⟩
        simp only [execOp]
        refine run_val ?_
        rw [hT _ _ hx, hT _ _ hi]
        cases d <;> simp only [elB] at h6 <;> try (cases h6; done)
        rename_i e'
        obtain rfl := nbeq.1 h6
        unfold Instr.indexAt
        simp only [den, asIntOf, Sem.run_bind, Sem.run_pure, Result.andThen_ok, run_under hd]
        simp only [Bool.and_false, Bool.false_eq_true, if_false, hj0, hj1, and_self, if_true]
        rw [Sem.run_bind, run_sizeOf (hty _ _ hei)]
        rfl
      · rename_i k n c k' j hx hi
        obtain ⟨hj0, hj1, hK⟩ := h
        refine ⟨_, fun w hE _ => ?_, hK⟩
        simp only [execOp]
        refine run_val ?_
        rw [hT _ _ hx, hT _ _ hi]
        cases d <;> simp only [elB] at h6 <;> try (cases h6; done)
        rename_i e'
        obtain rfl := nbeq.1 h6
        unfold Instr.indexAt
        simp only [den, asIntOf, Sem.run_bind, Sem.run_pure, Result.andThen_ok, run_under hd]
        simp only [Bool.and_false, Bool.false_eq_true, if_false, hj0, hj1, and_self, if_true]
        rw [Sem.run_bind, run_sizeOf (hty _ _ hei)]
        simp only [Result.andThen_ok, Sem.run_pure, add_own, Nat.zero_add]
    · rename_i c x y
      split at h <;> try (exact h.elim)
      · rename_i b p q hc hx hy
        split at h
        · refine ⟨p, fun w hE _ => ?_, h⟩
          simp only [execOp, hT _ _ hc, hT _ _ hx, den]; rfl
        · refine ⟨q, fun w hE _ => ?_, h⟩
          simp only [execOp, hT _ _ hc, hT _ _ hy, den]; rfl
      · rename_i b p q hc hx hy
        cases b
        · refine ⟨q, fun w hE _ => ?_, h.2 rfl⟩
          simp only [execOp, hT _ _ hc, hT _ _ hy, den]; rfl
        · refine ⟨p, fun w hE _ => ?_, h.1 rfl⟩
          simp only [execOp, hT _ _ hc, hT _ _ hx, den]; rfl
    · rename_i t x i
      split at h <;> try (exact h.elim)
      rename_i ti hti
      split at h <;> try (exact h.elim)
      rename_i hst
      obtain ⟨y, d, hy, hd, h1, h2, h3, h4, h5, h6, h7, h8⟩ := (hty _ _ hti).get
      rw [hst] at h7
      split at h <;> try (exact h.elim)
      rename_i s k j hx hi
      obtain ⟨hj, b, hb, hK⟩ := h
      refine ⟨_, fun w hE _ => ?_, hK⟩
      simp only [execOp]
      refine run_val ?_
      rw [hT _ _ hx, hT _ _ hi]
      cases d <;> first | (simp [strB] at h7; done) | skip
      unfold Instr.index
      simp only [den, asIntOf, Sem.run_bind, Sem.run_pure, Result.andThen_ok, run_under hd, hj, if_true, hb]
    · exact h.elim

theorem den_ap {ρ : List Nat} {g : Nat} {x : SV} (h : okN ρ.length x = true) : den (ρ ++ [g]) x = den ρ x :=
  (den_ext (fun _ hi => (getD_append_lt hi).symm) x h).symm
theorem denL_ap {ρ : List Nat} {g : Nat} {l : List SV} (h : okNL ρ.length l = true) : denL (ρ ++ [g]) l = denL ρ l :=
  (denL_ext (fun _ hi => (getD_append_lt hi).symm) l h).symm
theorem allT_get {n : Nat} : ∀ {T : Tl}, allT n T = true → ∀ t sv, lk T t = some sv → okN n sv = true
  | [], _, t, sv, h => by simp [lk] at h
  | (k, x) :: r, ha, t, sv, h => by
    simp only [allT] at ha
    split at ha
    · rename_i hx
      simp only [lk] at h
      split at h
      · injection h with h; subst h; exact hx
      · exact allT_get ha t sv h
    · cases ha
theorem allE_get {n : Nat} : ∀ {E : El}, allE n E = true → ∀ i c t, lk E i = some (c, t) → okNL n c = true
  | [], _, t, sv, _, h => by simp [lk] at h
  | (k, (l, e)) :: r, ha, i, c, t, h => by
    simp only [allE] at ha
    split at ha
    · rename_i hx
      simp only [lk] at h
      split at h
      · injection h with h; injection h with h1 h2; subst h1; exact hx
      · exact allE_get ha i c t h
    · cases ha

theorem getD_last (ρ : List Nat) (g : Nat) : (ρ ++ [g]).getD ρ.length 0 = g := by simp [List.getD_eq_getElem?_getD]

theorem RowOk.lt {w : World} {r : Row} (h : RowOk w r) {g : Nat} (hg : rowB r.v = some g) : g < w.heap.size := by
  obtain ⟨n, _, ⟨hv, _⟩ | ⟨g', o, cap, cur, hv, hh, _⟩⟩ := h
  · rw [hv] at hg; cases hg
  · rw [hv] at hg; simp [rowB] at hg; subst hg
    exact (Array.getElem?_eq_some_iff.1 hh).1
theorem RowOk.keep {w w' : World} {r : Row} (h : RowOk w r) (hb : ∀ g, rowB r.v = some g → w'.heap[g]? = w.heap[g]?) : RowOk w' r := by
  obtain ⟨n, hl, h | ⟨g', o, cap, cur, hv, hh, h1⟩⟩ := h
  · exact ⟨n, hl, .inl h⟩
  · refine ⟨n, hl, .inr ⟨g', o, cap, cur, hv, ?_, h1⟩⟩
    rw [hb g' (by rw [hv]; rfl), hh]

def pushW (w : World) (o : Obj) : World := { w with heap := w.heap.push o }
theorem pushW_old (w : World) (o : Obj) {g : Nat} (h : g < w.heap.size) : (pushW w o).heap[g]? = w.heap[g]? := by
  simp only [pushW, Array.getElem?_push]; rw [if_neg (by omega)]

theorem Wd.push {st : St} {w : World} (h : Wd w0 st w) {cs : List SV} {t : TypeId} (h1 : okNL st.ρ.length cs = true) (h3 : allE st.ρ.length st.E = true) (T : Tl) :
    Wd w0 ⟨T, st.ρ ++ [w.heap.size], (st.ρ.length, (cs, t)) :: st.E, st.R, st.pub, st.s⟩ (pushW w (.cells (denL st.ρ cs).toArray t (0, 0))) := by
  have hlt : ∀ i c t, lk st.E i = some (c, t) → st.ρ.getD i 0 < w.heap.size := fun i c t hi => (Array.getElem?_eq_some_iff.1 (h.ent i c t hi)).1
  have hsome : ∀ i, (lk st.E i).isSome = true → i < st.ρ.length ∧ st.ρ.getD i 0 < w.heap.size := by
    intro i hi
    obtain ⟨⟨c, t⟩, hc⟩ := Option.isSome_iff_exists.1 hi
    exact ⟨(h.entN i c t hc).1, hlt i c t hc⟩
  have hpub : ¬ st.pub w.heap.size := fun hp => by have := (h.pub _ hp).1; have := h.size; omega
  refine ⟨⟨h.below.os, h.below.tape, h.below.output, by have := h.below.size; simp [pushW]; omega, fun k hk hm => by rw [pushW_old _ _ (by have := h.below.size; omega)]; exact h.below.block k hk hm⟩, by have := h.size; simp [pushW]; omega, fun b hb => ?_, ?_, ?_, ?_, ?_, h.rinj⟩
  · obtain ⟨k1, k2⟩ := h.pub b hb
    exact ⟨k1, by rw [pushW_old _ _ (by have := h.size; omega)]; exact k2⟩
  · intro i c t' hi
    simp only [lk] at hi
    split at hi
    · rename_i e
      obtain rfl := nbeq.1 e
      injection hi with hi; injection hi with e1 e2; subst e1; subst e2
      simp only [getD_last, denL_ap h1, pushW, Array.getElem?_push, if_true]
    · simp only
      rw [getD_append_lt (h.entN i c t' hi).1, denL_ap (allE_get h3 i c t' hi), pushW_old _ _ (hlt i c t' hi)]
      exact h.ent i c t' hi
  · intro i c t' hi
    simp only [lk] at hi
    split at hi
    · rename_i e
      obtain rfl := nbeq.1 e
      refine ⟨by simp, ?_, ?_⟩
      · simp only [getD_last]; exact .inr h.below.size
      · simp only [getD_last]; exact hpub
    · obtain ⟨k1, k2, k3⟩ := h.entN i c t' hi
      simp only
      rw [getD_append_lt k1]
      exact ⟨by simp; omega, k2, k3⟩
  · intro i j hi hj hne
    simp only [lk] at hi hj
    simp only
    split at hi
    · rename_i e; obtain rfl := nbeq.1 e
      split at hj
      · rename_i e'; exact absurd (nbeq.1 e') hne
      · obtain ⟨k1, k2⟩ := hsome j hj
        rw [getD_last, getD_append_lt k1]; omega
    · obtain ⟨k1, k2⟩ := hsome i hi
      split at hj
      · rename_i e'; obtain rfl := nbeq.1 e'
        rw [getD_last, getD_append_lt k1]; omega
      · obtain ⟨k3, k4⟩ := hsome j hj
        rw [getD_append_lt k1, getD_append_lt k3]; exact h.inj i j hi hj hne
  · intro r hr
    obtain ⟨k1, k2⟩ := h.row r hr
    refine ⟨k1.keep fun g hg => pushW_old _ _ (k1.lt hg), fun g hg => ?_⟩
    obtain ⟨q1, q2, q3⟩ := k2 g hg
    refine ⟨q1, q2, fun i hi => ?_⟩
    simp only [lk] at hi
    simp only
    split at hi
    · rename_i e; obtain rfl := nbeq.1 e
      rw [getD_last]; have := k1.lt hg; omega
    · rw [getD_append_lt (hsome i hi).1]; exact q3 i hi

theorem snocK_eq : ∀ (ρ : List Nat) (g : Nat) (K : List Nat → Prop), snocK ρ g K = K (ρ ++ [g])
  | [], _, _ => rfl
  | a :: r, g, K => by simp [snocK, snocK_eq r g]
theorem lenK_eq : ∀ (ρ : List Nat) (K : Nat → Prop), lenK ρ K = K ρ.length
  | [], _ => rfl
  | a :: r, K => by simp [lenK, lenK_eq r]
theorem newK_sound {cs : List SV} {t : TypeId} {st : St} {K : Nat → St → Prop} {a : Act} {w : World} (h : Ok N w0 st a w) (hk : newK cs t st K) :
    ∃ st', Ok N w0 st' a (pushW w (.cells (denL st.ρ cs).toArray t (0, 0))) ∧ K st.ρ.length st' ∧ st'.ρ.getD st.ρ.length 0 = w.heap.size := by
  obtain ⟨T, ρ, E, R, pub, s⟩ := st
  simp only [newK] at hk
  split at hk <;> try (exact hk.elim)
  rename_i h1 h2 h3
  simp only [snocK_eq, lenK_eq] at hk
  refine ⟨_, ⟨h.sz, h.df, ?_, h.wd.push h1 h3 T⟩, hk w.heap.size, getD_last _ _⟩
  intro t sv ht
  simp only at ht ⊢
  rw [den_ap (allT_get h2 t sv ht)]
  exact h.tm t sv ht

/-- The block at g is another one. -/
def setW (w : World) (g : Nat) (o : Obj) : World := { w with heap := w.heap.setIfInBounds g o }
theorem setW_at (w : World) (g : Nat) (o : Obj) (h : g < w.heap.size) : (setW w g o).heap[g]? = some o := by simp [setW, h]
theorem setW_ne (w : World) {g k : Nat} (o : Obj) (h : g ≠ k) : (setW w g o).heap[k]? = w.heap[k]? := by simp [setW, h]
theorem setW_size (w : World) (g : Nat) (o : Obj) : (setW w g o).heap.size = w.heap.size := by simp [setW]
theorem setCell_eq {w : World} {g off : Nat} {c : Array Value} {t : TypeId} {fr : Nat × Nat} (h : w.heap[g]? = some (.cells c t fr)) (v : Value) : w.setCell ⟨g, off, none⟩ v = setW w g (.cells (c.setIfInBounds off v) t fr) := by
  simp only [World.setCell, setW]
  congr 1
  apply Array.ext_getElem?
  intro i
  rw [Array.getElem?_modify, Array.getElem?_setIfInBounds]
  split
  · rename_i e; subst e
    obtain ⟨hlt, he⟩ := Array.getElem?_eq_some_iff.1 h
    simp [hlt, he]
  · rfl
theorem setW_setW (w : World) (g : Nat) (o o' : Obj) : setW (setW w g o) g o' = setW w g o' := by simp [setW]
theorem setW_self {w : World} {g : Nat} {o : Obj} (h : w.heap[g]? = some o) : setW w g o = w := by
  obtain ⟨hlt, he⟩ := Array.getElem?_eq_some_iff.1 h
  have : w.heap.setIfInBounds g o = w.heap := by
    apply Array.ext_getElem?
    intro i
    rw [Array.getElem?_setIfInBounds]
    split
    · rename_i e; subst e; simp [hlt, he]
    · rfl
  simp only [setW, this]

def plainV : Value → Bool
  | .agg _ => false
  | .tuple _ => false
  | _ => true
theorem run_store_cell {w : World} {a : Addr} {v u : Value} (hv : plainV v = true) (hc : w.cell? a = some u) (hf : w.frozen? a = false) : (store a v).run P w = .ok () (w.setCell a v) := by
  cases v <;> first | (simp [plainV] at hv; done) | (simp [store, Sem.run, hc, hf])
theorem run_storeCells {g off : Nat} {t : TypeId} : ∀ (l : List Value) (i : Nat) (c : Array Value) (w : World), (∀ v ∈ l, plainV v = true) → w.heap[g]? = some (.cells c t (0, 0)) → off + i + l.length ≤ c.size →
    (storeCells ⟨g, off, none⟩ l i).run P w = .ok () (setW w g (.cells ((l.zipIdx i).foldl (fun cs (x : Value × Nat) => cs.setIfInBounds (off + x.2) x.1) c) t (0, 0)))
  | [], i, c, w, _, hw, _ => by simp [storeCells, go_sem, setW_self hw]
  | v :: l, i, c, w, hp, hw, hl => by
    unfold storeCells
    rw [Sem.run_bind, add_own]
    have hlt : off + i < c.size := by simp at hl; omega
    have hc : w.cell? ⟨g, off + i, none⟩ = some c[off + i] := by rw [cell_own hw]; simp [hlt]
    have hf : w.frozen? ⟨g, off + i, none⟩ = false := by simp [World.frozen?, hw]
    rw [run_store_cell (hp v (by simp)) hc hf, setCell_eq hw]
    simp only [Result.andThen_ok]
    have hgs : g < w.heap.size := (Array.getElem?_eq_some_iff.1 hw).1
    rw [run_storeCells l (i + 1) _ _ (fun u hu => hp u (by simp [hu])) (setW_at _ _ _ hgs) (by simp at hl ⊢; omega)]
    simp only [setW_setW, List.zipIdx_cons, List.foldl_cons]
theorem putAt_eq {ρ : List Nat} {off : Nat} {l cs cs' : List SV} (h : putAt off l cs = some cs') (hb : off + l.length ≤ cs.length) :
    ((denL ρ l).zipIdx 0).foldl (fun cs (x : Value × Nat) => cs.setIfInBounds (off + x.2) x.1) (denL ρ cs).toArray = (denL ρ cs').toArray := by
  obtain ⟨g1, g2, g3⟩ := putAt_get _ _ _ _ h
  obtain ⟨k1, k2⟩ := foldl_put (denL ρ cs).toArray off (denL ρ l) 0 (denL ρ cs).toArray
  apply Array.ext_getElem?
  intro j
  rw [k2 j]
  simp only [List.getElem?_toArray, denL_get, g3 j, List.size_toArray, denL_length, Nat.add_zero]
  by_cases c : off ≤ j ∧ j < off + l.length
  · rw [if_pos c, if_pos ⟨c.1, c.2, by omega⟩]
  · rw [if_neg c, if_neg (by omega)]
theorem scalars_plain {ρ : List Nat} : ∀ {l : List SV}, scalars l = true → ∀ v ∈ denL ρ l, plainV v = true
  | [], _, v, h => by simp [denL] at h
  | x :: r, hs, v, h => by
    simp only [scalars] at hs
    split at hs
    · rename_i hx
      simp only [denL, List.mem_cons] at h
      rcases h with rfl | h
      · cases x <;> first | rfl | (simp [scalar] at hx; done) | skip
        rename_i y
        cases y <;> first | rfl | (simp [scalar] at hx; done)
      · exact scalars_plain hs v h
    · cases hs

theorem Wd.setEnt {st : St} {w : World} (h : Wd w0 st w) {i : Nat} {cs cs' : List SV} {t : TypeId} (hi : lk st.E i = some (cs, t)) (T : Tl) :
    Wd w0 ⟨T, st.ρ, (i, (cs', t)) :: st.E, st.R, st.pub, st.s⟩ (setW w (st.ρ.getD i 0) (.cells (denL st.ρ cs').toArray t (0, 0))) := by
  have hg := h.ent i cs t hi
  have hlt : st.ρ.getD i 0 < w.heap.size := (Array.getElem?_eq_some_iff.1 hg).1
  obtain ⟨n1, n2, n3⟩ := h.entN i cs t hi
  have hsome : ∀ j, (lk ((i, (cs', t)) :: st.E) j).isSome = true → (lk st.E j).isSome = true := by
    intro j hj
    simp only [lk] at hj
    split at hj
    · rename_i e; obtain rfl := nbeq.1 e; simp [hi]
    · exact hj
  refine ⟨⟨h.below.os, h.below.tape, h.below.output, by rw [setW_size]; exact h.below.size, fun k hk hm => by rw [setW_ne _ _ (by rintro rfl; rcases n2 with n2 | n2; exact hm n2; omega)]; exact h.below.block k hk hm⟩, by rw [setW_size]; exact h.size, fun b hb => ?_, ?_, ?_, ?_, ?_, h.rinj⟩
  · obtain ⟨k1, k2⟩ := h.pub b hb
    refine ⟨k1, ?_⟩
    rw [setW_ne]
    · exact k2
    · rintro rfl; exact n3 hb
  · intro j c t' hj
    simp only [lk] at hj
    split at hj
    · rename_i e; obtain rfl := nbeq.1 e
      injection hj with hj; injection hj with e1 e2; subst e1; subst e2
      exact setW_at _ _ _ hlt
    · rename_i e
      simp only
      rw [setW_ne]
      · exact h.ent j c t' hj
      · exact h.inj i j (by simp [hi]) (by simp [hj]) (nbeq_ne.1 e)
  · intro j c t' hj
    simp only [lk] at hj
    split at hj
    · rename_i e; obtain rfl := nbeq.1 e
      exact ⟨n1, n2, n3⟩
    · exact h.entN j c t' hj
  · exact fun j k hj hk hne => h.inj j k (hsome j hj) (hsome k hk) hne
  · intro r hr
    obtain ⟨k1, k2⟩ := h.row r hr
    refine ⟨k1.keep fun g hg' => ?_, fun g hg' => ?_⟩
    · rw [setW_ne]
      exact (k2 g hg').2.2 i (by simp [hi])
    · obtain ⟨q1, q2, q3⟩ := k2 g hg'
      exact ⟨q1, q2, fun j hj => q3 j (hsome j hj)⟩

theorem AfterK_sound {dst : Option Tmp} {st : St} {K : St → Prop} {v : Value} {a : Act} {w w' : World} (h : Ok N w0 st a w) (hk : AfterK N w0 dst st K v w') : ∃ st', Ok N w0 st' (a.put dst v) w' ∧ K st' := by
  obtain ⟨T, ρ, E0, R0, pub0, s0⟩ := st
  obtain ⟨E, R, pub, s, hw, hp⟩ := hk
  have h' : Ok N w0 ⟨T, ρ, E, R, pub, s⟩ a w' := ⟨h.sz, h.df, h.tm, hw⟩
  exact putK_sound h' hp

theorem evs_get {T : Tl} : ∀ {l : List Operand} {r : List SV}, evs T l = some r → ∀ x ∈ l, ∃ sv, ev T x = some sv
  | [], _, _, x, hx => by cases hx
  | y :: l, r, h, x, hx => by
    simp only [evs] at h
    split at h
    · rename_i a l' ha hl
      rcases List.mem_cons.1 hx with rfl | hx
      · exact ⟨a, ha⟩
      · exact evs_get hl x hx
    · cases h

theorem gen_sound {o : Oper} {st : St} {K : St → Prop} {a : Act} {w : World} (h : Ok N w0 st a w) (hk : gen P N w0 o st K) {next : Act → World → Prop} {Q : Exit → Act → World → Prop}
    (hn : ∀ st' a' w', Ok N w0 st' a' w' → K st' → next a' w') : o.wp P a w next Q := by
  unfold gen at hk
  split at hk
  · rename_i r hr
    obtain ⟨hs, hk⟩ := hk
    have hk := hk w h.wd
    have e : execOp a.eval o = execOp (evF st.ρ st.T) o := by
      refine execOp_congr o hs fun x hx => ?_
      obtain ⟨sv, hsv⟩ := evs_get hr x (Array.mem_toList_iff.2 hx)
      rw [h.tmok x sv hsv]
      simp only [evF, hsv]
    unfold Oper.wp
    rw [e]
    generalize (execOp (evF st.ρ st.T) o).run P w = r at hk
    cases r with
    | halt x w' => exact hk.elim
    | ok n w' =>
      cases n <;> simp only [GenR] at hk <;> try (exact hk.elim)
      · obtain ⟨st', k1, k2⟩ := AfterK_sound h hk
        exact hn _ _ _ k1 k2
      · obtain ⟨st', k1, k2⟩ := AfterK_sound h hk
        exact hn _ _ _ k1 k2
      · refine Calls.mono hk ?_
        rintro e w'' ⟨v, rfl, hk⟩
        obtain ⟨st', k1, k2⟩ := AfterK_sound h hk
        exact hn _ _ _ k1 k2
  · exact hk.elim
end
end Go.Vc
