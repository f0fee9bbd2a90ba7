/- What a run of an operation must come to; operations that act: their conditions, and that these are enough. -/
import Derived.Test.YtohmeplcjgmedaaDoorVxg
namespace Go.Vx
open Go.RowKit Go.Vc

inductive SExit where
  | normal | exit (id : Nat) | goto (l : Nat) | ret | pan (x : SV)

/-- What may be read stays readable, and reads as before. -/
structure KeptP (e : Env) (w : World) (e' : Env) (w' : World) : Prop where
  pub : ∀ k, e.pub k → e'.pub k
  same : Same e.pub w w'
  sz : w.heap.size ≤ w'.heap.size
theorem KeptP.refl (e : Env) (w : World) : KeptP e w e w := ⟨fun _ h => h, Same.rfl' _ _, Nat.le_refl _⟩
theorem KeptP.trans {e e1 e2 : Env} {w w1 w2 : World} (h : KeptP e w e1 w1) (h' : KeptP e1 w1 e2 w2) : KeptP e w e2 w2 :=
  ⟨fun k hk => h'.pub k (h.pub k hk), fun k hk hl => by rw [h'.same k (h.pub k hk) (Nat.lt_of_lt_of_le hl h.sz), h.same k hk hl], Nat.le_trans h.sz h'.sz⟩
theorem Kept.p {e e' : Env} {w w' : World} (h : Kept e w e' w') : KeptP e w e' w' := ⟨h.pub, h.same, h.sz⟩
/-- What an operation leaves as it was: 'kp': all that might be read; what may be read by anyone at any rate. -/
structure KpS (kp : Bool) (e : Env) (H : Hp) (w : World) (e' : Env) (w' : World) : Prop where
  all : kp = true → Kept e w e' w' ∧ Agr e H w w'
  p : KeptP e w e' w'
theorem KpS.of {kp : Bool} {e e' : Env} {H : Hp} {w w' : World} (h : Kept e w e' w' ∧ Agr e H w w') : KpS kp e H w e' w' := ⟨fun _ => h, h.1.p⟩
section
variable (P : Program) (ty : List (Nat × TY)) {G : Glob} {n0 : Nat} (b : Bs G n0) (N : Nat)

/-- Behind an operation that goes on: 'kp': what might be read reads as before, and the blocks are as before. -/
def AftS (kp : Bool) (e : Env) (H : Hp) (w : World) (a : Act) (dst : Option Tmp) (K : SExit → St → Prop) (v : Value) (w' : World) : Prop :=
  ∃ e' st', KpS kp e H w e' w' ∧ Ok b N e' st' (a.put dst v) w' ∧ K .normal st'
def PanS (a : Act) (K : SExit → St → Prop) (c : List PanicEntry) (w' : World) : Prop :=
  ∃ e' st' x v, c = [{ v, recovered := false }] ∧ RepSV e' w' x v ∧ Ok b N e' st' a w' ∧ K (.pan x) st'
def OpR (kp : Bool) (e : Env) (H : Hp) (a : Act) (dst : Option Tmp) (w : World) (K : SExit → St → Prop) : Result Next → Prop
  | .ok (.value v) w' => AftS b N kp e H w a dst K v w'
  | .ok .skip w' => AftS b N kp e H w a dst K undef w'
  | .ok (.enter f args) w' => Calls P f args w' fun
    | .returned v, w'' => AftS b N kp e H w a dst K v w''
    | .panicked c, w'' => PanS b N a K c w''
    | .outgrown, _ => False
  | .halt (.panic v) w' => PanS b N a K [{ v, recovered := false }] w'
  | _ => False
/-- An operation from a state: what laws of calls, append and the like are told of. -/
inductive OpC (kp : Bool) (o : Oper) (st : St) (K : SExit → St → Prop) : Prop
  | mk (h : ∀ e a w, Ok b N e st a w → OpR P b N kp e st.H a o.dst w K ((execOp a.eval o).run P w))

/-- Cells of an own slice are told; a cell is. -/
inductive LdA (sz off : Nat) (xs : List D) (K : List D → Prop) : Prop
  | mk (l : List D) (h : (xs.drop off).take sz = l) (hl : l.length = sz) (hk : K l)
inductive LdS (off : Nat) (xs : List D) (K : D → Prop) : Prop
  | mk (x : D) (h : xs[off]? = some x) (hk : K x)
def ovl {α : Type} (xs : List α) (k : Nat) (l : List α) : List α := xs.take k ++ l ++ xs.drop (k + l.length)
/-- Cells of an own slice are others now. -/
inductive StC (off : Nat) (l xs : List D) (K : List D → Prop) : Prop
  | mk (xs' : List D) (hl : off + l.length ≤ xs.length) (h : ovl xs off l = xs') (hk : K xs')

def zdL : List Value → List D
  | [] => []
  | v :: r => zD v :: zdL r
def rep (l : List D) : Nat → List D
  | 0 => []
  | n + 1 => l ++ rep l n
def fillA (sz : Nat) : List D → List (Nat × SV) → Option (List D)
  | cs, [] => some cs
  | cs, (i, x) :: r => match cellsOf x with
    | some l => match dOf.dOfs l, cellsB l with
      | some m, true => match Nat.beq m.length sz, Nat.ble (i * sz + sz) cs.length, putAt (i * sz) m cs with
        | true, true, some cs' => fillA sz cs' r
        | _, _, _ => none
      | _, _ => none
    | none => none
def scalD : D → Bool
  | .agg _ => false
  | .tup _ => false
  | .val (.agg _) => false
  | .val (.tuple _) => false
  | _ => true
def scalDs : List D → Bool
  | [] => true
  | x :: r => match scalD x with
    | true => scalDs r
    | false => false

def vcEff (kp : Bool) (o : Oper) (st : St) (K : SExit → St → Prop) : Prop :=
  match o.op with
  | .box t x => match ev st.T x with
    | some sv => match cellsOf sv with
      | some cs => nrmL cs fun cs => match st with
        | ⟨T, H, n⟩ => putK N o.dst (.own n 0) ⟨T, (n, .blk t cs) :: H, n + 1⟩ (K .normal)
      | none => False
    | none => False
  | .alloc t => match lk ty t with
    | some y => nrmL (zs y.i.z.cells.toList) fun cs => match st with
      | ⟨T, H, n⟩ => putK N o.dst (.own n 0) ⟨T, (n, .blk t cs) :: H, n + 1⟩ (K .normal)
    | none => False
  | .buildSlice t n ps => match lk ty t with
    | some y => match y.kd with
      | .slice el => match lk ty el with
        | some ey => match evp st.T ps.toList, Nat.ble (n * ey.i.size) 16777216, Nat.beq ey.i.z.cells.toList.length ey.i.size, Nat.ble (n * ey.i.bytes) 140737488355328, Nat.ble 1 ey.i.size, scalDs (zdL ey.i.z.cells.toList) with
          | some l, true, true, true, true, true => match fillA ey.i.size (rep (zdL ey.i.z.cells.toList) n) l with
            | some xs => match st with
              | ⟨T, H, m⟩ => putK N o.dst (.row m) ⟨T, (m, .row el ey.i.bytes ey.i.size n xs) :: H, m + 1⟩ (K .normal)
            | none => OpC P b N kp o st K
          | _, _, _, _, _, _ => False
        | none => False
      | _ => False
    | none => False
  | .store t ad x => match ev st.T ad with
    | some (.own i off) => match lk ty t, ev st.T x with
      | some y, some sv => match cellsOf sv with
        | some l => match Nat.beq l.length y.i.size, cellsB l, lk st.H i, kp with
          | true, true, some (.blk t' cs), false => match putAt off l cs, Nat.ble (off + l.length) cs.length with
            | some cs', true => nrmL cs' fun cs' => match st with
              | ⟨T, H, n⟩ => withoutK (Nat.beq i) H fun H' => putK N o.dst .any ⟨T, (i, .blk t' cs') :: H', n⟩ (K .normal)
            | _, _ => False
          | _, _, _, _ => False
        | none => False
      | _, _ => False
    | some (.rowp i off) => match lk ty t, ev st.T x with
      | some y, some sv => match cellsOf sv with
        | some l => match Nat.beq l.length y.i.size, cellsB l, dOf.dOfs l, lk st.H i with
          | true, true, some m, some (.row t' eb sz n xs) => StC off m xs fun xs' => match st with
            | ⟨T, H, q⟩ => withoutK (Nat.beq i) H fun H' => putK N o.dst .any ⟨T, (i, .row t' eb sz n xs') :: H', q⟩ (K .normal)
          | _, _, _, _ => OpC P b N kp o st K
        | none => False
      | _, _ => False
    | _ => OpC P b N kp o st K
  | .load t x => match ev st.T x with
    | some (.rowp i off) => match lk ty t, lk st.H i with
      | some y, some (.row _ _ _ _ xs) => match y.i.agg with
        | true => LdA y.i.size off xs fun l => nrmL (dL l) fun l' => putK N o.dst (.agg l') st (K .normal)
        | false => LdS off xs fun x => putK N o.dst (.d x) st (K .normal)
      | _, _ => False
    | _ => OpC P b N kp o st K
  | .panic x => match ev st.T x with
    | some (.ifc t y) => K (.pan (.ifc t y)) st
    | some (.d (.ifc t y)) => K (.pan (.d (.ifc t y))) st
    | _ => OpC P b N kp o st K
  | _ => OpC P b N kp o st K

def vcOp (kp : Bool) (o : Oper) (st : St) (K : SExit → St → Prop) : Prop :=
  match pOp ty st.T st.H o.op with
  | some sv => nrm sv fun sv => putK N o.dst sv st (K .normal)
  | none => match pStop ty st.T st.H o.op with
    | some g => g fun sv => putK N o.dst sv st (K .normal)
    | none => vcEff P ty b N kp o st K
end

section
variable {P : Program} {ty : List (Nat × TY)} {G : Glob} {n0 : Nat} {b : Bs G n0} {N : Nat}

theorem Agr.of {e : Env} {H : Hp} {w w' : World} (h : Same e.pub w w') (hf : ∀ j k, has H j → foot e j k → w'.heap[k]? = w.heap[k]?) : Agr e H w w' :=
  ⟨h, fun i t cs k hi hk => hf i k (by simp [has, hi]) hk⟩
theorem Agr.below {e : Env} {H : Hp} {w w' : World} (hp : HpOk e w H) (h : Below w.heap.size w w') : Agr e H w w' :=
  .of (same_of_below h _) fun _ k hj hk => h.block k (hp.lt hj hk)
theorem pushW_below (w : World) (o : Obj) : Below w.heap.size w (pushW w o) := ⟨rfl, rfl, rfl, by simp [pushW], fun k hk => pushW_old w o hk⟩
theorem pushW_new (w : World) (o : Obj) : (pushW w o).heap[w.heap.size]? = some o := by simp only [pushW, Array.getElem?_push, if_true]

theorem zdL_rep (S : Nat → Prop) (w : World) : ∀ l : List Value, RepDs S w (zdL l) l
  | [] => by simp [zdL, RepDs]
  | v :: r => by simp only [zdL, RepDs]; exact ⟨v, r, rfl, zD_rep _ _ _, zdL_rep S w r⟩
def repV (l : List Value) : Nat → List Value
  | 0 => []
  | n + 1 => l ++ repV l n
theorem rep_rep {S : Nat → Prop} {w : World} {l : List D} {v : List Value} (h : RepDs S w l v) : ∀ n, RepDs S w (rep l n) (repV v n)
  | 0 => by simp [rep, repV, RepDs]
  | n + 1 => by simp only [rep, repV]; exact h.app (rep_rep h n)
theorem repV_length (l : List Value) : ∀ n, (repV l n).length = n * l.length
  | 0 => by simp [repV]
  | n + 1 => by simp [repV, repV_length l n, Nat.add_mul]; omega
theorem repV_get (l : List Value) : ∀ n j, j < n * l.length → (repV l n)[j]? = l[j % l.length]?
  | 0, j, h => by simp at h
  | n + 1, j, h => by
    simp only [repV]
    rcases Nat.lt_or_ge j l.length with h1 | h1
    · rw [List.getElem?_append_left h1, Nat.mod_eq_of_lt h1]
    · rw [List.getElem?_append_right h1, repV_get l n (j - l.length) (by rw [Nat.add_mul] at h; omega)]
      rw [Nat.mod_eq_sub_mod h1]
theorem zero_repV {z : Array Value} {n sz : Nat} (hz : z.size = sz) (h0 : sz ≠ 0) : (Array.range (n * sz)).map (fun i => z[i % z.size]!) = (repV z.toList n).toArray := by
  apply Array.ext_getElem?
  intro j
  rw [Array.getElem?_map, Array.getElem?_range, List.getElem?_toArray]
  split
  · rename_i hj
    have hl : z.toList.length = sz := by simpa using hz
    rw [repV_get _ _ _ (by rw [hl]; exact hj), hl, hz]
    have hm : j % sz < z.size := by rw [hz]; exact Nat.mod_lt _ (by omega)
    simp [hm]
  · rename_i hj
    simp only [Option.map_none]
    rw [List.getElem?_eq_none]
    rw [repV_length]; simp [hz]; omega
theorem putAt_repD {S : Nat → Prop} {w : World} {off : Nat} {l cs cs' : List D} {vl vc : List Value} (h : putAt off l cs = some cs') (hb : off + l.length ≤ cs.length) (hl : RepDs S w l vl) (hc : RepDs S w cs vc) :
    ∃ vr : Array Value, (vl.zipIdx 0).foldl (fun cs (x : Value × Nat) => cs.setIfInBounds (off + x.2) x.1) vc.toArray = vr ∧ RepDs S w cs' vr.toList ∧ vr.size = vc.length := by
  obtain ⟨g1, g2, g3⟩ := putAt_get _ _ _ _ h
  obtain ⟨k1, k2⟩ := foldl_put vc.toArray off vl 0 vc.toArray
  refine ⟨_, rfl, RepDs.mk ?_ fun i x v hx hv => ?_, by rw [k1]; simp⟩
  · rw [Array.length_toList, k1]; simp [hc.len, g1]
  · rw [Array.getElem?_toList, k2 i] at hv
    rw [g3 i] at hx
    simp only [Nat.add_zero, List.size_toArray, hl.len, hc.len, List.getElem?_toArray] at hv
    by_cases c : off ≤ i ∧ i < off + l.length
    · rw [if_pos c] at hx
      rw [if_pos ⟨c.1, c.2, by omega⟩] at hv
      obtain ⟨u, h1, h2⟩ := hl.get hx
      rw [hv] at h1; injection h1 with h1; subst h1; exact h2
    · rw [if_neg c] at hx
      rw [if_neg (by omega)] at hv
      obtain ⟨u, h1, h2⟩ := hc.get hx
      rw [hv] at h1; injection h1 with h1; subst h1; exact h2
theorem fillA_rep {e : Env} {w : World} {sz : Nat} : ∀ (ps : List (Nat × SV)) (pv : List (Nat × Value)) (cs r : List D) (vc : List Value), fillA sz cs ps = some r → pv.map (·.1) = ps.map (·.1) → RepSVs e w (ps.map (·.2)) (pv.map (·.2)) → RepDs e.pub w cs vc →
    ∃ vr : Array Value, Instr.fill (fun i => some (i * sz, sz)) vc.toArray pv = some vr ∧ RepDs e.pub w r vr.toList ∧ vr.size = vc.length
  | [], pv, cs, r, vc, h, he, _, hc => by
    simp [fillA] at h; subst h
    have : pv = [] := by simpa using he
    subst this
    exact ⟨vc.toArray, by simp [Instr.fill], by simpa using hc, by simp⟩
  | (i, x) :: ps, pv, cs, r, vc, h, he, hv, hc => by
    simp only [fillA] at h
    split at h <;> try (cases h; done)
    rename_i l h2
    split at h <;> try (cases h; done)
    rename_i m hm hcl
    split at h <;> try (cases h; done)
    rename_i cs' h3 hb h4
    cases pv with
    | nil => simp at he
    | cons p pv =>
      obtain ⟨i', v⟩ := p
      simp only [List.map_cons, List.cons.injEq] at he
      obtain ⟨rfl, he⟩ := he
      simp only [List.map_cons, RepSVs] at hv
      obtain ⟨v', s, e1, hv1, hv2⟩ := hv
      simp only [List.cons.injEq] at e1
      obtain ⟨rfl, rfl⟩ := e1
      have hcs := dOfs_rep hm (cellsOf_rep h2 hv1)
      have hn := nbeq.1 h3
      have hb' := Nat.le_of_ble_eq_true hb
      have hsz : v.cells.size = sz := by
        have := hcs.len
        rw [Array.length_toList] at this
        omega
      obtain ⟨vr, q1, q2, q3⟩ := putAt_repD h4 (by omega) hcs hc
      simp only [Instr.fill, hsz]
      rw [if_neg (by have := hc.len; simp; omega)]
      have he' : v.cells.zipIdx.foldl (fun cs (c, j) => cs.setIfInBounds (i' * sz + j) c) vc.toArray = vr := by
        rw [← q1, ← Array.foldl_toList, Array.toList_zipIdx]
      rw [he']
      obtain ⟨vr', p1, p2, p3⟩ := fillA_rep ps pv cs' r vr.toList h he hv2 q2
      exact ⟨vr', by simpa using p1, p2, by rw [p3]; simpa using q3⟩
end
end Go.Vx
