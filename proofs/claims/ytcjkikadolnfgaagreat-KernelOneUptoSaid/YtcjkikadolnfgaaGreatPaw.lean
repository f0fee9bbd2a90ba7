/- Texts of mine, joined: Br Fh. -/
import Derived.Test.YtcjkikadolnfgaaGreatPat
import Derived.Test.YtcjkikadolnfgaaGreatRows
import Derived.WalkKit
import Derived.ProofKit
import Derived.OpenShut
import Derived.JoinedCond
import Derived.Carry
import Derived.Test.YtcjkikadolnfgaaGreatPak
import Derived.Test.YtcjkikadolnfgaaGreatPau
/- Readings of slices, for any kind of element; target types with their sizes in bytes. -/
set_option linter.unusedVariables false
set_option linter.unusedSimpArgs false
namespace Go.Proofs.YtcjkikadolnfgaaGreat
open Go.Vx Go.Vc Go.RowKit
section
variable {H : Type} {enc : TypeId × Value → H} {W : World} {sp : Nat → Bool}
theorem bulk_one (d : DataW H) : 1 ≤ Rows.uptoBulk d := by
  cases d with
  | lit l => cases l <;> simp [Rows.uptoBulk]
  | nil => simp [Rows.uptoBulk]
  | ptr d => simp [Rows.uptoBulk]
  | slice elems spare => simp [Rows.uptoBulk]
  | agg parts => simp [Rows.uptoBulk]
  | iface t d => simp [Rows.uptoBulk]
  | map entries => simp [Rows.uptoBulk]
  | held h => simp [Rows.uptoBulk]
theorem dnil {eb : Nat} {cs : List D} (h : cs = []) : RepD (InW W) W (slD eb 0 cs) (.slice none 0 0) := by
  subst h
  simp only [slD, ebn, RepD]
  exact ⟨none, 0, rfl, Nat.le_refl _, by simp, by simp, by simp only [RepC]⟩
theorem ebn_le (eb n : Nat) : ebn eb n ≤ eb := by unfold ebn; split <;> omega
end
section
variable {H : Type} {enc : TypeId × Value → H} {W : World} {sp : Nat → Bool}
def szs {α : Type} (sz : α → Nat) (l : List α) : Nat := (l.map sz).sum
theorem szs_cons {α : Type} (sz : α → Nat) (x : α) (l : List α) : szs sz (x :: l) = sz x + szs sz l := by simp [szs]
def ReadG (enc : TypeId × Value → H) (W : World) (sp : Nat → Bool) (n : Nat) (T : TypeId) {α : Type} (f : α → List D) (sz : α → Nat) (Pr : α → Prop) : Prop :=
  ∀ (cs : List Value) (x : DataW H × List MemPlace), DataW.trod enc Tryz.prog W 0 sp true n T cs = some x → Rows.uptoBulk x.1 ≤ 1048576 → ∃ t : α, RepDs (InW W) W (f t) cs ∧ sz t ≤ Rows.uptoBulk x.1 ∧ Pr t
theorem elems_gen {α : Type} {f : α → List D} {sz : α → Nat} {Pr : α → Prop} {w : Nat} {T : TypeId} (hw : Tryz.prog.cellsOf T = w) (hf : ∀ x, (f x).length = w) {n : Nat} (ih : ReadG enc W sp n T f sz Pr)
    {a : Addr} {len : Nat} {elems : List (DataW H × List MemPlace)} (hlen : elems.length = len)
    (hel : ∀ i, i < len → (W.cells? 0 (a.add (i * Tryz.prog.cellsOf T)) (Tryz.prog.cellsOf T)).bind (DataW.trod enc Tryz.prog W 0 sp true n T) = elems[i]?) :
    ∀ (m j : Nat), j + m = len → Rows.uptoBulkAll ((elems.drop j).map (·.1)) ≤ 1048576 → ∃ ts : List α, ts.length = m ∧ RepC (InW W) W (Vx.fl f ts) (some a) (j * w) ∧ szs sz ts ≤ Rows.uptoBulkAll ((elems.drop j).map (·.1)) ∧ m ≤ Rows.uptoBulkAll ((elems.drop j).map (·.1)) ∧ ∀ t ∈ ts, Pr t
  | 0, j, _, _ => ⟨[], rfl, by simp only [Vx.fl, RepC], by simp [szs], Nat.zero_le _, by simp⟩
  | m + 1, j, hj, hb => by
    have hjl : j < elems.length := by omega
    rw [List.drop_eq_getElem_cons hjl, List.map_cons, Rows.uptoBulkAll] at hb ⊢
    obtain ⟨ts, h1, h2, h3, h0, hp⟩ := elems_gen hw hf ih hlen hel m (j + 1) (by omega) (by omega)
    have h4 := hel j (by omega)
    rw [List.getElem?_eq_getElem hjl, hw] at h4
    obtain ⟨cs, h5, h6⟩ := Option.bind_eq_some_iff.1 h4
    obtain ⟨t, k2, k3, k4⟩ := ih cs _ h6 (by omega)
    obtain ⟨_, _, q⟩ := World.cells?_some h5
    have hlc : cs.length = w := by rw [k2.len, hf]
    have hc : ∀ (i : Nat) v, cs[i]? = some v → W.cell? (a.add (j * w + i)) = some v := by
      intro i v hv
      have hi := (List.getElem?_eq_some_iff.1 hv).1
      have q := q i (by omega)
      rw [Go.Vc.add_add] at q
      rw [q, hv]
    have := bulk_one elems[j].1
    refine ⟨t :: ts, by simp [h1], ?_, by rw [szs_cons]; omega, by omega, by simpa using ⟨k4, hp⟩⟩
    simp only [Vx.fl]
    refine RepC.app (RepDs.cellsW k2 hc) ?_
    rw [hf, show j * w + w = (j + 1) * w from by rw [Nat.add_mul, Nat.one_mul]]
    exact h2
theorem open_gen {α : Type} {f : α → List D} {sz : α → Nat} {Pr : α → Prop} {w : Nat} {S T : TypeId} (eb : Nat) (heb : eb ≤ 1000) (hu : Tryz.prog.underlying S = some (.slice T)) (hw : Tryz.prog.cellsOf T = w) (hf : ∀ x, (f x).length = w) {fuel : Nat} (ih : ∀ m, m < fuel → ReadG enc W sp m T f sz Pr)
    {A : Option Addr} {n c : Nat} {x : DataW H × List MemPlace} (h : DataW.trod enc Tryz.prog W 0 sp true fuel S [.slice A n c] = some x) (hb : Rows.uptoBulk x.1 ≤ 1048576) :
    ∃ ts : List α, RepD (InW W) W (slD eb ts.length (Vx.fl f ts)) (.slice A n c) ∧ szs sz ts + ts.length ≤ 2 * Rows.uptoBulk x.1 ∧ szs sz ts + 1 ≤ Rows.uptoBulk x.1 + 1 ∧ ts.length ≤ Rows.uptoBulk x.1 ∧ ∀ t ∈ ts, Pr t := by
  rcases DataW.trod_slice hu h with ⟨hs, e2⟩ | ⟨a, len, cap, elems, rest, m, rfl, hs, e2, _, hle, hcap, hlen, hel, _⟩
  · injection hs with hs _
    injection hs with h1 h2 h3
    subst h1; subst h2; subst h3
    exact ⟨[], dnil rfl, by simp [szs], by simp [szs], by simp, by simp⟩
  · injection hs with hs _
    injection hs with h1 h2 h3
    subst h1; subst h2; subst h3
    subst e2
    simp only [Rows.uptoBulk] at hb ⊢
    obtain ⟨ts, h1, h2, h3, h0, hp⟩ := elems_gen hw hf (ih m (by omega)) hlen hel n 0 (by omega) (by simp; omega)
    simp only [List.drop_zero] at h3 h0
    refine ⟨ts, ?_, by omega, by omega, by omega, hp⟩
    subst h1
    simp only [slD, RepD]
    refine ⟨some a, c, rfl, hle, ?_, fun _ => ⟨a, rfl⟩, by simpa using h2⟩
    have := Nat.mul_le_mul_left ts.length (ebn_le eb ts.length)
    have := Nat.mul_le_mul_left ts.length heb
    simp only [LB]; omega
theorem cellsStr : Tryz.prog.cellsOf 9 = 1 := by kernel_rfl
theorem undStr : Tryz.prog.underlying 9 = some .string := by kernel_rfl
theorem undInt : Tryz.prog.underlying 3 = some (.int .i64) := by kernel_rfl
def fieldsOf (P : Program) (T : TypeId) : List (TypeId × Nat) := match P.underlying T with
  | some (.struct fs) => fs.toList.map fun f => (f.type, f.offset)
  | _ => []
theorem trod_fields {T : TypeId} {l : List (TypeId × Nat)} (hl : fieldsOf Tryz.prog T = l) (hne : l ≠ []) {fuel : Nat} {cs : List Value} {x : DataW H × List MemPlace} (h : DataW.trod enc Tryz.prog W 0 sp true fuel T cs = some x) :
    ∃ (xs : List (DataW H × List MemPlace)) (n : Nat), fuel = n + 1 ∧ x = (.agg (xs.map (·.1)), xs.flatMap (·.2)) ∧ cs.length = Tryz.prog.cellsOf T ∧ xs.length = l.length ∧
      ∀ (i : Nat) (t : TypeId) (o : Nat), l[i]? = some (t, o) → DataW.trod enc Tryz.prog W 0 sp true n t (List.take (Tryz.prog.cellsOf t) (List.drop o cs)) = xs[i]? := by
  unfold fieldsOf at hl
  split at hl
  · rename_i fs hu
    obtain ⟨xs, n, h1, h2, h3, h4, h5⟩ := DataW.trod_struct hu h
    refine ⟨xs, n, h1, h2, h3, by rw [← hl, h4]; simp, fun i t o hi => ?_⟩
    rw [← hl, List.getElem?_map] at hi
    obtain ⟨f, hf, he⟩ := Option.map_eq_some_iff.1 hi
    rw [Prod.mk.injEq] at he
    obtain ⟨rfl, rfl⟩ := he
    exact h5 i f (by simpa using hf)
  · exact absurd hl.symm hne
theorem slice_of {fuel : Nat} {S T : TypeId} (hu : Tryz.prog.underlying S = some (.slice T)) {cs : List Value} {x : DataW H × List MemPlace} (h : DataW.trod enc Tryz.prog W 0 sp true fuel S cs = some x) : ∃ A n c, cs = [.slice A n c] := by
  rcases DataW.trod_slice hu h with ⟨rfl, _⟩ | ⟨a, len, cap, elems, rest, m, rfl, rfl, _⟩
  · exact ⟨_, _, _, rfl⟩
  · exact ⟨_, _, _, rfl⟩
theorem read_name {fuel : Nat} {v : Value} {y : DataW H × List MemPlace} (h : DataW.trod enc Tryz.prog W 0 sp true fuel 9 [v] = some y) : ∃ s : ByteArray, v = .string s ∧ Rows.uptoBulk y.1 = s.size + 1 := by
  obtain ⟨s, hk, rfl, _⟩ := DataW.trod_string undStr h
  simp at hk
  exact ⟨s, hk, by simp [Rows.uptoBulk]⟩
theorem read_int {fuel : Nat} {v : Value} {y : DataW H × List MemPlace} (h : DataW.trod enc Tryz.prog W 0 sp true fuel 3 [v] = some y) : ∃ n : Int, v = .int .i64 n ∧ -9223372036854775808 ≤ n ∧ n ≤ 9223372036854775807 := by
  obtain ⟨n, hk, rfl, hw⟩ := DataW.trod_int undInt h
  simp at hk
  refine ⟨n, hk, ?_⟩
  have hw : (decide (-9223372036854775808 ≤ n) && decide (n ≤ 9223372036854775807)) = true := hw
  simpa using hw
theorem appR' {w : World} {S : Nat → Prop} {xs ys : List D} {vs us : List Value} (h : RepDs S w xs vs) (h' : RepDs S w ys us) : RepDs S w (xs ++ ys) (vs ++ us) := RepDs.app h h'
theorem oneR {w : World} {S : Nat → Prop} {x : D} {v : Value} (h : RepD S w x v) : RepDs S w [x] [v] := by
  simp only [RepDs]; exact ⟨v, [], rfl, h, rfl⟩
end
mutual
def szB : TG → Nat
  | .mk _ _ ls l => 1 + szs ByteArray.size ls + szBs l
def szBs : List TG → Nat
  | [] => 0
  | t :: r => szB t + szBs r
end
mutual
def i64G : TG → Prop
  | .mk k n _ l => (-9223372036854775808 ≤ k ∧ k ≤ 9223372036854775807) ∧ (-9223372036854775808 ≤ n ∧ n ≤ 9223372036854775807) ∧ i64Gs l
def i64Gs : List TG → Prop
  | [] => True
  | t :: r => i64G t ∧ i64Gs r
end
theorem i64Gs_iff : ∀ l : List TG, i64Gs l ↔ ∀ t ∈ l, i64G t
  | [] => by simp [i64Gs]
  | t :: r => by simp [i64Gs, i64Gs_iff r]
theorem szBs_eq : ∀ l : List TG, szBs l = szs szB l
  | [] => by simp [szBs, szs]
  | t :: r => by rw [szBs, szBs_eq r, szs_cons]
section
variable {H : Type} {enc : TypeId × Value → H} {W : World} {sp : Nat → Bool}
theorem fields_TT : fieldsOf Tryz.prog 28 = [(3, 0), (3, 1), (22, 2), (23, 3)] := by kernel_rfl
theorem cells_TT : Tryz.prog.cellsOf 28 = 4 := by kernel_rfl
theorem cells_Int : Tryz.prog.cellsOf 3 = 1 := by kernel_rfl
theorem cells_Ss : Tryz.prog.cellsOf 22 = 1 := by kernel_rfl
theorem cells_TTs : Tryz.prog.cellsOf 23 = 1 := by kernel_rfl
theorem und_Ss : Tryz.prog.underlying 22 = some (.slice 9) := by kernel_rfl
theorem und_TTs : Tryz.prog.underlying 23 = some (.slice 28) := by kernel_rfl
theorem read_S : ∀ n, ReadG enc W sp n 9 (fun s : ByteArray => [.str s]) ByteArray.size (fun _ => True) := by
  intro fuel cs x h hb
  obtain ⟨s, rfl, rfl, _⟩ := DataW.trod_string undStr h
  exact ⟨s, oneR (by simp only [RepD]), by simp [Rows.uptoBulk], trivial⟩
theorem fl_S (l : List ByteArray) : fl (fun s : ByteArray => [D.str s]) l = encS l := by
  induction l with
  | nil => rfl
  | cons s r ih => rw [fl, ih]; rfl
set_option maxRecDepth 20000 in
theorem read_TT : ∀ n, ReadG enc W sp n 28 encG szB i64G := by
  intro fuel
  induction fuel using Nat.strongRecOn with
  | _ fuel ih =>
    intro cs x h hb
    obtain ⟨xs, n, rfl, rfl, hl, hxl, hf⟩ := trod_fields fields_TT (by simp) h
    rw [cells_TT] at hl
    have f0 := hf 0 _ _ rfl
    have f1 := hf 1 _ _ rfl
    have f2 := hf 2 _ _ rfl
    have f3 := hf 3 _ _ rfl
    match xs, hxl with
    | [y0, y1, y2, y3], _ =>
      match cs, hl with
      | [v0, v1, v2, v3], _ =>
        rw [cells_Int] at f0 f1
        rw [cells_Ss] at f2
        rw [cells_TTs] at f3
        obtain ⟨k, rfl, hk⟩ := read_int (v := v0) f0
        obtain ⟨nn, rfl, hn⟩ := read_int (v := v1) f1
        obtain ⟨A2, m2, c2, hs⟩ := slice_of und_Ss f2
        simp at hs
        subst hs
        obtain ⟨A3, m3, c3, hs⟩ := slice_of und_TTs f3
        simp at hs
        subst hs
        simp only [List.map_cons, List.map_nil, Rows.uptoBulk, Rows.uptoBulkAll] at hb ⊢
        have := bulk_one y0.1
        obtain ⟨ls, a2, _, b2, _, _⟩ := open_gen (f := fun s : ByteArray => [D.str s]) 16 (by decide) und_Ss cellsStr (fun _ => rfl) (fun m _ => read_S m) f2 (by omega)
        obtain ⟨ts, a3, _, b3, _, p3⟩ := open_gen (f := encG) 64 (by decide) und_TTs cells_TT encG_len (fun m hm => ih m (by omega)) f3 (by omega)
        rw [fl_S] at a2
        rw [← encGs_eq] at a3
        refine ⟨.mk k nn ls ts, ?_, by rw [szB, szBs_eq]; omega, by rw [i64G, i64Gs_iff]; exact ⟨hk, hn, p3⟩⟩
        exact appR' (xs := [_]) (oneR (by simp only [RepD]; rfl)) (appR' (xs := [_]) (oneR (by simp only [RepD]; rfl)) (appR' (xs := [_]) (oneR a2) (oneR a3)))
theorem open_TT {fuel : Nat} {cs : List Value} {x : DataW H × List MemPlace} (h : DataW.trod enc Tryz.prog W 0 sp true fuel 28 cs = some x) (hb : Rows.uptoBulk x.1 ≤ 1048576) : ∃ t : TG, RepDs (InW W) W (encG t) cs ∧ szB t ≤ Rows.uptoBulk x.1 ∧ i64G t := read_TT fuel cs x h hb
end
theorem szG_szB : ∀ t : TG, szG t ≤ szB t := by
  refine TG.ind fun k n ls l ih => ?_
  rw [szG, szB]
  have : ∀ l : List TG, (∀ t ∈ l, szG t ≤ szB t) → szGs l ≤ szBs l := by
    intro l
    induction l with
    | nil => intro _; simp [szGs, szBs]
    | cons t r ihr =>
      intro h
      have h1 := h t (by simp)
      have h2 := ihr fun u hu => h u (by simp [hu])
      simp only [szGs, szBs]; omega
  have := this l ih
  omega
section
variable {H : Type} {enc : TypeId × Value → H} {W : World} {sp : Nat → Bool}
theorem open_I {fuel : Nat} {A : Option Addr} {n c : Nat} {x : DataW H × List MemPlace} (h : DataW.trod enc Tryz.prog W 0 sp true fuel 36 [.slice A n c] = some x) (hb : Rows.uptoBulk x.1 ≤ 1048576) :
    ∃ l : List Int, RepD (InW W) W (dI l) (.slice A n c) ∧ l.length ≤ Rows.uptoBulk x.1 := by
  rcases DataW.trod_slice Tryz.underlying36 h with ⟨hs, e2⟩ | ⟨a, len, cap, elems, rest, m, rfl, hs, e2, _, hle, hcap, hlen, hel, _⟩
  · injection hs with hs _
    injection hs with h1 h2 h3
    subst h1; subst h2; subst h3
    exact ⟨[], dnil rfl, by simp⟩
  · injection hs with hs _
    injection hs with h1 h2 h3
    subst h1; subst h2; subst h3
    subst e2
    have key : ∀ m j : Nat, j + m = n → ∃ l : List Int, l.length = m ∧ RepC (InW W) W (Vx.encI l) (some a) j ∧ m ≤ Rows.uptoBulkAll ((elems.drop j).map (·.1)) := by
      intro m
      induction m with
      | zero => exact fun j _ => ⟨[], rfl, by simp only [Vx.encI, List.map_nil, RepC], Nat.zero_le _⟩
      | succ m ihm =>
        intro j hj
        have hjl : j < elems.length := by omega
        obtain ⟨l, h1, h2, h3⟩ := ihm (j + 1) (by omega)
        have h4 := hel j (by omega)
        rw [List.getElem?_eq_getElem hjl, cells_Int] at h4
        obtain ⟨cs, h5, h6⟩ := Option.bind_eq_some_iff.1 h4
        obtain ⟨k, rfl, _, _⟩ := DataW.trod_int Tryz.underlying3 h6
        obtain ⟨_, _, q⟩ := World.cells?_some h5
        have q0 := q 0 (by omega)
        rw [Go.Vc.add_add] at q0
        simp only [Nat.mul_one, Nat.add_zero, List.getElem?_cons_zero] at q0
        refine ⟨k :: l, by simp [h1], ?_, ?_⟩
        · simp only [Vx.encI, List.map_cons, RepC] at h2 ⊢
          exact ⟨⟨a, _, rfl, by have := World.block_lt_of_cell? W _ q0; rwa [add_block] at this, q0, by simp only [RepD]⟩, h2⟩
        · rw [List.drop_eq_getElem_cons hjl, List.map_cons, Rows.uptoBulkAll]
          have := bulk_one elems[j].1
          omega
    obtain ⟨l, h1, h2, h3⟩ := key n 0 (by omega)
    simp only [List.drop_zero] at h3
    simp only [Rows.uptoBulk] at hb ⊢
    refine ⟨l, ?_, by omega⟩
    subst h1
    simp only [slD, RepD]
    refine ⟨some a, c, rfl, hle, ?_, fun _ => ⟨a, rfl⟩, h2⟩
    have := Nat.mul_le_mul_left l.length (ebn_le 8 l.length)
    simp only [LB]; omega
theorem fields_TM : fieldsOf Tryz.prog 26 = [(3, 0), (3, 1), (2, 2), (9, 3), (22, 4), (23, 5), (24, 6)] := by kernel_rfl
theorem cells_TM : Tryz.prog.cellsOf 26 = 7 := by kernel_rfl
theorem cells_I64 : Tryz.prog.cellsOf 2 = 1 := by kernel_rfl
theorem cells_TMs : Tryz.prog.cellsOf 24 = 1 := by kernel_rfl
theorem und_TMs : Tryz.prog.underlying 24 = some (.slice 26) := by kernel_rfl
theorem und_I64 : Tryz.prog.underlying 2 = some (.int .i64) := by kernel_rfl
theorem read_i64 {fuel : Nat} {v : Value} {y : DataW H × List MemPlace} (h : DataW.trod enc Tryz.prog W 0 sp true fuel 2 [v] = some y) : ∃ n : Int, v = .int .i64 n := by
  obtain ⟨n, hk, rfl, hw⟩ := DataW.trod_int und_I64 h
  simp at hk
  exact ⟨n, hk⟩
theorem szGs_szs : ∀ l : List TG, szGs l ≤ szs szB l
  | [] => by simp [szGs, szs]
  | t :: r => by have := szGs_szs r; have := szG_szB t; rw [szGs, szs_cons]; omega
end
end Go.Proofs.YtcjkikadolnfgaaGreat


/- Readings: terms with their labels, names and their types. -/
set_option linter.unusedVariables false
set_option linter.unusedSimpArgs false
set_option linter.unusedVariables false
namespace Go.Proofs.YtcjkikadolnfgaaGreat
open Go.Vx Go.Vc Go.RowKit Go.WideShapes
section
variable {H : Type} {enc : TypeId × Value → H} {W : World} {sp : Nat → Bool}
theorem wlMs_eq : ∀ l : List MG, wlMs l = szs wlM l
  | [] => by simp [wlMs, szs]
  | t :: r => by rw [wlMs, wlMs_eq r, szs_cons]
set_option maxRecDepth 20000 in
theorem read_TMw : ∀ n, ReadG enc W sp n 26 encM wlM (fun _ => True) := by
  intro fuel
  induction fuel using Nat.strongRecOn with
  | _ fuel ih =>
    intro cs x h hb
    obtain ⟨xs, n, rfl, rfl, hl, hxl, hf⟩ := trod_fields fields_TM (by simp) h
    rw [cells_TM] at hl
    have f0 := hf 0 _ _ rfl
    have f1 := hf 1 _ _ rfl
    have f2 := hf 2 _ _ rfl
    have f3 := hf 3 _ _ rfl
    have f4 := hf 4 _ _ rfl
    have f5 := hf 5 _ _ rfl
    have f6 := hf 6 _ _ rfl
    match xs, hxl with
    | [y0, y1, y2, y3, y4, y5, y6], _ =>
      match cs, hl with
      | [v0, v1, v2, v3, v4, v5, v6], _ =>
        rw [cells_Int] at f0 f1
        rw [cells_I64] at f2
        rw [cellsStr] at f3
        rw [cells_Ss] at f4
        rw [cells_TTs] at f5
        rw [cells_TMs] at f6
        obtain ⟨k, rfl, hk⟩ := read_int (v := v0) f0
        obtain ⟨nn, rfl, hn⟩ := read_int (v := v1) f1
        obtain ⟨i2, rfl⟩ := read_i64 (v := v2) f2
        obtain ⟨nm, rfl, hnm⟩ := read_name (v := v3) f3
        obtain ⟨A4, m4, c4, hs⟩ := slice_of und_Ss f4
        simp at hs
        subst hs
        obtain ⟨A5, m5, c5, hs⟩ := slice_of und_TTs f5
        simp at hs
        subst hs
        obtain ⟨A6, m6, c6, hs⟩ := slice_of und_TMs f6
        simp at hs
        subst hs
        simp only [List.map_cons, List.map_nil, Rows.uptoBulk, Rows.uptoBulkAll] at hb ⊢
        have := bulk_one y0.1
        obtain ⟨ls, a4, _, b4, c4, _⟩ := open_gen (f := fun s : ByteArray => [D.str s]) 16 (by decide) und_Ss cellsStr (fun _ => rfl) (fun m _ => read_S m) f4 (by omega)
        obtain ⟨ts, a5, _, b5, _, p5⟩ := open_gen (f := encG) 64 (by decide) und_TTs cells_TT encG_len (fun m _ => read_TT m) f5 (by omega)
        obtain ⟨ks, a6, _, b6, _, p6⟩ := open_gen (f := encM) 112 (by decide) und_TMs cells_TM encM_len (fun m hm => ih m (by omega)) f6 (by omega)
        rw [fl_S] at a4
        rw [← encGs_eq] at a5
        rw [← encMs_eq] at a6
        have := szGs_szs ts
        refine ⟨.mk k nn i2 nm ls ts ks, ?_, by rw [wlM, wlMs_eq]; omega, trivial⟩
        exact appR' (xs := [_]) (oneR (by simp only [RepD]; rfl)) (appR' (xs := [_]) (oneR (by simp only [RepD]; rfl)) (appR' (xs := [_]) (oneR (by simp only [RepD]; rfl)) (appR' (xs := [_]) (oneR (by simp only [RepD]; rfl)) (appR' (xs := [_]) (oneR a4) (appR' (xs := [_]) (oneR a5) (oneR a6))))))
theorem open_TMw {fuel : Nat} {cs : List Value} {x : DataW H × List MemPlace} (h : DataW.trod enc Tryz.prog W 0 sp true fuel 26 cs = some x) (hb : Rows.uptoBulk x.1 ≤ 1048576) : ∃ t : MG, RepDs (InW W) W (encM t) cs ∧ wlM t ≤ Rows.uptoBulk x.1 := by
  obtain ⟨t, h1, h2, _⟩ := read_TMw fuel cs x h hb
  exact ⟨t, h1, h2⟩
theorem fields_Bd : fieldsOf Tryz.prog 122 = [(9, 0), (28, 1)] := by kernel_rfl
theorem cells_Bd : Tryz.prog.cellsOf 122 = 5 := by kernel_rfl
theorem und_Bds : Tryz.prog.underlying 39 = some (.slice 122) := by kernel_rfl
set_option maxRecDepth 100000 in
theorem read_Bd (n : Nat) : ReadG enc W sp n 122 encB1 (fun _ => 0) (fun _ => True) := by
  intro cs x h hb
  obtain ⟨xs, n, rfl, rfl, hl, hxl, hf⟩ := trod_fields fields_Bd (by simp) h
  rw [cells_Bd] at hl
  have f0 := hf 0 _ _ rfl
  have f1 := hf 1 _ _ rfl
  match xs, hxl with
  | [y0, y1], _ =>
    match cs, hl with
    | [v0, v1, v2, v3, v4], _ =>
      rw [cellsStr] at f0
      rw [cells_TT] at f1
      obtain ⟨nm, rfl, hnm⟩ := read_name (v := v0) f0
      simp only [List.map_cons, List.map_nil, Rows.uptoBulk, Rows.uptoBulkAll] at hb ⊢
      obtain ⟨t, a1, b1, _⟩ := open_TT f1 (by omega)
      refine ⟨(nm, t), ?_, by omega, trivial⟩
      exact appR' (xs := [.str nm]) (oneR (by simp only [RepD])) a1
theorem open_Bds {fuel : Nat} {A : Option Addr} {n c : Nat} {x : DataW H × List MemPlace} (h : DataW.trod enc Tryz.prog W 0 sp true fuel 39 [.slice A n c] = some x) (hb : Rows.uptoBulk x.1 ≤ 1048576) : ∃ l : List Bd, RepD (InW W) W (dBs l) (.slice A n c) ∧ l.length ≤ Rows.uptoBulk x.1 := by
  obtain ⟨l, h1, _, _, h2, _⟩ := open_gen (f := encB1) 80 (by decide) und_Bds cells_Bd encB1_len (fun m _ => read_Bd m) h hb
  exact ⟨l, h1, h2⟩
end
end Go.Proofs.YtcjkikadolnfgaaGreat


