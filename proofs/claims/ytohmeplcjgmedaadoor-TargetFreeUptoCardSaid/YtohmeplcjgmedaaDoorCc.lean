/- The target's readers and the law of sizes: the texts Bq to Bs, joined. -/
import Derived.Test.YtohmeplcjgmedaaDoorCb
import Derived.Test.YtohmeplcjgmedaaDoorRows
import Derived.WalkKit
import Derived.ProofKit
import Derived.OpenShut
import Derived.JoinedCond
import Derived.Carry
import Derived.Deep.DeepHandedRow
import Derived.Lib.LaidTab
set_option linter.unusedVariables false
set_option linter.unusedSimpArgs false
/- What the rows' readings say of arguments in memory. -/
namespace Go.Proofs.YtohmeplcjgmedaaDoor
open Go.Vx Go.Vc Go.RowKit

theorem cells25 : Tryd.prog.cellsOf 25 = 4 := by kernel_rfl
theorem cellsI : Tryd.prog.cellsOf 3 = 1 := by kernel_rfl
theorem cells9 : Tryd.prog.cellsOf 9 = 1 := by kernel_rfl
theorem cells22 : Tryd.prog.cellsOf 22 = 1 := by kernel_rfl
theorem cells23 : Tryd.prog.cellsOf 23 = 1 := by kernel_rfl

section
variable {H : Type} {enc : TypeId × Value → H} {W : World} {sp : Nat → Bool}

theorem bulk_one (d : DataW H) : 1 ≤ Rows.uptoBulk d := by
  cases d with
  | lit l => cases l <;> simp [Rows.uptoBulk]
  | nil => simp [Rows.uptoBulk]
  | ptr d => simp [Rows.uptoBulk]
  | slice elems spare => simp [Rows.uptoBulk]
  | agg parts => simp [Rows.uptoBulk]
  | iface t d => simp [Rows.uptoBulk]
  | map entries => simp [Rows.uptoBulk]
  | held h => simp [Rows.uptoBulk]
theorem dnil {eb : Nat} {cs : List D} (h : cs = []) : RepD (InW W) W (slD eb 0 cs) (.slice none 0 0) := by
  subst h
  simp only [slD, ebn, RepD]
  exact ⟨none, 0, rfl, Nat.le_refl _, by simp, by simp, by simp only [RepC]⟩
theorem ebn_le (eb n : Nat) : ebn eb n ≤ eb := by unfold ebn; split <;> omega
/-- A slice of numbers. -/
theorem open_I {fuel : Nat} {A : Option Addr} {n c : Nat} {x : DataW H × List MemPlace} (h : DataW.trod enc Tryd.prog W 0 sp true fuel 29 [.slice A n c] = some x) (hb : Rows.uptoBulk x.1 ≤ 1048576) :
    ∃ l : List Int, RepD (InW W) W (dI l) (.slice A n c) ∧ l.length ≤ Rows.uptoBulk x.1 := by
  rcases DataW.trod_slice Tryd.underlying29 h with ⟨hs, e2⟩ | ⟨a, len, cap, elems, rest, m, rfl, hs, e2, _, hle, hcap, hlen, hel, _⟩
  · injection hs with hs _
    injection hs with h1 h2 h3
    subst h1; subst h2; subst h3
    exact ⟨[], dnil rfl, by simp⟩
  · injection hs with hs _
    injection hs with h1 h2 h3
    subst h1; subst h2; subst h3
    subst e2
    have key : ∀ m j : Nat, j + m = n → ∃ l : List Int, l.length = m ∧ RepC (InW W) W (Vx.encI l) (some a) j ∧ m ≤ Rows.uptoBulkAll ((elems.drop j).map (·.1)) := by
      intro m
      induction m with
      | zero => exact fun j _ => ⟨[], rfl, by simp only [Vx.encI, List.map_nil, RepC], Nat.zero_le _⟩
      | succ m ihm =>
        intro j hj
        have hjl : j < elems.length := by omega
        obtain ⟨l, h1, h2, h3⟩ := ihm (j + 1) (by omega)
        have h4 := hel j (by omega)
        rw [List.getElem?_eq_getElem hjl, cellsI] at h4
        obtain ⟨cs, h5, h6⟩ := Option.bind_eq_some_iff.1 h4
        obtain ⟨k, rfl, _, _⟩ := DataW.trod_int Tryd.underlying3 h6
        obtain ⟨_, _, q⟩ := World.cells?_some h5
        have q0 := q 0 (by omega)
        rw [Go.Vc.add_add] at q0
        simp only [Nat.mul_one, Nat.add_zero, List.getElem?_cons_zero] at q0
        refine ⟨k :: l, by simp [h1], ?_, ?_⟩
        · simp only [Vx.encI, List.map_cons, RepC] at h2 ⊢
          exact ⟨⟨a, _, rfl, by have := World.block_lt_of_cell? W _ q0; rwa [add_block] at this, q0, by simp only [RepD]⟩, h2⟩
        · rw [List.drop_eq_getElem_cons hjl, List.map_cons, Rows.uptoBulkAll]
          have := bulk_one elems[j].1
          omega
    obtain ⟨l, h1, h2, h3⟩ := key n 0 (by omega)
    simp only [List.drop_zero] at h3
    simp only [Rows.uptoBulk] at hb ⊢
    refine ⟨l, ?_, by omega⟩
    subst h1
    simp only [slD, RepD]
    refine ⟨some a, c, rfl, hle, ?_, fun _ => ⟨a, rfl⟩, h2⟩
    have := Nat.mul_le_mul_left l.length (ebn_le 8 l.length)
    simp only [LB]; omega
/-- A slice of texts. -/
theorem open_Ss {fuel : Nat} {A : Option Addr} {n c : Nat} {x : DataW H × List MemPlace} (h : DataW.trod enc Tryd.prog W 0 sp true fuel 22 [.slice A n c] = some x) (hb : Rows.uptoBulk x.1 ≤ 1048576) :
    ∃ l : List ByteArray, RepD (InW W) W (dL l) (.slice A n c) ∧ l.length ≤ Rows.uptoBulk x.1 := by
  rcases DataW.trod_slice Tryd.underlying22 h with ⟨hs, e2⟩ | ⟨a, len, cap, elems, rest, m, rfl, hs, e2, _, hle, hcap, hlen, hel, _⟩
  · injection hs with hs _
    injection hs with h1 h2 h3
    subst h1; subst h2; subst h3
    exact ⟨[], dnil rfl, by simp⟩
  · injection hs with hs _
    injection hs with h1 h2 h3
    subst h1; subst h2; subst h3
    subst e2
    have key : ∀ m j : Nat, j + m = n → ∃ l : List ByteArray, l.length = m ∧ RepC (InW W) W (encS l) (some a) j ∧ m ≤ Rows.uptoBulkAll ((elems.drop j).map (·.1)) := by
      intro m
      induction m with
      | zero => exact fun j _ => ⟨[], rfl, by simp only [encS, List.map_nil, RepC], Nat.zero_le _⟩
      | succ m ihm =>
        intro j hj
        have hjl : j < elems.length := by omega
        obtain ⟨l, h1, h2, h3⟩ := ihm (j + 1) (by omega)
        have h4 := hel j (by omega)
        rw [List.getElem?_eq_getElem hjl, cells9] at h4
        obtain ⟨cs, h5, h6⟩ := Option.bind_eq_some_iff.1 h4
        obtain ⟨k, rfl, _, _⟩ := DataW.trod_string Tryd.underlying9 h6
        obtain ⟨_, _, q⟩ := World.cells?_some h5
        have q0 := q 0 (by omega)
        rw [Go.Vc.add_add] at q0
        simp only [Nat.mul_one, Nat.add_zero, List.getElem?_cons_zero] at q0
        refine ⟨k :: l, by simp [h1], ?_, ?_⟩
        · simp only [encS, List.map_cons, RepC] at h2 ⊢
          exact ⟨⟨a, _, rfl, by have := World.block_lt_of_cell? W _ q0; rwa [add_block] at this, q0, by simp only [RepD]⟩, h2⟩
        · rw [List.drop_eq_getElem_cons hjl, List.map_cons, Rows.uptoBulkAll]
          have := bulk_one elems[j].1
          omega
    obtain ⟨l, h1, h2, h3⟩ := key n 0 (by omega)
    simp only [List.drop_zero] at h3
    simp only [Rows.uptoBulk] at hb ⊢
    refine ⟨l, ?_, by omega⟩
    subst h1
    simp only [slD, RepD]
    refine ⟨some a, c, rfl, hle, ?_, fun _ => ⟨a, rfl⟩, h2⟩
    have := Nat.mul_le_mul_left l.length (ebn_le 16 l.length)
    simp only [LB]; omega
/-- A type's value reads as t. -/
def ReadsG (W : World) (cs : List Value) (d : DataW H) : Prop := ∃ t : TG, RepDs (InW W) W (encG t) cs ∧ szG t ≤ Rows.uptoBulk d
theorem szGs_len : ∀ l : List TG, l.length ≤ szGs l
  | [] => Nat.le_refl _
  | t :: r => by
    have h1 := szG_pos t
    have h2 := szGs_len r
    simp only [szGs, List.length_cons]; omega
theorem elems_G {n : Nat} (ih : ∀ (cs : List Value) (x : DataW H × List MemPlace), DataW.trod enc Tryd.prog W 0 sp true n 25 cs = some x → Rows.uptoBulk x.1 ≤ 1048576 → ReadsG W cs x.1)
    {a : Addr} {len : Nat} {elems : List (DataW H × List MemPlace)} (hlen : elems.length = len)
    (hel : ∀ i, i < len → (W.cells? 0 (a.add (i * Tryd.prog.cellsOf 25)) (Tryd.prog.cellsOf 25)).bind (DataW.trod enc Tryd.prog W 0 sp true n 25) = elems[i]?) :
    ∀ (m j : Nat), j + m = len → Rows.uptoBulkAll ((elems.drop j).map (·.1)) ≤ 1048576 → ∃ ts : List TG, ts.length = m ∧ RepC (InW W) W (encGs ts) (some a) (j * 4) ∧ szGs ts ≤ Rows.uptoBulkAll ((elems.drop j).map (·.1))
  | 0, j, _, _ => ⟨[], rfl, by simp only [encGs, RepC], by simp [szGs]⟩
  | m + 1, j, hj, hb => by
    have hjl : j < elems.length := by omega
    rw [List.drop_eq_getElem_cons hjl, List.map_cons, Rows.uptoBulkAll] at hb ⊢
    obtain ⟨ts, h1, h2, h3⟩ := elems_G ih hlen hel m (j + 1) (by omega) (by omega)
    have h4 := hel j (by omega)
    rw [List.getElem?_eq_getElem hjl, cells25] at h4
    obtain ⟨cs, h5, h6⟩ := Option.bind_eq_some_iff.1 h4
    obtain ⟨t, k2, k3⟩ := ih cs _ h6 (by omega)
    obtain ⟨_, _, q⟩ := World.cells?_some h5
    have hlc : cs.length = 4 := k2.len
    have hc : ∀ (i : Nat) v, cs[i]? = some v → W.cell? (a.add (j * 4 + i)) = some v := by
      intro i v hv
      have hi := (List.getElem?_eq_some_iff.1 hv).1
      have q := q i (by omega)
      rw [Go.Vc.add_add] at q
      rw [q, hv]
    refine ⟨t :: ts, by simp [h1], ?_, by simp only [szGs]; omega⟩
    simp only [encGs, encG0_eq]
    refine RepC.app (RepDs.cellsW k2 hc) ?_
    rw [encG_len, show j * 4 + 4 = (j + 1) * 4 from by omega]
    exact h2
theorem four_of {α : Type} {xs : List α} (h : xs.length = 4) : ∃ a b c d, xs = [a, b, c, d] := by
  match xs, h with
  | [a, b, c, d], _ => exact ⟨a, b, c, d, rfl⟩
theorem open_G : ∀ (fuel : Nat) (cs : List Value) (x : DataW H × List MemPlace), DataW.trod enc Tryd.prog W 0 sp true fuel 25 cs = some x → Rows.uptoBulk x.1 ≤ 1048576 → ReadsG W cs x.1 := by
  intro fuel
  induction fuel using Nat.strongRecOn with
  | _ fuel ih =>
    intro cs x h hb
    obtain ⟨xs, n, rfl, rfl, hl, hxl, hf⟩ := DataW.trod_struct Tryd.underlying25 h
    rw [cells25] at hl
    have hxl : xs.length = 4 := hxl.trans (by kernel_rfl)
    obtain ⟨y0, y1, y2, y3, rfl⟩ := four_of hxl
    obtain ⟨v0, v1, v2, v3, rfl⟩ := four_of hl
    have f0 : DataW.trod enc Tryd.prog W 0 sp true n 3 (List.take (Tryd.prog.cellsOf 3) [v0, v1, v2, v3]) = some y0 := hf 0 _ rfl
    have f1 : DataW.trod enc Tryd.prog W 0 sp true n 3 (List.take (Tryd.prog.cellsOf 3) [v1, v2, v3]) = some y1 := hf 1 _ rfl
    have f2 : DataW.trod enc Tryd.prog W 0 sp true n 22 (List.take (Tryd.prog.cellsOf 22) [v2, v3]) = some y2 := hf 2 _ rfl
    have f3 : DataW.trod enc Tryd.prog W 0 sp true n 23 (List.take (Tryd.prog.cellsOf 23) [v3]) = some y3 := hf 3 _ rfl
    rw [cellsI] at f0 f1
    rw [cells22] at f2
    rw [cells23] at f3
    obtain ⟨k, hk, e0, _⟩ := DataW.trod_int Tryd.underlying3 f0
    obtain ⟨nn, hn, e1, _⟩ := DataW.trod_int Tryd.underlying3 f1
    simp at hk hn
    subst hk; subst hn
    simp only [List.map_cons, List.map_nil, Rows.uptoBulk, Rows.uptoBulkAll] at hb ⊢
    obtain ⟨A2, l2, c2, rfl⟩ : ∃ A l c, v2 = .slice A l c := by
      rcases DataW.trod_slice Tryd.underlying22 f2 with ⟨hs, _⟩ | ⟨a, len, cap, elems, rest, m, _, hs, _⟩
      · have hs : [v2] = [.slice none 0 0] := hs
        injection hs with hs _; exact ⟨_, _, _, hs⟩
      · have hs : [v2] = [.slice (some a) len cap] := hs
        injection hs with hs _; exact ⟨_, _, _, hs⟩
    obtain ⟨ls, r2, _⟩ := open_Ss f2 (by omega)
    rcases DataW.trod_slice Tryd.underlying23 f3 with ⟨hs, e2⟩ | ⟨a, len, cap, elems, rest, m, rfl, hs, e2, _, hle, hcap, hlen, hel, _⟩
    · have hs : [v3] = [.slice none 0 0] := hs
      injection hs with hs _
      subst hs
      refine ⟨.mk k nn ls [], ?_, ?_⟩
      · simp only [encG, g_k, g_n, g_ls, g_kids, RepDs]
        exact ⟨_, _, rfl, by simp only [RepD], _, _, rfl, by simp only [RepD], _, _, rfl, r2, _, _, rfl, dnil rfl, rfl⟩
      · have := bulk_one y0.1
        simp only [szG, szGs, Rows.uptoBulk, Rows.uptoBulkAll]
        omega
    · have hs : [v3] = [.slice (some a) len cap] := hs
      injection hs with hs _
      subst hs
      have e2' : y3.1 = .slice (elems.map (·.1)) (rest.map (·.1)) := congrArg Prod.fst e2
      rw [e2'] at hb ⊢
      simp only [Rows.uptoBulk] at hb
      obtain ⟨ts, h1, h2, h3⟩ := elems_G (fun cs x hx hb => ih m (by omega) cs x hx hb) hlen hel len 0 (by omega) (by simp; omega)
      simp only [List.drop_zero] at h3
      subst h1
      have hsl := szGs_len ts
      refine ⟨.mk k nn ls ts, ?_, ?_⟩
      · simp only [encG, g_k, g_n, g_ls, g_kids, RepDs]
        refine ⟨_, _, rfl, by simp only [RepD], _, _, rfl, by simp only [RepD], _, _, rfl, r2, _, _, rfl, ?_, rfl⟩
        simp only [slD, RepD]
        refine ⟨some a, cap, rfl, hle, ?_, fun _ => ⟨a, rfl⟩, by simpa using h2⟩
        have : ebn 64 ts.length ≤ 64 := by unfold ebn; split <;> omega
        have := Nat.mul_le_mul_left ts.length this
        simp only [LB]; omega
      · have := bulk_one y0.1
        simp only [szG, szGs, Rows.uptoBulk, Rows.uptoBulkAll]
        omega
end
end Go.Proofs.YtohmeplcjgmedaaDoor

/- The law TargetSizes. -/
namespace Go.Proofs.YtohmeplcjgmedaaDoor
open Go.Vx Go.Vc Go.RowKit

theorem sizeG_big (t : TG) (h : szG t ≤ 1048576) : sizeG t 1099511627776 = szG t := by
  unfold sizeG
  rw [if_neg (by omega), if_pos (by omega)]
theorem sizes_law_fn (t : TG) (n : Int) (hz : szG t ≤ 1048576) (hn : n < 9223372036854775808) : FnR Tryd.prog G0 5 [dG t, .int .i64 n] (.bool true) := by
  obtain ⟨k, m, ls, ks⟩ := t
  have hsz : szG (.mk k m ls ks) = szGs ks + 1 := by simp only [szG]
  refine fnQ_sz fun hs => ?_
  have hl := (szOk_G (t := .mk k m ls ks) hs.1).1
  simp only [g_kids, LB] at hl
  refine fnQ_of_vc txok mixed [] Tryd.func5 rfl rfl (by simp) fun b => ?_
  conv => whnf
  refine callF (size_fn (.mk k m ls ks) 1099511627776 (by omega) (by omega)) gf13 rfl rfl ?_
  rw [sizeG_big _ hz]
  conv => whnf
  refine loopH (fun i : Nat => i ≤ ks.length) (fun i => ks.length - i) (fun i => [(7, .d (.int .i64 i)), (6, .d (.int .i64 ((szGs (ks.take i) + 1 : Nat) : Int)))]) (fun _ => [(0, .blk 25 [.d (.int .i64 k), .d (.int .i64 m), .d (dL ls), .d (dGs ks)])]) 1 0 (by omega) (weak_of rfl (by repeat ((conv => whnf); first | exact trivial | refine And.intro rfl ?_ | refine And.intro (incD (by omega)) ?_)) (by repeat ((conv => whnf); first | exact trivial | refine And.intro rfl ?_ | refine And.intro (incD (by omega)) ?_))) ?_
  intro i hi
  have hle := szGs_le ks i
  conv => whnf
  refine And.intro (fun hb => ?_) (fun hb => ?_)
  · have hil : i < ks.length := by have := of_decide_eq_true hb; omega
    have htk := szGs_take hil
    have htl := szGs_le ks (i + 1)
    have hk : szG ks[i] ≤ 1048576 := by have := szG_mem (List.getElem_mem hil); omega
    conv => whnf
    refine IdxC.encGs i hil rfl ?_
    conv => whnf
    refine callF (size_fn ks[i] 1099511627776 (by omega) (by omega)) gf13 rfl rfl ?_
    rw [sizeG_big _ hk]
    conv => whnf
    rw [incD (by omega)]
    rw [show IntKind.i64.wrap (((szGs (ks.take i) + 1 : Nat) : Int) + (szG ks[i] : Nat)) = ((szGs (ks.take (i + 1)) + 1 : Nat) : Int) from by rw [Go.Vc.wrap_small (by omega) (by omega), htk]; push_cast; omega]
    exact again (i + 1) (by omega) (by omega) (weak_of rfl (by repeat ((conv => whnf); first | exact trivial | refine And.intro rfl ?_ | refine And.intro (incD (by omega)) ?_)) (by repeat ((conv => whnf); first | exact trivial | refine And.intro rfl ?_ | refine And.intro (incD (by omega)) ?_)))
  · have hi : i = ks.length := by have := of_decide_eq_false hb; omega
    subst hi
    rw [List.take_length]
    conv => whnf
    refine And.intro (fun _ => ?_) (fun h => ?_)
    rotate_left
    · exfalso
      rw [hsz] at h
      simp at h
    conv => whnf
    refine callF alive_fn gf7 rfl rfl ?_
    conv => whnf
    refine And.intro (fun h => by cases h) (fun _ => ?_)
    conv => whnf
    refine And.intro (fun h => ?_) (fun h => ?_)
    · have h := of_decide_eq_true h
      conv => whnf
      refine callF (size_fn (.mk k m ls ks) n (by omega) hn) gf13 rfl rfl ?_
      conv => whnf
      refine congrArg D.bool ?_
      simp [sizeG, h]
    · have h := of_decide_eq_false h
      conv => whnf
      refine And.intro (fun h2 => ?_) (fun h2 => ?_)
      · have h2 := of_decide_eq_true h2
        conv => whnf
        refine callF (size_fn (.mk k m ls ks) n (by omega) hn) gf13 rfl rfl ?_
        conv => whnf
        rw [Go.Vc.wrap_small (by omega) (by omega)]
        refine congrArg D.bool ?_
        rw [sizeG, if_neg h, if_neg (by omega)]
        simp
      · have h2 := of_decide_eq_false h2
        conv => whnf
        refine callF (size_fn (.mk k m ls ks) n (by omega) hn) gf13 rfl rfl ?_
        conv => whnf
        refine congrArg D.bool ?_
        rw [sizeG, if_neg h, if_pos (by omega)]
        simp
end Go.Proofs.YtohmeplcjgmedaaDoor

/- A world for the witnesses: the tables hold what their initialisers lay. -/
namespace Go.Proofs.YtohmeplcjgmedaaDoor
open Go.ChangeShapes Go.WideShapes Go.ChangeAt Go.RowKit

def tab0 : Array Value := #[.int .u64 1, .int .u64 10, .int .u64 100, .int .u64 1000, .int .u64 10000, .int .u64 100000, .int .u64 1000000, .int .u64 10000000, .int .u64 100000000, .int .u64 1000000000, .int .u64 10000000000, .int .u64 100000000000, .int .u64 1000000000000, .int .u64 10000000000000, .int .u64 100000000000000, .int .u64 1000000000000000, .int .u64 10000000000000000, .int .u64 100000000000000000, .int .u64 1000000000000000000, .int .u64 10000000000000000000]
def tab1 : Array Value := (#[0, 1, 28, 2, 29, 14, 24, 3, 30, 22, 20, 15, 25, 17, 4, 8, 31, 27, 13, 23, 21, 19, 16, 7, 26, 12, 18, 6, 11, 5, 10, 9] : Array Int).map (.int .u8)
def tab2 : Array Value := (#[0, 1, 56, 2, 57, 49, 28, 3, 61, 58, 42, 50, 38, 29, 17, 4, 62, 47, 59, 36, 45, 43, 51, 22, 53, 39, 33, 30, 24, 18, 12, 5, 63, 55, 48, 27, 60, 41, 37, 16, 46, 35, 44, 21, 52, 32, 23, 11, 54, 26, 40, 15, 34, 20, 31, 10, 25, 14, 19, 9, 13, 8, 7, 6] : Array Int).map (.int .u8)
def putTab (h : Array Obj) (k : Nat) (cs : Array Value) : Array Obj := h.modify k fun
  | .cells _ t frozen => .cells cs t frozen
  | o => o
noncomputable def laidWorld (os : Os) : World :=
  { World.holding Tryd.prog os ⟨#[], #[], []⟩ with heap := putTab (putTab (putTab (World.holding Tryd.prog os ⟨#[], #[], []⟩).heap 0 tab0) 1 tab1) 2 tab2 }
end Go.Proofs.YtohmeplcjgmedaaDoor

