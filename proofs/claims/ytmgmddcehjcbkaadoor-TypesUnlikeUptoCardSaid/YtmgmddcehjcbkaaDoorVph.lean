/- Plain laws of texts: right types are told apart by their texts. -/
import Derived.Test.YtmgmddcehjcbkaaDoorVpg
namespace Go.Vx
open Go.Vc Go.Lib
set_option linter.unusedVariables false
set_option linter.unusedSimpArgs false

open Classical in
/-- The number of a numeral. -/
noncomputable def deco (A : List UInt8) : Int := if h : ∃ n : Int, itoa n = A then h.choose else 0
open Classical in
theorem deco_itoa (n : Int) : deco (itoa n) = n := by
  have h : ∃ m : Int, itoa m = itoa n := ⟨n, rfl⟩
  unfold deco; rw [dif_pos h]; exact itoa_inj h.choose_spec
def numc (c : UInt8) : Bool := c == 45 || (48 ≤ c.toNat && c.toNat ≤ 57)
theorem numc_itoa (n : Int) : ∀ c ∈ itoa n, numc c = true := by
  intro c hc
  rcases itoa_chars n c hc with rfl | ⟨h1, h2⟩
  · rfl
  · simp [numc, h1, h2]
theorem tw {p : UInt8 → Bool} : ∀ {A r : List UInt8}, (∀ c ∈ A, p c = true) → (∀ c, r.head? = some c → p c = false) → (A ++ r).takeWhile p = A ∧ (A ++ r).dropWhile p = r
  | [], [], _, _ => ⟨rfl, rfl⟩
  | [], c :: r, _, h => by simp [h c rfl]
  | a :: A, r, hA, h => by
    obtain ⟨h1, h2⟩ := tw (A := A) (fun c hc => hA c (by simp [hc])) h
    simp [hA a (by simp), h1, h2]
theorem tw_itoa (n : Int) {r : List UInt8} (hr : Stop r) : (itoa n ++ r).takeWhile numc = itoa n ∧ (itoa n ++ r).dropWhile numc = r := by
  refine tw (numc_itoa n) fun c hc => ?_
  rcases hr.head c hc with rfl | rfl <;> rfl
theorem tw_nil {r : List UInt8} (hr : Stop r) : r.takeWhile numc = [] ∧ r.dropWhile numc = r := by
  have := tw (p := numc) (A := []) (r := r) (by simp) fun c hc => by rcases hr.head c hc with rfl | rfl <;> rfl
  simpa using this

mutual
/-- A reader of factors, products and texts. -/
noncomputable def pF : Nat → List UInt8 → Option (Tp × List UInt8)
  | 0, _ => none
  | _ + 1, [] => none
  | n + 1, c :: r =>
    if c = 105 then some (.mk 1 0 [], r.drop 2) else if c = 98 then some (.mk 2 0 [], r.drop 3) else if c = 117 then some (.mk 3 0 [], r.drop 3) else
    if c = 35 then some (.mk 6 (deco (r.takeWhile numc)) [], r.dropWhile numc) else if c = 63 then some (.mk 7 (deco (r.takeWhile numc)) [], r.dropWhile numc) else
    if c = 39 then some (.mk 8 (((r.headD 0).toNat : Int) - 97 + if (r.drop 1).takeWhile numc = [] then 0 else 26 * deco ((r.drop 1).takeWhile numc)) [], (r.drop 1).dropWhile numc) else
    (pT n r).map fun x => (x.1, x.2.drop 1)
noncomputable def pL : Nat → Tp → List UInt8 → Option (Tp × List UInt8)
  | 0, _, _ => none
  | n + 1, acc, l => if l.take 3 = [32, 42, 32] then (pF n (l.drop 3)).bind fun x => pL n (.mk 5 0 [acc, x.1]) x.2 else some (acc, l)
noncomputable def pT : Nat → List UInt8 → Option (Tp × List UInt8)
  | 0, _ => none
  | n + 1, l => (pF n l).bind fun x => (pL n x.1 x.2).bind fun y => if y.2.take 4 = [32, 45, 62, 32] then (pT n (y.2.drop 4)).map fun z => (.mk 4 0 [y.1, z.1], z.2) else some y
end

section
variable (it : Int → ByteArray)
def tl (t : Tp) : List UInt8 := (txt it t).data.toList
def fac (t : Tp) : List UInt8 := if t.k = 4 ∨ t.k = 5 then 40 :: (tl it t ++ [41]) else tl it t
def prd (t : Tp) : List UInt8 := if t.k = 4 then 40 :: (tl it t ++ [41]) else tl it t
theorem bs_l (l : List UInt8) : (bs l).data.toList = l := by simp [bs]
theorem app_l (a b : ByteArray) : (a ++ b).data.toList = a.data.toList ++ b.data.toList := by simp [ByteArray.data_append]
theorem tl_arrow (n : Int) {a c : Tp} (ha : a.k = 4 → a.kids.length = 2) : tl it (.mk 4 n [a, c]) = prd it a ++ ([32, 45, 62, 32] ++ tl it c) := by
  simp only [tl, txt, txts, topT, prd, withT]
  by_cases h : a.k = 4
  · have := ha h
    simp [h, this, app_l, bs_l, tl]
  · simp [h, app_l, bs_l, tl]
theorem tl_pair (n : Int) {a c : Tp} (ha : a.k = 4 → a.kids.length = 2) (hc : c.k = 4 ∨ c.k = 5 → c.kids.length = 2) : tl it (.mk 5 n [a, c]) = prd it a ++ ([32, 42, 32] ++ fac it c) := by
  simp only [tl, txt, txts, topT, prd, fac, withT]
  by_cases h : a.k = 4 <;> by_cases h' : c.k = 4 ∨ c.k = 5
  · have := ha h; have := hc h'
    simp [*, app_l, bs_l, tl]
  · have := ha h
    simp [*, app_l, bs_l, tl]
  · have := hc h'
    simp [*, app_l, bs_l, tl]
  · simp [*, app_l, bs_l, tl]

theorem pT_eq (n : Nat) (l : List UInt8) : pT (n + 1) l = (pF n l).bind fun x => (pL n x.1 x.2).bind fun y => if y.2.take 4 = [32, 45, 62, 32] then (pT n (y.2.drop 4)).map fun z => (.mk 4 0 [y.1, z.1], z.2) else some y := by
  rw [pT]
theorem pL_eq (n : Nat) (acc : Tp) (l : List UInt8) : pL (n + 1) acc l = if l.take 3 = [32, 42, 32] then (pF n (l.drop 3)).bind fun x => pL n (.mk 5 0 [acc, x.1]) x.2 else some (acc, l) := by
  rw [pL]
/-- Nothing, or a closing parenthesis, comes next. -/
def StopT (r : List UInt8) : Prop := r = [] ∨ ∃ t, r = 41 :: t
theorem StopT.stop {r : List UInt8} (h : StopT r) : Stop r := by
  rcases h with h | h
  · exact .inl h
  · exact .inr (.inr h)
theorem StopT.np {r : List UInt8} (h : StopT r) : r.take 3 ≠ [32, 42, 32] ∧ r.take 4 ≠ [32, 45, 62, 32] := by
  rcases h with rfl | ⟨t, rfl⟩ <;> simp
end
/-- Kinds of right types. -/
theorem right_cases {k n : Int} {ks : List Tp} (h : right (.mk k n ks) = true) : ((k = 1 ∨ k = 2 ∨ k = 3) ∧ n = 0 ∧ ks = []) ∨ ((k = 4 ∨ k = 5) ∧ n = 0 ∧ ∃ a c, ks = [a, c] ∧ right a = true ∧ right c = true) ∨ ((k = 6 ∨ k = 7 ∨ k = 8) ∧ 0 ≤ n ∧ ks = []) := by
  simp only [right] at h
  split at h
  · rename_i h1
    simp at h h1
    exact .inl ⟨by omega, h.1, by simpa using h.2⟩
  · split at h
    · rename_i h1
      simp at h h1
      obtain ⟨h2, h3, h4⟩ := h
      have h3 : ks.length = 2 := by omega
      match ks, h3 with
      | [a, c], _ =>
        simp only [rights, Bool.and_eq_true] at h4
        exact .inr (.inl ⟨by omega, h2, a, c, rfl, h4.1, h4.2.1⟩)
    · split at h
      · rename_i h1
        simp at h h1
        exact .inr (.inr ⟨by omega, h.1, by simpa using h.2⟩)
      · cases h
theorem right_two {t : Tp} (h : right t = true) (hk : t.k = 4 ∨ t.k = 5) : t.kids.length = 2 := by
  obtain ⟨k, n, ks⟩ := t
  simp only [Tp.k, Tp.kids] at *
  rcases right_cases h with h | ⟨_, _, a, c, rfl, _⟩ | h
  · omega
  · rfl
  · omega
/-- The numbers' text. -/
def itA' (n : Int) : ByteArray := ⟨(itoa n).toArray⟩
theorem itA_l (n : Int) : (itA' n).data.toList = itoa n := by simp [itA']
/-- What is to be shown of a type, by one induction. -/
structure Read (t : Tp) : Prop where
  f : ∀ r, Stop r → ∃ n0, ∀ n, n0 ≤ n → pF n (fac itA' t ++ r) = some (t, r)
  p : ∀ r X, Stop r → (∃ n0, ∀ n, n0 ≤ n → pL n t r = X) → ∃ n0, ∀ n, n0 ≤ n → ((pF n (prd itA' t ++ r)).bind fun x => pL n x.1 x.2) = X
  t : ∀ r, StopT r → ∃ n0, ∀ n, n0 ≤ n → pT n (tl itA' t ++ r) = some (t, r)
theorem p_of_f {t : Tp} (h5 : t.k ≠ 5) (hf : ∀ r, Stop r → ∃ n0, ∀ n, n0 ≤ n → pF n (fac itA' t ++ r) = some (t, r)) (r : List UInt8) (X : Option (Tp × List UInt8)) (hr : Stop r) (hX : ∃ n0, ∀ n, n0 ≤ n → pL n t r = X) : ∃ n0, ∀ n, n0 ≤ n → ((pF n (prd itA' t ++ r)).bind fun x => pL n x.1 x.2) = X := by
  obtain ⟨n1, h1⟩ := hf r hr
  obtain ⟨n2, h2⟩ := hX
  refine ⟨n1 + n2, fun n hn => ?_⟩
  have e : prd itA' t = fac itA' t := by simp [prd, fac, h5]
  rw [e, h1 n (by omega)]
  exact h2 n (by omega)
theorem f_of_t {t : Tp} (h : t.k = 4 ∨ t.k = 5) (ht : ∀ r, StopT r → ∃ n0, ∀ n, n0 ≤ n → pT n (tl itA' t ++ r) = some (t, r)) (r : List UInt8) (hr : Stop r) : ∃ n0, ∀ n, n0 ≤ n → pF n (fac itA' t ++ r) = some (t, r) := by
  obtain ⟨n1, h1⟩ := ht (41 :: r) (.inr ⟨r, rfl⟩)
  refine ⟨n1 + 1, fun n hn => ?_⟩
  obtain ⟨n, rfl⟩ : ∃ m, n = m + 1 := ⟨n - 1, by omega⟩
  have e : fac itA' t ++ r = 40 :: (tl itA' t ++ 41 :: r) := by simp [fac, h]
  rw [e, pF, h1 n (by omega)]
  simp
theorem t_of_p {t : Tp} (h : t.k ≠ 4) (hp : ∀ r X, Stop r → (∃ n0, ∀ n, n0 ≤ n → pL n t r = X) → ∃ n0, ∀ n, n0 ≤ n → ((pF n (prd itA' t ++ r)).bind fun x => pL n x.1 x.2) = X) (r : List UInt8) (hr : StopT r) : ∃ n0, ∀ n, n0 ≤ n → pT n (tl itA' t ++ r) = some (t, r) := by
  obtain ⟨n1, h1⟩ := hp r (some (t, r)) hr.stop ⟨1, fun n hn => by
    obtain ⟨n, rfl⟩ : ∃ m, n = m + 1 := ⟨n - 1, by omega⟩
    rw [pL_eq, if_neg hr.np.1]⟩
  refine ⟨n1 + 1, fun n hn => ?_⟩
  obtain ⟨n, rfl⟩ : ∃ m, n = m + 1 := ⟨n - 1, by omega⟩
  have e : tl itA' t = prd itA' t := by simp [prd, h]
  have := h1 n (by omega)
  rw [pT_eq, e, ← Option.bind_assoc, this]
  simp [hr.np.2]
theorem gen_l {n : Int} (h0 : 0 ≤ n) (h : I64 n) : (genT itA' n).data.toList = 39 :: UInt8.ofNat (97 + n.toNat % 26) :: (if 26 ≤ n then itoa (n / 26) else []) := by
  obtain ⟨u, rfl⟩ : ∃ u : Nat, n = (u : Int) := ⟨n.toNat, by omega⟩
  have e1 : (u : Int).tmod 26 = ((u % 26 : Nat) : Int) := rfl
  have e2 : (u : Int).tdiv 26 = ((u / 26 : Nat) : Int) := rfl
  have e3 : IntKind.i64.wrap (97 + ((u % 26 : Nat) : Int)) = ((97 + u % 26 : Nat) : Int) := by rw [Go.Vc.wrap_small (by omega) (by omega)]; omega
  have e4 : IntKind.u8.wrap ((97 + u % 26 : Nat) : Int) = ((97 + u % 26 : Nat) : Int) := by
    have : u % 26 < 26 := Nat.mod_lt _ (by omega)
    generalize u % 26 = m at *
    have : m = 0 ∨ m = 1 ∨ m = 2 ∨ m = 3 ∨ m = 4 ∨ m = 5 ∨ m = 6 ∨ m = 7 ∨ m = 8 ∨ m = 9 ∨ m = 10 ∨ m = 11 ∨ m = 12 ∨ m = 13 ∨ m = 14 ∨ m = 15 ∨ m = 16 ∨ m = 17 ∨ m = 18 ∨ m = 19 ∨ m = 20 ∨ m = 21 ∨ m = 22 ∨ m = 23 ∨ m = 24 ∨ m = 25 := by omega
    rcases this with rfl|rfl|rfl|rfl|rfl|rfl|rfl|rfl|rfl|rfl|rfl|rfl|rfl|rfl|rfl|rfl|rfl|rfl|rfl|rfl|rfl|rfl|rfl|rfl|rfl|rfl <;> rfl
  have e5 : IntKind.i64.wrap ((u / 26 : Nat) : Int) = ((u / 26 : Nat) : Int) := Go.Vc.wrap_small (by omega) (by have := h.2; omega)
  have e6 : ((u : Int) / 26) = ((u / 26 : Nat) : Int) := rfl
  have eb : ∀ m : Nat, (bytesOf [((m : Nat) : Int)]).data.toList = [UInt8.ofNat m] := fun m => by simp [bytesOf]
  unfold genT
  rw [if_neg (by omega), e1, e2, e3, e4, e5, e6]
  split
  · rename_i h26
    simp only [app_l, bs_l, eb, itA_l, if_pos (show (26:Int) ≤ (u:Int) from h26), if_pos (show (u:Int) ≥ 26 from h26), Int.toNat_natCast]; rfl
  · rename_i h26
    simp only [app_l, bs_l, eb, if_neg (show ¬ (26:Int) ≤ (u:Int) from h26), Int.toNat_natCast]; rfl
theorem read_atom {k n : Int} (h : (k = 1 ∨ k = 2 ∨ k = 3) ∧ n = 0 ∨ (k = 6 ∨ k = 7 ∨ k = 8) ∧ 0 ≤ n) (hn : I64 n) : Read (.mk k n []) := by
  have hk : k ≠ 4 ∧ k ≠ 5 := by omega
  have hf : ∀ r, Stop r → ∃ n0, ∀ m, n0 ≤ m → pF m (fac itA' (.mk k n []) ++ r) = some (.mk k n [], r) := by
    intro r hr
    refine ⟨1, fun m hm => ?_⟩
    obtain ⟨m, rfl⟩ : ∃ m', m = m' + 1 := ⟨m - 1, by omega⟩
    have e : fac itA' (.mk k n []) = tl itA' (.mk k n []) := by simp [fac, Tp.k, hk]
    rw [e]
    obtain ⟨t1, t2⟩ := tw_itoa n hr
    rcases h with ⟨hk, rfl⟩ | ⟨hk, h0⟩
    · rcases hk with rfl | rfl | rfl <;> simp [tl, txt, txts, topT, bs_l, pF]
    · rcases hk with rfl | rfl | rfl
      · simp [tl, txt, txts, topT, bs_l, app_l, itA_l, pF, t1, t2, deco_itoa]
      · simp [tl, txt, txts, topT, bs_l, app_l, itA_l, pF, t1, t2, deco_itoa]
      · have eg : tl itA' (.mk 8 n []) = (genT itA' n).data.toList := by simp [tl, txt, topT]
        rw [eg, gen_l h0 hn]
        have hc : ((UInt8.ofNat (97 + n.toNat % 26)).toNat : Int) = 97 + n % 26 := by
          rw [UInt8.toNat_ofNat']; omega
        by_cases h26 : 26 ≤ n
        · obtain ⟨t1, t2⟩ := tw_itoa (n / 26) hr
          have hne : itoa (n / 26) ≠ [] := by
            intro h; have := (itoa_len (n / 26)).1; rw [h] at this; simp at this
          simp only [if_pos h26, List.cons_append, pF]
          simp only [List.headD_cons, List.drop_succ_cons, List.drop_zero, t1, t2, deco_itoa, hc, if_neg hne]
          simp
          omega
        · obtain ⟨t1, t2⟩ := tw_nil hr
          simp only [if_neg h26, List.cons_append, List.nil_append, pF]
          simp only [List.headD_cons, List.drop_succ_cons, List.drop_zero, t1, t2, hc, if_true]
          simp
          omega
  have hp := p_of_f (t := .mk k n []) (by simp [Tp.k, hk]) hf
  exact ⟨hf, hp, t_of_p (by simp [Tp.k, hk]) hp⟩
mutual
/-- All numbers of a type are of 64 bits. -/
def allN : Tp → Prop
  | .mk _ n ks => I64 n ∧ allNs ks
def allNs : List Tp → Prop
  | [] => True
  | t :: r => allN t ∧ allNs r
end
mutual
theorem nums_of_all : ∀ t : Tp, allN t → nums I64 t
  | .mk k n ks, h => by
    simp only [allN] at h
    simp only [nums]
    refine ⟨fun _ => h.1, fun _ => h.1, fun _ h26 => ?_, numsLs_of_all ks h.2⟩
    obtain ⟨h1, h2⟩ := h.1
    have e : n.tdiv 26 = n / 26 := Int.tdiv_eq_ediv_of_nonneg (by omega)
    rw [e, Go.Vc.wrap_small (by omega) (by omega)]
    exact ⟨by omega, by omega⟩
theorem numsLs_of_all : ∀ ts : List Tp, allNs ts → numsLs I64 ts
  | [], _ => by simp only [numsLs]
  | t :: r, h => by
    simp only [allNs] at h
    simp only [numsLs]
    exact ⟨nums_of_all t h.1, numsLs_of_all r h.2⟩
end
theorem read_all : ∀ t : Tp, right t = true → allN t → Read t := by
  refine Tp.ind fun k n ks ih hr hn => ?_
  simp only [allN] at hn
  obtain ⟨hn, hks⟩ := hn
  rcases right_cases hr with ⟨h, rfl, rfl⟩ | ⟨h, rfl, a, c, rfl, ra, rc⟩ | ⟨h, h0, rfl⟩
  · exact read_atom (.inl ⟨h, rfl⟩) hn
  · simp only [allNs] at hks
    have ia := ih a (by simp) ra hks.1
    have ic := ih c (by simp) rc hks.2.1
    have la := right_two ra
    have lc := right_two rc
    rcases h with rfl | rfl
    · have ht : ∀ r, StopT r → ∃ n0, ∀ n, n0 ≤ n → pT n (tl itA' (.mk 4 0 [a, c]) ++ r) = some (.mk 4 0 [a, c], r) := by
        intro r hr
        rw [tl_arrow itA' 0 fun h => la (.inl h)]
        obtain ⟨n1, h1⟩ := ia.p ([32, 45, 62, 32] ++ tl itA' c ++ r) (some (a, [32, 45, 62, 32] ++ tl itA' c ++ r)) (.inr (.inl ⟨_, rfl⟩)) ⟨1, fun n hn => by
          obtain ⟨n, rfl⟩ : ∃ m, n = m + 1 := ⟨n - 1, by omega⟩
          rw [pL_eq, if_neg (by simp)]⟩
        obtain ⟨n2, h2⟩ := ic.t r hr
        refine ⟨n1 + n2 + 1, fun n hn => ?_⟩
        obtain ⟨n, rfl⟩ : ∃ m, n = m + 1 := ⟨n - 1, by omega⟩
        have h1 := h1 n (by omega)
        have h2 := h2 n (by omega)
        rw [pT_eq, List.append_assoc, ← Option.bind_assoc, h1]
        simp [h2]
      have hf := f_of_t (t := .mk 4 0 [a, c]) (.inl rfl) ht
      exact ⟨hf, p_of_f (by simp [Tp.k]) hf, ht⟩
    · have hp : ∀ r X, Stop r → (∃ n0, ∀ n, n0 ≤ n → pL n (.mk 5 0 [a, c]) r = X) → ∃ n0, ∀ n, n0 ≤ n → ((pF n (prd itA' (.mk 5 0 [a, c]) ++ r)).bind fun x => pL n x.1 x.2) = X := by
        intro r X hr hX
        have e : prd itA' (.mk 5 0 [a, c]) = tl itA' (.mk 5 0 [a, c]) := by simp [prd, Tp.k]
        rw [e, tl_pair itA' 0 (fun h => la (.inl h)) lc]
        obtain ⟨n1, h1⟩ := hX
        obtain ⟨n2, h2⟩ := ic.f r hr
        obtain ⟨n3, h3⟩ := ia.p ([32, 42, 32] ++ fac itA' c ++ r) X (.inr (.inl ⟨_, rfl⟩)) ⟨n1 + n2 + 1, fun n hn => by
          obtain ⟨n, rfl⟩ : ∃ m, n = m + 1 := ⟨n - 1, by omega⟩
          rw [pL_eq, if_pos (by simp)]
          have := h2 n (by omega)
          have h1 := h1 n (by omega)
          simp [this, h1]⟩
        refine ⟨n3, fun n hn => ?_⟩
        have := h3 n hn
        rw [List.append_assoc]
        exact this
      have ht := t_of_p (t := .mk 5 0 [a, c]) (by simp [Tp.k]) hp
      exact ⟨f_of_t (.inr rfl) ht, hp, ht⟩
  · exact read_atom (.inr ⟨h, h0⟩) hn
/-- Right types with one text are one. -/
theorem txt_inj (t u : Tp) (ht : right t = true) (hu : right u = true) (nt : allN t) (nu : allN u) (h : txt itA' t = txt itA' u) : t = u := by
  obtain ⟨n1, h1⟩ := (read_all t ht nt).t [] (.inl rfl)
  obtain ⟨n2, h2⟩ := (read_all u hu nu).t [] (.inl rfl)
  have h1 := h1 (n1 + n2) (by omega)
  have h2 := h2 (n1 + n2) (by omega)
  have e : tl itA' t = tl itA' u := by unfold tl; rw [h]
  rw [e, h2] at h1
  simpa using h1.symm
end Go.Vx
