/- Laws: strings out of bytes, parts of strings. -/
import Derived.Test.YtohmeplcjgmedaaDoorVxq
import Derived.Laws.BytesString
import Derived.Laws.Strings2
import Derived.Laws.Slices
namespace Go.Vx
open Go.RowKit Go.Vc

section
variable {P : Program} {G : Glob} {ty : List (Nat × TY)} {N n0 : Nat} {b : Bs G n0}

/-- An operation that yields a value, and leaves the world. -/
theorem valC {kp : Bool} {o : Oper} {st : St} {K : SExit → St → Prop} (sv : SV) (h : ∀ e a w, Ok b N e st a w → ∃ v, RepSV e w sv v ∧ (execOp a.eval o).run P w = .ok (.value v) w) (hk : putK N o.dst sv st (K .normal)) : OpC P b N kp o st K := by
  refine ⟨fun e a w hok => ?_⟩
  obtain ⟨v, h1, h2⟩ := h e a w hok
  obtain ⟨st', g1, g2, _⟩ := putK_sound hok h1 hk
  rw [h2]
  exact ⟨e, st', .of ⟨Kept.refl _ _, Agr.refl _ _ _⟩, g1, g2⟩
/-- A part of a string. -/
theorem slStrC (hty : Tys P ty) {kp : Bool} {o : Oper} {st : St} {K : SExit → St → Prop} {t : TypeId} {y : TY} {x lo hi : Operand} {s : ByteArray} {kl kh : IntKind} {i j : Int} (ho : o.op = .slice t x (some lo) (some hi) none) (hy : lk ty t = some y) (hyk : y.kd = .str) (hx : ev st.T x = some (.d (.str s))) (hl : ev st.T lo = some (.d (.int kl i))) (hh : ev st.T hi = some (.d (.int kh j)))
    (h0 : 0 ≤ i) (h1 : i ≤ j) (h2 : j ≤ s.size) (r : ByteArray) (hr : s.extract i.toNat j.toNat = r) (hk : putK N o.dst (.d (.str r)) st (K .normal)) : OpC P b N kp o st K := by
  subst hr
  refine valC _ (fun e a w hok => ⟨.string (s.extract i.toNat j.toNat), by simp only [RepSV, RepD], ?_⟩) hk
  have g1 := hok.tmok _ _ hx
  have g2 := hok.tmok _ _ hl
  have g3 := hok.tmok _ _ hh
  simp only [RepSV, RepD] at g1 g2 g3
  have hu := (hty _ _ hy).str hyk
  obtain ⟨dst, op, type, pos, after, guard⟩ := o
  simp only at ho
  subst ho
  simp only [execOp]
  refine run_val ?_
  rw [g1]
  simp only [Option.map_some, Option.map_none, g2, g3]
  rw [run_sliceAt_string _ t _ _ _ _ hu]
  exact run_slice_string _ t s kl kh i j hu h0 h1 h2
def bytesOf (l : List Int) : ByteArray := l.foldl (fun r n => r.push (UInt8.ofNat n.toNat)) ByteArray.empty
theorem RepDs.bytes {S : Nat → Prop} {w : World} : ∀ {l : List Int} {vs : List Value}, RepDs S w (l.map (.int .u8)) vs → vs = l.map (.int .u8)
  | [], vs, h => by simpa [RepDs] using h
  | n :: l, vs, h => by
    simp only [List.map_cons, RepDs] at h
    obtain ⟨u, s, rfl, h1, h2⟩ := h
    simp only [RepD] at h1
    rw [RepDs.bytes h2, h1]; rfl
/-- A string, out of bytes. -/
theorem bsC (hty : Tys P ty) {kp : Bool} {o : Oper} {st : St} {K : SExit → St → Prop} {t t' : TypeId} {y ye y' : TY} {el : TypeId} {x : Operand} {sv : SV} {n : Nat} (l : List Int) (ho : o.op = .convert t t' x) (hy : lk ty t = some y) (hyk : y.kd = .slice el) (hye : lk ty el = some ye) (hyek : ye.kd = .int .u8) (hy' : lk ty t' = some y') (hyk' : y'.kd = .str)
    (hx : ev st.T x = some sv) (hs : slOf st.H sv = some (n, l.map (.int .u8))) (hn : l.length = n) (hk : putK N o.dst (.d (.str (bytesOf l))) st (K .normal)) : OpC P b N kp o st K := by
  refine valC _ (fun e a w hok => ⟨.string (bytesOf l), by simp only [RepSV, RepD], ?_⟩) hk
  have g1 := hok.tmok _ _ hx
  obtain ⟨A, c, S, vs, hv, hc, hvs⟩ := slOf_rep hok.hp hs g1
  obtain rfl := RepDs.bytes hvs
  have hu := (hty _ _ hy).slice hyk
  have hue := (hty _ _ hye).int hyek
  have hu' := (hty _ _ hy').str hyk'
  obtain ⟨dst, op, type, pos, after, guard⟩ := o
  simp only at ho
  subst ho
  simp only [execOp]
  refine run_val ?_
  rw [hv, run_convert_bytes_string w t t' el A n c hu hue hu']
  cases A with
  | none =>
    rcases hc with hc | ⟨ad, had, _⟩
    · have : l = [] := by simpa using hc
      subst this
      simp [Conv.bytesToString, Sem.run_pure, bytesOf]
    · cases had
  | some ad =>
    rw [run_bytesToString w ad n c l]
    · rfl
    · unfold loadCells
      rw [Go.Vc.run_loadCellsFrom (w := w) (a := ad) n 0 #[] (l.map (Value.int .u8)) (by simp [hn])]
      · simp
      · intro j v hj
        rcases hc with hc | ⟨ad', had, _, hcell⟩
        · rw [hc] at hj; simp at hj
        · injection had with had; subst had
          rw [Nat.zero_add]; exact hcell j v hj
end
end Go.Vx
