/- The plain law of SchemeOrder: being at least as general is an order, and schemes that are so both ways are one. -/
import Derived.Test.YtonhlccjfbfkcaaSa
namespace Go.Proofs.Ytonhlccjfbfkcaa
open Go.Vc Go.RowKit

theorem gsub_comp (l1 l2 : List Tp) : ∀ t : Tp, gok l1.length t → gsub (l1.map (gsub l2)) t = gsub l2 (gsub l1 t) := by
  refine Tp.ind fun k n ks ih => ?_
  intro hg
  by_cases hk : k = 8
  · subst hk
    obtain ⟨q0, q1⟩ := hg.1 rfl
    rw [gsub_gen q0 (by simp; omega), gsub_gen q0 (by omega)]
    simp
  · rw [gsub_node hk, gsub_node hk, gsub_node hk, List.map_map]
    congr 1
    exact List.map_congr_left fun u hu => ih u hu (gokL_mem hg.2 u hu)
theorem gsub_id (g : Nat) : ∀ t : Tp, gok g t → leafy t → gsub ((List.range g).map fun i : Nat => Tp.mk 8 (i : Int) []) t = t := by
  refine Tp.ind fun k n ks ih => ?_
  intro hg hlf
  by_cases hk : k = 8
  · subst hk
    obtain ⟨q0, q1⟩ := hg.1 rfl
    rw [gsub_gen q0 (by simp; omega)]
    have hks : ks = [] := hlf.1 (.inr rfl)
    subst hks
    simp; omega
  · rw [gsub_node hk]
    congr 1
    rw [List.map_congr_left (g := id) fun u hu => ih u hu (gokL_mem hg.2 u hu) (leafyL_mem hlf.2 u hu)]
    simp
theorem rightS_right {s : Sc} (h : rightS s = true) : rightT s.t = true := by
  simp only [rightS, Bool.and_eq_true] at h; exact h.1
theorem rightS_up {s : Sc} (h : rightS s = true) : isUp (fnd 8 s.t []) 0 = true := by
  simp only [rightS, Bool.and_eq_true] at h; exact h.2.1

theorem least_refl {a : Sc} (h : rightS a = true) : Least a a := by
  obtain ⟨g, hg, hgl, hok⟩ := rightS_gok h
  exact ⟨(List.range g).map fun i : Nat => Tp.mk 8 (i : Int) [], h, h, by simp [hg], gsub_id g a.t hok (right_leafy a.t (rightS_right h))⟩
theorem least_trans {a b c : Sc} (h1 : Least a b) (h2 : Least b c) : Least a c := by
  obtain ⟨l1, q1, q2, q3, q4⟩ := h1
  obtain ⟨l2, p1, p2, p3, p4⟩ := h2
  obtain ⟨g, hg, hgl, hok⟩ := rightS_gok q1
  have hl1 : l1.length = g := by omega
  exact ⟨l1.map (gsub l2), q1, p2, by simp [q3], by rw [gsub_comp l1 l2 a.t (by rw [hl1]; exact hok), q4, p4]⟩

theorem occ_gok {g : Nat} {x : Int} : ∀ t : Tp, gok g t → occ 8 x t → 0 ≤ x ∧ x < (g : Int) := by
  refine Tp.ind fun k n ks ih => ?_
  intro hg ho
  rcases ho with ⟨h1, rfl⟩ | ho
  · exact hg.1 h1
  · obtain ⟨u, hu, ho⟩ := occL_mem ho
    exact ih u hu (gokL_mem hg.2 u hu) ho
mutual
/-- Renamed one to one, the numbers come in the same order. -/
theorem fnd_ren {g : Nat} {l : List Tp} {ρ : Int → Int} (hl : l.length = g) (hr : ∀ n : Nat, n < g → l[n]? = some (.mk 8 (ρ n) [])) (hi : ∀ m n : Int, 0 ≤ m → m < g → 0 ≤ n → n < g → ρ m = ρ n → m = n) : ∀ (t : Tp) (acc : List Int), gok g t → leafy t → (∀ x ∈ acc, 0 ≤ x ∧ x < (g : Int)) → fnd 8 (gsub l t) (acc.map ρ) = (fnd 8 t acc).map ρ
  | .mk k n ks, acc, hg, hlf, ha => by
    by_cases hk : k = 8
    · subst hk
      obtain ⟨q0, q1⟩ := hg.1 rfl
      have hks : ks = [] := hlf.1 (.inr rfl)
      subst hks
      have e : gsub l (.mk 8 n []) = .mk 8 (ρ n) [] := by
        rw [gsub_gen q0 (by omega)]
        have := hr n.toNat (by omega)
        rw [List.getElem?_eq_getElem (by omega)] at this
        injection this with this
        rw [this]
        congr 2; omega
      rw [e]
      simp only [fnd, fndL, true_and]
      have hm : ρ n ∈ acc.map ρ ↔ n ∈ acc := by
        rw [List.mem_map]
        constructor
        · rintro ⟨x, hx, he⟩
          have := hi x n (ha x hx).1 (ha x hx).2 q0 q1 he
          rwa [← this]
        · exact fun h => ⟨n, h, rfl⟩
      by_cases hn : n ∈ acc
      · rw [if_neg (fun h => h (hm.2 hn)), if_neg (fun h => h hn)]
      · rw [if_pos (fun h => hn (hm.1 h)), if_pos hn]; simp
    · rw [gsub_node hk]
      simp only [fnd]
      rw [if_neg (fun h => hk h.1), if_neg (fun h => hk h.1)]
      exact fndL_ren hl hr hi ks acc hg.2 hlf.2 ha
theorem fndL_ren {g : Nat} {l : List Tp} {ρ : Int → Int} (hl : l.length = g) (hr : ∀ n : Nat, n < g → l[n]? = some (.mk 8 (ρ n) [])) (hi : ∀ m n : Int, 0 ≤ m → m < g → 0 ≤ n → n < g → ρ m = ρ n → m = n) : ∀ (ts : List Tp) (acc : List Int), gokL g ts → leafyL ts → (∀ x ∈ acc, 0 ≤ x ∧ x < (g : Int)) → fndL 8 (ts.map (gsub l)) (acc.map ρ) = (fndL 8 ts acc).map ρ
  | [], acc, _, _, _ => by simp [fndL]
  | t :: r, acc, hg, hlf, ha => by
    simp only [List.map_cons, fndL]
    rw [fnd_ren hl hr hi t acc hg.1 hlf.1 ha]
    refine fndL_ren hl hr hi r _ hg.2 hlf.2 fun x hx => ?_
    rcases (mem_fnd 8 x t acc).1 hx with h | h
    · exact ha x h
    · exact occ_gok t hg.1 h
end
theorem gsub_part {g : Nat} {l : List Tp} {n : Nat} (hn : n < l.length) : ∀ t : Tp, leafy t → occ 8 (n : Int) t → (gok g (gsub l t) → gok g (l[n]'hn)) ∧ (leafy (gsub l t) → leafy (l[n]'hn)) := by
  refine Tp.ind fun k m ks ih => ?_
  intro hlf ho
  by_cases hk : k = 8
  · subst hk
    have hks : ks = [] := hlf.1 (.inr rfl)
    subst hks
    rcases ho with ⟨_, rfl⟩ | ho
    · rw [gsub_gen (by omega) (by omega)]
      simp only [Int.toNat_natCast]
      exact ⟨id, id⟩
    · exact ho.elim
  · rcases ho with ⟨h1, _⟩ | ho
    · exact absurd h1 hk
    · obtain ⟨u, hu, ho⟩ := occL_mem ho
      obtain ⟨h1, h2⟩ := ih u hu (leafyL_mem hlf.2 u hu) ho
      rw [gsub_node hk]
      exact ⟨fun h => h1 (gokL_mem h.2 _ (List.mem_map_of_mem hu)), fun h => h2 (leafyL_mem h.2 _ (List.mem_map_of_mem hu))⟩
theorem least_antisymm {a b : Sc} (h1 : Least a b) (h2 : Least b a) : a = b := by
  obtain ⟨l1, q1, q2, q3, q4⟩ := h1
  obtain ⟨l2, _, _, p3, p4⟩ := h2
  obtain ⟨ga, hga, hgal, hoka⟩ := rightS_gok q1
  obtain ⟨gb, hgb, hgbl, hokb⟩ := rightS_gok q2
  have hl1 : l1.length = ga := by omega
  have hl2 : l2.length = gb := by omega
  have hla := right_leafy a.t (rightS_right q1)
  have hlb := right_leafy b.t (rightS_right q2)
  have hids : l1.map (gsub l2) = (List.range ga).map fun i : Nat => Tp.mk 8 (i : Int) [] := by
    have m1 : MatchIs a a (some (l1.map (gsub l2))) := ⟨q1, q1, by simp [q3], by rw [gsub_comp l1 l2 a.t (by rw [hl1]; exact hoka), q4, p4]⟩
    have m2 : MatchIs a a (some ((List.range ga).map fun i : Nat => Tp.mk 8 (i : Int) [])) := ⟨q1, q1, by simp [hga], gsub_id ga a.t hoka hla⟩
    injection m1.inj m2
  have hat : ∀ n : Nat, n < ga → (fnd 8 a.t [])[n]? = some (n : Int) := by
    intro n hn
    have := isUp_get (rightS_up q1) (i := n) (by omega)
    rwa [Int.zero_add] at this
  have hbt : ∀ n : Nat, n < gb → (fnd 8 b.t [])[n]? = some (n : Int) := by
    intro n hn
    have := isUp_get (rightS_up q2) (i := n) (by omega)
    rwa [Int.zero_add] at this
  have hocc : ∀ n : Nat, n < ga → occ 8 (n : Int) a.t := fun n hn => ((mem_fnd 8 (n : Int) a.t []).1 (List.mem_of_getElem? (hat n hn))).resolve_left (by simp)
  have hgen : ∀ n : Nat, (hn : n < ga) → gsub l2 (l1[n]'(by omega)) = .mk 8 (n : Int) [] := by
    intro n hn
    have := congrArg (fun z => z[n]?) hids
    simpa [hn, hl1] using this
  have hl : ∀ n : Nat, (hn : n < ga) → ∃ m : Int, l1[n]'(by omega) = .mk 8 m [] := by
    intro n hn
    obtain ⟨k1, k2⟩ := gsub_part (g := gb) (l := l1) (n := n) (by omega) a.t hla (hocc n hn)
    rw [q4] at k1 k2
    have k2 := k2 hlb
    have hg := hgen n hn
    generalize l1[n]'(by omega) = u at *
    obtain ⟨k, m, us⟩ := u
    by_cases hk : k = 8
    · subst hk
      have : us = [] := k2.1 (.inr rfl)
      exact ⟨m, by rw [this]⟩
    · rw [gsub_node hk] at hg
      injection hg with e _ _
      exact absurd e hk
  let ρ : Int → Int := fun n => match l1[n.toNat]? with
    | some u => u.n
    | none => 0
  have hρ : ∀ n : Nat, n < ga → l1[n]? = some (.mk 8 (ρ n) []) := by
    intro n hn
    obtain ⟨m, hm⟩ := hl n hn
    have e : l1[n]? = some (.mk 8 m []) := by rw [List.getElem?_eq_getElem (by omega), hm]
    have : ρ n = m := by simp only [ρ, Int.toNat_natCast, e, mk_n]
    rw [this, e]
  have hinj : ∀ m n : Int, 0 ≤ m → m < ga → 0 ≤ n → n < ga → ρ m = ρ n → m = n := by
    intro m n m0 m1 n0 n1 he
    obtain ⟨m', rfl⟩ : ∃ m' : Nat, m = m' := ⟨m.toNat, by omega⟩
    obtain ⟨n', rfl⟩ : ∃ n' : Nat, n = n' := ⟨n.toNat, by omega⟩
    have e1 := hρ m' (by omega)
    have e2 := hρ n' (by omega)
    rw [he, ← e2, List.getElem?_eq_getElem (by omega), List.getElem?_eq_getElem (by omega)] at e1
    injection e1 with e1
    have g1 := hgen m' (by omega)
    have g2 := hgen n' (by omega)
    rw [e1, g2] at g1
    injection g1 with _ g1 _
    exact g1.symm
  have hf := fnd_ren hl1 hρ hinj a.t [] hoka hla (by simp)
  rw [q4, List.map_nil] at hf
  have hgg : gb = ga := by
    have := congrArg List.length hf
    rw [List.length_map] at this; omega
  have hid : l1 = (List.range ga).map fun i : Nat => Tp.mk 8 (i : Int) [] := by
    apply List.ext_getElem?
    intro i
    rcases Nat.lt_or_ge i ga with hi | hi
    · have e := congrArg (fun z => z[i]?) hf
      simp only [List.getElem?_map, hat i hi, hbt i (by omega), Option.map_some, Option.some.injEq] at e
      rw [hρ i hi, ← e]
      simp [hi]
    · rw [List.getElem?_eq_none (by omega), List.getElem?_eq_none (by simp; omega)]
  have ht : a.t = b.t := by
    rw [← q4, hid, gsub_id ga a.t hoka hla]
  have hgab : a.g = b.g := by rw [hga, hgb, hgg]
  obtain ⟨x, y⟩ := a
  obtain ⟨x', y'⟩ := b
  simp only at ht hgab
  rw [ht, hgab]

theorem sub_same {kind : Int} {σ : Int → Option Tp} (hσ : ∀ n u, σ n = some u → u = .mk kind n []) (hk : kind = 7 ∨ kind = 8) : ∀ t : Tp, leafy t → sub kind σ t = t := by
  refine Tp.ind fun k n ks ih => ?_
  intro hlf
  rw [sub]
  split
  · rename_i u hu
    split at hu
    · rename_i e
      rw [hσ n u hu, e, hlf.1 (by omega)]
    · cases hu
  · rw [subL_map]
    congr 1
    rw [List.map_congr_left (g := id) fun u hu => ih u hu (leafyL_mem hlf.2 u hu)]
    simp
theorem canon_right {s : Sc} (h : rightS s = true) : canon s = s := by
  obtain ⟨g, hg, hgl, hok⟩ := rightS_gok h
  obtain ⟨x, t⟩ := s
  simp only at hg hgl hok
  subst hg
  have hlf := right_leafy t (rightS_right h)
  unfold canon
  simp only
  rw [← hgl]
  congr 1
  refine sub_same (fun n u hu => ?_) (.inr rfl) t hlf
  rw [hgl, genL_lvs] at hu
  obtain ⟨q, h1, h2, rfl⟩ := tbl_lvs hu
  have := isUp_get (rightS_up h) (i := q) h1
  simp only at this
  rw [h2] at this
  injection this with this
  rw [this]
end Go.Proofs.Ytonhlccjfbfkcaa
