/- Group: a vector behind changes, the program's way; no condition. -/
import Derived.Test.YtapokkpdgfpokaaGreatCh4
set_option linter.unusedSimpArgs false
set_option linter.unusedVariables false
set_option maxRecDepth 100000
open Go Go.AB Go.Proofs
namespace Go.Proofs.YtapokkpdgfpokaaGreat
set_option maxRecDepth 100000

def resC (c : Ch) : Rs := (c.1, c.2.1, c.2.2.1)
/-- How many are below. -/
def posM : List Rs → Ls → Nat
  | [], _ => 0
  | r :: rs, t => if orderM r.1 t < 0 then posM rs t + 1 else 0
def thereM (v : List Rs) (t : Ls) : Bool := match v[posM v t]? with | some r => decide (orderM r.1 t = 0) | none => false
/-- A vector behind a change. -/
def oneM (v : List Rs) (c : Ch) : List Rs :=
  v.take (posM v c.1) ++ (if c.2.2.2 = true then [] else [resC c]) ++ (if thereM v c.1 = true then v.drop (posM v c.1 + 1) else v.drop (posM v c.1))
theorem posM_le : ∀ (v : List Rs) (t : Ls), posM v t ≤ v.length
  | [], _ => Nat.le_refl _
  | r :: rs, t => by
    unfold posM
    split
    · have := posM_le rs t; simp; omega
    · exact Nat.zero_le _
theorem posM_unique : ∀ {v : List Rs} {t : Ls} {k : Nat}, k ≤ v.length → (∀ q r, q < k → v[q]? = some r → orderM r.1 t < 0) → (∀ r, v[k]? = some r → ¬ orderM r.1 t < 0) → k = posM v t
  | [], t, k, hk, _, _ => by simp at hk; subst hk; rfl
  | r :: rs, t, 0, _, _, h2 => by
    have := h2 r rfl
    unfold posM
    rw [if_neg this]
  | r :: rs, t, k + 1, hk, h1, h2 => by
    have := h1 0 r (by omega) rfl
    unfold posM
    rw [if_pos this, ← posM_unique (v := rs) (t := t) (k := k) (by simpa using hk) (fun q r hq hr => h1 (q + 1) r (by omega) (by simpa using hr)) (fun r hr => h2 r (by simpa using hr))]
theorem posM_below : ∀ {v : List Rs} {t : Ls} {q : Nat} {r : Rs}, q < posM v t → v[q]? = some r → orderM r.1 t < 0
  | [], t, q, r, h, _ => by simp [posM] at h
  | x :: xs, t, q, r, h, hr => by
    unfold posM at h
    split at h
    · rename_i hx
      cases q with
      | zero => simp at hr; subst hr; exact hx
      | succ q => exact posM_below (v := xs) (t := t) (q := q) (by omega) (by simpa using hr)
    · omega
theorem posM_at : ∀ {v : List Rs} {t : Ls} {r : Rs}, v[posM v t]? = some r → ¬ orderM r.1 t < 0
  | [], t, r, h => by simp at h
  | x :: xs, t, r, h => by
    unfold posM at h
    split at h
    · exact posM_at (v := xs) (by simpa using h)
    · rename_i hx; simp at h; subst h; exact hx

/-- In order. -/
def Rise (v : List Rs) : Prop := ∀ (i j : Nat) (r s : Rs), i < j → v[i]? = some r → v[j]? = some s → orderM r.1 s.1 < 0
theorem okVec_rise : ∀ {v : List Rs} {p : Option Ls}, okVec p v = true → Rise v ∧ ∀ q, p = some q → ∀ r ∈ v, orderM q r.1 < 0
  | [], p, _ => ⟨fun i j r s _ h => by simp at h, fun _ _ r hr => by cases hr⟩
  | x :: xs, p, h => by
    simp only [okVec, Bool.and_eq_true] at h
    obtain ⟨⟨_, hp⟩, hx⟩ := h
    obtain ⟨ih1, ih2⟩ := okVec_rise hx
    have ih2 := ih2 x.1 rfl
    refine ⟨fun i j r s hij hi hj => ?_, fun q hq r hr => ?_⟩
    · cases j with
      | zero => omega
      | succ j =>
        simp at hj
        cases i with
        | zero => simp at hi; subst hi; exact ih2 s (List.mem_of_getElem? hj)
        | succ i => exact ih1 i j r s (by omega) (by simpa using hi) hj
    · subst hq
      have hq : orderM q x.1 < 0 := by simpa using hp
      rcases List.mem_cons.1 hr with rfl | hr
      · exact hq
      · exact orderM_trans hq (ih2 r hr)

theorem wrapU64 {n : Nat} (h : n < 18446744073709551616) : IntKind.wrap .u64 (n : Int) = (n : Int) := by
  unfold IntKind.wrap
  show (if (false && decide ((n : Int) % 18446744073709551616 ≥ _)) = true then _ else (n : Int) % 18446744073709551616) = n
  simp only [Bool.false_and, Bool.false_eq_true, if_false]
  omega
theorem shr1 (t : TypeId) (cst : Bool) (n : Nat) (k' : IntKind) : abin tC .shr t cst (.int .u64 (n : Int)) (.int k' 1) = some (.int .u64 ((n / 2 : Nat) : Int)) := by
  have := abin_shr (C := tC) (t := t) (cst := cst) (k := .u64) (k' := k') (n := n) (m := 1) (by decide)
  rw [Nat.pow_one] at this
  exact this

set_option maxHeartbeats 2000000 in
theorem cmp67 (N : Bd) (H : AH) {u t : AV} {r : Rs} {l : Ls} (hu : LabelsAt H u r.1) (ht : LabelsAt H t l) : AC tC N 0 67 [.agg (rsC u r), t] H fun x K => x = .int .i64 (compM r.1 l) ∧ K = H := by
  refine AC.quiet rfl ?_
  refine AC.wf0 fun hwf => ?_
  refine AC.by (n := 9) (rs := [.tmp 4]) tOK fn67 rfl rfl rfl rfl ?_
  have e0 : (PT.ofList .leaf 0 [AV.agg (rsC u r), t]).get 0 = some (.agg [u, .int .i64 r.2.1, .bool r.2.2]) := rfl
  have e1 : (PT.ofList .leaf 0 [AV.agg (rsC u r), t]).get 1 = some t := rfl
  generalize hK1 : H.alloc (.cells false [u, .int .i64 r.2.1, .bool r.2.2]) = K1
  have s1 : ∀ b z, H.get b = some z → K1.get b = some z := fun b z hb => by rw [← hK1]; exact stay_alloc hwf _ b z hb
  have p0 : K1.get H.next = some (.cells false [u, .int .i64 r.2.1, .bool r.2.2]) := by rw [← hK1, AH.get_alloc, if_pos rfl]
  have n1 : K1.next = H.next + 1 := by rw [← hK1]; rfl
  refine zs6 @ld29 @fa58_0 @e0 @e1 @hK1 @p0 ?_
  refine AOs.cq tOK fn40 ok40 (compare40 N K1 (hu.keep (KS.of s1 (by omega))) (ht.keep (KS.of s1 (by omega)))) ?_
  rintro x K2 ⟨rfl, rfl⟩
  refine zs0 ?_
  exact fr1 ⟨rfl, s1⟩

theorem compM_ok {r : Rs} {l : Ls} (hr : rightM r = true) (hl : checkM l = 0) : compM r.1 l = orderM r.1 l := by
  unfold rightM at hr
  simp only [Bool.and_eq_true, decide_eq_true_eq] at hr
  unfold compM
  rw [if_neg (by omega)]

set_option maxHeartbeats 8000000 in
theorem search66 (N : Bd) (H : AH) {v t : AV} {l : List Rs} {q : Ls} (hv : VecAt H v l) (ht : LabelsAt H t q) (hr : ∀ r ∈ l, rightM r = true) (hs : Rise l) (hq : checkM q = 0) (hn : l.length ≤ 1000000) :
    AC tC N 0 66 [v, t, .func 67 [] []] H fun x K => x = .tuple [.int .i64 (posM l q : Nat), .bool (thereM l q)] ∧ K = H := by
  refine AC.by (n := 49) (rs := [.tmp 6, .tmp 7]) tOK fn66 rfl rfl rfl rfl ?_
  have e0 : (PT.ofList .leaf 0 [v, t, AV.func 67 [] []]).get 0 = some v := rfl
  have e1 : (PT.ofList .leaf 0 [v, t, AV.func 67 [] []]).get 1 = some t := rfl
  have e2 : (PT.ofList .leaf 0 [v, t, AV.func 67 [] []]).get 2 = some (.func 67 [] []) := rfl
  have lv := hv.len
  refine zs3 @al22 @e0 @lv ?_
  refine AW.loop (fun m T K => K = H ∧ T.get 0 = some v ∧ T.get 1 = some t ∧ T.get 2 = some (.func 67 [] []) ∧ T.get 8 = some (.int .i64 (l.length : Nat)) ∧ ∃ i j : Nat, i ≤ j ∧ j ≤ l.length ∧ m = j - i ∧ T.get 9 = some (.int .i64 (i : Nat)) ∧ T.get 10 = some (.int .i64 (j : Nat)) ∧ (∀ p r, p < i → l[p]? = some r → orderM r.1 q < 0) ∧ (∀ p r, j ≤ p → l[p]? = some r → ¬ orderM r.1 q < 0)) ?_ (l.length - 0)
    ⟨rfl, by simp [PT.get_set, e0], by simp [PT.get_set, e1], by simp [PT.get_set, e2], by simp [PT.get_set], 0, l.length, by omega, by omega, rfl, by simp [PT.get_set], by simp [PT.get_set], fun p r hp => by omega, fun p r hp h => by have := (List.getElem?_eq_some_iff.1 h).1; omega⟩
  rintro m T K ⟨rfl, g0, g1, g2, g8, i, j, hij, hj, rfl, g9, g10, hlo, hhi⟩
  by_cases hlt : i < j
  · have hd := lt_int hlt
    have w1 : IntKind.i64.wrap (((i : Nat) : Int) + ((j : Nat) : Int)) = ((i + j : Nat) : Int) := by rw [wrap64 (by omega) (by omega)]; omega
    have w2 : IntKind.u64.wrap ((i + j : Nat) : Int) = ((i + j : Nat) : Int) := wrapU64 (by omega)
    have w3 : IntKind.i64.wrap (((i + j) / 2 : Nat) : Int) = (((i + j) / 2 : Nat) : Int) := wrap64 (by omega) (by omega)
    have hhl : (i + j) / 2 < l.length := by omega
    obtain ⟨x, hx⟩ : ∃ x, l[(i + j) / 2]? = some x := ⟨_, List.getElem?_eq_getElem hhl⟩
    obtain ⟨ab, ao, ac, aro, avs, u, rfl, ag, hu, ax, _, _⟩ := hv.at hx
    have t3l : (rsC u x).length = 3 := rfl
    refine zt8 @g0 @g1 @g2 @g9 @g10 @hd @w1 (And.intro @w2 (And.intro @shr1 (And.intro @w3 (And.intro @hhl (And.intro @ag (And.intro @ax @t3l)))))) ?_
    refine AOs.callQ tOK (fs := []) (cs := []) (by simp only [aeval, PT.get_set, Nat.reduceEqDiff, reduceIte]) fn67 ok67 rfl ar1 (cmp67 N K hu ht) ?_
    rintro y K2 ⟨rfl, rfl⟩
    have hcm := compM_ok (hr x (List.mem_of_getElem? hx)) hq
    rw [hcm]
    by_cases ho : orderM x.1 q < 0
    · have d1 : decide (orderM x.1 q < 0) = true := decide_eq_true ho
      have w4 : IntKind.i64.wrap ((((i + j) / 2 : Nat) : Int) + 1) = (((i + j) / 2 + 1 : Nat) : Int) := wrap64_succ (by omega)
      refine zs2 @d1 @w4 ?_
      refine ⟨j - ((i + j) / 2 + 1), by omega, rfl, by simp only [PT.get_set, Nat.reduceEqDiff, reduceIte, g0], by simp only [PT.get_set, Nat.reduceEqDiff, reduceIte, g1], by simp only [PT.get_set, Nat.reduceEqDiff, reduceIte, g2], by simp only [PT.get_set, Nat.reduceEqDiff, reduceIte, g8], (i + j) / 2 + 1, j, by omega, hj, rfl, gt1, by simp only [PT.get_set, Nat.reduceEqDiff, reduceIte, g10], fun p r hp hpr => ?_, hhi⟩
      by_cases hph : p = (i + j) / 2
      · subst hph; rw [hx] at hpr; cases hpr; exact ho
      · exact orderM_trans (hs p ((i + j) / 2) r x (by omega) hpr hx) ho
    · have d1 : decide (orderM x.1 q < 0) = false := decide_eq_false ho
      refine zs1 @d1 ?_
      refine ⟨(i + j) / 2 - i, by omega, rfl, by simp only [PT.get_set, Nat.reduceEqDiff, reduceIte, g0], by simp only [PT.get_set, Nat.reduceEqDiff, reduceIte, g1], by simp only [PT.get_set, Nat.reduceEqDiff, reduceIte, g2], by simp only [PT.get_set, Nat.reduceEqDiff, reduceIte, g8], i, (i + j) / 2, by omega, by omega, rfl, by simp only [PT.get_set, Nat.reduceEqDiff, reduceIte, g9], gt1, hlo, fun p r hp hpr hlt2 => ?_⟩
      by_cases hph : p = (i + j) / 2
      · subst hph; rw [hx] at hpr; cases hpr; exact ho hlt2
      · exact ho (orderM_trans (hs ((i + j) / 2) p x r (by omega) hx hpr) hlt2)
  · have hd := nlt_int hlt
    obtain rfl : i = j := by omega
    have hpos : i = posM l q := posM_unique hj hlo (fun r hr => hhi i r (Nat.le_refl _) hr)
    unfold thereM
    rw [← hpos]
    by_cases hil : i < l.length
    · have d2 := lt_int hil
      obtain ⟨x, hx⟩ : ∃ x, l[i]? = some x := ⟨_, List.getElem?_eq_getElem hil⟩
      obtain ⟨ab, ao, ac, aro, avs, u, rfl, ag, hu, ax, _, _⟩ := hv.at hx
      have t3l : (rsC u x).length = 3 := rfl
      rw [hx]
      refine zs8 @ix22 @ld58 @g0 @g1 @g2 @g8 @g9 (And.intro @g10 (And.intro @hd (And.intro @d2 (And.intro @hil (And.intro @ag (And.intro @ax @t3l)))))) ?_
      refine AOs.callQ tOK (fs := []) (cs := []) (by simp only [aeval, PT.get_set, Nat.reduceEqDiff, reduceIte]) fn67 ok67 rfl ar1 (cmp67 N K hu ht) ?_
      rintro y K2 ⟨rfl, rfl⟩
      have hcm := compM_ok (hr x (List.mem_of_getElem? hx)) hq
      rw [hcm]
      refine zs0 ?_
      exact fnPost_ret2 gt1 gt1 ⟨rfl, rfl⟩
    · have d2 := nlt_int hil
      rw [List.getElem?_eq_none (by omega)]
      refine zs5 @g8 @g9 @g10 @hd @d2 ?_
      exact fnPost_ret2 gt1 gt1 ⟨rfl, rfl⟩

/-- A vector in a block of its own. -/
def VecW (n0 : Nat) (K : AH) (w : AV) (l : List Rs) : Prop :=
  (w = .nils ∧ l = []) ∨ ∃ b c X, w = .slice b 0 l.length c 3 ∧ n0 ≤ b ∧ K.get b = some (.cells false X.flatten) ∧ R3 X ∧ l.length ≤ X.length ∧ roomOK c l.length X ∧ ∀ (i : Nat) (r : Rs), l[i]? = some r → ∃ u, X[i]? = some (rsC u r) ∧ LabelsAt K u r.1
theorem VecW.vec {n0 : Nat} {K : AH} {w : AV} {l : List Rs} (h : VecW n0 K w l) : VecAt K w l := by
  rcases h with ⟨rfl, rfl⟩ | ⟨b, c, X, rfl, h1, h2, h3, h4, h5, h6⟩
  · exact .inl ⟨rfl, rfl, rfl⟩
  · by_cases hl : l = []
    · subst hl; exact .inl ⟨rfl, rfl, rfl⟩
    · refine .inr ⟨b, 0, c, false, X.flatten, rfl, h2, hl, fun i r hi => ?_⟩
      obtain ⟨u, g1, g2⟩ := h6 i r hi
      exact ⟨u, by rw [Nat.zero_add]; exact flat_get h3 g1, g2⟩
theorem VecW.keep {n0 : Nat} {H K : AH} {w : AV} {l : List Rs} (h : VecW n0 H w l) (hk : ∀ b x, H.get b = some x → K.get b = some x) (hn : H.next ≤ K.next) : VecW n0 K w l := by
  rcases h with h | ⟨b, c, X, rfl, h1, h2, h3, h4, h5, h6⟩
  · exact .inl h
  · exact .inr ⟨b, c, X, rfl, h1, hk _ _ h2, h3, h4, h5, fun i r hi => let ⟨u, g1, g2⟩ := h6 i r hi; ⟨u, g1, g2.keep (KS.of hk hn)⟩⟩
theorem flat_nostr {X : List (List AV)} (h : R3 X) (hs : X.flatten.all isStr = true) : X.flatten = [] := by
  cases X with
  | nil => rfl
  | cons x X =>
    have := (h x (List.mem_cons_self)).2
    rw [List.flatten_cons, List.all_append, this] at hs
    cases hs
/-- Labels stay where a block of rows of three is written. -/
theorem ks_rows {H K : AH} {b : Nat} {X : List (List AV)} (hb : H.get b = some (.cells false X.flatten)) (h3 : R3 X) (hk : ∀ k y, k ≠ b → H.get k = some y → K.get k = some y) (hn : H.next ≤ K.next) : KS H K :=
  ⟨fun k ro vs hg hne hs => by
    by_cases e : k = b
    · subst e
      rw [hb] at hg; cases hg
      rcases hs with hs | hs
      · exact absurd (flat_nostr h3 hs) hne
      · cases hs
    · exact hk k _ e hg, hn⟩
theorem one_rsC {u : AV} {r : Rs} (hu : u.one = true) : allOne (rsC u r) = true := by simp [allOne, rsC, hu, one_int, one_bool]
theorem str_rsC (u : AV) (r : Rs) : (rsC u r).all isStr = false := by simp [rsC, isStr]
theorem rows_one {K : AH} {l : List Rs} {X : List (List AV)} (h : ∀ (i : Nat) (r : Rs), l[i]? = some r → ∃ u, X[i]? = some (rsC u r) ∧ LabelsAt K u r.1) : O3 (X.take l.length) := fun x hx => by
  obtain ⟨i, hi⟩ := List.getElem?_of_mem hx
  have hlt := (List.getElem?_eq_some_iff.1 hi).1
  rw [List.length_take] at hlt
  rw [List.getElem?_take_of_lt (by omega)] at hi
  obtain ⟨u, g1, g2⟩ := h i _ (List.getElem?_eq_getElem (by omega))
  rw [hi] at g1; cases g1
  exact one_rsC g2.one

/-! What oneM is. -/
theorem there_at {v : List Rs} {t : Ls} (h : thereM v t = true) : ∃ r, v[posM v t]? = some r ∧ r.1 = t := by
  unfold thereM at h
  split at h
  · rename_i r hr
    exact ⟨r, hr, orderM_zero.1 (of_decide_eq_true h)⟩
  · cases h
theorem oneM_del {v : List Rs} {c : Ch} (hg : c.2.2.2 = true) (ht : thereM v c.1 = true) : oneM v c = v.take (posM v c.1) ++ v.drop (posM v c.1 + 1) := by
  unfold oneM; rw [if_pos hg, if_pos ht, List.append_nil]
theorem oneM_same {v : List Rs} {c : Ch} (hg : c.2.2.2 = true) (ht : thereM v c.1 = false) : oneM v c = v := by
  unfold oneM; rw [if_pos hg, if_neg (by rw [ht]; decide), List.append_nil, List.take_append_drop]
theorem oneM_set {v : List Rs} {c : Ch} (hg : c.2.2.2 = false) (ht : thereM v c.1 = true) : oneM v c = v.set (posM v c.1) (resC c) := by
  obtain ⟨r, hr, _⟩ := there_at ht
  have hlt := (List.getElem?_eq_some_iff.1 hr).1
  unfold oneM
  rw [if_neg (by rw [hg]; decide), if_pos ht, List.set_eq_take_append_cons_drop, if_pos hlt]; simp
theorem oneM_ins {v : List Rs} {c : Ch} (hg : c.2.2.2 = false) (ht : thereM v c.1 = false) : oneM v c = v.take (posM v c.1) ++ [resC c] ++ v.drop (posM v c.1) := by
  unfold oneM; rw [if_neg (by rw [hg]; decide), if_neg (by rw [ht]; decide)]
theorem ins_l {v : List Rs} {x : Rs} {k : Nat} (hk : k ≤ v.length) (q : Nat) : (v.take k ++ [x] ++ v.drop k)[q]? = if q < k then v[q]? else if q = k then some x else v[q - 1]? := by
  by_cases h1 : q < k
  · rw [if_pos h1, List.append_assoc, List.getElem?_append_left (by rw [List.length_take]; omega), List.getElem?_take_of_lt h1]
  · rw [if_neg h1]
    by_cases h2 : q = k
    · subst h2
      rw [if_pos rfl, List.append_assoc, List.getElem?_append_right (by rw [List.length_take]; omega), List.length_take, Nat.min_eq_left (by omega), Nat.sub_self]; rfl
    · rw [if_neg h2, List.getElem?_append_right (by simp; omega), List.getElem?_drop]
      congr 1; simp; omega
theorem del_l {v : List Rs} {k : Nat} (hk : k < v.length) (q : Nat) : (v.take k ++ v.drop (k + 1))[q]? = if q < k then v[q]? else v[q + 1]? := by
  by_cases h1 : q < k
  · rw [if_pos h1, List.getElem?_append_left (by rw [List.length_take]; omega), List.getElem?_take_of_lt h1]
  · rw [if_neg h1, List.getElem?_append_right (by simp; omega), List.getElem?_drop]
    congr 1; simp; omega

theorem splice_12 {vs : List AV} {p : Nat} {x a b : AV} (h : vs[p]? = some x) : splice vs (p + 1) [a, b] = splice vs p [x, a, b] := by
  unfold splice
  rw [List.take_add_one, h]
  simp
theorem bs22_1 (F : Fns) (H : AH) (ev : Operand → AV) (dst : Option Tmp) (ty : TypeId) (pos : String) (after : Array Edge) (guard : Option (Nat × Bool)) (x : Operand) (a b c : AV) (hx : ev x = .agg [a, b, c]) :
    evOp tC F H ev { dst, op := .buildSlice 22 1 ⟨[(0, x)]⟩, type := ty, pos, after, guard } = some (.slice H.next 0 1 (.ex 1) 3, H.alloc (.cells false [a, b, c])) := evOp_buildSlice1z (cs := [a, b, c]) ti22 rfl ti58 rfl rfl rfl (by decide) (by decide) hx rfl
theorem bd58h {u : AV} (hu : u.one = true) (n : Int) (o : Bool) : abuild tC 58 [(0, u), (1, .agg [.int .i64 n, .bool o])] = some (.agg [u, .int .i64 n, .bool o]) := by
  obtain ⟨h1, h2⟩ := cells_of_one hu
  simp only [abuild, ti58]
  have a1 : ∀ cs, (AV.agg cs).cells = cs := fun _ => rfl
  have a2 : ∀ cs, notJunk (AV.agg cs) = true := fun _ => rfl
  simp [afill, h1, h2, a1, a2, splice, ti29, ti31, nbeq, nble]

set_option maxHeartbeats 8000000 in
theorem set36 (N : Bd) (H : AH) {n0 : Nat} {w u : AV} {l : List Rs} {c : Ch} (hw : VecW n0 H w l) (hu : LabelsAt H u c.1) (hc : checkM c.1 = 0) (hr : ∀ r ∈ l, rightM r = true) (hs : Rise l) (hl : l.length ≤ 50000) (hn0 : n0 ≤ H.next) :
    AC tC N 0 36 [w, .agg (chC u c)] H fun r K => VecW n0 K r (oneM l c) ∧ (∀ k y, k < n0 → H.get k = some y → K.get k = some y) ∧ H.next ≤ K.next := by
  refine AC.wf0 fun hwf => ?_
  obtain ⟨ls, n, o, g⟩ := c
  refine AC.by (n := 48) (rs := [.tmp 4]) tOK fn36 rfl rfl rfl rfl ?_
  have e0 : (PT.ofList .leaf 0 [w, AV.agg (chC u (ls, n, o, g))]).get 0 = some w := rfl
  have e1 : (PT.ofList .leaf 0 [w, AV.agg (chC u (ls, n, o, g))]).get 1 = some (.agg [u, .int .i64 n, .bool o, .bool g]) := rfl
  generalize hK1 : H.alloc (.cells false [u, .int .i64 n, .bool o, .bool g]) = K1
  have s1 : ∀ b z, H.get b = some z → K1.get b = some z := fun b z hb => by rw [← hK1]; exact stay_alloc hwf _ b z hb
  have p0 : K1.get H.next = some (.cells false [u, .int .i64 n, .bool o, .bool g]) := by rw [← hK1, AH.get_alloc, if_pos rfl]
  have n1 : K1.next = H.next + 1 := by rw [← hK1]; rfl
  have wf1 : WF K1 := by rw [← hK1]; exact wf_alloc hwf _
  have hw1 := hw.keep s1 (by omega)
  have hu1 := hu.keep (KS.of s1 (by omega))
  refine zs6 @ld29 @fa33_0 @e0 @e1 @hK1 @p0 ?_
  refine AOs.cq tOK fn66 ok66 (search66 N K1 hw1.vec hu1 hr hs hc (by omega)) ?_
  rintro r K2 ⟨rfl, rfl⟩
  have hpl := posM_le l ls
  have wp := wrap64_succ (show posM l ls < 9223372036854775807 by omega)
  cases g with
  | true =>
    cases ht : thereM l ls with
    | false =>
      rw [oneM_same (c := (ls, n, o, true)) rfl ht]
      refine zs4 @ld4 @fa33_2 @e0 @p0 ?_
      exact fnPost_ret1 gt1 ⟨hw1, fun k y _ hy => s1 k y hy, by omega⟩
    | true =>
      obtain ⟨x, hx, _⟩ := there_at ht
      have hlt := (List.getElem?_eq_some_iff.1 hx).1
      rw [oneM_del (c := (ls, n, o, true)) rfl ht]
      rcases hw1 with ⟨rfl, rfl⟩ | ⟨b, c, X, rfl, h1, h2, h3, h4, h5, h6⟩
      · simp at hlt
      have hcl : l.length ≤ c.low := by
        cases c with
        | ex cc => exact h5.1
        | lo cc => exact h5
      refine zs5 @ld4 @fa33_2 @e0 @p0 @wp ?_
      refine AOs.cq tOK fn68 ok68 (delete68 N K2 (i := posM l ls) h2 h3 (rows_one h6) h4 hcl hlt (by omega)) ?_
      rintro r K3 ⟨X', rfl, g1, g2, g3, g4, g5, g6⟩
      have hks := ks_rows h2 h3 g5 g6
      have hlen : (l.take (posM l ls) ++ l.drop (posM l ls + 1)).length = l.length - 1 := by simp; omega
      refine zs0 ?_
      refine fnPost_ret1 gt1 ⟨.inr ⟨b, c, X', by rw [hlen], h1, g1, g2, by rw [hlen]; omega, ?_, fun i r hi => ?_⟩, fun k y hk hy => g5 k y (by omega) (s1 k y hy), by omega⟩
      · rw [hlen]
        cases c with
        | ex cc => have h5 : l.length ≤ cc ∧ cc ≤ X.length := h5; exact (show roomOK (.ex cc) _ _ from ⟨by omega, by omega⟩)
        | lo cc => have h5 : l.length ≤ cc := h5; exact (show l.length - 1 ≤ cc by omega)
      · have hil := (List.getElem?_eq_some_iff.1 hi).1
        rw [hlen] at hil
        rw [del_l hlt] at hi
        rw [g4 i hil]
        by_cases h : i < posM l ls
        · rw [if_pos h] at hi ⊢
          obtain ⟨u', q1, q2⟩ := h6 i r hi
          exact ⟨u', q1, q2.keep hks⟩
        · rw [if_neg h] at hi ⊢
          obtain ⟨u', q1, q2⟩ := h6 _ r hi
          exact ⟨u', q1, q2.keep hks⟩
  | false =>
    cases ht : thereM l ls with
    | true =>
      obtain ⟨x, hx, hxl⟩ := there_at ht
      have hlt := (List.getElem?_eq_some_iff.1 hx).1
      rw [oneM_set (c := (ls, n, o, false)) rfl ht]
      rcases hw1 with ⟨rfl, rfl⟩ | ⟨b, c, X, rfl, h1, h2, h3, h4, h5, h6⟩
      · simp at hlt
      obtain ⟨u', q1, q2⟩ := h6 _ x hx
      have f1 := flat_len h3
      have hcell : X.flatten[posM l ls * 3]? = some u' := by
        have := get_of_take (flat_get h3 q1) (j := 0) (x := u') rfl
        exact this
      have hst : astore tC K2 31 (.ptr b (posM l ls * 3 + 1)) (.agg [.int .i64 n, .bool o]) = some (K2.set b (.cells false (X.set (posM l ls) [u', .int .i64 n, .bool o]).flatten)) := by
        rw [astore_agg ti31 h2 rfl rfl (by rw [f1]; simp; omega), splice_12 hcell, flat_set h3 rfl (by simp [isStr]) (by omega)]
      generalize hK3 : K2.set b (.cells false (X.set (posM l ls) [u', .int .i64 n, .bool o]).flatten) = K3 at hst
      have g5 : ∀ k y, k ≠ b → K2.get k = some y → K3.get k = some y := fun k y hk hy => by rw [← hK3, AH.get_set, if_neg hk]; exact hy
      have n3 : K3.next = K2.next := by rw [← hK3]; rfl
      have hks := ks_rows h2 h3 g5 (by omega)
      refine zt5 @e0 @p0 @hlt @tk1_4 @hst ?_
      refine fnPost_ret1 gt1 ⟨.inr ⟨b, c, _, by rw [List.length_set], h1, by rw [← hK3, AH.get_set, if_pos rfl], h3.set _ rfl (by simp [isStr]), by rw [List.length_set, List.length_set]; exact h4, ?_, fun i r hi => ?_⟩, fun k y hk hy => g5 k y (by omega) (s1 k y hy), by omega⟩
      · rw [List.length_set]
        cases c with
        | ex cc => exact (show roomOK (.ex cc) _ _ from ⟨h5.1, by rw [List.length_set]; exact h5.2⟩)
        | lo cc => exact h5
      · by_cases h : posM l ls = i
        · subst h
          rw [List.getElem?_set_self hlt] at hi
          cases hi
          exact ⟨u', by rw [List.getElem?_set_self (by omega)]; rfl, by rw [← hxl]; exact q2.keep hks⟩
        · rw [List.getElem?_set_ne h] at hi ⊢
          obtain ⟨u2, r1, r2⟩ := h6 i r hi
          exact ⟨u2, r1, r2.keep hks⟩
    | false =>
      rw [oneM_ins (c := (ls, n, o, false)) rfl ht]
      have hlen : (l.take (posM l ls) ++ [resC (ls, n, o, false)] ++ l.drop (posM l ls)).length = l.length + 1 := by simp; omega
      refine zs3 @ld4 @fa33_2 @p0 ?_
      refine AW.drawN tOK (Qs := []) [0, 1, 2, 3, 5, 6, 4, 7, 8, 9, 10] (by kernel_rfl) pk1 ?_
      with_reducible repeat' first | (refine zd ?_; refine zr7 @ld29 @ld31 @fa33_0 @fa33_1 @e0 @p0 @tk1_4 ?_; refine Same.mk ?_) | fail
      refine DN.callP tOK (fs := []) (cs := []) rfl fn41 ok41 rfl ar1 (clone41 N K2 hu1 (by have := checkM_len hc; omega)).wf ?_
      rintro lu K3 ⟨⟨hlu, n3, k3⟩, wf3⟩
      have p3 := k3 _ _ p0
      constructor
      · exact zg (And.intro @e0 (And.intro @p3 @tk1_4))
      have hbd := bd58h hlu.one n o
      have bsf := fun dst ty pos after guard x (ev : Operand → AV) hx => bs22_1 F0 K3 ev dst ty pos after guard x lu (.int .i64 n) (.bool o) hx
      generalize hK4 : K3.alloc (.cells false [lu, .int .i64 n, .bool o]) = K4 at bsf
      have s4 : ∀ b y, K3.get b = some y → K4.get b = some y := by rw [← hK4]; exact stay_alloc wf3 _
      have n4 : K4.next = K3.next + 1 := by rw [← hK4]; rfl
      have g4 : K4.get K3.next = some (.cells false (rsC lu (resC (ls, n, o, false)))) := by rw [← hK4, AH.get_alloc, if_pos rfl]; rfl
      have hw4 := (hw1.keep k3 n3).keep s4 (by omega)
      have hlu4 := hlu.keep (KS.of s4 (by omega))
      have wf4 : WF K4 := by rw [← hK4]; exact wf_alloc wf3 _
      have hbn : ∀ b c X, w = .slice b 0 l.length c 3 → K2.get b = some (.cells false X) → K3.next ≠ b := fun b c X _ hb => by have := wf1 _ _ hb; omega
      with_reducible repeat' first | (refine zd ?_; refine zr2 @hbd @bsf ?_; refine Same.mk ?_) | (refine DN.actE tOK (by kernel_rfl) wu wu ?_; refine zr1 @bsf ?_) | fail
      rcases hw1 with ⟨rfl, rfl⟩ | ⟨b, c, X, rfl, h1, h2, h3, h4, h5, h6⟩
      · refine DN.call tOK (fs := []) (cs := []) rfl fn69 ok69 rfl ar1 (insert69n N K4 g4 rfl (str_rsC _ _) (one_rsC hlu.one)) wu ?_
        rintro r K5 ⟨b', rfl, q1, q2, q3, q4⟩
        with_reducible repeat' first | refine zb ?_ | refine DN.nil tOK ?_ | (refine DN.fl1E wu wu ?_; refine zr0 ?_; refine Same.mk ?_) | fail
        refine fnPost_ret1 gt1 ⟨.inr ⟨b', .lo 1, _, rfl, by omega, q1, R3.one rfl (str_rsC _ _), Nat.le_refl _, Nat.le_refl _, fun i r hi => ?_⟩, fun k y hk hy => q3 _ _ (s4 _ _ (k3 _ _ (s1 _ _ hy))), by omega⟩
        have hi : [resC (ls, n, o, false)][i]? = some r := hi
        cases i with
        | zero => cases hi; exact ⟨lu, rfl, hlu4.keep (KS.of q3 q4)⟩
        | succ i => simp at hi
      · have h2' := s4 _ _ (k3 _ _ h2)
        refine DN.call tOK (fs := []) (cs := []) rfl fn69 ok69 rfl ar1 (insert69 N K4 (i := posM l ls) h2' h3 (rows_one h6) h4 h5 g4 rfl (str_rsC _ _) (one_rsC hlu.one) (hbn b c _ rfl h2) hpl (by omega)) wu ?_
        rintro r K5 ⟨b', c', X', rfl, q1, q2, q3, q4, q5, q6, q7, q8⟩
        have hks := ks_rows h2' h3 q7 q8
        with_reducible repeat' first | refine zb ?_ | refine DN.nil tOK ?_ | (refine DN.fl1E wu wu ?_; refine zr0 ?_; refine Same.mk ?_) | fail
        refine fnPost_ret1 gt1 ⟨.inr ⟨b', c', X', by rw [hlen], by omega, q1, q2, by rw [hlen]; exact q3, by rw [hlen]; exact q4, fun i r hi => ?_⟩, fun k y hk hy => q7 _ _ (by omega) (s4 _ _ (k3 _ _ (s1 _ _ hy))), by omega⟩
        have hil := (List.getElem?_eq_some_iff.1 hi).1
        rw [hlen] at hil
        rw [ins_l hpl] at hi
        rw [q6 i hil]
        by_cases h : i < posM l ls
        · rw [if_pos h] at hi ⊢
          obtain ⟨u2, r1, r2⟩ := h6 i r hi
          exact ⟨u2, r1, ((r2.keep (KS.of k3 n3)).keep (KS.of s4 (by omega))).keep hks⟩
        · rw [if_neg h] at hi ⊢
          by_cases he : i = posM l ls
          · rw [if_pos he] at hi ⊢
            cases hi
            exact ⟨lu, rfl, hlu4.keep hks⟩
          · rw [if_neg he] at hi ⊢
            obtain ⟨u2, r1, r2⟩ := h6 _ r hi
            exact ⟨u2, r1, ((r2.keep (KS.of k3 n3)).keep (KS.of s4 (by omega))).keep hks⟩

theorem chunks (vs : List AV) (o : Nat) : ∀ n : Nat, (vs.drop o).take (n * 3) = ((List.range n).map fun i => (vs.drop (o + i * 3)).take 3).flatten
  | 0 => by simp
  | n + 1 => by
    rw [List.range_succ, List.map_append, List.flatten_append, ← chunks vs o n, show (n + 1) * 3 = n * 3 + 3 by omega, List.take_add, List.drop_drop]
    simp
theorem VecAt.rows {H : AH} {v : AV} {l : List Rs} (h : VecAt H v l) : ∃ Y, Src3 H 22 v l.length Y ∧ Y.length = l.length ∧ R3 Y ∧ O3 Y ∧ ∀ (i : Nat) (r : Rs), l[i]? = some r → ∃ u, Y[i]? = some (rsC u r) ∧ LabelsAt H u r.1 := by
  rcases h with ⟨rfl, h1, h2⟩ | ⟨b, o, c, ro, vs, rfl, h1, h2, h3⟩
  · refine ⟨[], ?_, rfl, R3.nil, fun x hx => (by cases hx), fun i r hi => by simp at hi⟩
    cases v <;> simp [lenOfAV] at h1
    · exact src_nil
    · subst h1; exact src_len0
    · exact src_empty
  · have gY : ∀ i, i < l.length → ((List.range l.length).map fun i => (vs.drop (o + i * 3)).take 3)[i]? = some ((vs.drop (o + i * 3)).take 3) := fun i hi => by
      rw [List.getElem?_map, List.getElem?_range hi]; rfl
    have all : ∀ x ∈ ((List.range l.length).map fun i => (vs.drop (o + i * 3)).take 3), ∃ u r, x = rsC u r ∧ u.one = true := fun x hx => by
      obtain ⟨i, hi, rfl⟩ := List.mem_map.1 hx
      have hil := List.mem_range.1 hi
      obtain ⟨u, g1, g2⟩ := h3 i _ (List.getElem?_eq_getElem hil)
      exact ⟨u, _, g1, g2.one⟩
    have r3 : R3 ((List.range l.length).map fun i => (vs.drop (o + i * 3)).take 3) := fun x hx => by
      obtain ⟨u, r, rfl, _⟩ := all x hx; exact ⟨rfl, str_rsC _ _⟩
    refine ⟨_, fun j hj => ?_, by simp, r3, fun x hx => ?_, fun i r hi => ?_⟩
    · obtain ⟨j', q1, q2, q2', q2'', q2'''⟩ := ti58'
      rw [hj] at q1; cases q1
      refine aappended_z (C := tC) (j := j) ti22 rfl h1 ?_ ?_
      · rw [q2]; exact chunks vs o l.length
      · rw [flat_len r3, q2]; simp
    · obtain ⟨u, r, rfl, ho⟩ := all x hx; exact one_rsC ho
    · have hil := (List.getElem?_eq_some_iff.1 hi).1
      obtain ⟨u, g1, g2⟩ := h3 i r hi
      exact ⟨u, by rw [gY i hil, g1], g2⟩

set_option maxHeartbeats 2000000 in
theorem clone35 (N : Bd) (H : AH) {v : AV} {l : List Rs} (hv : VecAt H v l) (hl : l.length ≤ 1000000) : AC tC N 0 35 [v] H fun r K => VecW H.next K r l ∧ H.next ≤ K.next ∧ ∀ b y, H.get b = some y → K.get b = some y := by
  refine AC.wf0 fun hwf => ?_
  refine AC.by (n := 8) (rs := [.tmp 2]) tOK fn35 rfl rfl rfl rfl ?_
  have e0 : (PT.ofList .leaf 0 [v]).get 0 = some v := rfl
  generalize hK1 : H.alloc (.cells false []) = K1
  have hK1' : H.alloc (.cells false []) = K1 := hK1
  have s1 : ∀ b z, H.get b = some z → K1.get b = some z := fun b z hb => by rw [← hK1]; exact stay_alloc hwf _ b z hb
  have g1 : K1.get H.next = some (.cells false ([] : List (List AV)).flatten) := by rw [← hK1, AH.get_alloc, if_pos rfl]; rfl
  have n1 : K1.next = H.next + 1 := by rw [← hK1]; rfl
  have wf1 : WF K1 := by rw [← hK1]; exact wf_alloc hwf _
  obtain ⟨Y, hsrc, lY, rY, oY, gY⟩ := (hv.keep s1 (by omega)).rows
  obtain ⟨w', K2, happ, hw2, k2, n2⟩ : ∃ w' K2, aappend tC K1 [22, 22] [.slice H.next 0 0 (.ex 0) 3, v] = some (w', K2) ∧ VecW H.next K2 w' l ∧ (∀ b y, K1.get b = some y → K2.get b = some y) ∧ K1.next ≤ K2.next := by
    by_cases h0 : l.length = 0
    · have hl0 : l = [] := List.eq_nil_of_length_eq_zero h0
      subst hl0
      have hY0 : Y = [] := List.eq_nil_of_length_eq_zero lY
      subst hY0
      exact ⟨_, _, app_none hsrc (.inr ⟨_, _, _, _, _, rfl⟩), .inr ⟨H.next, .ex 0, [], rfl, Nat.le_refl _, g1, R3.nil, Nat.le_refl _, ⟨Nat.le_refl _, Nat.le_refl _⟩, fun i r hi => by simp at hi⟩, fun _ _ h => h, Nat.le_refl _⟩
    · have := app_grow (n := 0) (cc := 0) g1 R3.nil rY oY lY h0 hsrc (Nat.le_refl _) (by omega) (by omega)
      rw [Nat.zero_add, List.take_nil, List.nil_append] at this
      refine ⟨_, _, this, .inr ⟨K1.next, .lo l.length, Y, rfl, by omega, by rw [AH.get_alloc, if_pos rfl], rY, by omega, Nat.le_refl _, fun i r hi => ?_⟩, stay_alloc wf1 _, by simp⟩
      obtain ⟨u, q1, q2⟩ := gY i r hi
      exact ⟨u, q1, q2.keep (KS.of (stay_alloc wf1 _) (by simp))⟩
  have fin : VecW H.next K2 w' l ∧ H.next ≤ K2.next ∧ ∀ b y, H.get b = some y → K2.get b = some y := ⟨hw2, by omega, fun b y hy => k2 b y (s1 b y hy)⟩
  cases v with
  | nils =>
    have hl0 : l = [] := List.eq_nil_of_length_eq_zero (by have := hv.len; simp [lenOfAV] at this; omega)
    subst hl0
    refine zs2 @eq22b @e0 ?_
    exact fr1 ⟨.inl ⟨rfl, rfl⟩, Nat.le_refl _, fun _ _ h => h⟩
  | slice b o n c z =>
    refine zs5 @bs22 @eq22a @e0 @hK1 @happ ?_
    exact fr1 fin
  | empty b =>
    refine zs5 @bs22 @eq22c @e0 @hK1 @happ ?_
    exact fr1 fin
  | _ => have := hv.len; cases this

/-! oneM keeps what a vector is. -/
theorem chgM_zero {c : Ch} (h : chgM c = 0) : checkM c.1 = 0 ∧ rightM (resC c) = true := by
  unfold chgM at h
  split at h
  · rename_i h1; exact absurd h h1
  · rename_i h1
    split at h
    · cases h
    · rename_i h2
      have h1 : checkM c.1 = 0 := by omega
      refine ⟨h1, ?_⟩
      unfold rightM resC
      simp only [Bool.and_eq_true, decide_eq_true_eq]
      refine ⟨h1, ?_⟩
      by_cases h3 : numM c.2.1 c.2.2.1 = 0
      · exact h3
      · exact absurd (.inl h3) h2
theorem firstM_zero : ∀ {l : List Ch}, firstM l = 0 → ∀ c ∈ l, chgM c = 0
  | [], _, c, hc => by cases hc
  | x :: xs, h, c, hc => by
    unfold firstM at h
    split at h
    · rename_i hx; exact absurd h hx
    · rename_i hx
      rcases List.mem_cons.1 hc with rfl | hc
      · omega
      · exact firstM_zero h c hc
theorem oneM_right {v : List Rs} {c : Ch} (hv : ∀ r ∈ v, rightM r = true) (hc : chgM c = 0) : ∀ r ∈ oneM v c, rightM r = true := fun r hr => by
  unfold oneM at hr
  rcases List.mem_append.1 hr with hr | hr
  · rcases List.mem_append.1 hr with hr | hr
    · exact hv r (List.mem_of_mem_take hr)
    · split at hr
      · cases hr
      · rw [List.mem_singleton] at hr; subst hr; exact (chgM_zero hc).2
  · split at hr
    · exact hv r (List.mem_of_mem_drop hr)
    · exact hv r (List.mem_of_mem_drop hr)
theorem oneM_len (v : List Rs) (c : Ch) : (oneM v c).length ≤ v.length + 1 := by
  unfold oneM
  have := posM_le v c.1
  split <;> split <;> simp <;> omega
theorem posM_above {v : List Rs} {t : Ls} (hs : Rise v) (ht : thereM v t = false) {q : Nat} {r : Rs} (hq : posM v t ≤ q) (hr : v[q]? = some r) : orderM t r.1 < 0 := by
  have hlt : posM v t < v.length := by have := (List.getElem?_eq_some_iff.1 hr).1; omega
  obtain ⟨x, hx⟩ : ∃ x, v[posM v t]? = some x := ⟨_, List.getElem?_eq_getElem hlt⟩
  have h1 := posM_at hx
  have h2 : orderM x.1 t ≠ 0 := by
    unfold thereM at ht
    rw [hx] at ht
    exact of_decide_eq_false ht
  have h3 : orderM t x.1 < 0 := by rw [orderM_swap]; omega
  by_cases e : posM v t = q
  · subst e; rw [hx] at hr; cases hr; exact h3
  · exact orderM_trans h3 (hs _ _ x r (by omega) hx hr)
theorem oneM_rise {v : List Rs} {c : Ch} (hs : Rise v) : Rise (oneM v c) := by
  have hk := posM_le v c.1
  cases hg : c.2.2.2 with
  | true =>
    cases ht : thereM v c.1 with
    | true =>
      obtain ⟨x, hx, _⟩ := there_at ht
      have hlt := (List.getElem?_eq_some_iff.1 hx).1
      rw [oneM_del hg ht]
      intro i j r s hij hi hj
      rw [del_l hlt] at hi hj
      split at hi <;> split at hj <;> exact hs _ _ r s (by omega) hi hj
    | false => rw [oneM_same hg ht]; exact hs
  | false =>
    cases ht : thereM v c.1 with
    | true =>
      obtain ⟨x, hx, hxl⟩ := there_at ht
      have hlt := (List.getElem?_eq_some_iff.1 hx).1
      rw [oneM_set hg ht]
      have key : ∀ (q : Nat) (r : Rs), (v.set (posM v c.1) (resC c))[q]? = some r → ∃ r' : Rs, v[q]? = some r' ∧ r'.1 = r.1 := fun q r hq => by
        by_cases e : posM v c.1 = q
        · subst e
          rw [List.getElem?_set_self hlt] at hq
          cases hq
          exact ⟨x, hx, hxl⟩
        · rw [List.getElem?_set_ne e] at hq
          exact ⟨r, hq, rfl⟩
      intro i j r s hij hi hj
      obtain ⟨r', h1, h2⟩ := key i r hi
      obtain ⟨s', h3, h4⟩ := key j s hj
      rw [← h2, ← h4]
      exact hs i j r' s' hij h1 h3
    | false =>
      rw [oneM_ins hg ht]
      intro i j r s hij hi hj
      rw [ins_l hk] at hi hj
      by_cases a : i < posM v c.1
      · rw [if_pos a] at hi
        have h1 := posM_below a hi
        by_cases b : j < posM v c.1
        · rw [if_pos b] at hj; exact hs i j r s hij hi hj
        · rw [if_neg b] at hj
          by_cases d : j = posM v c.1
          · rw [if_pos d] at hj; cases hj; exact h1
          · rw [if_neg d] at hj; exact hs i (j - 1) r s (by omega) hi hj
      · rw [if_neg a] at hi
        rw [if_neg (by omega)] at hj
        rw [if_neg (show ¬ j = posM v c.1 by omega)] at hj
        by_cases d : i = posM v c.1
        · rw [if_pos d] at hi
          cases hi
          exact posM_above hs ht (by omega) hj
        · rw [if_neg d] at hi
          exact hs (i - 1) (j - 1) r s (by omega) hi hj

def foldM (a : List Rs) (l : List Ch) : List Rs := l.foldl oneM a
theorem foldM_take {a : List Rs} {l : List Ch} {i : Nat} {c : Ch} (h : l[i]? = some c) : foldM a (l.take (i + 1)) = oneM (foldM a (l.take i)) c := by
  unfold foldM
  rw [List.take_add_one, h, List.foldl_append]; rfl
theorem foldM_ok {a : List Rs} : ∀ {l : List Ch}, (∀ r ∈ a, rightM r = true) → Rise a → (∀ c ∈ l, chgM c = 0) → ∀ i, (∀ r ∈ foldM a (l.take i), rightM r = true) ∧ Rise (foldM a (l.take i)) ∧ (foldM a (l.take i)).length ≤ a.length + i := fun {l} h1 h2 h3 i => by
  induction i with
  | zero => exact ⟨h1, h2, Nat.le_refl _⟩
  | succ i ih =>
    by_cases hi : i < l.length
    · have hx := List.getElem?_eq_getElem hi
      rw [foldM_take hx]
      refine ⟨oneM_right ih.1 (h3 _ (List.mem_of_getElem? hx)), oneM_rise ih.2.1, ?_⟩
      have := oneM_len (foldM a (l.take i)) l[i]
      omega
    · rw [List.take_of_length_le (by omega)]
      rw [List.take_of_length_le (by omega)] at ih
      exact ⟨ih.1, ih.2.1, by omega⟩
def applyE (a : List Rs) (l : List Ch) : Int := if vecM a ≠ 0 then vecM a else if firstM l ≠ 0 then firstM l else if 4096 < (foldM a l).length then 3 else 0
def applyM (a : List Rs) (l : List Ch) : List Rs := if applyE a l ≠ 0 then [] else foldM a l

end Go.Proofs.YtapokkpdgfpokaaGreat
