/- Group: rows of results: cut, appended to, copied, turned, one inserted, one deleted; no condition. -/
import Derived.Test.YtapokkpdgfpokaaGreatCh3
import Derived.Test.YtapokkpdgfpokaaGreatHeap6
set_option linter.unusedSimpArgs false
set_option linter.unusedVariables false
set_option maxRecDepth 100000
open Go Go.AB Go.Proofs
namespace Go.Proofs.YtapokkpdgfpokaaGreat
set_option maxRecDepth 100000

/-- Rows of three, none of texts alone. -/
def R3 (X : List (List AV)) : Prop := ∀ x ∈ X, x.length = 3 ∧ x.all isStr = false
theorem R3.app {X Y : List (List AV)} (h : R3 X) (h2 : R3 Y) : R3 (X ++ Y) := fun x hx => (List.mem_append.1 hx).elim (h x) (h2 x)
theorem R3.take {X : List (List AV)} (h : R3 X) (k : Nat) : R3 (X.take k) := fun x hx => h x (List.mem_of_mem_take hx)
theorem R3.drop {X : List (List AV)} (h : R3 X) (k : Nat) : R3 (X.drop k) := fun x hx => h x (List.mem_of_mem_drop hx)
theorem R3.rev {X : List (List AV)} (h : R3 X) : R3 X.reverse := fun x hx => h x (List.mem_reverse.1 hx)
theorem R3.one {x : List AV} (h : x.length = 3) (h2 : x.all isStr = false) : R3 [x] := fun y hy => by
  rw [List.mem_singleton] at hy; subst hy; exact ⟨h, h2⟩
theorem R3.nil : R3 [] := fun x hx => by cases hx
theorem flat_len : ∀ {X : List (List AV)}, R3 X → X.flatten.length = X.length * 3
  | [], _ => rfl
  | x :: X, h => by
    rw [List.flatten_cons, List.length_append, (h x (List.mem_cons_self)).1, flat_len (fun y hy => h y (List.mem_cons_of_mem _ hy)), List.length_cons]; omega
theorem flat_drop : ∀ {X : List (List AV)} (k : Nat), R3 X → X.flatten.drop (k * 3) = (X.drop k).flatten
  | X, 0, _ => by simp
  | [], k + 1, _ => by simp
  | x :: X, k + 1, h => by
    rw [List.flatten_cons, List.drop_succ_cons, ← flat_drop k (fun y hy => h y (List.mem_cons_of_mem _ hy)), show (k + 1) * 3 = x.length + k * 3 by rw [(h x (List.mem_cons_self)).1]; omega, List.drop_length_add_append]
theorem flat_take : ∀ {X : List (List AV)} (k : Nat), R3 X → X.flatten.take (k * 3) = (X.take k).flatten
  | X, 0, _ => by simp
  | [], k + 1, _ => by simp
  | x :: X, k + 1, h => by
    rw [List.flatten_cons, List.take_succ_cons, List.flatten_cons, ← flat_take k (fun y hy => h y (List.mem_cons_of_mem _ hy)), show (k + 1) * 3 = x.length + k * 3 by rw [(h x (List.mem_cons_self)).1]; omega, List.take_length_add_append]
theorem flat_sub {X : List (List AV)} (h : R3 X) (i n : Nat) : (X.flatten.drop (i * 3)).take (n * 3) = ((X.drop i).take n).flatten := by
  rw [flat_drop i h, flat_take n (h.drop i)]
theorem flat_get {X : List (List AV)} (h : R3 X) {i : Nat} {x : List AV} (hi : X[i]? = some x) : (X.flatten.drop (i * 3)).take 3 = x := by
  have := flat_sub h i 1
  rw [Nat.one_mul] at this
  rw [this, drop_cons hi]; simp
theorem flat_splice {X Y : List (List AV)} (h : R3 X) (h2 : R3 Y) (a : Nat) : splice X.flatten (a * 3) Y.flatten = (X.take a ++ Y ++ X.drop (a + Y.length)).flatten := by
  unfold splice
  rw [flat_take a h, flat_len h2, ← Nat.add_mul, flat_drop _ h, List.flatten_append, List.flatten_append]
theorem flat_one (x : List AV) : [x].flatten = x := by simp
theorem flat_set {X : List (List AV)} (h : R3 X) {a : Nat} {y : List AV} (hy : y.length = 3) (hy2 : y.all isStr = false) (ha : a < X.length) : splice X.flatten (a * 3) y = (X.set a y).flatten := by
  have := flat_splice h (R3.one hy hy2) a
  rw [flat_one] at this
  rw [this, List.set_eq_take_append_cons_drop, if_pos ha]; simp
theorem R3.set {X : List (List AV)} (h : R3 X) (a : Nat) {y : List AV} (hy : y.length = 3) (hy2 : y.all isStr = false) : R3 (X.set a y) := fun x hx => by
  rcases List.mem_or_eq_of_mem_set hx with hx | rfl
  · exact h x hx
  · exact ⟨hy, hy2⟩
def junk3 : List AV := [.junk, .junk, .junk]
theorem flat_junk : ∀ n : Nat, (List.replicate n junk3).flatten = List.replicate (n * 3) .junk
  | 0 => rfl
  | n + 1 => by
    rw [List.replicate_succ, List.flatten_cons, flat_junk n, show junk3 = List.replicate 3 .junk from rfl, List.replicate_append_replicate, show (n + 1) * 3 = 3 + n * 3 by omega]
theorem R3.junk (n : Nat) : R3 (List.replicate n junk3) := fun x hx => by
  rw [(List.mem_replicate.1 hx).2]; exact ⟨rfl, rfl⟩
theorem flat_room {X : List (List AV)} (h : R3 X) (cc : Nat) : X.flatten ++ List.replicate (0 + cc * 3 - X.flatten.length) .junk = (X ++ List.replicate (cc - X.length) junk3).flatten := by
  rw [List.flatten_append, flat_junk, flat_len h, show 0 + cc * 3 - X.length * 3 = (cc - X.length) * 3 by omega]
def O3 (X : List (List AV)) : Prop := ∀ x ∈ X, allOne x = true
theorem allOne_app : ∀ (a b : List AV), allOne (a ++ b) = (allOne a && allOne b)
  | [], b => by simp [allOne]
  | x :: a, b => by rw [List.cons_append, allOne, allOne, allOne_app a b, Bool.and_assoc]
theorem O3.flat : ∀ {X : List (List AV)}, O3 X → allOne X.flatten = true
  | [], _ => rfl
  | x :: X, h => by
    rw [List.flatten_cons, allOne_app, h x (List.mem_cons_self), O3.flat (fun y hy => h y (List.mem_cons_of_mem _ hy))]; rfl
/-- A slice of rows of three, cut. -/
def cut3 (b o l h c : Nat) : AV := if c = l then .slice b o 0 (.ex 0) 3 else .slice b (o + l * 3) (h - l) (.ex (c - l)) 3
theorem cut3_ne {b o l h c : Nat} (hne : c ≠ l) : cut3 b o l h c = .slice b (o + l * 3) (h - l) (.ex (c - l)) 3 := if_neg hne
theorem sl_from {b o n c l : Nat} (h1 : l ≤ n) (h2 : n ≤ c) : aslice tC 22 (.slice b o n (.ex c) 3) (some (.int .i64 (l : Nat))) none none = some (cut3 b o l n c) := by
  simp only [aslice, ti22, ti58, bnd, nble, nbeq, Option.map_some]
  simp [cut3, h1, h2]
  split <;> rfl
theorem sl_to {b o n c h : Nat} (h2 : h ≤ c) (hc : c ≠ 0) : aslice tC 22 (.slice b o n (.ex c) 3) none (some (.int .i64 (h : Nat))) none = some (.slice b o h (.ex c) 3) := by
  simp only [aslice, ti22, ti58, bnd, nble, nbeq, Option.map_some]
  simp [h2, hc]
theorem sl_fromLo {b o n c l : Nat} (h0 : l ≠ 0) (h1 : l ≤ n) (h2 : n ≤ c) (h3 : c ≠ l) : aslice tC 22 (.slice b o n (.lo c) 3) (some (.int .i64 (l : Nat))) none none = some (.slice b (o + l * 3) (n - l) (.lo (c - l)) 3) := by
  simp only [aslice, ti22, ti58, bnd, nble, nbeq, Option.map_some]
  simp [h0, h1, h2, h3]
theorem sl_fromLo0 {b o n c : Nat} (h2 : n ≤ c) : aslice tC 22 (.slice b o n (.lo c) 3) (some (.int .i64 0)) none none = some (.slice b o n (.lo c) 3) := by
  simp only [aslice, ti22, ti58, bnd, nble, nbeq, Option.map_some]
  simp [h2]
theorem sl_toLo {b o n c h : Nat} (h2 : h ≤ c) : aslice tC 22 (.slice b o n (.lo c) 3) none (some (.int .i64 (h : Nat))) none = some (.slice b o h (.lo c) 3) := by
  simp only [aslice, ti22, ti58, bnd, nble, nbeq, Option.map_some]
  simp [h2]

theorem fn97 : tC.fn 97 = some Tryz.f97 := by kernel_rfl
theorem ok97 : fnOk Tryz.f97 = true := by kernel_rfl
theorem fn135 : tC.fn 135 = some Tryz.f135 := by kernel_rfl
theorem ok135 : fnOk Tryz.f135 = true := by kernel_rfl
theorem fn161 : tC.fn 161 = some Tryz.f161 := by kernel_rfl
theorem ok161 : fnOk Tryz.f161 = true := by kernel_rfl
theorem fnPost_normal0 {C : Ctx} {T : PT AV} {H : AH} {Q : AV → AH → Prop} (hq : Q (.tuple []) H) : fnPost C [] Q .normal T H := ⟨[], rfl, hq⟩
theorem fnPost_ret0 {C : Ctx} {T : PT AV} {H : AH} {Q : AV → AH → Prop} (hq : Q (.tuple []) H) : fnPost C [] Q .ret T H := ⟨[], rfl, hq⟩

def revSeg {α : Type} (p m : Nat) (X : List α) : List α := X.take p ++ ((X.drop p).take m).reverse ++ X.drop (p + m)
def swapIdx (p m i q : Nat) : Nat := if p ≤ q ∧ q < p + m ∧ (q - p < i ∨ m ≤ q - p + i) then p + (m - 1 - (q - p)) else q
theorem revSeg_get {α : Type} {X : List α} {p m : Nat} (h : p + m ≤ X.length) (q : Nat) : (revSeg p m X)[q]? = X[if p ≤ q ∧ q < p + m then p + (m - 1 - (q - p)) else q]? := by
  unfold revSeg
  by_cases h1 : q < p
  · rw [if_neg (by omega), List.append_assoc, List.getElem?_append_left (by rw [List.length_take]; omega), List.getElem?_take_of_lt h1]
  · by_cases h2 : q < p + m
    · rw [if_pos ⟨by omega, h2⟩, List.append_assoc, List.getElem?_append_right (by rw [List.length_take]; omega), List.length_take, Nat.min_eq_left (by omega)]
      rw [List.getElem?_append_left (by rw [List.length_reverse, List.length_take, List.length_drop]; omega), List.getElem?_reverse (by rw [List.length_take, List.length_drop]; omega)]
      rw [List.length_take, List.length_drop, Nat.min_eq_left (by omega), List.getElem?_take_of_lt (by omega), List.getElem?_drop]
    · rw [if_neg (by omega), List.getElem?_append_right (by simp; omega), List.getElem?_drop]
      simp
      congr 1; omega
theorem revSeg_len {α : Type} {X : List α} {p m : Nat} (h : p + m ≤ X.length) : (revSeg p m X).length = X.length := by simp [revSeg]; omega
theorem R3.revSeg {X : List (List AV)} (h : R3 X) (p m : Nat) : R3 (revSeg p m X) := ((h.take p).app ((h.drop p).take m).rev).app (h.drop _)
theorem swap_done {α : Type} {X Y : List α} {p m i : Nat} (h : p + m ≤ X.length) (hY : ∀ q, Y[q]? = X[swapIdx p m i q]?) (hi : m ≤ i + i + 1) : Y = revSeg p m X := by
  refine List.ext_getElem? fun q => ?_
  rw [hY, revSeg_get h]
  unfold swapIdx
  by_cases h1 : p ≤ q ∧ q < p + m
  · rw [if_pos h1]
    by_cases h2 : q - p < i ∨ m ≤ q - p + i
    · rw [if_pos ⟨h1.1, h1.2, h2⟩]
    · rw [if_neg (by omega)]
      congr 1; omega
  · rw [if_neg h1, if_neg (by omega)]
theorem swap_step {α : Type} {X Y : List α} {p m i : Nat} {x y : α} (h : p + m ≤ X.length) (hl : Y.length = X.length) (hY : ∀ q, Y[q]? = X[swapIdx p m i q]?) (hi : i < m - 1 - i) (hx : Y[p + i]? = some x) (hy : Y[p + (m - 1 - i)]? = some y) :
    ∀ q, ((Y.set (p + i) y).set (p + (m - 1 - i)) x)[q]? = X[swapIdx p m (i + 1) q]? := fun q => by
  rw [List.getElem?_set, List.getElem?_set]
  have e1 := hY (p + i)
  have e2 := hY (p + (m - 1 - i))
  unfold swapIdx at e1 e2
  rw [if_neg (by omega)] at e1 e2
  by_cases h1 : p + (m - 1 - i) = q
  · subst h1
    rw [if_pos rfl, if_pos (by rw [List.length_set]; omega)]
    unfold swapIdx
    rw [if_pos (by omega), show p + (m - 1 - (p + (m - 1 - i) - p)) = p + i by omega, ← e1, hx]
  · rw [if_neg h1]
    by_cases h2 : p + i = q
    · subst h2
      rw [if_pos rfl, if_pos (by omega)]
      unfold swapIdx
      rw [if_pos (by omega), show p + (m - 1 - (p + i - p)) = p + (m - 1 - i) by omega, ← e2, hy]
    · rw [if_neg h2, hY]
      unfold swapIdx
      by_cases h3 : p ≤ q ∧ q < p + m ∧ (q - p < i ∨ m ≤ q - p + i)
      · rw [if_pos h3, if_pos (by omega)]
      · rw [if_neg h3, if_neg (by omega)]

set_option maxHeartbeats 4000000 in
theorem reverse161 (N : Bd) (H : AH) {b p m : Nat} {c : ACap} {X : List (List AV)} (hb : H.get b = some (.cells false X.flatten)) (h3 : R3 X) (ho : O3 ((X.drop p).take m)) (hm : p + m ≤ X.length) (h1 : 1 ≤ m) (hml : m ≤ 1000000) :
    AC tC N 0 161 [.slice b (p * 3) m c 3] H fun r K => K.get b = some (.cells false (revSeg p m X).flatten) ∧ (∀ k, k ≠ b → K.get k = H.get k) ∧ K.next = H.next := by
  refine AC.by (n := 28) (rs := []) tOK fn161 rfl rfl rfl rfl ?_
  have e0 : (PT.ofList .leaf 0 [AV.slice b (p * 3) m c 3]).get 0 = some (.slice b (p * 3) m c 3) := rfl
  have w0 : IntKind.i64.wrap (((m : Nat) : Int) - 1) = ((m - 1 : Nat) : Int) := by rw [wrap64 (by omega) (by omega)]; omega
  refine zs3 @al22 @e0 @w0 ?_
  refine AW.loop (fun l T K => T.get 0 = some (.slice b (p * 3) m c 3) ∧ (∀ k, k ≠ b → K.get k = H.get k) ∧ K.next = H.next ∧ ∃ i : Nat, ∃ Y : List (List AV), i + i ≤ m ∧ l = m - i ∧ T.get 2 = some (.int .i64 (i : Nat)) ∧ T.get 3 = some (.int .i64 (m - 1 - i : Nat)) ∧ K.get b = some (.cells false Y.flatten) ∧ R3 Y ∧ Y.length = X.length ∧ ∀ q, Y[q]? = X[swapIdx p m i q]?) ?_ (m - 0)
    ⟨by simp [PT.get_set, e0], fun _ _ => rfl, rfl, 0, X, by omega, rfl, by simp [PT.get_set], by simp [PT.get_set], hb, h3, rfl, fun q => by unfold swapIdx; rw [if_neg (by omega)]⟩
  rintro l T K ⟨g0, hk, hn, i, Y, hi, rfl, g2, g3, hbK, y3, hlen, hY⟩
  by_cases hij : i < m - 1 - i
  · have hd := lt_int hij
    have him : i < m := by omega
    have hjm : m - 1 - i < m := by omega
    obtain ⟨x, hx⟩ : ∃ x, Y[p + i]? = some x := ⟨_, List.getElem?_eq_getElem (by omega)⟩
    obtain ⟨y, hy⟩ : ∃ y, Y[p + (m - 1 - i)]? = some y := ⟨_, List.getElem?_eq_getElem (by omega)⟩
    have inX : ∀ q, p ≤ q → q < p + m → ∀ z, X[q]? = some z → allOne z = true := fun q hq1 hq2 z hz => ho z (by
      refine List.mem_of_getElem? (i := q - p) ?_
      rw [List.getElem?_take_of_lt (by omega), List.getElem?_drop, show p + (q - p) = q by omega]; exact hz)
    have ox : allOne x = true := by
      have := hY (p + i)
      unfold swapIdx at this
      rw [if_neg (by omega), hx] at this
      exact inX _ (by omega) (by omega) x this.symm
    have oy : allOne y = true := by
      have := hY (p + (m - 1 - i))
      unfold swapIdx at this
      rw [if_neg (by omega), hy] at this
      exact inX _ (by omega) (by omega) y this.symm
    have ⟨lx, sx⟩ := y3 x (List.mem_of_getElem? hx)
    have ⟨ly, sy⟩ := y3 y (List.mem_of_getElem? hy)
    have tx : List.take 3 (List.drop (p * 3 + i * 3) Y.flatten) = x := by rw [← Nat.add_mul]; exact flat_get y3 hx
    have ty : List.take 3 (List.drop (p * 3 + (m - 1 - i) * 3) Y.flatten) = y := by rw [← Nat.add_mul]; exact flat_get y3 hy
    have yf := flat_len y3
    generalize hK1 : K.set b (.cells false (Y.set (p + i) y).flatten) = K1
    have st1 : astore tC K 58 (.ptr b (p * 3 + i * 3)) (.agg y) = some K1 := by
      rw [← Nat.add_mul, astore_agg ti58 hbK ly oy (by rw [yf, ly]; omega), flat_set y3 ly sy (by omega), hK1]
    have y31 := y3.set (p + i) ly sy
    have gK1 : K1.get b = some (.cells false (Y.set (p + i) y).flatten) := by rw [← hK1, AH.get_set, if_pos rfl]
    generalize hK2 : K1.set b (.cells false ((Y.set (p + i) y).set (p + (m - 1 - i)) x).flatten) = K2
    have st2' : astore tC K1 58 (.ptr b (p * 3 + (m - 1 - i) * 3)) (.agg x) = some K2 := by
      rw [← Nat.add_mul, astore_agg ti58 gK1 lx ox (by rw [flat_len y31, lx, List.length_set]; omega), flat_set y31 lx sx (by rw [List.length_set]; omega), hK2]
    have w2 : IntKind.i64.wrap (((m - 1 - i : Nat) : Int) - 1) = ((m - 1 - (i + 1) : Nat) : Int) := by rw [wrap64 (by omega) (by omega)]; omega
    have w1 := wrap64_succ (show i < 9223372036854775807 by omega)
    refine zs3 @g2 @g3 @hd ?_
    refine AW.drawN tOK (Qs := []) [0, 1, 2, 3, 4, 5, 6, 7, 8, 9, 10, 11, 12, 13, 14, 15] (by kernel_rfl) pk1 ?_
    with_reducible repeat' first | refine zb ?_ | refine DN.nil tOK ?_ | (refine zd ?_; refine zr8 @ix22 @ld58 @g0 @g2 @g3 @him @hjm (And.intro @hbK (And.intro @tx (And.intro @ty (And.intro @lx @ly)))) ?_; refine Same.mk ?_) | ((first | refine AOs.o1 tOK ?_ | refine DN.act0E tOK (by kernel_rfl) wu ?_); refine zr6 @g2 @g3 @st1 @st2' @w1 @w2 ?_) | fail
    refine ⟨m - (i + 1), by omega, by simp only [PT.get_set, Nat.reduceEqDiff, reduceIte, g0], fun k hk' => ?_, ?_, i + 1, _, by omega, rfl, gt1, gt1, by rw [← hK2, AH.get_set, if_pos rfl], y31.set _ lx sx, by rw [List.length_set, List.length_set]; exact hlen, swap_step hm hlen hY hij hx hy⟩
    · rw [← hK2, AH.get_set, if_neg hk', ← hK1, AH.get_set, if_neg hk']; exact hk k hk'
    · rw [← hK2, ← hK1]; exact hn
  · have hd := nlt_int hij
    have hdone := swap_done hm hY (by omega)
    refine zs3 @g2 @g3 @hd ?_
    exact fnPost_normal0 ⟨by rw [hbK, hdone], hk, hn⟩

def rotIdx (p m q : Nat) : Nat := if p ≤ q ∧ q < p + m then (if q = p then p + (m - 1) else q - 1) else q
theorem rot_get {X : List (List AV)} {p m : Nat} (h : p + m ≤ X.length) (h1 : 1 ≤ m) (q : Nat) : (revSeg p m (revSeg (p + (m - 1)) 1 (revSeg p (m - 1) X)))[q]? = X[rotIdx p m q]? := by
  have l1 : (revSeg p (m - 1) X).length = X.length := revSeg_len (by omega)
  have l2 : (revSeg (p + (m - 1)) 1 (revSeg p (m - 1) X)).length = X.length := by rw [revSeg_len (by omega)]; exact l1
  rw [revSeg_get (by omega)]
  obtain ⟨q1, h1'⟩ : ∃ q1, (if p ≤ q ∧ q < p + m then p + (m - 1 - (q - p)) else q) = q1 := ⟨_, rfl⟩
  rw [h1', revSeg_get (by omega)]
  obtain ⟨q2, h2'⟩ : ∃ q2, (if p + (m - 1) ≤ q1 ∧ q1 < p + (m - 1) + 1 then p + (m - 1) + (1 - 1 - (q1 - (p + (m - 1)))) else q1) = q2 := ⟨_, rfl⟩
  rw [h2', revSeg_get (by omega)]
  congr 1
  unfold rotIdx
  split at h1' <;> split at h2' <;> split <;> (try split) <;> (try split) <;> omega
theorem O3.rot {X : List (List AV)} {p m : Nat} (h : O3 ((X.drop p).take m)) {Y : List (List AV)} (hY : ∀ q, p ≤ q → q < p + m → ∃ q', p ≤ q' ∧ q' < p + m ∧ Y[q]? = X[q']?) {a n : Nat} (ha : p ≤ a) (hn : a + n ≤ p + m) : O3 ((Y.drop a).take n) := fun x hx => by
  obtain ⟨i, hi⟩ := List.getElem?_of_mem hx
  have hlt := (List.getElem?_eq_some_iff.1 hi).1
  rw [List.length_take] at hlt
  rw [List.getElem?_take_of_lt (by omega), List.getElem?_drop] at hi
  obtain ⟨q', h1, h2, h3⟩ := hY (a + i) (by omega) (by omega)
  rw [h3] at hi
  refine h x (List.mem_of_getElem? (i := q' - p) ?_)
  rw [List.getElem?_take_of_lt (by omega), List.getElem?_drop, show p + (q' - p) = q' by omega]
  exact hi

set_option maxHeartbeats 2000000 in
theorem rotateLeft135 (N : Bd) (H : AH) {b p m c : Nat} {X : List (List AV)} (hb : H.get b = some (.cells false X.flatten)) (h3 : R3 X) (ho : O3 ((X.drop p).take m)) (hm : p + m ≤ X.length) (h1 : 2 ≤ m) (hc : m ≤ c) (hml : m ≤ 1000000) :
    AC tC N 0 135 [.slice b (p * 3) m (.ex c) 3, .int .i64 ((m - 1 : Nat) : Int)] H fun r K => (∃ Y : List (List AV), K.get b = some (.cells false Y.flatten) ∧ R3 Y ∧ Y.length = X.length ∧ ∀ q, Y[q]? = X[rotIdx p m q]?) ∧ (∀ k, k ≠ b → K.get k = H.get k) ∧ K.next = H.next := by
  refine AC.by (n := 14) (rs := []) tOK fn135 rfl rfl rfl rfl ?_
  have e0 : (PT.ofList .leaf 0 [AV.slice b (p * 3) m (.ex c) 3, .int .i64 ((m - 1 : Nat) : Int)]).get 0 = some (.slice b (p * 3) m (.ex c) 3) := rfl
  have e1 : (PT.ofList .leaf 0 [AV.slice b (p * 3) m (.ex c) 3, .int .i64 ((m - 1 : Nat) : Int)]).get 1 = some (.int .i64 ((m - 1 : Nat) : Int)) := rfl
  have s1 : aslice tC 22 (.slice b (p * 3) m (.ex c) 3) none (some (.int .i64 ((m - 1 : Nat) : Int))) none = some (.slice b (p * 3) (m - 1) (.ex c) 3) := sl_to (by omega) (by omega)
  have s2 : aslice tC 22 (.slice b (p * 3) m (.ex c) 3) (some (.int .i64 ((m - 1 : Nat) : Int))) none none = some (.slice b ((p + (m - 1)) * 3) 1 (.ex (c - (m - 1))) 3) := by
    rw [sl_from (by omega) hc, cut3_ne (by omega), show m - (m - 1) = 1 by omega, ← Nat.add_mul]
  refine zs3 @e0 @e1 @s1 ?_
  refine AOs.callQ tOK (fs := []) (cs := []) rfl fn161 ok161 rfl (by simp only [List.map_cons, List.map_nil, List.nil_append, List.append_nil, aeval, PT.get_set, Nat.reduceEqDiff, reduceIte] <;> rfl) (reverse161 N H (X := X) hb h3 (fun x hx => ho x ?_) (by omega) (by omega) (by omega)) ?_
  · have : ((X.drop p).take (m - 1)) = (((X.drop p).take m).take (m - 1)) := by rw [List.take_take, Nat.min_eq_left (by omega)]
    rw [this] at hx
    exact List.mem_of_mem_take hx
  rintro r1 K1 ⟨g1, k1, n1⟩
  have l1 : (revSeg p (m - 1) X).length = X.length := revSeg_len (by omega)
  have r31 := h3.revSeg p (m - 1)
  have i1 : ∀ q, p ≤ q → q < p + m → ∃ q', p ≤ q' ∧ q' < p + m ∧ (revSeg p (m - 1) X)[q]? = X[q']? := fun q hq1 hq2 => by
    refine ⟨_, ?_, ?_, revSeg_get (by omega) q⟩
    · split <;> omega
    · split <;> omega
  refine zs3 @e0 @e1 @s2 ?_
  refine AOs.cq tOK fn161 ok161 (reverse161 N K1 (p := p + (m - 1)) (m := 1) (X := revSeg p (m - 1) X) g1 r31 (O3.rot ho i1 (by omega) (by omega)) (by omega) (by omega) (by omega)) ?_
  rintro r2 K2 ⟨g2, k2, n2⟩
  have l2 : (revSeg (p + (m - 1)) 1 (revSeg p (m - 1) X)).length = X.length := by rw [revSeg_len (by omega)]; exact l1
  have r32 := r31.revSeg (p + (m - 1)) 1
  have i2 : ∀ q, p ≤ q → q < p + m → ∃ q', p ≤ q' ∧ q' < p + m ∧ (revSeg (p + (m - 1)) 1 (revSeg p (m - 1) X))[q]? = X[q']? := fun q hq1 hq2 => by
    rw [revSeg_get (by omega)]
    refine i1 _ ?_ ?_
    · split <;> omega
    · split <;> omega
  refine zs1 @e0 ?_
  refine AOs.cq tOK fn161 ok161 (reverse161 N K2 (p := p) (m := m) (X := revSeg (p + (m - 1)) 1 (revSeg p (m - 1) X)) g2 r32 (O3.rot ho i2 (by omega) (by omega)) (by omega) (by omega) (by omega)) ?_
  rintro r3 K3 ⟨g3, k3, n3⟩
  refine zs0 ?_
  exact fnPost_normal0 ⟨⟨_, g3, r32.revSeg p m, by rw [revSeg_len (by omega)]; exact l2, rot_get hm (by omega)⟩, fun k hk => by rw [k3 k hk, k2 k hk, k1 k hk], by rw [n3, n2, n1]⟩

set_option maxHeartbeats 2000000 in
theorem rotateRight97 (N : Bd) (H : AH) {b p m c : Nat} {X : List (List AV)} (hb : H.get b = some (.cells false X.flatten)) (h3 : R3 X) (ho : O3 ((X.drop p).take m)) (hm : p + m ≤ X.length) (h1 : 2 ≤ m) (hc : m ≤ c) (hml : m ≤ 1000000) :
    AC tC N 0 97 [.slice b (p * 3) m (.ex c) 3, .int .i64 1] H fun r K => (∃ Y : List (List AV), K.get b = some (.cells false Y.flatten) ∧ R3 Y ∧ Y.length = X.length ∧ ∀ q, Y[q]? = X[rotIdx p m q]?) ∧ (∀ k, k ≠ b → K.get k = H.get k) ∧ K.next = H.next := by
  refine AC.by (n := 10) (rs := []) tOK fn97 rfl rfl rfl rfl ?_
  have e0 : (PT.ofList .leaf 0 [AV.slice b (p * 3) m (.ex c) 3, .int .i64 1]).get 0 = some (.slice b (p * 3) m (.ex c) 3) := rfl
  have e1 : (PT.ofList .leaf 0 [AV.slice b (p * 3) m (.ex c) 3, .int .i64 1]).get 1 = some (.int .i64 1) := rfl
  have w0 : IntKind.i64.wrap (((m : Nat) : Int) - 1) = ((m - 1 : Nat) : Int) := by rw [wrap64 (by omega) (by omega)]; omega
  refine zs4 @al22 @e0 @e1 @w0 ?_
  refine AOs.cq tOK fn135 ok135 (rotateLeft135 N H hb h3 ho hm h1 hc hml) ?_
  rintro r K ⟨h, hk, hn⟩
  refine zs0 ?_
  exact fnPost_normal0 ⟨h, hk, hn⟩

theorem ti58' : ∃ j, tC.ti 58 = some j ∧ j.size = 3 ∧ j.bytes = 40 ∧ j.zero = some (.agg [.nils, .int .i64 0, .bool false]) ∧ zOK j = true := ⟨_, ti58, rfl, rfl, rfl, by decide⟩
def Src3 (H : AH) (xt : TypeId) (s : AV) (k : Nat) (Y : List (List AV)) : Prop := ∀ j, tC.ti 58 = some j → aappended tC H j xt s = some (k, Y.flatten)
theorem src_rows {H : AH} {b q n : Nat} {c : ACap} {ro : Bool} {Z : List (List AV)} (hb : H.get b = some (.cells ro Z.flatten)) (h3 : R3 Z) (hn : q + n ≤ Z.length) : Src3 H 22 (.slice b (q * 3) n c 3) n ((Z.drop q).take n) := fun j hj => by
  obtain ⟨j', h1, h2, h2', h2'', h2'''⟩ := ti58'
  rw [hj] at h1; cases h1
  have hl : ((Z.drop q).take n).flatten.length = n * j.size := by rw [flat_len ((h3.drop q).take n), h2, List.length_take, List.length_drop, Nat.min_eq_left (by omega)]
  refine aappended_z (C := tC) (j := j) ti22 rfl hb ?_ hl
  rw [h2, flat_sub h3]
theorem src_empty {H : AH} {b : Nat} : Src3 H 22 (.empty b) 0 [] := fun j hj => by
  simp only [aappended, ti22, lenOfAV, acells, Nat.zero_mul, nbeq, nble]; simp
theorem src_nil {H : AH} : Src3 H 22 .nils 0 [] := fun j hj => by
  simp only [aappended, ti22, lenOfAV, acells, Nat.zero_mul, nbeq, nble]; simp
theorem src_len0 {H : AH} {b o z : Nat} {c : ACap} : Src3 H 22 (.slice b o 0 c z) 0 [] := fun j hj => by
  simp only [aappended, ti22, lenOfAV, acells, Nat.zero_mul, nbeq, nble]; simp
def zero3 : List AV := [.nils, .int .i64 0, .bool false]
theorem zeros_flat : ∀ k : Nat, zerosOf zero3 k = (List.replicate k zero3).flatten := fun k => rfl
theorem R3.zeros (k : Nat) : R3 (List.replicate k zero3) := fun x hx => by
  rw [(List.mem_replicate.1 hx).2]; exact ⟨rfl, rfl⟩
theorem O3.zeros (k : Nat) : O3 (List.replicate k zero3) := fun x hx => by
  rw [(List.mem_replicate.1 hx).2]; rfl
theorem src_zeros {H : AH} {k : Nat} (hk : k ≤ 1000000) : Src3 H 3 (.int .i64 (k : Nat)) k (List.replicate k zero3) := fun j hj => by
  obtain ⟨j', h1, h2, h2', h2'', h2'''⟩ := ti58'
  rw [hj] at h1; cases h1
  have hb : k * j.bytes ≤ 281474976710656 := by rw [h2']; omega
  have hb2 : k ≤ 9223372036854775807 := by omega
  have hc : (AV.agg [.nils, .int .i64 0, .bool false]).cells = zero3 := rfl
  have hnj : notJunk (AV.agg [.nils, .int .i64 0, .bool false]) = true := rfl
  have hzl : zero3.length = 3 := rfl
  show aappended tC H j 3 (.int .i64 (.ofNat k)) = _
  simp only [aappended, ti3, h2'', hc, hnj, h2, hzl, nbeq, nble, decide_eq_true hb, decide_eq_true hb2, decide_true, Bool.true_and, cond_true, zeros_flat]

theorem app_none {H : AH} {xt : TypeId} {s x : AV} (hx : Src3 H xt x 0 []) (hs : s = .nils ∨ ∃ b o l c z, s = .slice b o l c z) : aappend tC H [22, xt] [s, x] = some (s, H) := by
  obtain ⟨j, h1, h2, h2', h2'', hzk⟩ := ti58'
  rcases hs with rfl | ⟨b, o, l, c, z, rfl⟩ <;> simp [aappend, ti22, h1, hx j h1, allOne, hzk]
theorem app_room {H : AH} {b n k : Nat} {c : ACap} {X Y : List (List AV)} {xt : TypeId} {s : AV} (hb : H.get b = some (.cells false X.flatten)) (h3 : R3 X) (hY : R3 Y) (oY : O3 Y) (hk : Y.length = k) (k0 : k ≠ 0) (hx : Src3 H xt s k Y) (hn : n ≤ X.length) (hr : n + k ≤ c.low) (hN : n + k ≤ 1000000) :
    aappend tC H [22, xt] [.slice b 0 n c 3, s] = some (.slice b 0 (n + k) c 3, H.set b (.cells false (X.take n ++ Y ++ X.drop (n + k)).flatten)) := by
  obtain ⟨j, h1, h2, h2', h2'', hzk⟩ := ti58'
  have e1 : Y.flatten.length = k * 3 := by rw [flat_len hY, hk]
  have d2 : decide ((2 * (n + k) + 1024) * 40 ≤ 281474976710656) = true := decide_eq_true (by omega)
  have d4 : decide (n + k ≤ 4611686018427387904) = true := decide_eq_true (by omega)
  have d5 : decide (n * 3 ≤ X.flatten.length) = true := decide_eq_true (by rw [flat_len h3]; omega)
  simp only [aappend, ti22, h1, hx j h1, oY.flat, e1, h2, h2', hzk, nbeq, nble, d2, d4, decide_true, Bool.true_and, cond_true, k0, if_false, hr, if_true, hb, Nat.zero_add, d5]
  rw [flat_splice h3 hY, hk]
theorem app_grow {H : AH} {b n k cc : Nat} {X Y : List (List AV)} {xt : TypeId} {s : AV} (hb : H.get b = some (.cells false X.flatten)) (h3 : R3 X) (hY : R3 Y) (oY : O3 Y) (hk : Y.length = k) (k0 : k ≠ 0) (hx : Src3 H xt s k Y) (hn : n ≤ X.length) (hr : cc < n + k) (hN : n + k ≤ 1000000) :
    aappend tC H [22, xt] [.slice b 0 n (.ex cc) 3, s] = some (.slice H.next 0 (n + k) (.lo (n + k)) 3, H.alloc (.cells false (X.take n ++ Y).flatten)) := by
  obtain ⟨j, h1, h2, h2', h2'', hzk⟩ := ti58'
  have e1 : Y.flatten.length = k * 3 := by rw [flat_len hY, hk]
  have d2 : decide ((2 * (n + k) + 1024) * 40 ≤ 281474976710656) = true := decide_eq_true (by omega)
  have d4 : decide (n + k ≤ 4611686018427387904) = true := decide_eq_true (by omega)
  have hac : acells H 3 n (.slice b 0 n (.ex cc) 3) = some (X.take n).flatten := by
    refine acells_slice hb ?_ (by rw [flat_len (h3.take n), List.length_take, Nat.min_eq_left hn])
    have := flat_sub h3 0 n
    rwa [Nat.zero_mul, List.drop_zero] at this
  have hlow : ¬ (n + k ≤ (ACap.ex cc).low) := by show ¬ (n + k ≤ cc); omega
  simp only [aappend, ti22, h1, hx j h1, oY.flat, e1, h2, h2', hzk, nbeq, nble, d2, d4, decide_true, Bool.true_and, cond_true, k0, if_false, hlow, hac, Option.map_some]
  rw [List.flatten_append]
theorem app_nil {H : AH} {k : Nat} {Y : List (List AV)} {xt : TypeId} {s : AV} (hY : R3 Y) (oY : O3 Y) (hk : Y.length = k) (k0 : k ≠ 0) (hx : Src3 H xt s k Y) (hN : k ≤ 1000000) :
    aappend tC H [22, xt] [.nils, s] = some (.slice H.next 0 k (.lo k) 3, H.alloc (.cells false Y.flatten)) := by
  obtain ⟨j, h1, h2, h2', h2'', hzk⟩ := ti58'
  have e1 : Y.flatten.length = k * 3 := by rw [flat_len hY, hk]
  have d2 : decide ((2 * k + 1024) * 40 ≤ 281474976710656) = true := decide_eq_true (by omega)
  have d4 : decide (k ≤ 4611686018427387904) = true := decide_eq_true (by omega)
  simp only [aappend, ti22, h1, hx j h1, oY.flat, e1, h2, h2', hzk, nbeq, nble, d2, d4, decide_true, Bool.true_and, cond_true, k0, if_false]

theorem copy3 {H : AH} {b sb p q dn sn m : Nat} {dc sc : ACap} {ro : Bool} {X Z : List (List AV)} (hb : H.get b = some (.cells false X.flatten)) (h3 : R3 X) (hs : H.get sb = some (.cells ro Z.flatten)) (z3 : R3 Z) (oZ : O3 ((Z.drop q).take m))
    (hm : Nat.min sn dn = m) (m0 : m ≠ 0) (hZ : q + m ≤ Z.length) (hX : p + m ≤ X.length) :
    acopy tC H [22, 22] [.slice b (p * 3) dn dc 3, .slice sb (q * 3) sn sc 3] = some (.int .i64 (m : Nat), H.set b (.cells false (X.take p ++ (Z.drop q).take m ++ X.drop (p + m)).flatten)) := by
  obtain ⟨j, h1, h2, h2', h2'', hzk⟩ := ti58'
  have hl : ((Z.drop q).take m).length = m := by rw [List.length_take, List.length_drop]; omega
  have r3 := (z3.drop q).take m
  have e1 : ((Z.drop q).take m).flatten.length = m * 3 := by rw [flat_len r3, hl]
  have hac : acells H 3 m (.slice sb (q * 3) sn sc 3) = some ((Z.drop q).take m).flatten := acells_slice hs (flat_sub z3 q m) e1
  have d1 : decide (p * 3 + m * 3 ≤ X.flatten.length) = true := decide_eq_true (by rw [flat_len h3]; omega)
  simp only [acopy, ti22, h1, lenOfAV, hm, h2, hac, m0, if_false, hb, nbeq, nble, oZ.flat, e1, d1, decide_true, Bool.true_and, cond_true]
  have := flat_splice h3 r3 p
  rw [hl] at this
  rw [this]

theorem run_overlaps (args : Array Value) (w : World) (r : Value) (w' : World) (h : (Extern.SlicesOverlaps.overlaps #[22, 22] #[4] args).run Tryz.prog w = .ok r w') : (callFunc 96 args).run Tryz.prog w = .ok (.value r) w' := by
  rw [run_callFunc_extern Tryz.func96 (by kernel_rfl) (by kernel_rfl) (by kernel_rfl) (e := Extern.SlicesOverlaps.overlaps #[22, 22] #[4]) (by kernel_rfl), h]; rfl

/-- A slice of rows in a block that is its own: what is known of its room. -/
def roomOK (c : ACap) (n : Nat) (X : List (List AV)) : Prop :=
  match c with
  | .ex cc => n ≤ cc ∧ cc ≤ X.length
  | .lo cc => n ≤ cc

/-- What Insert leaves. -/
def Ins (H : AH) (b n i : Nat) (X : List (List AV)) (x : List AV) (r : AV) (K : AH) : Prop :=
  ∃ b' c' X', r = .slice b' 0 (n + 1) c' 3 ∧ K.get b' = some (.cells false X'.flatten) ∧ R3 X' ∧ n + 1 ≤ X'.length ∧ roomOK c' (n + 1) X' ∧ (b' = b ∨ H.next ≤ b') ∧
    (∀ q, q < n + 1 → X'[q]? = if q < i then X[q]? else if q = i then some x else X[q - 1]?) ∧ (∀ k y, k ≠ b → H.get k = some y → K.get k = some y) ∧ H.next ≤ K.next

theorem ins_get {X : List (List AV)} {x : List AV} {n i : Nat} {R : List (List AV)} (hi : i ≤ n) (hn : n ≤ X.length) (q : Nat) (hq : q < n + 1) : (X.take i ++ [x] ++ (X.drop i).take (n - i) ++ R)[q]? = if q < i then X[q]? else if q = i then some x else X[q - 1]? := by
  by_cases h1 : q < i
  · rw [if_pos h1, List.append_assoc, List.append_assoc, List.getElem?_append_left (by rw [List.length_take]; omega), List.getElem?_take_of_lt h1]
  · rw [if_neg h1]
    by_cases h2 : q = i
    · subst h2
      rw [if_pos rfl, List.append_assoc, List.append_assoc, List.getElem?_append_right (by rw [List.length_take]; omega), List.length_take, Nat.min_eq_left (by omega), Nat.sub_self]; rfl
    · rw [if_neg h2, List.getElem?_append_left (by simp; omega), List.getElem?_append_right (by simp; omega), List.getElem?_take_of_lt (by simp; omega), List.getElem?_drop]
      congr 1; simp; omega

theorem cap22 {b o n cc z : Nat} : acap tC 22 (.slice b o n (.ex cc) z) = some (.int .i64 (cc : Nat)) := by simp only [acap, ti22]
theorem O3.of {X : List (List AV)} {a n : Nat} (h : ∀ q, a ≤ q → q < a + n → ∀ z, X[q]? = some z → allOne z = true) : O3 ((X.drop a).take n) := fun x hx => by
  obtain ⟨i, hi⟩ := List.getElem?_of_mem hx
  have hlt := (List.getElem?_eq_some_iff.1 hi).1
  rw [List.length_take] at hlt
  rw [List.getElem?_take_of_lt (by omega), List.getElem?_drop] at hi
  exact h _ (by omega) (by omega) x hi
theorem O3.at {X : List (List AV)} {n q : Nat} (h : O3 (X.take n)) (hq : q < n) {z : List AV} (hz : X[q]? = some z) : allOne z = true :=
  h z (List.mem_of_getElem? (i := q) (by rw [List.getElem?_take_of_lt hq]; exact hz))

set_option maxHeartbeats 8000000 in
theorem insertEx (N : Bd) (H : AH) {b n i cc vb : Nat} {X : List (List AV)} {x : List AV} {c : Code} (hcode : Tryz.f69.body = some c) {T : PT AV} (t1 : T.get 1 = some (.int .i64 (i : Nat))) (t2 : T.get 2 = some (.slice vb 0 1 (.ex 1) 3)) (t0 : T.get 0 = some (.slice b 0 n (.ex cc) 3)) (hwf : WF H)
    (hb : H.get b = some (.cells false X.flatten)) (h3 : R3 X) (oX : O3 (X.take n)) (hc : n ≤ cc) (hX : cc ≤ X.length) (hv : H.get vb = some (.cells false x)) (lx : x.length = 3) (sx : x.all isStr = false) (ox : allOne x = true) (hne : vb ≠ b) (hi : i ≤ n) (hn : n ≤ 100000) :
    AW tC N 0 95 c T H (fnPost tC [.tmp 6] (Ins H b n i X x)) := by
  have hcode := Option.some.inj (show some _ = some c from hcode)
  subst hcode
  have r3x : R3 [x] := R3.one lx sx
  have o3x : O3 [x] := fun y hy => by rw [List.mem_singleton] at hy; subst hy; exact ox
  have hv1 : H.get vb = some (.cells false [x].flatten) := by rw [flat_one]; exact hv
  have hsrc : Src3 H 22 (.slice vb 0 1 (.ex 1) 3) 1 [x] := src_rows (q := 0) (n := 1) (Z := [x]) hv1 r3x (by simp)
  have s1 : aslice tC 22 (.slice b 0 n (.ex cc) 3) (some (.int .i64 (i : Nat))) none none = some (cut3 b 0 i n cc) := sl_from hi hc
  have z1 : decide ((1 : Int) = 0) = false := by decide
  have w1 : IntKind.i64.wrap (((n : Nat) : Int) + 1) = ((n + 1 : Nat) : Int) := wrap64_succ (by omega)
  have wi : IntKind.i64.wrap (((i : Nat) : Int) + 1) = ((i + 1 : Nat) : Int) := wrap64_succ (by omega)
  by_cases hin : i = n
  · subst hin
    have d1 : decide (((i : Nat) : Int) = ((i : Nat) : Int)) = true := decide_eq_true rfl
    by_cases hroom : i + 1 ≤ cc
    · have happ := app_room (c := .ex cc) (k := 1) hb h3 r3x o3x rfl (by decide) hsrc (by omega) hroom (by omega)
      generalize hK : H.set b (.cells false (X.take i ++ [x] ++ X.drop (i + 1)).flatten) = K at happ
      refine zt5 @t0 @t1 @t2 @s1 @happ ?_
      refine fnPost_ret1 gt1 ⟨b, _, X.take i ++ [x] ++ X.drop (i + 1), rfl, by rw [← hK, AH.get_set, if_pos rfl], ((h3.take i).app r3x).app (h3.drop _), by simp; omega, (show roomOK (.ex cc) _ _ from ⟨hroom, by simp; omega⟩), .inl rfl, fun q hq => ?_, fun k y hk hy => by rw [← hK, AH.get_set, if_neg hk]; exact hy, by rw [← hK]; exact Nat.le_refl _⟩
      have := ins_get (x := x) (R := X.drop (i + 1)) (Nat.le_refl i) (show i ≤ X.length by omega) q hq
      rwa [Nat.sub_self, List.take_zero, List.append_nil] at this
    · have happ := app_grow (k := 1) hb h3 r3x o3x rfl (by decide) hsrc (by omega) (show cc < i + 1 by omega) (by omega)
      generalize hK : H.alloc (.cells false (X.take i ++ [x]).flatten) = K at happ
      refine zt5 @t0 @t1 @t2 @s1 @happ ?_
      refine fnPost_ret1 gt1 ⟨H.next, _, X.take i ++ [x], rfl, by rw [← hK, AH.get_alloc, if_pos rfl], (h3.take i).app r3x, by simp; omega, Nat.le_refl _, .inr (Nat.le_refl _), fun q hq => ?_, fun k y hk hy => by rw [← hK]; exact stay_alloc hwf _ k y hy, by rw [← hK]; simp⟩
      have := ins_get (x := x) (R := []) (Nat.le_refl i) (show i ≤ X.length by omega) q hq
      rwa [Nat.sub_self, List.take_zero, List.append_nil, List.append_nil] at this
  have d1 : decide (((i : Nat) : Int) = ((n : Nat) : Int)) = false := decide_eq_false (by omega)
  have oXs : O3 ((X.drop i).take (n - i)) := O3.of fun q h1 h2 z hz => oX.at (by omega) hz
  have len1 : ((X.drop i).take (n - i)).length = n - i := by simp; omega
  by_cases hroom : n + 1 ≤ cc
  case neg =>
    have d2 : decide (((cc : Nat) : Int) < ((n + 1 : Nat) : Int)) = true := decide_eq_true (by omega)
    have s2 : aslice tC 22 (.slice b 0 n (.ex cc) 3) none (some (.int .i64 (i : Nat))) none = some (.slice b 0 i (.ex cc) 3) := sl_to (by omega) (by omega)
    have w3 : IntKind.i64.wrap (((n + 1 : Nat) : Int) - ((i : Nat) : Int)) = ((n + 1 - i : Nat) : Int) := by rw [wrap64 (by omega) (by omega)]; omega
    have happ := app_grow (n := i) (k := n + 1 - i) (cc := cc) hb h3 (R3.zeros (n + 1 - i)) (O3.zeros _) (by simp) (by omega) (src_zeros (by omega)) (by omega) (by omega) (by omega)
    rw [show i + (n + 1 - i) = n + 1 by omega] at happ
    obtain ⟨A, hA⟩ : ∃ A, A = X.take i ++ List.replicate (n + 1 - i) zero3 := ⟨_, rfl⟩
    rw [← hA] at happ
    have lA : A.length = n + 1 := by rw [hA]; simp; omega
    have rA : R3 A := by rw [hA]; exact (h3.take i).app (R3.zeros _)
    have tA : A.take i = X.take i := by rw [hA, List.take_append_of_le_length (by simp; omega), List.take_take, Nat.min_self]
    generalize hK1 : H.alloc (.cells false A.flatten) = K1 at happ
    have g1 : K1.get H.next = some (.cells false A.flatten) := by rw [← hK1, AH.get_alloc, if_pos rfl]
    have k1 : ∀ k y, H.get k = some y → K1.get k = some y := by rw [← hK1]; exact stay_alloc hwf _
    have n1 : K1.next = H.next + 1 := by rw [← hK1]; rfl
    obtain ⟨c3, s3⟩ : ∃ c3, aslice tC 22 (.slice H.next 0 (n + 1) (.lo (n + 1)) 3) (some (.int .i64 (i : Nat))) none none = some (.slice H.next (i * 3) (n + 1 - i) c3 3) := by
      by_cases h0 : i = 0
      · subst h0; exact ⟨_, sl_fromLo0 (Nat.le_refl _)⟩
      · exact ⟨_, by rw [sl_fromLo h0 (by omega) (Nat.le_refl _) (by omega), Nat.zero_add]⟩
    have cp1 : acopy tC K1 [22, 22] [.slice H.next (i * 3) (n + 1 - i) c3 3, .slice vb 0 1 (.ex 1) 3] = _ := copy3 (p := i) (q := 0) (Z := [x]) (m := 1) (sn := 1) (sc := .ex 1) (dc := c3) (dn := n + 1 - i) g1 rA (k1 _ _ hv1) r3x (by exact o3x) (Nat.min_eq_left (by omega)) (by decide) (by simp) (by omega)
    obtain ⟨B, hB⟩ : ∃ B, B = A.take i ++ (([x].drop 0).take 1) ++ A.drop (i + 1) := ⟨_, rfl⟩
    rw [← hB] at cp1
    have lB : B.length = n + 1 := by rw [hB]; simp; omega
    have rB : R3 B := by rw [hB]; exact ((rA.take i).app ((r3x.drop 0).take 1)).app (rA.drop _)
    have tB : B.take (i + 1) = X.take i ++ [x] := by
      rw [hB, tA]
      have : (X.take i ++ [x]).length = i + 1 := by simp; omega
      rw [show (X.take i ++ ([x].drop 0).take 1) = X.take i ++ [x] from rfl, ← this, List.take_left]
    generalize hK2 : K1.set H.next (.cells false B.flatten) = K2 at cp1
    have g2 : K2.get H.next = some (.cells false B.flatten) := by rw [← hK2, AH.get_set, if_pos rfl]
    have k2 : ∀ k y, k ≠ H.next → K1.get k = some y → K2.get k = some y := fun k y hk hy => by rw [← hK2, AH.get_set, if_neg hk]; exact hy
    have hbn : b ≠ H.next := by have := hwf _ _ hb; omega
    have s4 : aslice tC 22 (.slice H.next 0 (n + 1) (.lo (n + 1)) 3) (some (.int .i64 (i + 1 : Nat))) none none = some (.slice H.next ((i + 1) * 3) (n - i) (.lo (n + 1 - (i + 1))) 3) := by
      rw [sl_fromLo (by omega) (by omega) (Nat.le_refl _) (by omega), Nat.zero_add, show n + 1 - (i + 1) = n - i by omega]
    have s5 : aslice tC 22 (.slice b 0 n (.ex cc) 3) (some (.int .i64 (i : Nat))) none none = some (.slice b (i * 3) (n - i) (.ex (cc - i)) 3) := by
      rw [s1, cut3_ne (by omega), Nat.zero_add]
    have cp2 := copy3 (p := i + 1) (q := i) (sn := n - i) (dn := n - i) (m := n - i) (dc := .lo (n + 1 - (i + 1))) (sc := .ex (cc - i)) g2 rB (k2 _ _ hbn (k1 _ _ hb)) h3 oXs (Nat.min_self _) (by omega) (by omega) (by omega)
    generalize hK3 : K2.set H.next (.cells false (B.take (i + 1) ++ (X.drop i).take (n - i) ++ B.drop (i + 1 + (n - i))).flatten) = K3 at cp2
    refine zt8 @t0 @t1 @t2 @s5 @d1 @w1 @cap22 (And.intro @d2 (And.intro @s2 (And.intro @w3 (And.intro @happ (And.intro @s3 @cp1))))) ?_
    with_reducible repeat' first | refine za ?_ | refine AW.drawT tOK wu (by simp only [pickAll, Nat.reduceAdd]; rfl) ?_ | refine DN.nil tOK ?_ | (refine zd ?_; refine zu6 @t0 @t1 @wi @s4 @s5 @cp2 ?_; refine Same.mk ?_) | ((first | refine AOs.o1 tOK ?_ | refine DN.actE tOK (by kernel_rfl) wu wu ?_); refine zu1 @cp2 ?_) | fail
    refine fnPost_ret1 gt1 ⟨H.next, _, _, rfl, by rw [← hK3, AH.get_set, if_pos rfl], ((rB.take _).app ((h3.drop i).take _)).app (rB.drop _), by simp; omega, Nat.le_refl _, .inr (Nat.le_refl _), fun q hq => ?_, fun k y hk hy => ?_, ?_⟩
    · rw [tB]; exact ins_get hi (by omega) q hq
    · have := hwf _ _ hy
      rw [← hK3, AH.get_set, if_neg (by omega)]; exact k2 _ _ (by omega) (k1 _ _ hy)
    · rw [← hK3, ← hK2]; simp; omega
  have d2 : decide (((cc : Nat) : Int) < ((n + 1 : Nat) : Int)) = false := decide_eq_false (by omega)
  have s2 : aslice tC 22 (.slice b 0 n (.ex cc) 3) none (some (.int .i64 (n + 1 : Nat))) none = some (.slice b 0 (n + 1) (.ex cc) 3) := sl_to (by omega) (by omega)
  have s3 : aslice tC 22 (.slice b 0 (n + 1) (.ex cc) 3) (some (.int .i64 (i + 1 : Nat))) none none = some (.slice b ((i + 1) * 3) (n - i) (.ex (cc - (i + 1))) 3) := by
    rw [sl_from (by omega) hroom, cut3_ne (by omega), Nat.zero_add, show n + 1 - (i + 1) = n - i by omega]
  have s4 : aslice tC 22 (.slice b 0 (n + 1) (.ex cc) 3) (some (.int .i64 (i : Nat))) none none = some (.slice b (i * 3) (n + 1 - i) (.ex (cc - i)) 3) := by
    rw [sl_from (by omega) hroom, cut3_ne (by omega), Nat.zero_add]
  have s5 : aslice tC 22 (.slice b 0 (n + 1) (.ex cc) 3) (some (.int .i64 (n : Nat))) none none = some (.slice b (n * 3) (n + 1 - n) (.ex (cc - n)) 3) := by
    rw [sl_from (by omega) hroom, cut3_ne (by omega), Nat.zero_add]
  refine zt8 @t0 @t1 @t2 @s1 @d1 @w1 @cap22 (And.intro @d2 (And.intro @s2 (And.intro @wi @s3))) ?_
  refine AOs.callO (f := 96) (Qc := fun r K => (∃ x, r = .bool x) ∧ K = H) rfl rfl (by simp only [List.map_cons, List.map_nil, aeval, PT.get_set, Nat.reduceEqDiff, reduceIte] <;> rfl) (fun ρ w vs hR hv' => overlaps_open (tS := 22) (tR := 4) (e := 58) (size := 3) (by kernel_rfl) (fun w => tOK.run_size ti58 w) run_overlaps hne hv hb (by decide) (by omega) (by decide) (by decide) hR hv') ?_
  rintro r K ⟨⟨ov, rfl⟩, rfl⟩
  cases ov with
  | false =>
    have cp1 := copy3 (p := i + 1) (q := i) (sn := n + 1 - i) (dn := n - i) (m := n - i) (dc := .ex (cc - (i + 1))) (sc := .ex (cc - i)) hb h3 hb h3 oXs (Nat.min_eq_right (by omega)) (by omega) (by omega) (by omega)
    obtain ⟨A, hA⟩ : ∃ A, A = X.take (i + 1) ++ (X.drop i).take (n - i) ++ X.drop (i + 1 + (n - i)) := ⟨_, rfl⟩
    rw [← hA] at cp1
    have lA : A.length = X.length := by rw [hA]; simp; omega
    have rA : R3 A := by rw [hA]; exact ((h3.take _).app ((h3.drop i).take _)).app (h3.drop _)
    have tA : A.take i = X.take i := by rw [hA, List.append_assoc, List.take_append_of_le_length (by simp; omega), List.take_take, Nat.min_eq_left (by omega)]
    have dA : A.drop (i + 1) = (X.drop i).take (n - i) ++ X.drop (i + 1 + (n - i)) := by
      have : (X.take (i + 1)).length = i + 1 := by simp; omega
      rw [hA, List.append_assoc, List.drop_left' this]
    generalize hK1 : K.set b (.cells false A.flatten) = K1 at cp1
    have g1 : K1.get b = some (.cells false A.flatten) := by rw [← hK1, AH.get_set, if_pos rfl]
    have hv2 : K1.get vb = some (.cells false [x].flatten) := by rw [← hK1, AH.get_set, if_neg hne]; exact hv1
    have cp2 : acopy tC K1 [22, 22] [.slice b (i * 3) (n + 1 - i) (.ex (cc - i)) 3, .slice vb 0 1 (.ex 1) 3] = _ := copy3 (p := i) (q := 0) (Z := [x]) (m := 1) (sn := 1) (sc := .ex 1) (dn := n + 1 - i) g1 rA hv2 r3x (by exact o3x) (Nat.min_eq_left (by omega)) (by decide) (by simp) (by omega)
    generalize hK2 : K1.set b (.cells false (A.take i ++ (([x].drop 0).take 1) ++ A.drop (i + 1)).flatten) = K2 at cp2
    with_reducible repeat' first | refine za ?_ | refine AW.drawT tOK wu (by simp only [pickAll, Nat.reduceAdd]; rfl) ?_ | refine DN.nil tOK ?_ | (refine zd ?_; refine zu6 @t0 @t1 @wi @s3 @s4 @cp1 ?_; refine Same.mk ?_) | ((first | refine AOs.o1 tOK ?_ | refine DN.actE tOK (by kernel_rfl) wu wu ?_); refine zu5 @t0 @t1 @t2 @s4 @cp1 ?_) | fail
    refine zt2 @t0 @cp2 ?_
    refine fnPost_ret1 gt1 ⟨b, _, _, rfl, by rw [← hK2, AH.get_set, if_pos rfl], ((rA.take _).app ((r3x.drop 0).take 1)).app (rA.drop _), by simp; omega, (show roomOK (.ex cc) _ _ from ⟨hroom, by simp; omega⟩), .inl rfl, fun q hq => ?_, fun k y hk hy => ?_, ?_⟩
    · rw [tA, dA, ← List.append_assoc]; exact ins_get hi (by omega) q hq
    · rw [← hK2, AH.get_set, if_neg hk, ← hK1, AH.get_set, if_neg hk]; exact hy
    · rw [← hK2, ← hK1]; exact Nat.le_refl _
  | true =>
    have cp1 : acopy tC K [22, 22] [.slice b (n * 3) (n + 1 - n) (.ex (cc - n)) 3, .slice vb 0 1 (.ex 1) 3] = _ := copy3 (p := n) (q := 0) (Z := [x]) (m := 1) (sn := 1) (sc := .ex 1) (dn := n + 1 - n) hb h3 hv1 r3x (by exact o3x) (Nat.min_eq_left (by omega)) (by decide) (by simp) (by omega)
    obtain ⟨A, hA⟩ : ∃ A, A = X.take n ++ (([x].drop 0).take 1) ++ X.drop (n + 1) := ⟨_, rfl⟩
    rw [← hA] at cp1
    have lA : A.length = X.length := by rw [hA]; simp; omega
    have rA : R3 A := by rw [hA]; exact ((h3.take _).app ((r3x.drop 0).take 1)).app (h3.drop _)
    have gA : ∀ q, A[q]? = if q = n then some x else X[q]? := fun q => by
      have hs : A = X.set n x := by rw [hA, List.set_eq_take_append_cons_drop, if_pos (by omega)]; simp
      rw [hs, List.getElem?_set]
      by_cases h : n = q
      · subst h; rw [if_pos rfl, if_pos rfl, if_pos (by omega)]
      · rw [if_neg h, if_neg (fun e => h e.symm)]
    have oA : O3 ((A.drop i).take (n + 1 - i)) := O3.of fun q h1 h2 z hz => by
      rw [gA] at hz
      split at hz
      · cases hz; exact ox
      · exact oX.at (by omega) hz
    generalize hK1 : K.set b (.cells false A.flatten) = K1 at cp1
    have g1 : K1.get b = some (.cells false A.flatten) := by rw [← hK1, AH.get_set, if_pos rfl]
    refine zt6 @t0 @t1 @t2 @s5 @cp1 @s4 ?_
    refine AOs.cq tOK fn97 ok97 (rotateRight97 N K1 (p := i) (m := n + 1 - i) (c := cc - i) g1 rA oA (by omega) (by omega) (by omega) (by omega)) ?_
    rintro r2 K2 ⟨⟨Y, gY, rY, lY, hY⟩, k2, n2⟩
    refine zs1 @t0 ?_
    refine fnPost_ret1 gt1 ⟨b, _, Y, rfl, gY, rY, by omega, (show roomOK (.ex cc) _ _ from ⟨hroom, by omega⟩), .inl rfl, fun q hq => ?_, fun k y hk hy => ?_, ?_⟩
    · rw [hY, gA]
      unfold rotIdx
      by_cases h1 : q < i
      · rw [if_pos h1, if_neg (show ¬ (i ≤ q ∧ q < i + (n + 1 - i)) by omega), if_neg (by omega)]
      · rw [if_neg h1, if_pos (show i ≤ q ∧ q < i + (n + 1 - i) by omega)]
        by_cases h2 : q = i
        · rw [if_pos h2, if_pos h2, if_pos (by omega)]
        · rw [if_neg h2, if_neg h2, if_neg (by omega)]
    · rw [k2 k hk, ← hK1, AH.get_set, if_neg hk]; exact hy
    · rw [n2, ← hK1]; exact Nat.le_refl _

theorem fnPost_mono {C : Ctx} {rs : List ResultVar} {Q Q' : AV → AH → Prop} (h : ∀ r K, Q r K → Q' r K) : ∀ e T H, fnPost C rs Q e T H → fnPost C rs Q' e T H := fun e T H hq => by
  cases e with
  | normal => obtain ⟨zs, h1, h2⟩ := hq; exact ⟨zs, h1, h _ _ h2⟩
  | exit i => exact hq
  | ret => obtain ⟨zs, h1, h2⟩ := hq; exact ⟨zs, h1, h _ _ h2⟩

theorem insert69 (N : Bd) (H : AH) {b n i vb : Nat} {c : ACap} {X : List (List AV)} {x : List AV} (hb : H.get b = some (.cells false X.flatten)) (h3 : R3 X) (oX : O3 (X.take n)) (hnX : n ≤ X.length) (hc : roomOK c n X) (hv : H.get vb = some (.cells false x)) (lx : x.length = 3) (sx : x.all isStr = false) (ox : allOne x = true) (hne : vb ≠ b) (hi : i ≤ n) (hn : n ≤ 100000) :
    AC tC N 0 69 [.slice b 0 n c 3, .int .i64 (i : Nat), .slice vb 0 1 (.ex 1) 3] H (Ins H b n i X x) := by
  refine AC.wf0 fun hwf => ?_
  refine AC.by (n := 95) (rs := [.tmp 6]) tOK fn69 rfl rfl rfl rfl ?_
  cases c with
  | ex cc => exact insertEx N H rfl rfl rfl rfl hwf hb h3 oX hc.1 hc.2 hv lx sx ox hne hi hn
  | lo lo =>
    have hlo : n ≤ lo := hc
    refine AW.reveal (k := 0) (o := 0) (z := 3) rfl hb fun cc hcc => ?_
    have h3' : R3 (X ++ List.replicate (cc - X.length) junk3) := h3.app (R3.junk _)
    rw [flat_room h3 cc]
    have hbn := hwf _ _ hb
    refine AW.mono (insertEx N _ (n := n) (i := i) (vb := vb) (x := x) (X := X ++ List.replicate (cc - X.length) junk3) (cc := cc) rfl (by simp [PT.get_set]; rfl) (by simp [PT.get_set]; rfl) (by simp [PT.get_set]) (wf_set hwf hbn _) (by rw [AH.get_set, if_pos rfl]) h3' (by rw [List.take_append_of_le_length hnX]; exact oX) (by omega) (by simp; omega) (by rw [AH.get_set, if_neg hne]; exact hv) lx sx ox hne hi hn) (fnPost_mono fun r K h => ?_)
    obtain ⟨b', c', X', g1, g2, g3, g4, g5, g6, g7, g8, g9⟩ := h
    refine ⟨b', c', X', g1, g2, g3, g4, g5, g6, fun q hq => ?_, fun k y hk hy => g8 k y hk (by rw [AH.get_set, if_neg hk]; exact hy), g9⟩
    rw [g7 q hq]
    by_cases h1 : q < i
    · rw [if_pos h1, if_pos h1, List.getElem?_append_left (by omega)]
    · rw [if_neg h1, if_neg h1]
      by_cases h2 : q = i
      · rw [if_pos h2, if_pos h2]
      · rw [if_neg h2, if_neg h2, List.getElem?_append_left (by omega)]

theorem sl_nil0 : aslice tC 22 .nils (some (.int .i64 0)) none none = some .nils := by
  simp only [aslice, ti22, ti58, bnd]; simp

set_option maxHeartbeats 2000000 in
theorem insert69n (N : Bd) (H : AH) {vb : Nat} {x : List AV} (hv : H.get vb = some (.cells false x)) (lx : x.length = 3) (sx : x.all isStr = false) (ox : allOne x = true) :
    AC tC N 0 69 [.nils, .int .i64 0, .slice vb 0 1 (.ex 1) 3] H fun r K => ∃ b', r = .slice b' 0 1 (.lo 1) 3 ∧ K.get b' = some (.cells false [x].flatten) ∧ H.next ≤ b' ∧ (∀ k y, H.get k = some y → K.get k = some y) ∧ H.next ≤ K.next := by
  refine AC.wf0 fun hwf => ?_
  refine AC.by (n := 95) (rs := [.tmp 6]) tOK fn69 rfl rfl rfl rfl ?_
  have e0 : (PT.ofList .leaf 0 [AV.nils, .int .i64 0, .slice vb 0 1 (.ex 1) 3]).get 0 = some .nils := rfl
  have e1 : (PT.ofList .leaf 0 [AV.nils, .int .i64 0, .slice vb 0 1 (.ex 1) 3]).get 1 = some (.int .i64 0) := rfl
  have e2 : (PT.ofList .leaf 0 [AV.nils, .int .i64 0, .slice vb 0 1 (.ex 1) 3]).get 2 = some (.slice vb 0 1 (.ex 1) 3) := rfl
  have r3x : R3 [x] := R3.one lx sx
  have o3x : O3 [x] := fun y hy => by rw [List.mem_singleton] at hy; subst hy; exact ox
  have hv1 : H.get vb = some (.cells false [x].flatten) := by rw [flat_one]; exact hv
  have hsrc : Src3 H 22 (.slice vb 0 1 (.ex 1) 3) 1 [x] := src_rows (q := 0) (n := 1) (Z := [x]) hv1 r3x (by simp)
  have happ := app_nil (k := 1) r3x o3x rfl (by decide) hsrc (by omega)
  generalize hK : H.alloc (.cells false [x].flatten) = K at happ
  have z1 : decide ((1 : Int) = 0) = false := by decide
  have z2 : decide ((0 : Int) = 0) = true := by decide
  refine zt5 @e0 @e1 @e2 @sl_nil0 @happ ?_
  exact fnPost_ret1 gt1 ⟨H.next, rfl, by rw [← hK, AH.get_alloc, if_pos rfl], Nat.le_refl _, by rw [← hK]; exact stay_alloc hwf _, by rw [← hK]; simp⟩

/-! slices.Delete of one. -/
theorem evOp_clear {C : Ctx} {F : Fns} {H : AH} {ev : Operand → AV} {dst : Option Tmp} {ty : TypeId} {pos : String} {after : Array Edge} {guard : Option (Nat × Bool)} {args ats} : evOp C F H ev { dst, op := .call { callee := .builtin .clear, args := ⟨args⟩, argTypes := ⟨ats⟩ }, type := ty, pos, after, guard } = aclear C H ats (args.map ev) := by
  simp only [evOp, pureOp, readOp, newOp, chainOp, abuiltin]
theorem sl_three {b n i : Nat} {c : ACap} (hi : i < n) (hc : n ≤ c.low) : aslice tC 22 (.slice b 0 n c 3) (some (.int .i64 (i : Nat))) (some (.int .i64 (i + 1 : Nat))) (some (.int .i64 (n : Nat))) = some (.slice b (i * 3) 1 (.ex (n - i)) 3) := by
  have h1 : decide (i + 1 ≤ n) = true := decide_eq_true (by omega)
  have h2 : decide (n ≤ c.low) = true := decide_eq_true hc
  have h3 : ¬ n = i := by omega
  have h4 : decide (i ≤ i + 1) = true := decide_eq_true (by omega)
  have b0 : ∀ (k d : Nat), bnd (some (.int .i64 (k : Nat))) d = some k := fun k d => by simp [bnd]
  simp only [aslice, ti22, ti58, b0, nble, nbeq, h1, h2, h3, h4, decide_true, Bool.and_true, cond_true, if_false, Nat.zero_add, Nat.add_sub_cancel_left]
theorem sl_toAny {b n i : Nat} {c : ACap} (hi : i ≤ n) (hn : 0 < n) (hc : n ≤ c.low) : aslice tC 22 (.slice b 0 n c 3) none (some (.int .i64 (i : Nat))) none = some (.slice b 0 i c 3) := by
  cases c with
  | ex cc => have hc : n ≤ cc := hc; exact sl_to (by omega) (by omega)
  | lo cc => have hc : n ≤ cc := hc; exact sl_toLo (by omega)
theorem sl_rest {H : AH} {b n l : Nat} {c : ACap} {X : List (List AV)} (hb : H.get b = some (.cells false X.flatten)) (h3 : R3 X) (hl : l ≤ n) (l0 : l ≠ 0) (hn : n ≤ X.length) (hc : n ≤ c.low) :
    ∃ s, aslice tC 22 (.slice b 0 n c 3) (some (.int .i64 (l : Nat))) none none = some s ∧ Src3 H 22 s (n - l) ((X.drop l).take (n - l)) := by
  have rows : ∀ c', Src3 H 22 (.slice b (l * 3) (n - l) c' 3) (n - l) ((X.drop l).take (n - l)) := fun c' => src_rows hb h3 (by omega)
  have empt : n - l = 0 → (X.drop l).take (n - l) = [] := fun e => by rw [e, List.take_zero]
  cases c with
  | ex cc =>
    have hc : n ≤ cc := hc
    refine ⟨_, sl_from hl hc, ?_⟩
    by_cases e : cc = l
    · have e0 : n - l = 0 := by omega
      rw [cut3, if_pos e, empt e0, e0]
      exact src_len0
    · rw [cut3_ne e, Nat.zero_add]; exact rows _
  | lo cc =>
    have hc : n ≤ cc := hc
    by_cases e : cc = l
    · have e0 : n - l = 0 := by omega
      refine ⟨.empty b, ?_, ?_⟩
      · simp only [aslice, ti22, ti58, bnd, nble, nbeq]
        subst e
        simp [l0, hl, hc]
      · rw [empt e0, e0]; exact src_empty
    · exact ⟨_, by rw [sl_fromLo l0 hl hc e, Nat.zero_add], rows _⟩
theorem sl_last {b n : Nat} {c : ACap} (hn : 0 < n) (hc : n ≤ c.low) : ∃ c', aslice tC 22 (.slice b 0 (n - 1) c 3) (some (.int .i64 (n - 1 : Nat))) (some (.int .i64 (n : Nat))) none = some (.slice b ((n - 1) * 3) 1 c' 3) := by
  have b0 : ∀ (k d : Nat), bnd (some (.int .i64 (k : Nat))) d = some k := fun k d => by simp [bnd]
  have h1 : decide (n - 1 ≤ n) = true := decide_eq_true (by omega)
  have h4 : n - (n - 1) = 1 := by omega
  cases c with
  | ex cc =>
    have hc : n ≤ cc := hc
    have h2 : decide (n ≤ cc) = true := decide_eq_true hc
    have h3 : ¬ cc = n - 1 := by omega
    exact ⟨.ex (cc - (n - 1)), by simp only [aslice, ti22, ti58, b0, nble, nbeq, h1, h2, h3, h4, decide_true, Bool.and_true, cond_true, if_false, Nat.zero_add]⟩
  | lo cc =>
    have hc : n ≤ cc := hc
    have h2 : decide (n ≤ cc) = true := decide_eq_true hc
    have h3 : ¬ cc = n - 1 := by omega
    by_cases h0 : n - 1 = 0
    · have hn1 : n = 1 := by omega
      subst hn1
      exact ⟨.lo cc, by simp only [aslice, ti22, ti58, b0, nble, nbeq, h1, h2, h0, decide_true, Bool.and_true, cond_true, if_true, Nat.zero_mul]⟩
    · exact ⟨.lo (cc - (n - 1)), by simp only [aslice, ti22, ti58, b0, nble, nbeq, h1, h2, h3, h4, h0, decide_true, Bool.and_true, cond_true, if_false, Nat.zero_add]⟩
theorem clear1 {H : AH} {b p : Nat} {c : ACap} {X : List (List AV)} (hb : H.get b = some (.cells false X.flatten)) (h3 : R3 X) (hp : p < X.length) : aclear tC H [22] [.slice b (p * 3) 1 c 3] = some (.tuple [], H.set b (.cells false (X.set p zero3).flatten)) := by
  obtain ⟨j, h1, h2, h2', h2'', hzk⟩ := ti58'
  have hc : (AV.agg [.nils, .int .i64 0, .bool false]).cells = zero3 := rfl
  have hnj : notJunk (AV.agg [.nils, .int .i64 0, .bool false]) = true := rfl
  have hz1 : zerosOf zero3 1 = zero3 := by simp [zerosOf]
  have ho : allOne zero3 = true := rfl
  have hl : zero3.length = 3 := rfl
  have d1 : decide (p * 3 + 3 ≤ X.flatten.length) = true := decide_eq_true (by rw [flat_len h3]; omega)
  simp only [aclear, ti22, h1, hb, h2'', hnj, hc, hz1, ho, hl, Nat.one_mul, nble, d1, Bool.and_true, cond_true, Nat.succ_ne_zero, if_false]
  rw [flat_set h3 hl rfl hp]

/-- What Delete leaves. -/
def Del (H : AH) (b n i : Nat) (c : ACap) (X : List (List AV)) (r : AV) (K : AH) : Prop :=
  ∃ X', r = .slice b 0 (n - 1) c 3 ∧ K.get b = some (.cells false X'.flatten) ∧ R3 X' ∧ X'.length = X.length ∧ (∀ q, q < n - 1 → X'[q]? = if q < i then X[q]? else X[q + 1]?) ∧ (∀ k y, k ≠ b → H.get k = some y → K.get k = some y) ∧ H.next ≤ K.next

set_option maxHeartbeats 4000000 in
theorem delete68 (N : Bd) (H : AH) {b n i : Nat} {c : ACap} {X : List (List AV)} (hb : H.get b = some (.cells false X.flatten)) (h3 : R3 X) (oX : O3 (X.take n)) (hnX : n ≤ X.length) (hc : n ≤ c.low) (hi : i < n) (hn : n ≤ 100000) :
    AC tC N 0 68 [.slice b 0 n c 3, .int .i64 (i : Nat), .int .i64 (i + 1 : Nat)] H (Del H b n i c X) := by
  refine AC.by (n := 33) (rs := [.tmp 6]) tOK fn68 rfl rfl rfl rfl ?_
  have e0 : (PT.ofList .leaf 0 [AV.slice b 0 n c 3, .int .i64 (i : Nat), .int .i64 (i + 1 : Nat)]).get 0 = some (.slice b 0 n c 3) := rfl
  have e1 : (PT.ofList .leaf 0 [AV.slice b 0 n c 3, .int .i64 (i : Nat), .int .i64 (i + 1 : Nat)]).get 1 = some (.int .i64 (i : Nat)) := rfl
  have e2 : (PT.ofList .leaf 0 [AV.slice b 0 n c 3, .int .i64 (i : Nat), .int .i64 (i + 1 : Nat)]).get 2 = some (.int .i64 (i + 1 : Nat)) := rfl
  have d1 : decide (((i : Nat) : Int) = ((i + 1 : Nat) : Int)) = false := decide_eq_false (by omega)
  have s1 := sl_three (b := b) hi hc
  have s2 := sl_toAny (b := b) (show i ≤ n by omega) (by omega) hc
  obtain ⟨s, s3, hsrc⟩ := sl_rest (b := b) hb h3 (show i + 1 ≤ n by omega) (by omega) hnX hc
  obtain ⟨c', s4⟩ := sl_last (b := b) (show 0 < n by omega) hc
  obtain ⟨A, K1, happ, g1, rA, lA, hA, k1, n1⟩ : ∃ A K1, aappend tC H [22, 22] [.slice b 0 i c 3, s] = some (.slice b 0 (n - 1) c 3, K1) ∧ K1.get b = some (.cells false A.flatten) ∧ R3 A ∧ A.length = X.length ∧ (∀ q, q < n - 1 → A[q]? = if q < i then X[q]? else X[q + 1]?) ∧ (∀ k, k ≠ b → K1.get k = H.get k) ∧ K1.next = H.next := by
    by_cases hk : n - (i + 1) = 0
    · rw [hk, List.take_zero] at hsrc
      have := app_none hsrc (.inr ⟨b, 0, i, c, 3, rfl⟩)
      rw [show i = n - 1 by omega] at this ⊢
      exact ⟨X, H, this, hb, h3, rfl, fun q hq => by rw [if_pos hq], fun _ _ => rfl, rfl⟩
    · have hlY : ((X.drop (i + 1)).take (n - (i + 1))).length = n - (i + 1) := by simp; omega
      have := app_room (n := i) (c := c) hb h3 ((h3.drop (i + 1)).take (n - (i + 1))) (O3.of fun q h1 h2 z hz => oX.at (by omega) hz) hlY hk hsrc (by omega) (by omega) (by omega)
      rw [show i + (n - (i + 1)) = n - 1 by omega] at this
      refine ⟨_, _, this, by rw [AH.get_set, if_pos rfl], ((h3.take _).app ((h3.drop _).take _)).app (h3.drop _), by simp; omega, fun q hq => ?_, fun k hk => by rw [AH.get_set, if_neg hk], rfl⟩
      rw [List.append_assoc]
      by_cases h1 : q < i
      · rw [if_pos h1, List.getElem?_append_left (by simp; omega), List.getElem?_take_of_lt h1]
      · rw [if_neg h1, List.getElem?_append_right (by simp; omega), List.getElem?_append_left (by simp; omega), List.getElem?_take_of_lt (by simp; omega), List.getElem?_drop]
        congr 1; simp; omega
  have hcl := clear1 (c := c') (p := n - 1) g1 rA (by omega)
  generalize hK2 : K1.set b (.cells false (A.set (n - 1) zero3).flatten) = K2 at hcl
  with_reducible repeat' first | refine za ?_ | refine AW.drawT tOK wu (by simp only [pickAll, Nat.reduceAdd]; rfl) ?_ | refine DN.nil tOK ?_ | (refine zd ?_; refine zr6 @e0 @e1 @e2 @s2 @s3 @happ ?_; refine Same.mk ?_) | ((first | refine AOs.o1 tOK ?_ | refine AOs.op0E tOK ?_ | refine DN.actE tOK (by kernel_rfl) wu wu ?_); refine zr8 @al22 @e0 @e1 @e2 @s1 @d1 @happ (And.intro @s4 (And.intro @evOp_clear @hcl)) ?_) | fail
  refine fnPost_ret1 gt1 ⟨A.set (n - 1) zero3, rfl, by rw [← hK2, AH.get_set, if_pos rfl], rA.set _ rfl rfl, by rw [List.length_set]; exact lA, fun q hq => ?_, fun k y hk hy => ?_, ?_⟩
  · rw [List.getElem?_set_ne (by omega)]; exact hA q hq
  · rw [← hK2, AH.get_set, if_neg hk, k1 k hk]; exact hy
  · rw [← hK2]; exact Nat.le_of_eq n1.symm
end Go.Proofs.YtapokkpdgfpokaaGreat
