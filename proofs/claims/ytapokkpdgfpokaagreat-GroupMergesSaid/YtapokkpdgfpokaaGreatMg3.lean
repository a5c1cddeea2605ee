/- Group: numbers and texts as bytes; names; labels among names; keys; no condition. -/
import Derived.Test.YtapokkpdgfpokaaGreatMg2
set_option linter.unusedSimpArgs false
set_option linter.unusedVariables false
set_option maxRecDepth 100000
open Go Go.AB Go.Proofs
namespace Go.Proofs.YtapokkpdgfpokaaGreat
set_option maxRecDepth 100000

/-- Rows of bytes in a row. -/
def RowsAt (H : AH) (v : AV) (ls : List (List UInt8)) : Prop :=
  (lenOfAV v = some 0 ∧ ls = []) ∨ ∃ b o c ro ws, v = .slice b o ls.length c 1 ∧ H.get b = some (.cells ro ws) ∧ ∀ (i : Nat) l, ls[i]? = some l → ∃ u, ws[o + i * 1]? = some u ∧ BytesAt H u l
theorem RowsAt.len {H : AH} {v : AV} {ls : List (List UInt8)} (h : RowsAt H v ls) : lenOfAV v = some ls.length := by
  rcases h with ⟨h, rfl⟩ | ⟨b, o, c, ro, ws, rfl, _⟩
  · exact h
  · rfl
theorem rows_of {H : AH} {b : Nat} {us : List AV} {ls : List (List UInt8)} {c : ACap} (h : H.get b = some (.cells false us)) (hl : us.length = ls.length) (hx : ∀ (i : Nat) u l, us[i]? = some u → ls[i]? = some l → BytesAt H u l) : RowsAt H (.slice b 0 ls.length c 1) ls :=
  .inr ⟨b, 0, c, false, us, rfl, h, fun i l hi => by
    have hlt := (List.getElem?_eq_some_iff.1 hi).1
    obtain ⟨u, hu⟩ : ∃ u, us[i]? = some u := ⟨_, List.getElem?_eq_getElem (by omega)⟩
    exact ⟨u, by rw [Nat.zero_add, Nat.mul_one]; exact hu, hx i u l hu hi⟩⟩

theorem cap50n : acap tC 50 .nils = some (.int .i64 0) := by simp only [acap, ti50]
theorem sl50n : aslice tC 50 .nils none (some (.int .i64 0)) none = some .nils := by simp only [aslice, ti50, ti5]; rfl
theorem sl50z (b n : Nat) : aslice tC 50 (.slice b 0 n (.lo n) 1) none (some (.int .i64 0)) none = some (.slice b 0 0 (.lo n) 1) := by
  have : bnd (some (AV.int .i64 0)) n = some 0 := rfl
  simp only [aslice, ti50, ti5, this, show bnd none 0 = some 0 from rfl]
  simp [nbeq, nble]

set_option maxHeartbeats 1000000 in
theorem grow160 (N : Bd) (H : AH) (n : Nat) (hn : n ≤ 1000000000000) : AC tC N 0 160 [.nils, .int .i64 (n : Int)] H fun r K => (n = 0 ∧ r = .nils ∧ K = H) ∨ (0 < n ∧ r = .slice H.next 0 0 (.lo n) 1 ∧ K = H.alloc (.cells false (List.replicate n (.int .u8 0)))) := by
  refine AC.by (n := 27) (rs := [.tmp 4]) tOK fn160 rfl rfl rfl rfl ?_
  have e0 : (PT.ofList .leaf 0 [AV.nils, .int .i64 (n : Int)]).get 0 = some .nils := rfl
  have e1 : (PT.ofList .leaf 0 [AV.nils, .int .i64 (n : Int)]).get 1 = some (.int .i64 (n : Int)) := rfl
  have h1 : decide ((n : Int) < 0) = false := by simp
  have hw0 : IntKind.i64.wrap ((0 : Int) - 0) = 0 := by decide
  have hw1 : IntKind.i64.wrap ((n : Int) - 0) = n := by rw [wrap64 (by omega) (by omega)]; omega
  by_cases h0 : n = 0
  · have h2 : decide ((0 : Int) < (n : Int)) = false := by simp; omega
    refine zp7 @e0 @e1 @h1 @h2 @cap50n @hw0 @hw1 ?_
    refine fr1 (.inl ⟨h0, rfl, rfl⟩)
  · have h2 : decide ((0 : Int) < (n : Int)) = true := by simp; omega
    have hz := aappend_zeros (C := tC) (H := H) (st := 50) (xt := 3) (k' := .i64) (n := n) ti50 rfl ti5 rfl rfl rfl rfl ti3 rfl (by omega) hn
    refine zp8 @e0 @e1 @h1 @h2 @cap50n @hw0 @hw1 (And.intro @sl50n (And.intro @hz @sl50z)) ?_
    refine fnPost_ret1 gt1 (.inr ⟨by omega, rfl, rfl⟩)

theorem splice_take {vs ws : List AV} {k : Nat} (h : k + ws.length ≤ vs.length) : (splice vs k ws).length = vs.length ∧ (splice vs k ws).take (k + ws.length) = vs.take k ++ ws := by
  have h1 : (vs.take k).length = k := by rw [List.length_take]; omega
  refine ⟨?_, ?_⟩
  · simp [splice]; omega
  · unfold splice
    rw [List.append_assoc, List.take_append, h1, List.take_of_length_le (by rw [h1]; omega), Nat.add_sub_cancel_left, List.take_left']
    rfl

theorem flat_takeB {ls : List (List UInt8)} {i : Nat} {l : List UInt8} (h : ls[i]? = some l) : (ls.take (i + 1)).flatten = (ls.take i).flatten ++ l := by
  rw [List.take_add_one, h, List.flatten_append]; simp
theorem flat_leB (ls : List (List UInt8)) (i : Nat) : (ls.take i).flatten.length ≤ ls.flatten.length := by
  have := congrArg List.length (congrArg List.flatten (List.take_append_drop i ls))
  rw [List.flatten_append, List.length_append] at this; omega

set_option maxHeartbeats 4000000 in
theorem concat134 (N : Bd) (H : AH) {v : AV} {ls : List (List UInt8)} (h : RowsAt H v ls) (hn : ls.length ≤ 1000000) (hl : ls.flatten.length ≤ 1000000000000) :
    AC tC N 0 134 [v] H fun r K => BytesAt K r ls.flatten ∧ (∀ b x, H.get b = some x → K.get b = some x) ∧ H.next ≤ K.next := by
  refine AC.wf0 fun hwf => ?_
  refine AC.by (n := 36) (rs := [.tmp 2]) tOK fn134 rfl rfl rfl rfl ?_
  have e0 : (PT.ofList .leaf 0 [v]).get 0 = some v := rfl
  have hlen := h.len
  refine zs3 @al172 @e0 @hlen ?_
  refine AW.loop (fun m T L => L = H ∧ T.get 0 = some v ∧ T.get 9 = some v ∧ T.get 10 = some (.int .i64 (ls.length : Nat)) ∧ ∃ i : Nat, i ≤ ls.length ∧ m = ls.length - i ∧ T.get 11 = some (.int .i64 (i : Nat)) ∧ T.get 3 = some (.int .i64 (((ls.take i).flatten.length : Nat) : Int))) ?_ (ls.length - 0)
    ⟨rfl, by simp [PT.get_set, e0], by simp [PT.get_set, e0], by simp [PT.get_set], 0, by omega, rfl, by simp [PT.get_set], by simp [PT.get_set]⟩
  rintro m T L ⟨rfl, g0, g9, g10, i, hi, rfl, g11, g3⟩
  by_cases hil : i < ls.length
  · have hd := lt_int hil
    obtain ⟨l, hli⟩ : ∃ l, ls[i]? = some l := ⟨_, List.getElem?_eq_getElem hil⟩
    rcases h with ⟨_, h⟩ | ⟨b, o, c, ro, ws, rfl, hbg, hw⟩
    · rw [h] at hil; simp at hil
    obtain ⟨u, hu, hB⟩ := hw i l hli
    have hul := hB.len
    have hf1 := flat_leB ls (i + 1)
    rw [flat_takeB hli, List.length_append] at hf1
    have hw1 : IntKind.i64.wrap ((((ls.take i).flatten.length : Nat) : Int) + ((l.length : Nat) : Int)) = (((ls.take i).flatten.length + l.length : Nat) : Int) := by rw [wrap64 (by omega) (by omega)]; omega
    have hd2 : decide (((((ls.take i).flatten.length + l.length : Nat) : Int)) < 0) = false := decide_eq_false (by omega)
    refine zs8 @al50 @ld50 @ix172 @g3 @g9 @g10 @g11 (And.intro @hd (And.intro @hil (And.intro @hbg (And.intro @hu (And.intro @hul (And.intro @hw1 @hd2)))))) ?_
    refine ⟨ls.length - (i + 1), by omega, rfl, by simp [PT.get_set, g0], by simp [PT.get_set, g9], by simp [PT.get_set, g10], i + 1, by omega, rfl, ?_, ?_⟩
    · simp only [PT.get_set, Nat.reduceEqDiff, reduceIte, wrap64_succ (show i < 9223372036854775807 by omega)]
    · rw [flat_takeB hli, List.length_append]; simp only [PT.get_set, Nat.reduceEqDiff, reduceIte]
  · have hd := nlt_int hil
    obtain rfl : i = ls.length := by omega
    rw [List.take_length] at g3
    refine zs4 @g3 @g10 @g11 @hd ?_
    refine AOs.cq tOK fn160 ok160 (grow160 N L ls.flatten.length hl) ?_
    rintro r K (⟨hz, rfl, rfl⟩ | ⟨hz, rfl, rfl⟩)
    · refine zs3 @al172 @g0 @hlen ?_
      refine AW.loop (fun m T M => M = K ∧ T.get 6 = some .nils ∧ T.get 25 = some v ∧ T.get 26 = some (.int .i64 (ls.length : Nat)) ∧ ∃ i : Nat, i ≤ ls.length ∧ m = ls.length - i ∧ T.get 27 = some (.int .i64 (i : Nat))) ?_ (ls.length - 0)
        ⟨rfl, by simp [PT.get_set], by simp [PT.get_set, g0], by simp [PT.get_set], 0, by omega, rfl, by simp [PT.get_set]⟩
      rintro m T M ⟨rfl, g6, g25, g26, i, hi, rfl, g27⟩
      by_cases hil : i < ls.length
      · have hd := lt_int hil
        obtain ⟨l, hli⟩ : ∃ l, ls[i]? = some l := ⟨_, List.getElem?_eq_getElem hil⟩
        rcases h with ⟨_, h⟩ | ⟨b, o, c, ro, ws, rfl, hbg, hw⟩
        · rw [h] at hil; simp at hil
        obtain ⟨u, hu, hB⟩ := hw i l hli
        have hf1 := flat_leB ls (i + 1)
        rw [flat_takeB hli, List.length_append] at hf1
        have a1 := aappend_bytesNil (C := tC) (st := 50) ti50 rfl ti5 rfl rfl rfl hB (List.eq_nil_of_length_eq_zero (by omega))
        refine zs8 @ld50 @ix172 @g6 @g25 @g26 @g27 @hd (And.intro @hil (And.intro @hbg (And.intro @hu @a1))) ?_
        refine ⟨ls.length - (i + 1), by omega, rfl, by simp [PT.get_set], by simp [PT.get_set, g25], by simp [PT.get_set, g26], i + 1, by omega, rfl, ?_⟩
        simp only [PT.get_set, Nat.reduceEqDiff, reduceIte, wrap64_succ (show i < 9223372036854775807 by omega)]
      · have hd := nlt_int hil
        refine zs4 @g6 @g26 @g27 @hd ?_
        exact fr1 ⟨.inl ⟨.inl rfl, List.eq_nil_of_length_eq_zero hz⟩, fun _ _ h => h, Nat.le_refl _⟩
    · refine zs3 @al172 @g0 @hlen ?_
      refine AW.loop (fun m T M => T.get 25 = some v ∧ T.get 26 = some (.int .i64 (ls.length : Nat)) ∧ (∀ b x, L.get b = some x → M.get b = some x) ∧ L.next ≤ M.next ∧ ∃ (i : Nat) (vs : List AV), i ≤ ls.length ∧ m = ls.length - i ∧ T.get 27 = some (.int .i64 (i : Nat)) ∧ T.get 6 = some (.slice L.next 0 (ls.take i).flatten.length (.lo ls.flatten.length) 1) ∧
          M.get L.next = some (.cells false vs) ∧ vs.length = ls.flatten.length ∧ vs.take (ls.take i).flatten.length = bytesAV (ls.take i).flatten) ?_ (ls.length - 0)
        ⟨by simp [PT.get_set, g0], by simp [PT.get_set], fun b x hb => by rw [AH.get_alloc, if_neg (by have := hwf b x hb; omega)]; exact hb, by rw [AH.next_alloc]; omega, 0, _, by omega, rfl, by simp [PT.get_set], by simp [PT.get_set], by rw [AH.get_alloc, if_pos rfl], by simp, by simp [bytesAV]⟩
      rintro m T M ⟨g25, g26, hst, hnx, i, vs, hi, rfl, g27, g6, hgv, hvl, hvt⟩
      by_cases hil : i < ls.length
      · have hd := lt_int hil
        obtain ⟨l, hli⟩ : ∃ l, ls[i]? = some l := ⟨_, List.getElem?_eq_getElem hil⟩
        rcases h with ⟨_, h⟩ | ⟨b, o, c, ro, ws, rfl, hbg, hw⟩
        · rw [h] at hil; simp at hil
        obtain ⟨u, hu, hB⟩ := hw i l hli
        have hf1 := flat_leB ls (i + 1)
        rw [flat_takeB hli, List.length_append] at hf1
        have hBM : BytesAt M u l := hB.keep fun b o c _ x hx => hst b x hx
        obtain ⟨M1, a1, b1, c1, n1⟩ := aappend_room (C := tC) (st := 50) (k := (ls.take i).flatten.length) (n := ls.flatten.length) ti50 rfl ti5 rfl rfl rfl rfl hBM hgv hvl hf1 hl
        have hbM := hst _ _ hbg
        have hwfM : ∀ b x, L.get b = some x → b ≠ L.next := fun b x hb e => by have := hwf b x hb; omega
        refine zs8 @ld50 @ix172 @g6 @g25 @g26 @g27 @hd (And.intro @hil (And.intro @hbM (And.intro @hu @a1))) ?_
        obtain ⟨s1, s2⟩ := splice_take (vs := vs) (k := (ls.take i).flatten.length) (ws := bytesAV l) (by rw [bytesAV_length, hvl]; exact hf1)
        rw [bytesAV_length, hvt] at s2
        refine ⟨ls.length - (i + 1), by omega, by simp [PT.get_set, g25], by simp [PT.get_set, g26], fun b x hb => by rw [c1 b (hwfM b x hb)]; exact hst b x hb, by rw [n1]; exact hnx, i + 1, _, by omega, rfl, ?_, ?_, b1, by rw [s1, hvl], ?_⟩
        · simp only [PT.get_set, Nat.reduceEqDiff, reduceIte, wrap64_succ (show i < 9223372036854775807 by omega)]
        · rw [flat_takeB hli, List.length_append]; simp only [PT.get_set, Nat.reduceEqDiff, reduceIte]
        · rw [flat_takeB hli, List.length_append, s2, bytesAV_append]
      · have hd := nlt_int hil
        obtain rfl : i = ls.length := by omega
        rw [List.take_length] at g6 hvt
        refine zs4 @g6 @g26 @g27 @hd ?_
        refine fnPost_ret1 gt1 ⟨.inr ⟨L.next, 0, .lo ls.flatten.length, false, vs, rfl, hgv, by rw [List.drop_zero]; exact hvt⟩, hst, hnx⟩

theorem bs172_1 (F : Fns) (H : AH) (ev : Operand → AV) (dst : Option Tmp) (ty : TypeId) (pos : String) (after : Array Edge) (guard : Option (Nat × Bool)) (x : Operand) (hv : (ev x).one = true) :
    evOp tC F H ev { dst, op := .buildSlice 172 1 ⟨[(0, x)]⟩, type := ty, pos, after, guard } = some (.slice H.next 0 1 (.ex 1) 1, H.alloc (.cells false [ev x])) := evOp_buildSlice1 ti172 rfl ti50 rfl rfl rfl hv
theorem bs172_2 (F : Fns) (H : AH) (ev : Operand → AV) (dst : Option Tmp) (ty : TypeId) (pos : String) (after : Array Edge) (guard : Option (Nat × Bool)) (x y : Operand) (h0 : (ev x).one = true) (h1 : (ev y).one = true) :
    evOp tC F H ev { dst, op := .buildSlice 172 2 ⟨[(0, x), (1, y)]⟩, type := ty, pos, after, guard } = some (.slice H.next 0 2 (.ex 2) 1, H.alloc (.cells false [ev x, ev y])) := evOp_buildSlice2 ti172 rfl ti50 rfl rfl rfl h0 h1
theorem bs50_1 (F : Fns) (H : AH) (ev : Operand → AV) (dst : Option Tmp) (ty : TypeId) (pos : String) (after : Array Edge) (guard : Option (Nat × Bool)) (x : Operand) (hv : (ev x).one = true) :
    evOp tC F H ev { dst, op := .buildSlice 50 1 ⟨[(0, x)]⟩, type := ty, pos, after, guard } = some (.slice H.next 0 1 (.ex 1) 1, H.alloc (.cells false [ev x])) := evOp_buildSlice1 ti50 rfl ti5 rfl rfl rfl hv

set_option maxHeartbeats 2000000 in
/-- Rows put behind bytes. -/
theorem put95 (N : Bd) (H : AH) {v : AV} {l : List UInt8} {ub : Nat} {uc : ACap} {us : List AV} {ls : List (List UInt8)} (hv : BytesAt H v l) (hu : H.get ub = some (.cells false us)) (h0 : us ≠ []) (hll : us.length = ls.length)
    (hx : ∀ (i : Nat) u m, us[i]? = some u → ls[i]? = some m → BytesAt H u m) (ho : allOne us = true) (hn : ls.length ≤ 100000) (hl : l.length + ls.flatten.length ≤ 1000000000) :
    AC tC N 0 95 [v, .slice ub 0 us.length uc 1] H fun r K => BytesAt K r (l ++ ls.flatten) ∧ (∀ b x, H.get b = some x → K.get b = some x) ∧ H.next ≤ K.next := by
  refine AC.wf0 fun hwf => ?_
  refine AC.by (n := 10) (rs := [.tmp 4]) tOK fn95 rfl rfl rfl rfl ?_
  have e0 : (PT.ofList .leaf 0 [v, .slice ub 0 us.length uc 1]).get 0 = some v := rfl
  have e1 : (PT.ofList .leaf 0 [v, .slice ub 0 us.length uc 1]).get 1 = some (.slice ub 0 us.length uc 1) := rfl
  have hone := hv.one
  have wfH := hwf
  generalize hK1 : H.alloc (.cells false [v]) = K1
  obtain ⟨sK1, wfK1, nK1, gK1⟩ := laid wfH hK1
  have ap : aappend tC K1 [172, 172] [.slice H.next 0 1 (.ex 1) 1, .slice ub 0 us.length uc 1] = some (.slice K1.next 0 (1 + us.length) (.lo (1 + us.length)) 1, K1.alloc (.cells false (v :: us))) :=
    aappend_ex1 (us := us) (uc := uc) (uo := 0) ti172 rfl ti50 rfl rfl rfl (by decide) gK1 (sK1 _ _ hu) (by rw [List.drop_zero, List.take_length]) h0 ho (by omega)
  refine zs6 @e0 @e1 @bs172_1 @hone @hK1 @ap ?_
  generalize hK2 : K1.alloc (.cells false (v :: us)) = K2
  have sK2 : ∀ b z, K1.get b = some z → K2.get b = some z := by rw [← hK2]; exact stay_alloc wfK1 _
  have gK2 : K2.get K1.next = some (.cells false (v :: us)) := by rw [← hK2, AH.get_alloc, if_pos rfl]
  have nK2 : K2.next = K1.next + 1 := by rw [← hK2]; rfl
  have kp : ∀ {w : AV} {l : List UInt8}, BytesAt H w l → BytesAt K2 w l := fun h => h.keep fun b o c _ x hx => sK2 b x (sK1 b x hx)
  have hr : RowsAt K2 (.slice K1.next 0 (l :: ls).length (.lo (1 + us.length)) 1) (l :: ls) := rows_of (ls := l :: ls) gK2 (by simp [hll]) fun i u m hu hm => by
    cases i with
    | zero => simp at hu hm; subst hu hm; exact kp hv
    | succ i => simp at hu hm; exact kp (hx i u m hu hm)
  have el : (l :: ls).length = 1 + us.length := by simp [hll]; omega
  rw [el] at hr
  refine AOs.cq tOK fn134 ok134 (concat134 N K2 hr (by simp; omega) (by simp; simp at hl; omega)) ?_
  rintro r K ⟨hf, hk, hn⟩
  refine zs0 ?_
  exact fnPost_ret1 gt1 ⟨by simpa using hf, fun b x hb => hk b x (sK2 _ _ (sK1 b x hb)), by omega⟩

/-- A number's bytes, the lowest first. -/
def grpM (n : Nat) : List UInt8 := if n = 0 then [] else UInt8.ofNat n :: grpM (n / 256)
termination_by n
decreasing_by omega
def numB (n : Nat) : List UInt8 := UInt8.ofNat (grpM n).length :: grpM n
theorem grpM_zero : grpM 0 = [] := by rw [grpM, if_pos rfl]
theorem grpM_pos {n : Nat} (h : n ≠ 0) : grpM n = UInt8.ofNat n :: grpM (n / 256) := by rw [grpM, if_neg h]
theorem grpM_len : ∀ (k n : Nat), n < 256 ^ k → (grpM n).length ≤ k
  | 0, n, h => by
    have : n = 0 := by simpa using h
    subst this; rw [grpM_zero]; exact Nat.le_refl _
  | k + 1, n, h => by
    by_cases h0 : n = 0
    · subst h0; rw [grpM_zero]; exact Nat.zero_le _
    · rw [grpM_pos h0]
      have := grpM_len k (n / 256) (by rw [Nat.pow_succ] at h; omega)
      simp only [List.length_cons]; omega
theorem grpM_u64 {n : Nat} (h : n < 18446744073709551616) : (grpM n).length ≤ 8 := grpM_len 8 n (by simpa using h)

set_option maxHeartbeats 2000000 in
theorem groups94 (N : Bd) (H : AH) {n : Nat} (hn : n < 18446744073709551616) : AC tC N 0 94 [.int .u64 (n : Nat)] H fun r K => BytesAt K r (grpM n) ∧ (∀ b x, H.get b = some x → K.get b = some x) ∧ H.next ≤ K.next := by
  refine AC.wf0 fun hwf => ?_
  refine AC.by (n := 14) (rs := [.tmp 2]) tOK fn94 rfl rfl rfl rfl ?_
  have e0 : (PT.ofList .leaf 0 [AV.int .u64 (n : Nat)]).get 0 = some (.int .u64 (n : Nat)) := rfl
  refine zs0 ?_
  refine AW.loop (fun m T L => (∀ b x, H.get b = some x → L.get b = some x) ∧ H.next ≤ L.next ∧ T.get 0 = some (.int .u64 (m : Nat)) ∧ m < 18446744073709551616 ∧ ∃ w l, T.get 3 = some w ∧ (∀ b o n c z, w = .slice b o n c z → H.next ≤ b) ∧ Acc L w (bytesAV l) ∧ l.length + (grpM m).length ≤ 1000 ∧ grpM n = l ++ grpM m) ?_ n
    ⟨fun _ _ h => h, Nat.le_refl _, by simp [PT.get_set, e0], hn, .nils, [], by simp [PT.get_set], by simp, .inl ⟨rfl, rfl⟩, by have := grpM_u64 hn; simp; omega, rfl⟩
  rintro m T L ⟨hk, hnx, g0, hm, w, l, g3, hw, ha, hl, hg⟩
  refine AW.wf0 fun wfL => ?_
  have h8 := grpM_u64 hm
  by_cases h0 : m = 0
  · subst h0
    have d1 : decide ((0 : Int) < ((0 : Nat) : Int)) = false := by decide
    refine zs2 @g0 @g3 ?_
    rw [grpM_zero, List.append_nil] at hg
    refine fnPost_ret1 gt1 ⟨?_, hk, hnx⟩
    rw [hg]
    rcases ha with ⟨rfl, h⟩ | ⟨b, rfl, h1, h2⟩
    · exact .inl ⟨.inl rfl, by simpa [bytesAV] using h⟩
    · exact .inr ⟨b, 0, _, false, _, by rw [bytesAV_length], h1, by rw [List.drop_zero, List.take_of_length_le (by rw [bytesAV_length]; omega)]⟩
  · have d1 : decide ((0 : Int) < ((m : Nat) : Int)) = true := decide_eq_true (by omega)
    have hw8 : IntKind.u8.wrap ((m : Nat) : Int) = (((UInt8.ofNat m).toNat : Nat) : Int) := by rw [wrapU8, UInt8.toNat_ofNat']
    have hsh : ∀ cst k', abin tC .shr 94 cst (.int .u64 ((m : Nat) : Int)) (.int k' 8) = some (.int .u64 ((m / 256 : Nat) : Int)) := fun cst k' => by
      simpa using abin_shr (C := tC) (t := 94) (cst := cst) (n := m) (m := 8) (k := .u64) (k' := k') (by decide)
    rw [grpM_pos h0] at hg hl
    generalize hL1 : L.alloc (.cells false [.int .u8 ((UInt8.ofNat m).toNat : Nat)]) = L1
    obtain ⟨sL1, wfL1, nL1, gL1⟩ := laid wfL hL1
    have ha1 : Acc L1 w (bytesAV l) := ha.keep fun b o n c z _ x hx => sL1 _ _ hx
    have hx : BytesAt L1 (.slice L.next 0 1 (.ex 1) 1) [UInt8.ofNat m] := .inr ⟨L.next, 0, _, false, _, rfl, gL1, rfl⟩
    have hone : allOne (bytesAV [UInt8.ofNat m]) = true := bytesAV_one _
    obtain ⟨w', L2, a1, a2, a3, a4, a5⟩ := acc_append (C := tC) (st := 50) (xt := 50) (cs := bytesAV [UInt8.ofNat m]) ti50 rfl ti5 rfl rfl rfl (by decide) wfL1 ha1 (aappended_bytes ti50 rfl rfl hx) hone (by simp only [List.length_cons] at hl; simp [bytesAV_length]; omega)
    refine zs8 @cv94_5 @g0 @g3 @d1 @hw8 @bs50_1 @hL1 (And.intro @a1 @hsh) ?_
    refine ⟨m / 256, by omega, fun b x hb => a4 b x (sL1 _ _ (hk b x hb)) fun o n c z e => by have := hw _ _ _ _ _ e; have := hwf b x hb; omega, by omega, gt1, by omega, w', l ++ [UInt8.ofNat m], gt1, fun b o n c z e => ?_, ?_, ?_, by rw [hg]; simp⟩
    · rcases a5 b o n c z e with h | h
      · exact hw b o n c z (h.trans e)
      · omega
    · rw [bytesAV_append]; exact a2
    · simp only [List.length_cons, List.length_append, List.length_nil] at hl ⊢; omega

set_option maxHeartbeats 2000000 in
theorem number61 (N : Bd) (H : AH) {v : AV} {l : List UInt8} {n : Nat} (hv : BytesAt H v l) (hn : n < 18446744073709551616) (hl : l.length ≤ 900000000) :
    AC tC N 0 61 [v, .int .u64 (n : Nat)] H fun r K => BytesAt K r (l ++ numB n) ∧ (∀ b x, H.get b = some x → K.get b = some x) ∧ H.next ≤ K.next := by
  refine AC.wf0 fun hwf => ?_
  refine AC.by (n := 16) (rs := [.tmp 4]) tOK fn61 rfl rfl rfl rfl ?_
  have e0 : (PT.ofList .leaf 0 [v, AV.int .u64 (n : Nat)]).get 0 = some v := rfl
  have e1 : (PT.ofList .leaf 0 [v, AV.int .u64 (n : Nat)]).get 1 = some (.int .u64 (n : Nat)) := rfl
  refine zs1 @e1 ?_
  refine AOs.cq tOK fn94 ok94 (AC.wf (groups94 N H hn)) ?_
  rintro g K ⟨⟨hg, hk, hnx⟩, wfK⟩
  have hgl := hg.len
  have hgo := hg.one
  have hw8 : IntKind.u8.wrap (((grpM n).length : Nat) : Int) = (((UInt8.ofNat (grpM n).length).toNat : Nat) : Int) := by rw [wrapU8, UInt8.toNat_ofNat']
  generalize hK1 : K.alloc (.cells false [.int .u8 ((UInt8.ofNat (grpM n).length).toNat : Nat)]) = K1
  obtain ⟨sK1, wfK1, nK1, gK1⟩ := laid wfK hK1
  generalize hK2 : K1.alloc (.cells false [.slice K.next 0 1 (.ex 1) 1, g]) = K2
  obtain ⟨sK2, wfK2, nK2, gK2⟩ := laid wfK1 hK2
  have gK1 := sK2 _ _ gK1
  refine zp8 @e0 @hgl @hw8 @bs50_1 @hK1 @bs172_2 @hgo @hK2 ?_
  have hx1 : BytesAt K2 (.slice K.next 0 1 (.ex 1) 1) [UInt8.ofNat (grpM n).length] := .inr ⟨K.next, 0, _, false, _, rfl, gK1, rfl⟩
  have hx2 : BytesAt K2 g (grpM n) := hg.keep fun b o c _ x hx => sK2 _ _ (sK1 _ _ hx)
  have hv2 : BytesAt K2 v l := hv.keep fun b o c _ x hx => sK2 _ _ (sK1 _ _ (hk _ _ hx))
  have h8 := grpM_u64 hn
  refine AOs.cq tOK fn95 ok95 (put95 N K2 (uc := .ex 2) (us := [.slice K.next 0 1 (.ex 1) 1, g]) (ls := [[UInt8.ofNat (grpM n).length], grpM n]) hv2 gK2 (by simp) rfl (fun i u m hu hm => ?_) (by simp [allOne, one_slice, hgo]) (by simp) (by simp; omega)) ?_
  · match i with
    | 0 => simp at hu hm; subst hu hm; exact hx1
    | 1 => simp at hu hm; subst hu hm; exact hx2
    | i + 2 => simp at hu
  rintro r K3 ⟨hr, hk3, hn3⟩
  refine zs0 ?_
  refine fnPost_ret1 gt1 ⟨?_, fun b x hb => hk3 _ _ (sK2 _ _ (sK1 _ _ (hk _ _ hb))), by omega⟩
  simpa [numB] using hr

/-- A text's bytes. -/
def textB (s : List UInt8) : List UInt8 := numB s.length ++ s
theorem numB_le (n : Nat) (h : n < 18446744073709551616) : (numB n).length ≤ 9 := by
  have := grpM_u64 h
  simp [numB]; omega

set_option maxHeartbeats 2000000 in
theorem text75 (N : Bd) (H : AH) {v : AV} {l s : List UInt8} (hv : BytesAt H v l) (hs : s.length ≤ 1048576) (hl : l.length ≤ 800000000) :
    AC tC N 0 75 [v, .str s] H fun r K => ∃ w, r = .tuple [w, .int .i64 0] ∧ BytesAt K w (l ++ textB s) ∧ (∀ b x, H.get b = some x → K.get b = some x) ∧ H.next ≤ K.next := by
  refine AC.wf0 fun hwf => ?_
  refine AC.by (n := 18) (rs := [.tmp 4, .tmp 5]) tOK fn75 rfl rfl rfl rfl ?_
  have e0 : (PT.ofList .leaf 0 [v, AV.str s]).get 0 = some v := rfl
  have e1 : (PT.ofList .leaf 0 [v, AV.str s]).get 1 = some (.str s) := rfl
  have d1 : decide ((1048576 : Int) < ((s.length : Nat) : Int)) = false := decide_eq_false (by omega)
  have hw : IntKind.u64.wrap ((s.length : Nat) : Int) = ((s.length : Nat) : Int) := wrapU64 (by omega)
  refine zs7 @al9 @cv3_94 @al9 @e0 @e1 @d1 @hw ?_
  refine AOs.callQ tOK (fs := []) (cs := []) rfl fn61 ok61 rfl (by simp only [List.map_cons, List.map_nil, List.nil_append, List.append_nil, aeval, PT.get_set, Nat.reduceEqDiff, reduceIte] <;> rfl) (AC.wf (number61 N H hv (by omega) (by omega))) ?_
  rintro r K ⟨⟨hr, hk, hn⟩, wfK⟩
  have hnl := numB_le s.length (by omega)
  generalize hK1 : K.alloc (.cells false (s.map fun b => .int .u8 b.toNat)) = K1
  have sK1 : ∀ b z, K.get b = some z → K1.get b = some z := by rw [← hK1]; exact stay_alloc wfK _
  have wfK1 : WF K1 := by rw [← hK1]; exact wf_alloc wfK _
  have nK1 : K1.next = K.next + 1 := by rw [← hK1]; rfl
  have gK1 : K1.get K.next = some (.cells false (bytesAV s)) := by rw [← hK1, AH.get_alloc, if_pos rfl]; rfl
  generalize hK2 : K1.alloc (.cells false [.slice K.next 0 s.length (.lo s.length) 1]) = K2
  obtain ⟨sK2, wfK2, nK2, gK2⟩ := laid wfK1 hK2
  have gK1 := sK2 _ _ gK1
  refine zp4 @e1 @hK1 @bs172_1 @hK2 ?_
  have hx1 : BytesAt K2 (.slice K.next 0 s.length (.lo s.length) 1) s := .inr ⟨K.next, 0, _, false, _, rfl, gK1, by rw [List.drop_zero, List.take_of_length_le (by rw [bytesAV_length]; omega)]⟩
  refine AOs.cq tOK fn95 ok95 (put95 N K2 (uc := .ex 1) (us := [.slice K.next 0 s.length (.lo s.length) 1]) (ls := [s]) (hr.keep fun b o c _ x hx => sK2 _ _ (sK1 _ _ hx)) gK2 (by simp) rfl (fun i u m hu hm => ?_) (by simp [allOne, one_slice]) (by simp) (by simp; omega)) ?_
  · match i with
    | 0 => simp at hu hm; subst hu hm; exact hx1
    | i + 1 => simp at hu
  rintro r2 K3 ⟨hr2, hk3, hn3⟩
  refine zs0 ?_
  refine fnPost_ret2 gt1 gt1 ⟨_, rfl, ?_, fun b x hb => hk3 _ _ (sK2 _ _ (sK1 _ _ (hk _ _ hb))), by omega⟩
  simpa [textB] using hr2

/-- Names in a heap. -/
def NamesAt (H : AH) (v : AV) (l : List Nm) : Prop :=
  (l = [] ∧ lenOfAV v = some 0 ∧ v.one = true) ∨ ∃ b o c ro vs, v = .slice b o l.length c 1 ∧ H.get b = some (.cells ro vs) ∧ (ro = true ∨ vs.all isStr = true) ∧ l ≠ [] ∧ ∀ (i : Nat) s, l[i]? = some s → vs[o + i * 1]? = some (.str s)
theorem NamesAt.len {H : AH} {v : AV} {l : List Nm} (h : NamesAt H v l) : lenOfAV v = some l.length := by
  rcases h with ⟨rfl, h, _⟩ | ⟨b, o, c, ro, vs, rfl, _⟩
  · exact h
  · rfl
theorem NamesAt.one {H : AH} {v : AV} {l : List Nm} (h : NamesAt H v l) : v.one = true := by
  rcases h with ⟨_, _, h⟩ | ⟨b, o, c, ro, vs, rfl, _⟩
  · exact h
  · rfl
theorem NamesAt.at {H : AH} {v : AV} {l : List Nm} (h : NamesAt H v l) {i : Nat} {s : Nm} (hi : l[i]? = some s) :
    ∃ b o c ro vs, v = .slice b o l.length c 1 ∧ H.get b = some (.cells ro vs) ∧ vs[o + i * 1]? = some (.str s) := by
  rcases h with ⟨rfl, _⟩ | ⟨b, o, c, ro, vs, rfl, h1, _, _, h2⟩
  · simp at hi
  · exact ⟨b, o, c, ro, vs, rfl, h1, h2 i s hi⟩
theorem NamesAt.keep {H K : AH} {v : AV} {l : List Nm} (h : NamesAt H v l) (hk : KS H K) : NamesAt K v l := by
  rcases h with h | ⟨b, o, c, ro, vs, rfl, h1, h2, h3, h4⟩
  · exact .inl h
  · refine .inr ⟨b, o, c, ro, vs, rfl, hk.1 b ro vs h1 (fun e => ?_) h2.symm, h2, h3, h4⟩
    subst e
    cases l with
    | nil => exact h3 rfl
    | cons p l => have := h4 0 p rfl; simp at this

set_option maxHeartbeats 1000000 in
theorem index137 (N : Bd) (H : AH) {v : AV} {ns : List Nm} {s : Nm} (hv : NamesAt H v ns) (hl : ns.length ≤ 1000000) : AC tC N 0 137 [v, .str s] H fun r K => (∃ j : Int, r = .int .i64 j ∧ decide (0 ≤ j) = decide (s ∈ ns)) ∧ K = H := by
  refine AC.by (n := 19) (rs := [.tmp 4]) tOK fn137 rfl rfl rfl rfl ?_
  have e0 : (PT.ofList .leaf 0 [v, AV.str s]).get 0 = some v := rfl
  have e1 : (PT.ofList .leaf 0 [v, AV.str s]).get 1 = some (.str s) := rfl
  have hlen := hv.len
  refine zs3 @al40 @e0 @hlen ?_
  refine AW.loop (fun m T L => L = H ∧ T.get 0 = some v ∧ T.get 1 = some (.str s) ∧ T.get 7 = some (.int .i64 (ns.length : Nat)) ∧ ∃ i : Nat, i ≤ ns.length ∧ m = ns.length - i ∧ T.get 8 = some (.int .i64 (i : Nat)) ∧ s ∉ ns.take i) ?_ (ns.length - 0)
    ⟨rfl, by simp [PT.get_set, e0], by simp [PT.get_set, e1], by simp [PT.get_set], 0, by omega, rfl, by simp [PT.get_set], by simp⟩
  rintro m T L ⟨rfl, g0, g1, g7, i, hi, rfl, g8, hni⟩
  by_cases hil : i < ns.length
  · have hd := lt_int hil
    obtain ⟨x, hx⟩ : ∃ x, ns[i]? = some x := ⟨_, List.getElem?_eq_getElem hil⟩
    obtain ⟨b, o, c, ro, vs, rfl, hb, hc⟩ := hv.at hx
    have wi : IntKind.i64.wrap (((i : Nat) : Int) + 1) = ((i + 1 : Nat) : Int) := wrap64_succ (by omega)
    by_cases hs : s = x
    · have d1 : decide (s = x) = true := decide_eq_true hs
      refine zp8 @g0 @g1 @g7 @g8 @hd @hil @hb (And.intro @hc @d1) ?_
      refine fnPost_ret1 gt1 ⟨⟨_, rfl, ?_⟩, rfl⟩
      rw [decide_eq_true (show (0 : Int) ≤ ((i : Nat) : Int) by omega), decide_eq_true (hs ▸ List.mem_of_getElem? hx)]
    · have d1 : decide (s = x) = false := decide_eq_false hs
      refine zp8 @g0 @g1 @g7 @g8 @hd @hil @hb (And.intro @hc (And.intro @d1 @wi)) ?_
      refine ⟨ns.length - (i + 1), by omega, rfl, by simp [PT.get_set, g0], by simp [PT.get_set, g1], by simp [PT.get_set, g7], i + 1, by omega, rfl, gt1, ?_⟩
      rw [List.take_add_one, hx]
      simp [hni, hs]
  · have hd := nlt_int hil
    obtain rfl : i = ns.length := by omega
    rw [List.take_length] at hni
    refine zs3 @g7 @g8 @hd ?_
    refine fnPost_ret1 gt1 ⟨⟨_, rfl, ?_⟩, rfl⟩
    rw [decide_eq_false hni]; decide

theorem contains100 (N : Bd) (H : AH) {v : AV} {ns : List Nm} {s : Nm} (hv : NamesAt H v ns) (hl : ns.length ≤ 1000000) : AC tC N 0 100 [v, .str s] H fun r K => r = .bool (decide (s ∈ ns)) ∧ K = H := by
  refine AC.by (n := 9) (rs := [.tmp 4]) tOK fn100 rfl rfl rfl rfl ?_
  have e0 : (PT.ofList .leaf 0 [v, AV.str s]).get 0 = some v := rfl
  have e1 : (PT.ofList .leaf 0 [v, AV.str s]).get 1 = some (.str s) := rfl
  refine zs2 @e0 @e1 ?_
  refine AOs.cq tOK fn137 ok137 (index137 N H hv hl) ?_
  rintro r K ⟨⟨j, rfl, hj⟩, rfl⟩
  refine zs1 @hj ?_
  exact fr1 ⟨rfl, rfl⟩

/-- The labels whose names are among some. -/
def onlyM (ns : List Nm) (l : Ls) : Ls := if checkM l ≠ 0 then [] else l.filter fun p => decide (p.1 ∈ ns)

def labsV : Ls → List AV
  | [] => []
  | p :: ps => .str p.1 :: .str p.2 :: labsV ps
theorem labsV_app : ∀ (a b : Ls), labsV (a ++ b) = labsV a ++ labsV b
  | [], b => rfl
  | p :: ps, b => by rw [List.cons_append, labsV, labsV, labsV_app ps b]; rfl
theorem labsV_len : ∀ a : Ls, (labsV a).length = a.length * 2
  | [] => rfl
  | p :: ps => by rw [labsV, List.length_cons, List.length_cons, labsV_len ps, List.length_cons]; omega
theorem labsV_str : ∀ a : Ls, (labsV a).all isStr = true
  | [] => rfl
  | p :: ps => by rw [labsV, List.all_cons, List.all_cons, labsV_str ps]; rfl
theorem labsV_at : ∀ {a : Ls} {i : Nat} {p : Lb}, a[i]? = some p → (labsV a)[i * 2]? = some (.str p.1) ∧ (labsV a)[i * 2 + 1]? = some (.str p.2)
  | [], i, p, h => by simp at h
  | q :: qs, 0, p, h => by simp at h; subst h; exact ⟨rfl, rfl⟩
  | q :: qs, i + 1, p, h => by
    have := labsV_at (a := qs) (i := i) (p := p) (by simpa using h)
    rw [show (i + 1) * 2 = i * 2 + 1 + 1 by omega]
    exact ⟨by simpa [labsV] using this.1, by simpa [labsV] using this.2⟩
/-- Labels put together by append. -/
def AccL (n0 : Nat) (K : AH) (w : AV) (out : Ls) : Prop := AccZ 2 K w out.length (labsV out) ∧ ∀ b o n c z, w = .slice b o n c z → n0 ≤ b
theorem AccL.labs {n0 : Nat} {K : AH} {w : AV} {out : Ls} (h : AccL n0 K w out) : LabelsAt K w out := by
  obtain ⟨⟨rfl, h1, h2⟩ | ⟨b, rfl, h1, h2, h3⟩, _⟩ := h
  · have : out = [] := List.eq_nil_of_length_eq_zero h2
    subst this; exact .inl ⟨rfl, rfl, rfl⟩
  · refine .inr ⟨b, 0, _, false, _, rfl, h1, labsV_str _, fun e => h3 (by rw [e]; rfl), fun i p hi => ?_⟩
    rw [Nat.zero_add]; exact labsV_at hi
theorem accL_append {n0 k : Nat} {K : AH} {w : AV} {out : Ls} {p : Lb} (hw : WF K) (hn : n0 ≤ K.next) (h : AccL n0 K w out) (hk : K.get k = some (.cells false [.str p.1, .str p.2])) (hN : out.length ≤ 1000000) :
    ∃ w' K', aappend tC K [29, 29] [w, .slice k 0 1 (.ex 1) 2] = some (w', K') ∧ AccL n0 K' w' (out ++ [p]) ∧ K.next ≤ K'.next ∧ (∀ b y, b < n0 → K.get b = some y → K'.get b = some y) := by
  have hx := aappended_z (C := tC) (H := K) (j := ⟨.struct #[{ name := "Name", type := 9, offset := 0, embedded := false, tag := "", pkgPath := "", byteOffset := 0 }, { name := "Text", type := 9, offset := 1, embedded := false, tag := "", pkgPath := "", byteOffset := 16 }], 2, 32, (some (.agg [.str [], .str []])), true⟩) (xt := 29) (e := 71) (b := k) (o := 0) (n := 1) (z' := 2) (c := .ex 1) ti29 rfl hk (cs := [.str p.1, .str p.2]) rfl rfl
  obtain ⟨K', e1, e2, e3, e4⟩ := accz_append (C := tC) (st := 29) (xt := 29) (m := 1) ti29 rfl ti71 rfl rfl rfl (by decide) hw h.1 hx rfl (by decide) rfl (by omega)
  refine ⟨_, K', e1, ⟨.inr ⟨K.next, by simp, by rw [e2, labsV_app]; rfl, by rw [labsV_len], by simp⟩, fun b o n c z e => by cases e; exact hn⟩, by omega, fun b y hb hy => e4 b y hy fun o n c z e => ?_⟩
  have := h.2 _ _ _ _ _ e; omega
theorem bs29_1 (F : Fns) (H : AH) (ev : Operand → AV) (dst : Option Tmp) (ty : TypeId) (pos : String) (after : Array Edge) (guard : Option (Nat × Bool)) (x : Operand) (a b : AV) (hx : ev x = .agg [a, b]) :
    evOp tC F H ev { dst, op := .buildSlice 29 1 ⟨[(0, x)]⟩, type := ty, pos, after, guard } = some (.slice H.next 0 1 (.ex 1) 2, H.alloc (.cells false [a, b])) := evOp_buildSlice1z (cs := [a, b]) ti29 rfl ti71 rfl rfl rfl (by decide) (by decide) hx rfl
theorem filter_take {α : Type} {f : α → Bool} {l : List α} {i : Nat} {x : α} (h : l[i]? = some x) : (l.take (i + 1)).filter f = (l.take i).filter f ++ (if f x = true then [x] else []) := by
  rw [List.take_add_one, h, List.filter_append]
  simp only [Option.toList_some, List.filter_cons, List.filter_nil]
theorem abin_eqlB {C : Ctx} {t : TypeId} {i : TI} (ht : C.ti t = some i) (hd : i.d = .bool) {cst a b : Bool} : abin C .eql t cst (.bool a) (.bool b) = some (.bool (a == b)) := by
  simp only [abin, eqRes, aeq, ht, hd, Option.map_some]
theorem eqB1 (cst : Bool) : abin tC .eql 4 cst (.bool true) (.bool true) = some (.bool true) := abin_eqlB ti4 rfl
theorem eqB0 (cst : Bool) : abin tC .eql 4 cst (.bool false) (.bool true) = some (.bool false) := abin_eqlB ti4 rfl
set_option maxHeartbeats 4000000 in
theorem part74 (N : Bd) (H : AH) {v w : AV} {l : Ls} {ns : List Nm} (hv : LabelsAt H v l) (hw : NamesAt H w ns) (hn : ns.length ≤ 1000000) :
    AC tC N 0 74 [v, w, .bool true] H fun r K => LabelsAt K r (onlyM ns l) ∧ (∀ b x, H.get b = some x → K.get b = some x) ∧ H.next ≤ K.next := by
  refine AC.wf0 fun hwf => ?_
  refine AC.by (n := 31) (rs := [.tmp 6]) tOK fn74 rfl rfl rfl rfl ?_
  have e0 : (PT.ofList .leaf 0 [v, w, AV.bool true]).get 0 = some v := rfl
  have e1 : (PT.ofList .leaf 0 [v, w, AV.bool true]).get 1 = some w := rfl
  have e2 : (PT.ofList .leaf 0 [v, w, AV.bool true]).get 2 = some (.bool true) := rfl
  have hlen := hv.len
  refine zs1 @e0 ?_
  refine AOs.cq tOK fn29 ok29 (check29 N H hv) ?_
  rintro r K ⟨rfl, rfl⟩
  unfold onlyM
  by_cases h0 : checkM l = 0
  case neg =>
    have d1 : decide (checkM l = 0) = false := decide_eq_false h0
    rw [if_pos h0]
    refine zs1 @d1 ?_
    exact fr1 ⟨.inl ⟨rfl, rfl, rfl⟩, fun _ _ h => h, Nat.le_refl _⟩
  have d1 : decide (checkM l = 0) = true := decide_eq_true h0
  have hl8 := checkM_len h0
  rw [if_neg (show ¬ checkM l ≠ 0 by omega)]
  refine zs4 @al29 @e0 @d1 @hlen ?_
  refine AW.loop (fun m T L => (∀ b x, K.get b = some x → L.get b = some x) ∧ K.next ≤ L.next ∧ T.get 1 = some w ∧ T.get 2 = some (.bool true) ∧ T.get 13 = some v ∧ T.get 14 = some (.int .i64 (l.length : Nat)) ∧ ∃ (i : Nat) (a : AV), i ≤ l.length ∧ m = l.length - i ∧ T.get 15 = some (.int .i64 (i : Nat)) ∧ T.get 7 = some a ∧ AccL K.next L a ((l.take i).filter fun p => decide (p.1 ∈ ns))) ?_ (l.length - 0)
    ⟨fun _ _ h => h, Nat.le_refl _, by simp [PT.get_set, e1], by simp [PT.get_set, e2], by simp [PT.get_set, e0], by simp [PT.get_set], 0, .nils, by omega, rfl, by simp [PT.get_set], by simp [PT.get_set], ⟨.inl ⟨rfl, rfl, rfl⟩, fun b o n c z e => by cases e⟩⟩
  rintro m T L ⟨hk, hnx, g1, g2, g13, g14, i, a, hi, rfl, g15, g7, hA⟩
  refine AW.wf0 fun wfL => ?_
  have wi : IntKind.i64.wrap (((i : Nat) : Int) + 1) = ((i + 1 : Nat) : Int) := wrap64_succ (by omega)
  have hfl : ((l.take i).filter fun p => decide (p.1 ∈ ns)).length ≤ 8 := Nat.le_trans (List.length_filter_le _ _) (by rw [List.length_take]; omega)
  by_cases hil : i < l.length
  · have hd := lt_int hil
    obtain ⟨p, hp⟩ : ∃ p, l[i]? = some p := ⟨_, List.getElem?_eq_getElem hil⟩
    obtain ⟨b, o, c, ro, vs, rfl, hb, ht, _, _⟩ := (hv.keep (KS.of hk hnx)).at hp
    have tk : List.length [AV.str p.1, .str p.2] = 2 := rfl
    generalize hL1 : L.alloc (.cells false [.str [], .str []]) = L1
    obtain ⟨sL1, wfL1, nL1, gL1⟩ := laid wfL hL1
    have hst := stA71 gL1 p.1 p.2
    generalize hL2 : L1.set L.next (.cells false [.str p.1, .str p.2]) = L2
    obtain ⟨sL2, nL2, wfL2, gL2⟩ := puts wfL1 hL2
    have k2 : ∀ b x, L.get b = some x → L2.get b = some x := fun b x hx => sL2 _ _ (by have := wfL _ _ hx; omega) (sL1 _ _ hx)
    have hw2 : NamesAt L2 w ns := hw.keep (KS.of (fun b x hx => k2 _ _ (hk _ _ hx)) (by omega))
    refine zp8 @g1 @g13 @g14 @g15 @hd @hil @hb (And.intro @ht (And.intro @tk (And.intro @al71 (And.intro @hL1 (And.intro @hst (And.intro @hL2 @gL2)))))) ?_
    refine AOs.cq tOK fn100 ok100 (contains100 N L2 hw2 hn) ?_
    rintro r L3 ⟨rfl, rfl⟩
    have hA2 : AccL K.next L3 a ((l.take i).filter fun p => decide (p.1 ∈ ns)) := by
      refine ⟨?_, hA.2⟩
      rcases hA.1 with h | ⟨b', h1, h2, h3, h4⟩
      · exact .inl h
      · exact .inr ⟨b', h1, k2 _ _ h2, h3, h4⟩
    by_cases hm : p.1 ∈ ns
    · have d2 : decide (p.1 ∈ ns) = true := decide_eq_true hm
      have c2 := cellsAt2 gL2
      have wfL3 := wfL2
      have bsf := fun dst ty pos after guard x (ev : Operand → AV) hx => bs29_1 F0 L3 ev dst ty pos after guard x (.str p.1) (.str p.2) hx
      generalize hL4 : L3.alloc (.cells false [.str p.1, .str p.2]) = L4
      obtain ⟨sL4, wfL4, nL4, gL4⟩ := laid wfL3 hL4
      have hA4 : AccL K.next L4 a ((l.take i).filter fun p => decide (p.1 ∈ ns)) := by
        refine ⟨?_, hA2.2⟩
        rcases hA2.1 with h | ⟨b', h1, h2, h3, h4⟩
        · exact .inl h
        · exact .inr ⟨b', h1, sL4 _ _ h2, h3, h4⟩
      obtain ⟨a', L5, q1, q2, q3, q4⟩ := accL_append wfL4 (by omega) hA4 gL4 (by omega)
      with_reducible repeat' first | refine zb ?_ | refine AW.condT (by simp only [aeval, PT.get_set, Nat.reduceEqDiff, reduceIte, d2]; rfl) (by first | rfl | decide | assumption) ?_ | (refine AOs.o1 tOK ?_; refine zr8 @ld71 @g2 @g15 @g7 @eqB1 @d2 @gL2 (And.intro @tk2 (And.intro @tk (And.intro @bsf (And.intro @hL4 (And.intro @q1 @wi))))) ?_) | fail
      refine ⟨l.length - (i + 1), by omega, fun b x hx => q4 b x (by have := hwf b x hx; omega) (sL4 _ _ (k2 _ _ (hk _ _ hx))), by omega, by simp [PT.get_set, g1], by simp [PT.get_set, g2], by simp [PT.get_set, g13], by simp [PT.get_set, g14], i + 1, a', by omega, rfl, gt1, gt1, ?_⟩
      rw [filter_take hp, if_pos (by simpa using hm)]; exact q2
    · have d2 : decide (p.1 ∈ ns) = false := decide_eq_false hm
      with_reducible repeat' first | refine zb ?_ | refine AW.condF (by simp only [aeval, PT.get_set, Nat.reduceEqDiff, reduceIte, d2]; rfl) (by first | rfl | decide | assumption) ?_ | (refine AOs.o1 tOK ?_; refine zr5 @g2 @g15 @eqB0 @d2 @wi ?_) | fail
      refine ⟨l.length - (i + 1), by omega, fun b x hx => k2 _ _ (hk _ _ hx), by omega, by simp [PT.get_set, g1], by simp [PT.get_set, g2], by simp [PT.get_set, g13], by simp [PT.get_set, g14], i + 1, a, by omega, rfl, gt1, by simp [PT.get_set, g7], ?_⟩
      rw [filter_take hp, if_neg (by simpa using hm), List.append_nil]; exact hA2
  · have hd := nlt_int hil
    obtain rfl : i = l.length := by omega
    rw [List.take_length] at hA
    refine zs4 @g14 @g15 @g7 @hd ?_
    exact fr1 ⟨hA.labs, hk, hnx⟩

theorem only47 (N : Bd) (H : AH) {v w : AV} {l : Ls} {ns : List Nm} (hv : LabelsAt H v l) (hw : NamesAt H w ns) (hn : ns.length ≤ 1000000) :
    AC tC N 0 47 [v, w] H fun r K => LabelsAt K r (onlyM ns l) ∧ (∀ b x, H.get b = some x → K.get b = some x) ∧ H.next ≤ K.next := by
  refine AC.by (n := 8) (rs := [.tmp 4]) tOK fn47 rfl rfl rfl rfl ?_
  have e0 : (PT.ofList .leaf 0 [v, w]).get 0 = some v := rfl
  have e1 : (PT.ofList .leaf 0 [v, w]).get 1 = some w := rfl
  refine zs2 @e0 @e1 ?_
  refine AOs.cq tOK fn74 ok74 (part74 N H hv hw hn) ?_
  rintro r K ⟨h1, h2, h3⟩
  refine zs0 ?_
  exact fr1 ⟨h1, h2, h3⟩

def labB2 (p : Lb) : List UInt8 := textB p.1 ++ textB p.2
def keysB (l : Ls) : List UInt8 := l.flatMap labB2
/-- A set's key. -/
def keyM (l : Ls) : Nm := if checkM l ≠ 0 then [] else keysB l

theorem textB_le {s : Nm} (h : s.length ≤ 1000000) : (textB s).length ≤ s.length + 9 := by
  have := numB_le s.length (by omega)
  simp [textB]; omega
theorem okFrom_mem : ∀ {l : Ls} {p : Nm}, okFrom p l = true → ∀ x ∈ l, labB x = true
  | [], _, _, x, hx => by cases hx
  | y :: ys, p, h, x, hx => by
    rw [okFrom] at h
    simp only [Bool.and_eq_true] at h
    rcases List.mem_cons.1 hx with rfl | hx
    · exact h.1.1
    · exact okFrom_mem h.2 x hx
theorem checkM_zero {l : Ls} (h : checkM l = 0) : l.length ≤ 8 ∧ okFrom [] l = true := by
  refine ⟨checkM_len h, ?_⟩
  unfold checkM at h
  split at h
  · cases h
  · split at h
    · assumption
    · cases h
theorem checkM_of {l : Ls} (h1 : l.length ≤ 8) (h2 : okFrom [] l = true) : checkM l = 0 := by
  unfold checkM; rw [if_neg (by omega), if_pos h2]
theorem labB_lens {x : Lb} (h : labB x = true) : 1 ≤ x.1.length ∧ x.1.length ≤ 24 ∧ 1 ≤ x.2.length ∧ x.2.length ≤ 64 := by
  unfold labB at h
  simp only [Bool.and_eq_true, decide_eq_true_eq] at h
  obtain ⟨⟨h1, h2⟩, h3⟩ := h
  rw [nameB_eq] at h1
  simp only [Bool.and_eq_true, decide_eq_true_eq] at h1
  have : x.2.length ≠ 0 := fun e => h2 (List.eq_nil_of_length_eq_zero e)
  omega
theorem labB2_le {x : Lb} (h : labB x = true) : (labB2 x).length ≤ 106 := by
  obtain ⟨h1, h2, h3, h4⟩ := labB_lens h
  have a := textB_le (s := x.1) (by omega)
  have b := textB_le (s := x.2) (by omega)
  simp [labB2]; omega
theorem keysB_le : ∀ {l : Ls}, (∀ x ∈ l, labB x = true) → (keysB l).length ≤ l.length * 106
  | [], _ => by simp [keysB]
  | x :: xs, h => by
    have h1 := labB2_le (h x (List.mem_cons_self))
    have h2 := keysB_le (l := xs) fun y hy => h y (List.mem_cons_of_mem _ hy)
    simp only [keysB, List.flatMap_cons, List.length_append, List.length_cons] at h2 ⊢
    omega
theorem keysB_take {l : Ls} {i : Nat} {x : Lb} (h : l[i]? = some x) : keysB (l.take (i + 1)) = keysB (l.take i) ++ labB2 x := by
  unfold keysB
  rw [List.take_add_one, h, List.flatMap_append]; simp
theorem keyM_le (l : Ls) : (keyM l).length ≤ 1000 := by
  unfold keyM
  split
  · simp
  · rename_i h
    obtain ⟨h1, h2⟩ := checkM_zero (l := l) (by omega)
    have := keysB_le (okFrom_mem h2)
    omega
theorem cvBS (H : AH) {v : AV} {l : List UInt8} (h : BytesAt H v l) : convOp tC H 50 9 v = some (.str l, H) := by
  rw [conv_bytesStr ti50 ti9 rfl rfl ti5 rfl H v (fun s e => by subst e; rcases h with ⟨h | ⟨k, h⟩, _⟩ | ⟨b, o, c, ro, vs, h, _⟩ <;> cases h), h.str]; rfl

set_option maxHeartbeats 4000000 in
theorem key48 (N : Bd) (H : AH) {v : AV} {l : Ls} (hv : LabelsAt H v l) : AC tC N 0 48 [v] H fun r K => r = .str (keyM l) ∧ K = H := by
  refine AC.quiet rfl ?_
  refine AC.wf0 fun hwf => ?_
  refine AC.by (n := 32) (rs := [.tmp 2]) tOK fn48 rfl rfl rfl rfl ?_
  have e0 : (PT.ofList .leaf 0 [v]).get 0 = some v := rfl
  have hlen := hv.len
  refine zs1 @e0 ?_
  refine AOs.cq tOK fn29 ok29 (check29 N H hv) ?_
  rintro r K ⟨rfl, rfl⟩
  unfold keyM
  by_cases h0 : checkM l = 0
  case neg =>
    have d1 : decide (checkM l = 0) = false := decide_eq_false h0
    rw [if_pos h0]
    refine zs1 @d1 ?_
    exact fr1 ⟨rfl, fun _ _ h => h⟩
  have d1 : decide (checkM l = 0) = true := decide_eq_true h0
  obtain ⟨hl8, hok⟩ := checkM_zero h0
  have hmem := okFrom_mem hok
  rw [if_neg (show ¬ checkM l ≠ 0 by omega)]
  refine zs4 @al29 @e0 @d1 @hlen ?_
  refine AW.loop (fun m T L => (∀ b x, K.get b = some x → L.get b = some x) ∧ K.next ≤ L.next ∧ T.get 9 = some v ∧ T.get 10 = some (.int .i64 (l.length : Nat)) ∧ ∃ (i : Nat) (a : AV), i ≤ l.length ∧ m = l.length - i ∧ T.get 11 = some (.int .i64 (i : Nat)) ∧ T.get 3 = some a ∧ BytesAt L a (keysB (l.take i))) ?_ (l.length - 0)
    ⟨fun _ _ h => h, Nat.le_refl _, by simp [PT.get_set, e0], by simp [PT.get_set], 0, .nils, by omega, rfl, by simp [PT.get_set], by simp [PT.get_set], .inl ⟨.inl rfl, rfl⟩⟩
  rintro m T L ⟨hk, hnx, g9, g10, i, a, hi, rfl, g11, g3, hA⟩
  refine AW.wf0 fun wfL => ?_
  have wi : IntKind.i64.wrap (((i : Nat) : Int) + 1) = ((i + 1 : Nat) : Int) := wrap64_succ (by omega)
  have hbl : (keysB (l.take i)).length ≤ 900 := by
    have := keysB_le (l := l.take i) fun x hx => hmem x (List.mem_of_mem_take hx)
    rw [List.length_take] at this; omega
  by_cases hil : i < l.length
  · have hd := lt_int hil
    obtain ⟨p, hp⟩ : ∃ p, l[i]? = some p := ⟨_, List.getElem?_eq_getElem hil⟩
    obtain ⟨b, o, c, ro, vs, rfl, hb, ht, _, _⟩ := (hv.keep (KS.of hk hnx)).at hp
    obtain ⟨q1, q2, q3, q4⟩ := labB_lens (hmem p (List.mem_of_getElem? hp))
    have tk : List.length [AV.str p.1, .str p.2] = 2 := rfl
    generalize hL1 : L.alloc (.cells false [.str [], .str []]) = L1
    obtain ⟨sL1, wfL1, nL1, gL1⟩ := laid wfL hL1
    have hst := stA71 gL1 p.1 p.2
    generalize hL2 : L1.set L.next (.cells false [.str p.1, .str p.2]) = L2
    obtain ⟨sL2, nL2, wfL2, gL2⟩ := puts wfL1 hL2
    have k2 : ∀ b x, L.get b = some x → L2.get b = some x := fun b x hx => sL2 _ _ (by have := wfL _ _ hx; omega) (sL1 _ _ hx)
    have hA2 : BytesAt L2 a (keysB (l.take i)) := hA.keep fun b o c _ x hx => k2 _ _ hx
    refine zp8 @g9 @g10 @g11 @g3 @hd @hil @hb (And.intro @ht (And.intro @tk (And.intro @al71 (And.intro @hL1 (And.intro @hst (And.intro @hL2 @gL2)))))) ?_
    refine AOs.cq tOK fn75 ok75 (AC.wf (text75 N L2 (s := p.1) hA2 (by omega) (by omega))) ?_
    rintro r L3 ⟨⟨w3, rfl, hb3, k3, n3⟩, wfL3⟩
    have gL3 := k3 _ _ gL2
    have hle := textB_le (s := p.1) (by omega)
    refine zs3 @ld9 @fa71_1 @gL3 ?_
    refine AOs.cq tOK fn75 ok75 (AC.wf (text75 N L3 (s := p.2) hb3 (by omega) (by rw [List.length_append]; omega))) ?_
    rintro r L4 ⟨⟨w4, rfl, hb4, k4, n4⟩, wfL4⟩
    refine zs2 @g11 @wi ?_
    refine ⟨l.length - (i + 1), by omega, fun b x hx => k4 _ _ (k3 _ _ (k2 _ _ (hk _ _ hx))), by omega, by simp [PT.get_set, g9], by simp [PT.get_set, g10], i + 1, w4, by omega, rfl, gt1, gt1, ?_⟩
    rw [keysB_take hp, labB2, ← List.append_assoc]; exact hb4
  · have hd := nlt_int hil
    obtain rfl : i = l.length := by omega
    rw [List.take_length] at hA
    have hcv := cvBS L hA
    refine zs5 @g10 @g11 @g3 @hd @hcv ?_
    exact fr1 ⟨rfl, hk⟩

theorem grpM_small {n : Nat} (h1 : 1 ≤ n) (h2 : n ≤ 255) : grpM n = [UInt8.ofNat n] := by
  rw [grpM_pos (by omega), show n / 256 = 0 by omega, grpM_zero]
theorem textB_small {s : Nm} (h1 : 1 ≤ s.length) (h2 : s.length ≤ 64) : textB s = 1 :: UInt8.ofNat s.length :: s := by
  unfold textB numB
  rw [grpM_small h1 (by omega)]; rfl
theorem ofNat_inj {a b : Nat} (ha : a ≤ 64) (hb : b ≤ 64) (h : UInt8.ofNat a = UInt8.ofNat b) : a = b := by
  have := congrArg UInt8.toNat h
  rw [UInt8.toNat_ofNat', UInt8.toNat_ofNat'] at this
  omega
theorem textB_inj {s t a b : Nm} (h1 : 1 ≤ s.length) (h2 : s.length ≤ 64) (h3 : 1 ≤ t.length) (h4 : t.length ≤ 64) (h : textB s ++ a = textB t ++ b) : s = t ∧ a = b := by
  rw [textB_small h1 h2, textB_small h3 h4] at h
  simp only [List.cons_append, List.cons.injEq, true_and] at h
  obtain ⟨e1, e2⟩ := h
  exact List.append_inj e2 (ofNat_inj h2 h4 e1)
theorem keysB_inj : ∀ {l m : Ls}, (∀ x ∈ l, labB x = true) → (∀ x ∈ m, labB x = true) → keysB l = keysB m → l = m
  | [], [], _, _, _ => rfl
  | [], y :: ys, _, hm, h => by
    obtain ⟨q1, q2, q3, q4⟩ := labB_lens (hm y (List.mem_cons_self))
    simp only [keysB, List.flatMap_nil, List.flatMap_cons, labB2] at h
    rw [textB_small q1 (by omega)] at h
    simp at h
  | x :: xs, [], hl, _, h => by
    obtain ⟨q1, q2, q3, q4⟩ := labB_lens (hl x (List.mem_cons_self))
    simp only [keysB, List.flatMap_nil, List.flatMap_cons, labB2] at h
    rw [textB_small q1 (by omega)] at h
    simp at h
  | x :: xs, y :: ys, hl, hm, h => by
    obtain ⟨p1, p2, p3, p4⟩ := labB_lens (hl x (List.mem_cons_self))
    obtain ⟨q1, q2, q3, q4⟩ := labB_lens (hm y (List.mem_cons_self))
    simp only [keysB, List.flatMap_cons, labB2, List.append_assoc] at h
    obtain ⟨e1, h⟩ := textB_inj p1 (by omega) q1 (by omega) h
    obtain ⟨e2, h⟩ := textB_inj p3 p4 q3 q4 h
    have := keysB_inj (fun z hz => hl z (List.mem_cons_of_mem _ hz)) (fun z hz => hm z (List.mem_cons_of_mem _ hz)) h
    rw [this, Prod.ext e1 e2]
theorem keyM_inj {a b : Ls} (ha : checkM a = 0) (hb : checkM b = 0) (h : keyM a = keyM b) : a = b := by
  unfold keyM at h
  rw [if_neg (by omega), if_neg (by omega)] at h
  exact keysB_inj (okFrom_mem (checkM_zero ha).2) (okFrom_mem (checkM_zero hb).2) h

theorem okFrom_weak {p q : Nm} (h : p < q) : ∀ {l : Ls}, okFrom q l = true → okFrom p l = true
  | [], _ => rfl
  | x :: xs, hl => by
    rw [okFrom] at hl ⊢
    simp only [Bool.and_eq_true, decide_eq_true_eq] at hl ⊢
    exact ⟨⟨hl.1.1, nm_trans h hl.1.2⟩, hl.2⟩
theorem okFrom_filter (f : Lb → Bool) : ∀ {l : Ls} {p : Nm}, okFrom p l = true → okFrom p (l.filter f) = true
  | [], _, _ => rfl
  | x :: xs, p, hl => by
    rw [okFrom] at hl
    simp only [Bool.and_eq_true, decide_eq_true_eq] at hl
    have ih := okFrom_filter f hl.2
    rw [List.filter_cons]
    split
    · rw [okFrom]
      simp only [Bool.and_eq_true, decide_eq_true_eq]
      exact ⟨hl.1, ih⟩
    · exact okFrom_weak hl.1.2 ih
theorem onlyM_ok (ns : List Nm) (l : Ls) : checkM (onlyM ns l) = 0 := by
  unfold onlyM
  split
  · rfl
  · rename_i h
    obtain ⟨h1, h2⟩ := checkM_zero (l := l) (by omega)
    exact checkM_of (Nat.le_trans (List.length_filter_le _ _) h1) (okFrom_filter _ h2)

/-! What a cell is, of its results. -/
def sumV : List Rs → Int
  | [] => 0
  | r :: rs => sumV rs + valS r.2.1 r.2.2
def ovV : List Rs → Nat
  | [] => 0
  | r :: rs => ovV rs + if r.2.2 = true then 1 else 0
def bagV : List Rs → List (Int × Nat)
  | [] => []
  | r :: rs => if r.2.2 = true then bagV rs else insL r.2.1 1 (bagV rs)
def cntV (L : List Rs) (m : Int) : Nat := L.countP fun r => decide (r.2.2 = false ∧ r.2.1 = m)

theorem bagV_srt : ∀ L : List Rs, Srt (bagV L)
  | [] => List.Pairwise.nil
  | r :: rs => by
    rw [bagV]; split
    · exact bagV_srt rs
    · exact (bagV_srt rs).ins
theorem bagV_sum : ∀ L : List Rs, sumT (bagV L) + ovV L = L.length
  | [] => rfl
  | r :: rs => by
    have ih := bagV_sum rs
    rw [bagV, ovV]; split
    · rw [List.length_cons]; omega
    · rw [sumT_ins, List.length_cons]; omega
theorem bagV_tms (m : Int) : ∀ L : List Rs, tms (bagV L) m = cntV L m
  | [] => rfl
  | r :: rs => by
    have ih := bagV_tms m rs
    unfold cntV at ih ⊢
    rw [bagV, List.countP_cons]; split
    · rename_i h; rw [ih, if_neg (by simp [h])]; rfl
    · rename_i h
      have h' : r.2.2 = false := by simpa using h
      rw [tms_ins m (bagV_srt rs), ih]
      by_cases e : m = r.2.1
      · rw [if_pos e, if_pos (by simp [h', e])]
      · rw [if_neg e, if_neg (by simp [h']; exact fun e' => e e'.symm)]
theorem pos_insL {n : Int} {k : Nat} (hk : 1 ≤ k) : ∀ {l : List (Int × Nat)}, (∀ p ∈ l, 1 ≤ p.2) → ∀ p ∈ insL n k l, 1 ≤ p.2
  | [], _, p, hp => by simp [insL] at hp; subst hp; exact hk
  | q :: qs, h, p, hp => by
    rw [insL] at hp
    have hq := h q (List.mem_cons_self)
    have hqs := fun z hz => h z (List.mem_cons_of_mem _ hz)
    split at hp
    · rcases List.mem_cons.1 hp with rfl | hp
      · exact hk
      · exact h p hp
    · split at hp
      · rcases List.mem_cons.1 hp with rfl | hp
        · exact hq
        · exact pos_insL hk hqs p hp
      · rcases List.mem_cons.1 hp with rfl | hp
        · show 1 ≤ q.2 + k; omega
        · exact hqs p hp
theorem pos_delL {n : Int} : ∀ {l : List (Int × Nat)}, (∀ p ∈ l, 1 ≤ p.2) → ∀ p ∈ delL n l, 1 ≤ p.2
  | [], _, p, hp => by simp [delL] at hp
  | q :: qs, h, p, hp => by
    rw [delL] at hp
    have hqs := fun z hz => h z (List.mem_cons_of_mem _ hz)
    split at hp
    · split at hp
      · rcases List.mem_cons.1 hp with rfl | hp
        · show 1 ≤ q.2 - 1; omega
        · exact hqs p hp
      · exact hqs p hp
    · rcases List.mem_cons.1 hp with rfl | hp
      · exact h p (List.mem_cons_self)
      · exact pos_delL hqs p hp
theorem bagV_pos : ∀ (L : List Rs), ∀ p ∈ bagV L, 1 ≤ p.2
  | [], p, hp => by cases hp
  | r :: rs, p, hp => by
    rw [bagV] at hp; split at hp
    · exact bagV_pos rs p hp
    · exact pos_insL (Nat.le_refl _) (bagV_pos rs) p hp
theorem srt_ext : ∀ {l m : List (Int × Nat)}, Srt l → Srt m → (∀ p ∈ l, 1 ≤ p.2) → (∀ p ∈ m, 1 ≤ p.2) → (∀ n, tms l n = tms m n) → l = m
  | [], [], _, _, _, _, _ => rfl
  | [], q :: qs, _, _, _, hm, h => by
    have := h q.1
    have hq := hm q (List.mem_cons_self)
    rw [tms, tms, if_pos rfl] at this; omega
  | p :: ps, [], _, _, hl, _, h => by
    have := h p.1
    have hp := hl p (List.mem_cons_self)
    rw [tms, tms, if_pos rfl] at this; omega
  | p :: ps, q :: qs, sl, sm, hl, hm, h => by
    have hp := hl p (List.mem_cons_self)
    have hq := hm q (List.mem_cons_self)
    have slp := List.pairwise_cons.1 sl
    have smq := List.pairwise_cons.1 sm
    have e : p.1 = q.1 := by
      by_cases c1 : p.1 < q.1
      · have := h p.1
        rw [tms, if_pos rfl, tms_none (l := q :: qs) (fun z hz => by
          rcases List.mem_cons.1 hz with rfl | hz
          · omega
          · have := smq.1 z hz; omega)] at this
        omega
      · by_cases c2 : q.1 < p.1
        · have := h q.1
          rw [tms_none (l := p :: ps) (fun z hz => by
            rcases List.mem_cons.1 hz with rfl | hz
            · omega
            · have := slp.1 z hz; omega), tms, if_pos rfl] at this
          omega
        · omega
    have e2 : p.2 = q.2 := by
      have := h p.1
      rw [tms, if_pos rfl, tms, if_pos e.symm] at this
      exact this
    have := srt_ext slp.2 smq.2 (fun z hz => hl z (List.mem_cons_of_mem _ hz)) (fun z hz => hm z (List.mem_cons_of_mem _ hz)) fun n => by
      have hn := h n
      by_cases c : p.1 = n
      · rw [tms_none fun z hz => by have := slp.1 z hz; omega, tms_none fun z hz => by have := smq.1 z hz; omega]
      · rw [tms, if_neg c, tms, if_neg (by omega)] at hn
        exact hn
    rw [this, Prod.ext e e2]

theorem sumV_perm {L M : List Rs} (h : L.Perm M) : sumV L = sumV M := by
  induction h with
  | nil => rfl
  | cons x _ ih => rw [sumV, sumV, ih]
  | swap x y l => rw [sumV, sumV, sumV, sumV]; omega
  | trans _ _ a b => exact a.trans b
theorem ovV_perm {L M : List Rs} (h : L.Perm M) : ovV L = ovV M := by
  induction h with
  | nil => rfl
  | cons x _ ih => rw [ovV, ovV, ih]
  | swap x y l => rw [ovV, ovV, ovV, ovV]; omega
  | trans _ _ a b => exact a.trans b
theorem bagV_perm {L M : List Rs} (h : L.Perm M) : bagV L = bagV M :=
  srt_ext (bagV_srt L) (bagV_srt M) (bagV_pos L) (bagV_pos M) fun n => by rw [bagV_tms, bagV_tms]; exact h.countP_eq _
/-- What a group's function makes of a cell's results. -/
def valG (f : Int) (L : List Rs) : Int × Bool := valM f (sumV L) (ovV L : Nat) L.length (bagV L) (ovV L)
theorem bagV_erase {L : List Rs} {r : Rs} (h : r ∈ L) (ho : r.2.2 = false) : bagV (L.erase r) = delL r.2.1 (bagV L) := by
  have hp := List.perm_cons_erase h
  refine srt_ext (bagV_srt _) (bagV_srt L).del (bagV_pos _) (pos_delL (bagV_pos L)) fun m => ?_
  rw [tms_del m (bagV_srt L) (bagV_pos L), bagV_tms, bagV_tms]
  have : cntV L m = cntV (r :: L.erase r) m := hp.countP_eq _
  rw [this]
  unfold cntV
  rw [List.countP_cons]
  by_cases e : m = r.2.1
  · rw [if_pos e, if_pos (by simp [ho, e])]; omega
  · rw [if_neg e, if_neg (by simp [ho]; exact fun e' => e e'.symm)]; omega
theorem bagV_over {L : List Rs} {r : Rs} (h : r ∈ L) (ho : r.2.2 = true) : bagV (L.erase r) = bagV L := by
  rw [bagV_perm (List.perm_cons_erase h), bagV, if_pos ho]
theorem ovV_erase {L : List Rs} {r : Rs} (h : r ∈ L) : ovV L = ovV (L.erase r) + if r.2.2 = true then 1 else 0 := by
  rw [ovV_perm (List.perm_cons_erase h), ovV]
theorem sumV_erase {L : List Rs} {r : Rs} (h : r ∈ L) : sumV L = sumV (L.erase r) + valS r.2.1 r.2.2 := by
  rw [sumV_perm (List.perm_cons_erase h), sumV]
theorem cnt_there {L : List Rs} {r : Rs} (h : r ∈ L) (ho : r.2.2 = false) : 0 < tms (bagV L) r.2.1 := by
  rw [bagV_tms]
  exact List.countP_pos_iff.2 ⟨r, h, by simp [ho]⟩
theorem ov_there {L : List Rs} {r : Rs} (h : r ∈ L) (ho : r.2.2 = true) : 0 < ovV L := by
  rw [ovV_erase h, if_pos ho]; omega

theorem valM_right (f : Int) (S c : Int) (n : Nat) (l : List (Int × Nat)) (k : Nat) : numM (valM f S c n l k).1 (valM f S c n l k).2 = 0 := by
  have hg : numM (grtV S c).1 (grtV S c).2 = 0 := by
    unfold grtV
    generalize (if IntKind.wrap .i64 (loN S : Nat) < 0 then (-1 : Int) else 0) = z
    split <;> simp [numM]
  have he : ∀ b, numM (endM b l k).1.1 (endM b l k).1.2 = 0 := fun b => by
    unfold endM; split
    · simp [numM]
    · split <;> simp [numM]
  unfold valM
  split
  · exact hg
  · split
    · simp [numM]
    · split
      · exact he true
      · exact he false
/-- The results of a cell. -/
def selM (ns : List Nm) (x : Ls) (M : List Rs) : List Rs := M.filter fun r => decide (onlyM ns r.1 = x)
theorem selM_cons {ns : List Nm} {x : Ls} {r : Rs} {M : List Rs} : selM ns x (r :: M) = if onlyM ns r.1 = x then r :: selM ns x M else selM ns x M := by
  unfold selM; rw [List.filter_cons]
  by_cases h : onlyM ns r.1 = x <;> simp [h]
theorem selM_erase {ns : List Nm} {x : Ls} {r : Rs} {M : List Rs} : selM ns x (M.erase r) = (selM ns x M).erase r := by
  unfold selM; exact List.erase_filter.symm
theorem selM_erase_ne {ns : List Nm} {x : Ls} {r : Rs} {M : List Rs} (h : onlyM ns r.1 ≠ x) : selM ns x (M.erase r) = selM ns x M := by
  rw [selM_erase]
  exact List.erase_of_not_mem fun hm => h (by simpa using (List.mem_filter.1 hm).2)
theorem selM_perm {ns : List Nm} {x : Ls} {M M' : List Rs} (h : M.Perm M') : (selM ns x M).Perm (selM ns x M') := h.filter _
theorem selM_mem {ns : List Nm} {x : Ls} {r : Rs} {M : List Rs} : r ∈ selM ns x M ↔ r ∈ M ∧ onlyM ns r.1 = x := by
  unfold selM; rw [List.mem_filter]; simp
theorem selM_ne {ns : List Nm} {x : Ls} {M : List Rs} : selM ns x M ≠ [] ↔ ∃ r ∈ M, onlyM ns r.1 = x := by
  constructor
  · intro h
    obtain ⟨r, hr⟩ := List.exists_mem_of_ne_nil _ h
    exact ⟨r, (selM_mem.1 hr).1, (selM_mem.1 hr).2⟩
  · rintro ⟨r, h1, h2⟩ e
    have : r ∈ selM ns x M := selM_mem.2 ⟨h1, h2⟩
    rw [e] at this; cases this

theorem AW.joinSeq {C : Ctx} {N : Bd} {G n : Nat} {T : PT AV} {H : AH} {x y : Code} {Q : AEx → PT AV → AH → Prop} (P : PT AV → AH → Prop) (h1 : AW C N G n x T H fun e T H => e = .normal ∧ P T H) (h2 : ∀ T H, P T H → AW C N G n y T H Q) : AW C N G n (.seq x y) T H Q :=
  AW.seq (h1.mono fun e T' H' ⟨he, hp⟩ => by subst he; exact h2 T' H' hp)

def isB : AV → Bool
  | .bool _ => true
  | _ => false
/-- Rows of texts, of results, of changes: what stays. -/
def dataV (vs : List AV) : Bool := vs.all isStr || (vs.drop 2).any isB
def KD (H K : AH) : Prop := (∀ b ro vs, H.get b = some (.cells ro vs) → vs ≠ [] → (dataV vs = true ∨ ro = true) → K.get b = some (.cells ro vs)) ∧ H.next ≤ K.next
theorem KD.trans {H K L : AH} (a : KD H K) (b : KD K L) : KD H L := ⟨fun k ro vs h h1 h2 => b.1 k ro vs (a.1 k ro vs h h1 h2) h1 h2, Nat.le_trans a.2 b.2⟩
theorem KD.of {H K : AH} (h : ∀ b x, H.get b = some x → K.get b = some x) (hn : H.next ≤ K.next) : KD H K := ⟨fun b ro vs hb _ _ => h b _ hb, hn⟩
theorem KD.ks {H K : AH} (h : KD H K) : KS H K := ⟨fun b ro vs h1 h2 h3 => h.1 b ro vs h1 h2 (h3.imp (fun h => by unfold dataV; rw [h]; rfl) id), h.2⟩
/-- Blocks that are no rows. -/
def Work (H : AH) (b : Nat) : Prop := ∀ ro vs, H.get b = some (.cells ro vs) → ro = false ∧ dataV vs = false
theorem KD.keep {H K : AH} {S : List Nat} (h : ∀ k y, k ∉ S → H.get k = some y → K.get k = some y) (hw : ∀ b ∈ S, Work H b) (hn : H.next ≤ K.next) : KD H K :=
  ⟨fun b ro vs h1 h2 h3 => h b _ (fun hb => by
    obtain ⟨e1, e2⟩ := hw b hb ro vs h1
    rcases h3 with h3 | h3
    · rw [e2] at h3; cases h3
    · rw [e1] at h3; cases h3) h1, hn⟩
theorem dataV_row {vs : List AV} {k : Nat} {x : Bool} (h : vs[k]? = some (.bool x)) (hk : 2 ≤ k) : dataV vs = true := by
  unfold dataV
  have : (vs.drop 2).any isB = true := List.any_eq_true.2 ⟨.bool x, List.mem_of_getElem? (i := k - 2) (by rw [List.getElem?_drop, show 2 + (k - 2) = k by omega]; exact h), rfl⟩
  rw [this, Bool.or_true]
theorem VecAt.keepD {H K : AH} {v : AV} {l : List Rs} (h : VecAt H v l) (hk : KD H K) : VecAt K v l := by
  rcases h with h | ⟨b, o, c, ro, vs, rfl, h1, h2, h3⟩
  · exact .inl h
  · obtain ⟨r, hr⟩ : ∃ r, l[0]? = some r := by
      cases l with
      | nil => exact absurd rfl h2
      | cons r l => exact ⟨r, rfl⟩
    obtain ⟨u, e1, _⟩ := h3 0 r hr
    have hb : vs[o + 0 * 3 + 2]? = some (.bool r.2.2) := get_of_take e1 (j := 2) rfl
    refine .inr ⟨b, o, c, ro, vs, rfl, hk.1 b ro vs h1 (fun e => by subst e; simp at hb) (.inl (dataV_row hb (by omega))), h2, fun i r hi => ?_⟩
    obtain ⟨u, q1, q2⟩ := h3 i r hi
    exact ⟨u, q1, q2.keep hk.ks⟩
theorem ChsAt.keepD {H K : AH} {v : AV} {l : List Ch} (h : ChsAt H v l) (hk : KD H K) : ChsAt K v l := by
  rcases h with h | ⟨b, o, c, ro, vs, rfl, h1, h2, h3⟩
  · exact .inl h
  · obtain ⟨r, hr⟩ : ∃ r, l[0]? = some r := by
      cases l with
      | nil => exact absurd rfl h2
      | cons r l => exact ⟨r, rfl⟩
    obtain ⟨u, e1, _⟩ := h3 0 r hr
    have hb : vs[o + 0 * 4 + 2]? = some (.bool r.2.2.1) := get_of_take e1 (j := 2) rfl
    refine .inr ⟨b, o, c, ro, vs, rfl, hk.1 b ro vs h1 (fun e => by subst e; simp at hb) (.inl (dataV_row hb (by omega))), h2, fun i r hi => ?_⟩
    obtain ⟨u, q1, q2⟩ := h3 i r hi
    exact ⟨u, q1, q2.keep hk.ks⟩

/-- A cell: its labels, its block, its bag's, the slice of its labels, the bag's tree. -/
structure GCell where
  x : Ls
  cb : Nat
  q : Nat
  vl : AV
  t : Tr
def GCell.fp (c : GCell) : List Nat := c.cb :: c.q :: c.t.blks
structure CellL (H : AH) (L : List Rs) (c : GCell) : Prop where
  labs : LabelsAt H c.vl c.x
  here : H.get c.cb = some (.cells false (cellC c.vl (sumV L) (ovV L : Nat) L.length c.q))
  bag : BagAt H c.q c.t (ovV L)
  ino : c.t.ino = bagV L
theorem CellL.keep {H K : AH} {L : List Rs} {c : GCell} (h : CellL H L c) (hk : ∀ b ∈ c.fp, ∀ y, H.get b = some y → K.get b = some y) (hs : KS H K) : CellL K L c :=
  ⟨h.labs.keep hs, hk _ (List.mem_cons_self) _ h.here, h.bag.keep fun b hb => hk b (List.mem_cons_of_mem _ hb), h.ino⟩
theorem TrAt.notB {H : AH} {t : Tr} {v : AV} (h : TrAt H v t) : isB v = false := by
  cases t with
  | leaf => have : v = .nilp := h; subst this; rfl
  | node b n k a x l r => obtain ⟨rfl, _⟩ := h; rfl
theorem TrAt.node_work {H : AH} : ∀ {t : Tr} {v : AV}, TrAt H v t → ∀ b ∈ t.blks, Work H b
  | .leaf, _, _, b, hb => by simp [Tr.blks] at hb
  | .node b0 n k a h l r, v, ht, b, hb => by
    obtain ⟨_, vl, vr, h1, h2, h3⟩ := ht
    simp only [Tr.blks, List.mem_cons, List.mem_append] at hb
    rcases hb with rfl | hb | hb
    · intro ro vs hv
      rw [h1] at hv; cases hv
      refine ⟨rfl, ?_⟩
      simp [dataV, ndC, isStr, TrAt.notB h2, TrAt.notB h3, show ∀ k n, isB (.int k n) = false from fun _ _ => rfl]
    · exact TrAt.node_work h2 b hb
    · exact TrAt.node_work h3 b hb
theorem CellL.work {H : AH} {L : List Rs} {c : GCell} (h : CellL H L c) : ∀ b ∈ c.fp, Work H b := fun b hb => by
  obtain ⟨v, h1, h2⟩ := h.bag.here
  rcases List.mem_cons.1 hb with rfl | hb
  · intro ro vs hv
    rw [h.here] at hv; cases hv
    refine ⟨rfl, ?_⟩
    simp [dataV, cellC, isStr, isB]
  · rcases List.mem_cons.1 hb with rfl | hb
    · intro ro vs hv
      rw [h1] at hv; cases hv
      exact ⟨rfl, by simp [dataV, isStr, isB]⟩
    · exact TrAt.node_work h2 b hb
theorem CellL.lt {H : AH} {L : List Rs} {c : GCell} (h : CellL H L c) (hw : WF H) : ∀ b ∈ c.fp, b < H.next := fun b hb => by
  obtain ⟨v, h1, h2⟩ := h.bag.here
  rcases List.mem_cons.1 hb with rfl | hb
  · exact hw _ _ h.here
  · rcases List.mem_cons.1 hb with rfl | hb
    · exact hw _ _ h1
    · exact h2.lt hw b hb

def fpsC (cs : List GCell) : List Nat := cs.flatMap GCell.fp
def entC (cs : List GCell) : List (List UInt8 × Nat) := cs.map fun c => (keyM c.x, c.cb)
/-- The cells of a group, of these results. -/
structure CellsH (H : AH) (m : Nat) (ns : List Nm) (M : List Rs) (cs : List GCell) : Prop where
  map : ∃ ver, H.get m = some (.map (ents (entC cs)) ver)
  ver : ∀ ps v, H.get m = some (.map ps v) → v < H.next
  cell : ∀ c ∈ cs, CellL H (selM ns c.x M) c
  ok : ∀ c ∈ cs, checkM c.x = 0
  nd : (m :: fpsC cs).Nodup
  xs : (cs.map (·.x)).Nodup
theorem CellsH.mem_fps {cs : List GCell} {c : GCell} (hc : c ∈ cs) {b : Nat} (hb : b ∈ c.fp) : b ∈ fpsC cs := List.mem_flatMap.2 ⟨c, hc, hb⟩
theorem CellsH.work {H : AH} {m : Nat} {ns : List Nm} {M : List Rs} {cs : List GCell} (h : CellsH H m ns M cs) : ∀ b ∈ m :: fpsC cs, Work H b := fun b hb => by
  rcases List.mem_cons.1 hb with rfl | hb
  · obtain ⟨ver, hv⟩ := h.map
    intro ro vs hg
    rw [hv] at hg; cases hg
  · obtain ⟨c, hc, hb⟩ := List.mem_flatMap.1 hb
    exact (h.cell c hc).work b hb
theorem CellsH.lt {H : AH} {m : Nat} {ns : List Nm} {M : List Rs} {cs : List GCell} (h : CellsH H m ns M cs) (hw : WF H) : ∀ b ∈ m :: fpsC cs, b < H.next := fun b hb => by
  rcases List.mem_cons.1 hb with rfl | hb
  · obtain ⟨ver, hv⟩ := h.map
    exact hw _ _ hv
  · obtain ⟨c, hc, hb⟩ := List.mem_flatMap.1 hb
    exact (h.cell c hc).lt hw b hb
theorem CellsH.keep {H K : AH} {m : Nat} {ns : List Nm} {M : List Rs} {cs : List GCell} (h : CellsH H m ns M cs) (hk : ∀ b ∈ m :: fpsC cs, ∀ y, H.get b = some y → K.get b = some y) (hs : KS H K) : CellsH K m ns M cs where
  map := let ⟨ver, hv⟩ := h.map; ⟨ver, hk m (List.mem_cons_self) _ hv⟩
  ver ps v hv := by
    obtain ⟨ver, hv0⟩ := h.map
    have := hk m (List.mem_cons_self) _ hv0
    rw [hv] at this; cases this
    exact Nat.lt_of_lt_of_le (h.ver _ _ hv0) hs.2
  cell c hc := (h.cell c hc).keep (fun b hb => hk b (List.mem_cons_of_mem _ (CellsH.mem_fps hc hb))) hs
  ok := h.ok
  nd := h.nd
  xs := h.xs
theorem CellsH.perm {H : AH} {m : Nat} {ns : List Nm} {M M' : List Rs} {cs : List GCell} (h : CellsH H m ns M cs) (hp : M.Perm M') : CellsH H m ns M' cs where
  map := h.map
  ver := h.ver
  cell c hc := by
    have := h.cell c hc
    have hs := selM_perm (ns := ns) (x := c.x) hp
    exact ⟨this.labs, by rw [← sumV_perm hs, ← ovV_perm hs, ← hs.length_eq]; exact this.here, by rw [← ovV_perm hs]; exact this.bag, by rw [← bagV_perm hs]; exact this.ino⟩
  ok := h.ok
  nd := h.nd
  xs := h.xs

theorem fpsC_app (a b : List GCell) : fpsC (a ++ b) = fpsC a ++ fpsC b := by unfold fpsC; rw [List.flatMap_append]
theorem fpsC_cons (c : GCell) (b : List GCell) : fpsC (c :: b) = c.fp ++ fpsC b := by unfold fpsC; rw [List.flatMap_cons]
theorem fpsC_mid (A B : List GCell) (c : GCell) (b : Nat) : b ∈ fpsC (A ++ c :: B) ↔ b ∈ c.fp ∨ b ∈ fpsC (A ++ B) := by
  rw [fpsC_app, fpsC_cons, fpsC_app]; simp only [List.mem_append]
  constructor
  · rintro (h | h | h)
    · exact .inr (.inl h)
    · exact .inl h
    · exact .inr (.inr h)
  · rintro (h | h | h)
    · exact .inr (.inl h)
    · exact .inl h
    · exact .inr (.inr h)
theorem nd_mid {m : Nat} {A B : List GCell} {c : GCell} (h : (m :: fpsC (A ++ c :: B)).Nodup) : (m :: fpsC (A ++ B)).Nodup ∧ c.fp.Nodup ∧ m ∉ c.fp ∧ ∀ b ∈ c.fp, b ∉ fpsC (A ++ B) := by
  rw [fpsC_app, fpsC_cons] at h
  simp only [List.nodup_cons, List.mem_append, not_or, List.nodup_append] at h
  obtain ⟨⟨m1, m2, m3⟩, a1, ⟨c1, b1, cb⟩, acb⟩ := h
  rw [fpsC_app]
  simp only [List.nodup_cons, List.mem_append, not_or, List.nodup_append]
  refine ⟨⟨⟨m1, m3⟩, a1, b1, fun x hx y hy => acb x hx y (.inr hy)⟩, c1, m2, fun b hb => ⟨fun h => acb b h b (.inl hb) rfl, fun h => cb b hb b h rfl⟩⟩
theorem nd_put {m : Nat} {A B : List GCell} {c : GCell} (h : (m :: fpsC (A ++ B)).Nodup) (hc : c.fp.Nodup) (hm : m ∉ c.fp) (hd : ∀ b ∈ c.fp, b ∉ fpsC (A ++ B)) : (m :: fpsC (A ++ c :: B)).Nodup := by
  rw [fpsC_app] at h hd
  rw [fpsC_app, fpsC_cons]
  simp only [List.nodup_cons, List.mem_append, not_or, List.nodup_append] at h hd ⊢
  obtain ⟨⟨m1, m3⟩, a1, b1, ab⟩ := h
  refine ⟨⟨m1, hm, m3⟩, a1, ⟨hc, b1, fun x hx y hy e => (hd x hx).2 (e ▸ hy)⟩, fun x hx y hy => ?_⟩
  rcases hy with hy | hy
  · exact fun e => (hd y hy).1 (e ▸ hx)
  · exact ab x hx y hy
theorem xs_mid {A B : List GCell} {c : GCell} (h : ((A ++ c :: B).map (·.x)).Nodup) : ((A ++ B).map (·.x)).Nodup ∧ ∀ d ∈ A ++ B, d.x ≠ c.x := by
  rw [List.map_append, List.map_cons] at h
  simp only [List.nodup_append, List.nodup_cons] at h
  obtain ⟨a1, ⟨c1, b1⟩, ab⟩ := h
  refine ⟨?_, fun d hd => ?_⟩
  · rw [List.map_append, List.nodup_append]
    exact ⟨a1, b1, fun x hx y hy => ab x hx y (List.mem_cons_of_mem _ hy)⟩
  · rcases List.mem_append.1 hd with hd | hd
    · exact ab d.x (List.mem_map.2 ⟨d, hd, rfl⟩) c.x (List.mem_cons_self)
    · exact fun e => c1 (e ▸ List.mem_map.2 ⟨d, hd, rfl⟩)

/-- What was done to one cell. -/
structure CT (H K : AH) (c : GCell) (c' : GCell) : Prop where
  x : c'.x = c.x
  cb : c'.cb = c.cb
  old : ∀ b ∈ c'.fp, b ∈ c.fp ∨ H.next ≤ b
  nd : c'.fp.Nodup
  keep : ∀ k y, k ∉ c.fp → H.get k = some y → K.get k = some y
  next : H.next ≤ K.next
theorem CT.ks {H K : AH} {L : List Rs} {c c' : GCell} (h : CT H K c c') (hc : CellL H L c) : KD H K := KD.keep h.keep hc.work h.next
theorem CellsH.swap {H K : AH} {m : Nat} {ns : List Nm} {M M' : List Rs} {A B : List GCell} {c c' : GCell} (hw : WF H) (h : CellsH H m ns M (A ++ c :: B)) (ct : CT H K c c') (hc : CellL K (selM ns c.x M') c')
    (hs : ∀ x, x ≠ c.x → selM ns x M' = selM ns x M) : CellsH K m ns M' (A ++ c' :: B) := by
  obtain ⟨n1, n2, n3, n4⟩ := nd_mid h.nd
  obtain ⟨x1, x2⟩ := xs_mid h.xs
  have hks := (ct.ks (h.cell c (by simp))).ks
  have hcl := (h.cell c (by simp)).lt hw
  have hall : ∀ d ∈ A ++ B, d ∈ A ++ c :: B := fun d hd => by
    rcases List.mem_append.1 hd with hd | hd <;> simp [hd]
  have hlt := h.lt hw
  refine ⟨?_, fun ps v hv => ?_, fun d hd => ?_, fun d hd => ?_, ?_, ?_⟩
  · obtain ⟨ver, hv⟩ := h.map
    refine ⟨ver, ?_⟩
    have e : entC (A ++ c' :: B) = entC (A ++ c :: B) := by simp [entC, ct.x, ct.cb]
    rw [e]; exact ct.keep _ _ n3 hv
  · obtain ⟨ver, hv0⟩ := h.map
    have := ct.keep _ _ n3 hv0
    rw [hv] at this; cases this
    exact Nat.lt_of_lt_of_le (h.ver _ _ hv0) ct.next
  · by_cases e : d = c'
    · subst e; rw [ct.x]; exact hc
    · have hd' : d ∈ A ++ B := by simp at hd ⊢; rcases hd with h | h | h <;> simp_all
      rw [hs _ (x2 d hd')]
      refine (h.cell d (hall d hd')).keep (fun b hb y hy => ct.keep b y (fun hbc => n4 b hbc (CellsH.mem_fps hd' hb)) hy) hks
  · by_cases e : d = c'
    · subst e; rw [ct.x]; exact h.ok c (by simp)
    · have hd' : d ∈ A ++ B := by simp at hd ⊢; rcases hd with h | h | h <;> simp_all
      exact h.ok d (hall d hd')
  · refine nd_put n1 ct.nd (fun hm => ?_) fun b hb hb' => ?_
    · rcases ct.old m hm with h1 | h1
      · exact n3 h1
      · have := hlt m (List.mem_cons_self); omega
    · rcases ct.old b hb with h1 | h1
      · exact n4 b h1 hb'
      · have := hlt b (List.mem_cons_of_mem _ ((fpsC_mid A B c b).2 (.inr hb'))); omega
  · have e : (A ++ c' :: B).map (·.x) = (A ++ c :: B).map (·.x) := by simp [ct.x]
    rw [e]; exact h.xs

theorem getN_none : ∀ {cs : List GCell} {x : Ls}, (∀ c ∈ cs, checkM c.x = 0) → checkM x = 0 → (∀ c ∈ cs, c.x ≠ x) → getN (entC cs) (keyM x) = none
  | [], _, _, _, _ => rfl
  | c :: cs, x, h1, h2, h3 => by
    show getN ((keyM c.x, c.cb) :: entC cs) (keyM x) = none
    rw [getN, if_neg fun e => h3 c (List.mem_cons_self) (keyM_inj (h1 c (List.mem_cons_self)) h2 e.symm)]
    exact getN_none (fun d hd => h1 d (List.mem_cons_of_mem _ hd)) h2 fun d hd => h3 d (List.mem_cons_of_mem _ hd)
theorem getN_some : ∀ {A B : List GCell} {c : GCell}, (∀ d ∈ A ++ c :: B, checkM d.x = 0) → (∀ d ∈ A ++ B, d.x ≠ c.x) → getN (entC (A ++ c :: B)) (keyM c.x) = some c.cb
  | [], B, c, _, _ => by
    show getN ((keyM c.x, c.cb) :: entC B) (keyM c.x) = some c.cb
    rw [getN, if_pos rfl]
  | a :: A, B, c, h1, h2 => by
    show getN ((keyM a.x, a.cb) :: entC (A ++ c :: B)) (keyM c.x) = some c.cb
    rw [getN, if_neg fun e => h2 a (by simp) (keyM_inj (h1 a (by simp)) (h1 c (by simp)) e.symm)]
    exact getN_some (fun d hd => h1 d (List.mem_cons_of_mem _ hd)) fun d hd => h2 d (List.mem_cons_of_mem _ hd)
theorem setN_none : ∀ {E : List (List UInt8 × Nat)} {k : List UInt8} {b : Nat}, getN E k = none → setN E k b = E ++ [(k, b)]
  | [], _, _, _ => rfl
  | p :: ps, k, b, h => by
    rw [getN] at h
    split at h
    · cases h
    · rename_i hk
      rw [setN, if_neg hk, setN_none h]; rfl
theorem delN_mid : ∀ {A B : List GCell} {c : GCell}, (∀ d ∈ A ++ c :: B, checkM d.x = 0) → (∀ d ∈ A ++ B, d.x ≠ c.x) → delN (entC (A ++ c :: B)) (keyM c.x) = entC (A ++ B)
  | [], B, c, _, _ => by
    show delN ((keyM c.x, c.cb) :: entC B) (keyM c.x) = entC B
    rw [delN, if_pos rfl]
  | a :: A, B, c, h1, h2 => by
    show delN ((keyM a.x, a.cb) :: entC (A ++ c :: B)) (keyM c.x) = (keyM a.x, a.cb) :: entC (A ++ B)
    rw [delN, if_neg fun e => h2 a (by simp) (keyM_inj (h1 a (by simp)) (h1 c (by simp)) e.symm)]
    exact congrArg _ (delN_mid (fun d hd => h1 d (List.mem_cons_of_mem _ hd)) fun d hd => h2 d (List.mem_cons_of_mem _ hd))
/-- A cell is put to the others. -/
theorem CellsH.add {H K : AH} {m : Nat} {ns : List Nm} {M : List Rs} {cs : List GCell} {c : GCell} (hw : WF H) (h : CellsH H m ns M cs) (hm : ∃ ver, K.get m = some (.map (ents (entC (cs ++ [c]))) ver) ∧ ver < K.next) (hc : CellL K (selM ns c.x M) c) (hok : checkM c.x = 0)
    (hx : ∀ d ∈ cs, d.x ≠ c.x) (hnew : ∀ b ∈ c.fp, H.next ≤ b) (hnd : c.fp.Nodup) (hk : ∀ k y, k ≠ m → H.get k = some y → K.get k = some y) (hs : KS H K) : CellsH K m ns M (cs ++ [c]) := by
  have hlt := h.lt hw
  have hmc : m ∉ c.fp := fun hb => by have := hnew m hb; have := hlt m (List.mem_cons_self); omega
  refine ⟨let ⟨ver, h1, _⟩ := hm; ⟨ver, h1⟩, fun ps v hv => (by obtain ⟨ver, h1, h2⟩ := hm; rw [hv] at h1; cases h1; exact h2), fun d hd => ?_, fun d hd => ?_, ?_, ?_⟩
  · rcases List.mem_append.1 hd with hd | hd
    · refine (h.cell d hd).keep (fun b hb y hy => hk b y (fun e => ?_) hy) hs
      subst e
      exact (List.nodup_cons.1 h.nd).1 (CellsH.mem_fps hd hb)
    · simp at hd; subst hd; exact hc
  · rcases List.mem_append.1 hd with hd | hd
    · exact h.ok d hd
    · simp at hd; subst hd; exact hok
  · refine nd_put (A := cs) (B := []) (by rw [List.append_nil]; exact h.nd) hnd hmc fun b hb hb' => ?_
    rw [List.append_nil] at hb'
    have := hlt b (List.mem_cons_of_mem _ hb'); have := hnew b hb; omega
  · rw [List.map_append, List.nodup_append]
    refine ⟨h.xs, by simp, fun x hx' y hy => ?_⟩
    simp at hy
    obtain ⟨d, hd, rfl⟩ := List.mem_map.1 hx'
    rw [hy]; exact hx d hd
/-- A cell is taken from the others. -/
theorem CellsH.del {H K : AH} {m : Nat} {ns : List Nm} {M : List Rs} {A B : List GCell} {c : GCell} (h : CellsH H m ns M (A ++ c :: B)) (hm : ∃ ver, K.get m = some (.map (ents (entC (A ++ B))) ver) ∧ ver < K.next)
    (hk : ∀ k y, k ≠ m → H.get k = some y → K.get k = some y) (hs : KS H K) : CellsH K m ns M (A ++ B) := by
  obtain ⟨n1, n2, n3, n4⟩ := nd_mid h.nd
  obtain ⟨x1, x2⟩ := xs_mid h.xs
  have hall : ∀ d ∈ A ++ B, d ∈ A ++ c :: B := fun d hd => by
    rcases List.mem_append.1 hd with hd | hd <;> simp [hd]
  refine ⟨let ⟨ver, h1, _⟩ := hm; ⟨ver, h1⟩, fun ps v hv => (by obtain ⟨ver, h1, h2⟩ := hm; rw [hv] at h1; cases h1; exact h2), fun d hd => ?_, fun d hd => h.ok d (hall d hd), n1, x1⟩
  refine (h.cell d (hall d hd)).keep (fun b hb y hy => hk b y (fun e => ?_) hy) hs
  subst e
  exact (List.nodup_cons.1 n1).1 (CellsH.mem_fps hd hb)
end Go.Proofs.YtapokkpdgfpokaaGreat
