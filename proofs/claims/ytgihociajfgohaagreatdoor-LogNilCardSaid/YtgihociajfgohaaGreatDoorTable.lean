/- Log: the table of sums, walked for all of its rounds; no condition. -/
import Derived.Test.YtgihociajfgohaaGreatDoorTypes
open Go Go.AB Go.Proofs
namespace Go.Proofs.YtgihociajfgohaaGreatDoor
set_option linter.unusedSimpArgs false
set_option linter.unusedVariables false

/-- One step of a byte's. -/
def st (n : Nat) : Nat := if n % 2 = 1 then n / 2 ^^^ 2197175160 else n / 2
def stN : Nat → Nat → Nat
  | 0, n => n
  | j + 1, n => st (stN j n)
theorem st_lt {n : Nat} (h : n < 4294967296) : st n < 4294967296 := by
  unfold st
  split
  · exact Nat.xor_lt_two_pow (n := 32) (by omega) (by decide)
  · omega
theorem stN_lt : ∀ (j : Nat) {n : Nat}, n < 4294967296 → stN j n < 4294967296
  | 0, _, h => h
  | j + 1, _, h => st_lt (stN_lt j h)

def tabAV (n : Nat) : AV := .int .u32 ((stN 8 n : Nat) : Int)
def rowAV (i : Nat) : List AV := (List.range i).map tabAV ++ List.replicate (256 - i) (.int .u32 0)
theorem rowAV_length {i : Nat} (h : i ≤ 256) : (rowAV i).length = 256 := by simp [rowAV]; omega
theorem rowAV_set {i : Nat} (h : i < 256) : (rowAV i).set i (tabAV i) = rowAV (i + 1) := by
  unfold rowAV
  rw [List.set_append_right _ _ (by simp), List.range_succ, List.map_append, List.append_assoc]
  congr 1
  simp only [List.length_map, List.length_range, Nat.sub_self, List.map_cons, List.map_nil]
  rw [show 256 - i = (256 - (i + 1)) + 1 by omega, List.replicate_succ]
  simp
theorem row_all (i : Nat) : allOne (rowAV i) = true := by
  have h1 : ∀ l : List AV, (∀ a ∈ l, a.one = true) → allOne l = true := by
    intro l
    induction l with
    | nil => intro _; rfl
    | cons a l ih => intro h; simp only [allOne, h a (by simp), ih fun b hb => h b (by simp [hb]), Bool.and_true]
  refine h1 _ fun a ha => ?_
  unfold rowAV at ha
  rcases List.mem_append.1 ha with ha | ha
  · obtain ⟨n, _, rfl⟩ := List.mem_map.1 ha; rfl
  · obtain ⟨_, rfl⟩ := List.mem_replicate.1 ha; rfl

set_option maxHeartbeats 2000000 in
set_option maxRecDepth 100000 in
theorem table98 (N : Nat) (H : AH) : AC tC N 0 98 [] H fun r _ => r = .agg ((List.range 256).map tabAV) := by
  refine AC.by (n := 26) (rs := [.cell 0 119]) tOK fn98 rfl rfl rfl rfl ?_
  have hz : (AV.agg (List.replicate 256 (.int .u32 0))).cells = rowAV 0 := rfl
  have hal : ∀ (K : AH) (ev : Operand → AV) (d : Nat) (ty : TypeId) (pos : String) (after : Array Edge), evOp tC F0 K ev { dst := some d, op := .alloc 119, type := ty, pos, after, guard := none } = some (.ptr K.next 0, K.alloc (.cells false (rowAV 0))) := fun K ev d ty pos after => evOp_alloc ti119 rfl rfl
  with_reducible repeat' (first
    | refine AW.seq ?_
    | refine AW.region ?_
    | refine AW.block ?_
    | refine AW.scope ?_
    | refine AOs.nil ?_
    | refine AW.skip ?_
    | refine AW.exit ?_
    | refine AW.ret ?_
    | refine AW.label ?_
    | refine andThen_normal ?_
    | refine andThen_exit ?_
    | refine andThen_ret ?_
    | refine inBlock_normal ?_
    | refine inBlock_hit ?_
    | refine inBlock_ret ?_
    | refine inBlock_miss (by with_unfolding_all rfl) ?_
    | refine AOs.guardN (by with_unfolding_all rfl) (by simp only [aeval, PT.get_set, Nat.reduceEqDiff, reduceIte, hal]; rfl) (by with_unfolding_all rfl) ?_
    | refine AOs.guardT (by with_unfolding_all rfl) (by simp only [aeval, PT.get_set, Nat.reduceEqDiff, reduceIte, hal]; rfl) (by first | rfl | decide | assumption) ?_
    | refine AOs.guardF (by with_unfolding_all rfl) (by simp only [aeval, PT.get_set, Nat.reduceEqDiff, reduceIte, hal]; rfl) (by first | rfl | decide | assumption) (by with_unfolding_all rfl) ?_
    | refine AOs.guardF0 (by with_unfolding_all rfl) (by simp only [aeval, PT.get_set, Nat.reduceEqDiff, reduceIte, hal]; rfl) (by first | rfl | decide | assumption) ?_
    | refine AW.condT (by simp only [aeval, PT.get_set, Nat.reduceEqDiff, reduceIte, hal]; rfl) (by first | rfl | decide | assumption) ?_
    | refine AW.condF (by simp only [aeval, PT.get_set, Nat.reduceEqDiff, reduceIte, hal]; rfl) (by first | rfl | decide | assumption) ?_
    | refine AOs.op1 tOK (by simp only [evOp_move, evOp_assign, evOp_pick, evOp_build, evOp_nilCheck, evOp_binOp, evOp_not, evOp_fieldAddr, evOp_field, evOp_indexAddr, evOp_index, evOp_extract, evOp_makeFunc, evOp_load, evOp_lookup, evOp_store, evOp_mapUpdate, evOp_insert, evOp_range, evOp_makeMap, evOp_len, evOp_append, evOp_copy, evOp_delete, evOp_slice, evOp_convert, storeAt, one_bool, one_int, one_str, one_nilp, one_ptr, one_nils, one_slice, one_empty, one_nilm, one_map, one_func, one_nilf, one_iface, one_nili, aeval, ofVal, PT.get_set, Nat.reduceEqDiff, reduceIte, lenOfAV_slice, lenOfAV_nils, lenOfAV_empty, afield, apart, aindex, aconv, cellAt, cellsAt, mapLenAt, List.map_cons, List.map_nil, Option.map_some, Option.map_none, List.nil_append, List.append_nil, abin_add, abin_sub, abin_mul, abin_lss, abin_leq, abin_gtr, abin_geq, abin_eql, abin_neq, cond_true, cond_false, decide_true, decide_false, Bool.not_true, Bool.not_false, TI.agg, List.getElem?_cons_zero, List.getElem?_cons_succ, Nat.add_zero, Nat.zero_add, Nat.zero_mul, nbeq, nble, nblt, Nat.reduceLeDiff, Nat.reduceLT, Nat.reduceMul, Nat.reduceAdd, Nat.reduceSub, Bool.and_true, Bool.true_and, Bool.and_false, Bool.false_and, eq_self, Int.ofNat_eq_natCast, Int.cast_ofNat_Int, Int.natCast_zero, Int.reduceEq, Int.reduceLT, Int.reduceLE, Int.reduceNeg, ld3, st3, ld4, st4, ld5, st5, al9, ld9, st9, ld24, st24, ld27, st27, al28, ix28, bs28, ld28, st28, al32, ix32, bs32, ld32, st32, al37, ix37, bs37, ld37, st37, al40, ix40, bs40, ld40, st40, ld42, st42, fa63_0, ld63, fa65_0, fa65_1, fa65_2, fa65_3, fa65_4, fa65_5, ld65, ld96, st96, ld119, ix119, cv3_96, cv9_32, hal]; rfl) (by with_unfolding_all rfl) ?_
    | refine AOs.op0 tOK (by simp only [evOp_move, evOp_assign, evOp_pick, evOp_build, evOp_nilCheck, evOp_binOp, evOp_not, evOp_fieldAddr, evOp_field, evOp_indexAddr, evOp_index, evOp_extract, evOp_makeFunc, evOp_load, evOp_lookup, evOp_store, evOp_mapUpdate, evOp_insert, evOp_range, evOp_makeMap, evOp_len, evOp_append, evOp_copy, evOp_delete, evOp_slice, evOp_convert, storeAt, one_bool, one_int, one_str, one_nilp, one_ptr, one_nils, one_slice, one_empty, one_nilm, one_map, one_func, one_nilf, one_iface, one_nili, aeval, ofVal, PT.get_set, Nat.reduceEqDiff, reduceIte, lenOfAV_slice, lenOfAV_nils, lenOfAV_empty, afield, apart, aindex, aconv, cellAt, cellsAt, mapLenAt, List.map_cons, List.map_nil, Option.map_some, Option.map_none, List.nil_append, List.append_nil, abin_add, abin_sub, abin_mul, abin_lss, abin_leq, abin_gtr, abin_geq, abin_eql, abin_neq, cond_true, cond_false, decide_true, decide_false, Bool.not_true, Bool.not_false, TI.agg, List.getElem?_cons_zero, List.getElem?_cons_succ, Nat.add_zero, Nat.zero_add, Nat.zero_mul, nbeq, nble, nblt, Nat.reduceLeDiff, Nat.reduceLT, Nat.reduceMul, Nat.reduceAdd, Nat.reduceSub, Bool.and_true, Bool.true_and, Bool.and_false, Bool.false_and, eq_self, Int.ofNat_eq_natCast, Int.cast_ofNat_Int, Int.natCast_zero, Int.reduceEq, Int.reduceLT, Int.reduceLE, Int.reduceNeg, ld3, st3, ld4, st4, ld5, st5, al9, ld9, st9, ld24, st24, ld27, st27, al28, ix28, bs28, ld28, st28, al32, ix32, bs32, ld32, st32, al37, ix37, bs37, ld37, st37, al40, ix40, bs40, ld40, st40, ld42, st42, fa63_0, ld63, fa65_0, fa65_1, fa65_2, fa65_3, fa65_4, fa65_5, ld65, ld96, st96, ld119, ix119, cv3_96, cv9_32, hal]; rfl) ?_
    | fail "stop")
  have hz0 : (rowAV 0).length = 256 := rowAV_length (by omega)
  -- outer loop
  refine AW.loop (fun m T K => T.get 0 = some (.ptr H.next 0) ∧ T.get 1 = some (.ptr (H.next + 1) 0) ∧ ∃ i : Nat, i ≤ 256 ∧ m = 256 - i ∧ T.get 5 = some (.int .i64 i) ∧ K.get (H.next + 1) = some (.cells false (rowAV i)) ∧ K.get H.next = some (.cells false (rowAV 0))) ?_ (256 - 0)
    ⟨by simp [PT.get_set], by simp [PT.get_set], 0, by omega, rfl, by simp [PT.get_set], by simp [AH.get_alloc], by simp [AH.get_alloc]⟩
  rintro m T K ⟨h0, h1, i, hi, rfl, h5, hk1, hk0⟩
  by_cases hlt : i < 256
  · have hd : decide ((i : Int) < 256) = true := by simp; omega
    have hcv : IntKind.wrap .u32 (i : Int) = ((stN 0 i : Nat) : Int) := wrapU32 (by omega)
    with_reducible repeat' (first
      | refine AW.seq ?_
      | refine AW.region ?_
      | refine AW.block ?_
      | refine AW.scope ?_
      | refine AOs.nil ?_
      | refine AW.skip ?_
      | refine AW.exit ?_
      | refine AW.ret ?_
      | refine AW.label ?_
      | refine andThen_normal ?_
      | refine andThen_exit ?_
      | refine andThen_ret ?_
      | refine inBlock_normal ?_
      | refine inBlock_hit ?_
      | refine inBlock_ret ?_
      | refine inBlock_miss (by with_unfolding_all rfl) ?_
      | refine AOs.guardN (by with_unfolding_all rfl) (by simp only [aeval, PT.get_set, Nat.reduceEqDiff, reduceIte, h0, h1, h5, hd, hcv]; rfl) (by with_unfolding_all rfl) ?_
      | refine AOs.guardT (by with_unfolding_all rfl) (by simp only [aeval, PT.get_set, Nat.reduceEqDiff, reduceIte, h0, h1, h5, hd, hcv]; rfl) (by first | rfl | decide | assumption) ?_
      | refine AOs.guardF (by with_unfolding_all rfl) (by simp only [aeval, PT.get_set, Nat.reduceEqDiff, reduceIte, h0, h1, h5, hd, hcv]; rfl) (by first | rfl | decide | assumption) (by with_unfolding_all rfl) ?_
      | refine AOs.guardF0 (by with_unfolding_all rfl) (by simp only [aeval, PT.get_set, Nat.reduceEqDiff, reduceIte, h0, h1, h5, hd, hcv]; rfl) (by first | rfl | decide | assumption) ?_
      | refine AW.condT (by simp only [aeval, PT.get_set, Nat.reduceEqDiff, reduceIte, h0, h1, h5, hd, hcv]; rfl) (by first | rfl | decide | assumption) ?_
      | refine AW.condF (by simp only [aeval, PT.get_set, Nat.reduceEqDiff, reduceIte, h0, h1, h5, hd, hcv]; rfl) (by first | rfl | decide | assumption) ?_
      | refine AOs.op1 tOK (by simp only [evOp_move, evOp_assign, evOp_pick, evOp_build, evOp_nilCheck, evOp_binOp, evOp_not, evOp_fieldAddr, evOp_field, evOp_indexAddr, evOp_index, evOp_extract, evOp_makeFunc, evOp_load, evOp_lookup, evOp_store, evOp_mapUpdate, evOp_insert, evOp_range, evOp_makeMap, evOp_len, evOp_append, evOp_copy, evOp_delete, evOp_slice, evOp_convert, storeAt, one_bool, one_int, one_str, one_nilp, one_ptr, one_nils, one_slice, one_empty, one_nilm, one_map, one_func, one_nilf, one_iface, one_nili, aeval, ofVal, PT.get_set, Nat.reduceEqDiff, reduceIte, lenOfAV_slice, lenOfAV_nils, lenOfAV_empty, afield, apart, aindex, aconv, cellAt, cellsAt, mapLenAt, List.map_cons, List.map_nil, Option.map_some, Option.map_none, List.nil_append, List.append_nil, abin_add, abin_sub, abin_mul, abin_lss, abin_leq, abin_gtr, abin_geq, abin_eql, abin_neq, cond_true, cond_false, decide_true, decide_false, Bool.not_true, Bool.not_false, TI.agg, List.getElem?_cons_zero, List.getElem?_cons_succ, Nat.add_zero, Nat.zero_add, Nat.zero_mul, nbeq, nble, nblt, Nat.reduceLeDiff, Nat.reduceLT, Nat.reduceMul, Nat.reduceAdd, Nat.reduceSub, Bool.and_true, Bool.true_and, Bool.and_false, Bool.false_and, eq_self, Int.ofNat_eq_natCast, Int.cast_ofNat_Int, Int.natCast_zero, Int.reduceEq, Int.reduceLT, Int.reduceLE, Int.reduceNeg, ld3, st3, ld4, st4, ld5, st5, al9, ld9, st9, ld24, st24, ld27, st27, al28, ix28, bs28, ld28, st28, al32, ix32, bs32, ld32, st32, al37, ix37, bs37, ld37, st37, al40, ix40, bs40, ld40, st40, ld42, st42, fa63_0, ld63, fa65_0, fa65_1, fa65_2, fa65_3, fa65_4, fa65_5, ld65, ld96, st96, ld119, ix119, cv3_96, cv9_32, h0, h1, h5, hd, hcv]; rfl) (by with_unfolding_all rfl) ?_
      | refine AOs.op0 tOK (by simp only [evOp_move, evOp_assign, evOp_pick, evOp_build, evOp_nilCheck, evOp_binOp, evOp_not, evOp_fieldAddr, evOp_field, evOp_indexAddr, evOp_index, evOp_extract, evOp_makeFunc, evOp_load, evOp_lookup, evOp_store, evOp_mapUpdate, evOp_insert, evOp_range, evOp_makeMap, evOp_len, evOp_append, evOp_copy, evOp_delete, evOp_slice, evOp_convert, storeAt, one_bool, one_int, one_str, one_nilp, one_ptr, one_nils, one_slice, one_empty, one_nilm, one_map, one_func, one_nilf, one_iface, one_nili, aeval, ofVal, PT.get_set, Nat.reduceEqDiff, reduceIte, lenOfAV_slice, lenOfAV_nils, lenOfAV_empty, afield, apart, aindex, aconv, cellAt, cellsAt, mapLenAt, List.map_cons, List.map_nil, Option.map_some, Option.map_none, List.nil_append, List.append_nil, abin_add, abin_sub, abin_mul, abin_lss, abin_leq, abin_gtr, abin_geq, abin_eql, abin_neq, cond_true, cond_false, decide_true, decide_false, Bool.not_true, Bool.not_false, TI.agg, List.getElem?_cons_zero, List.getElem?_cons_succ, Nat.add_zero, Nat.zero_add, Nat.zero_mul, nbeq, nble, nblt, Nat.reduceLeDiff, Nat.reduceLT, Nat.reduceMul, Nat.reduceAdd, Nat.reduceSub, Bool.and_true, Bool.true_and, Bool.and_false, Bool.false_and, eq_self, Int.ofNat_eq_natCast, Int.cast_ofNat_Int, Int.natCast_zero, Int.reduceEq, Int.reduceLT, Int.reduceLE, Int.reduceNeg, ld3, st3, ld4, st4, ld5, st5, al9, ld9, st9, ld24, st24, ld27, st27, al28, ix28, bs28, ld28, st28, al32, ix32, bs32, ld32, st32, al37, ix37, bs37, ld37, st37, al40, ix40, bs40, ld40, st40, ld42, st42, fa63_0, ld63, fa65_0, fa65_1, fa65_2, fa65_3, fa65_4, fa65_5, ld65, ld96, st96, ld119, ix119, cv3_96, cv9_32, h0, h1, h5, hd, hcv]; rfl) ?_
      | fail "stop")
    -- inner loop
    refine AW.loop (fun m T' K' => K' = K ∧ T'.get 0 = some (.ptr H.next 0) ∧ T'.get 1 = some (.ptr (H.next + 1) 0) ∧ T'.get 2 = some (.int .i64 i) ∧ T'.get 5 = some (.int .i64 i) ∧ ∃ j : Nat, j ≤ 8 ∧ m = 8 - j ∧ T'.get 10 = some (.int .i64 j) ∧ T'.get 3 = some (.int .u32 ((stN j i : Nat) : Int))) ?_ (8 - 0)
      ⟨rfl, by simp [PT.get_set, h0], by simp [PT.get_set, h1], by simp [PT.get_set], by simp [PT.get_set, h5], 0, by omega, rfl, by simp [PT.get_set], by simp [PT.get_set]⟩
    rintro m T K' ⟨rfl, g0, g1, g2, g5, j, hj, rfl, g10, g3⟩
    have hx := stN_lt j (show i < 4294967296 by omega)
    have hx2 : stN j i / 2 < 4294967296 := by omega
    have hand : ∀ cst, abin tC .and 96 cst (.int .u32 ((stN j i : Nat) : Int)) (.int .u32 1) = some (.int .u32 ((stN j i % 2 : Nat) : Int)) := fun cst => by
      have := abin_and32 (C := tC) (t := 96) (cst := cst) (m := 1) hx (by decide)
      rw [Nat.and_one_is_mod] at this
      exact this
    have hshr : ∀ cst k', abin tC .shr 96 cst (.int .u32 ((stN j i : Nat) : Int)) (.int k' 1) = some (.int .u32 ((stN j i / 2 : Nat) : Int)) := fun cst k' => by
      have := abin_shr (C := tC) (t := 96) (cst := cst) (n := stN j i) (m := 1) (k := .u32) (k' := k') (by decide)
      simpa using this
    have hxor : ∀ cst, abin tC .xor 96 cst (.int .u32 ((stN j i / 2 : Nat) : Int)) (.int .u32 2197175160) = some (.int .u32 ((stN j i / 2 ^^^ 2197175160 : Nat) : Int)) := fun cst =>
      abin_xor32 (C := tC) (t := 96) (cst := cst) (m := 2197175160) hx2 (by decide)
    by_cases hjl : j < 8
    · have hjd : decide ((j : Int) < 8) = true := by simp; omega
      by_cases ho : stN j i % 2 = 1
      · have hod : decide (((stN j i % 2 : Nat) : Int) = 1) = true := by rw [ho]; rfl
        with_reducible repeat' (first
          | refine AW.seq ?_
          | refine AW.region ?_
          | refine AW.block ?_
          | refine AW.scope ?_
          | refine AOs.nil ?_
          | refine AW.skip ?_
          | refine AW.exit ?_
          | refine AW.ret ?_
          | refine AW.label ?_
          | refine andThen_normal ?_
          | refine andThen_exit ?_
          | refine andThen_ret ?_
          | refine inBlock_normal ?_
          | refine inBlock_hit ?_
          | refine inBlock_ret ?_
          | refine inBlock_miss (by with_unfolding_all rfl) ?_
          | refine AOs.guardN (by with_unfolding_all rfl) (by simp only [aeval, PT.get_set, Nat.reduceEqDiff, reduceIte, g0, g1, g2, g3, g5, g10, hjd, hand, hshr, hxor, hod]; rfl) (by with_unfolding_all rfl) ?_
          | refine AOs.guardT (by with_unfolding_all rfl) (by simp only [aeval, PT.get_set, Nat.reduceEqDiff, reduceIte, g0, g1, g2, g3, g5, g10, hjd, hand, hshr, hxor, hod]; rfl) (by first | rfl | decide | assumption) ?_
          | refine AOs.guardF (by with_unfolding_all rfl) (by simp only [aeval, PT.get_set, Nat.reduceEqDiff, reduceIte, g0, g1, g2, g3, g5, g10, hjd, hand, hshr, hxor, hod]; rfl) (by first | rfl | decide | assumption) (by with_unfolding_all rfl) ?_
          | refine AOs.guardF0 (by with_unfolding_all rfl) (by simp only [aeval, PT.get_set, Nat.reduceEqDiff, reduceIte, g0, g1, g2, g3, g5, g10, hjd, hand, hshr, hxor, hod]; rfl) (by first | rfl | decide | assumption) ?_
          | refine AW.condT (by simp only [aeval, PT.get_set, Nat.reduceEqDiff, reduceIte, g0, g1, g2, g3, g5, g10, hjd, hand, hshr, hxor, hod]; rfl) (by first | rfl | decide | assumption) ?_
          | refine AW.condF (by simp only [aeval, PT.get_set, Nat.reduceEqDiff, reduceIte, g0, g1, g2, g3, g5, g10, hjd, hand, hshr, hxor, hod]; rfl) (by first | rfl | decide | assumption) ?_
          | refine AOs.op1 tOK (by simp only [evOp_move, evOp_assign, evOp_pick, evOp_build, evOp_nilCheck, evOp_binOp, evOp_not, evOp_fieldAddr, evOp_field, evOp_indexAddr, evOp_index, evOp_extract, evOp_makeFunc, evOp_load, evOp_lookup, evOp_store, evOp_mapUpdate, evOp_insert, evOp_range, evOp_makeMap, evOp_len, evOp_append, evOp_copy, evOp_delete, evOp_slice, evOp_convert, storeAt, one_bool, one_int, one_str, one_nilp, one_ptr, one_nils, one_slice, one_empty, one_nilm, one_map, one_func, one_nilf, one_iface, one_nili, aeval, ofVal, PT.get_set, Nat.reduceEqDiff, reduceIte, lenOfAV_slice, lenOfAV_nils, lenOfAV_empty, afield, apart, aindex, aconv, cellAt, cellsAt, mapLenAt, List.map_cons, List.map_nil, Option.map_some, Option.map_none, List.nil_append, List.append_nil, abin_add, abin_sub, abin_mul, abin_lss, abin_leq, abin_gtr, abin_geq, abin_eql, abin_neq, cond_true, cond_false, decide_true, decide_false, Bool.not_true, Bool.not_false, TI.agg, List.getElem?_cons_zero, List.getElem?_cons_succ, Nat.add_zero, Nat.zero_add, Nat.zero_mul, nbeq, nble, nblt, Nat.reduceLeDiff, Nat.reduceLT, Nat.reduceMul, Nat.reduceAdd, Nat.reduceSub, Bool.and_true, Bool.true_and, Bool.and_false, Bool.false_and, eq_self, Int.ofNat_eq_natCast, Int.cast_ofNat_Int, Int.natCast_zero, Int.reduceEq, Int.reduceLT, Int.reduceLE, Int.reduceNeg, ld3, st3, ld4, st4, ld5, st5, al9, ld9, st9, ld24, st24, ld27, st27, al28, ix28, bs28, ld28, st28, al32, ix32, bs32, ld32, st32, al37, ix37, bs37, ld37, st37, al40, ix40, bs40, ld40, st40, ld42, st42, fa63_0, ld63, fa65_0, fa65_1, fa65_2, fa65_3, fa65_4, fa65_5, ld65, ld96, st96, ld119, ix119, cv3_96, cv9_32, g0, g1, g2, g3, g5, g10, hjd, hand, hshr, hxor, hod]; rfl) (by with_unfolding_all rfl) ?_
          | refine AOs.op0 tOK (by simp only [evOp_move, evOp_assign, evOp_pick, evOp_build, evOp_nilCheck, evOp_binOp, evOp_not, evOp_fieldAddr, evOp_field, evOp_indexAddr, evOp_index, evOp_extract, evOp_makeFunc, evOp_load, evOp_lookup, evOp_store, evOp_mapUpdate, evOp_insert, evOp_range, evOp_makeMap, evOp_len, evOp_append, evOp_copy, evOp_delete, evOp_slice, evOp_convert, storeAt, one_bool, one_int, one_str, one_nilp, one_ptr, one_nils, one_slice, one_empty, one_nilm, one_map, one_func, one_nilf, one_iface, one_nili, aeval, ofVal, PT.get_set, Nat.reduceEqDiff, reduceIte, lenOfAV_slice, lenOfAV_nils, lenOfAV_empty, afield, apart, aindex, aconv, cellAt, cellsAt, mapLenAt, List.map_cons, List.map_nil, Option.map_some, Option.map_none, List.nil_append, List.append_nil, abin_add, abin_sub, abin_mul, abin_lss, abin_leq, abin_gtr, abin_geq, abin_eql, abin_neq, cond_true, cond_false, decide_true, decide_false, Bool.not_true, Bool.not_false, TI.agg, List.getElem?_cons_zero, List.getElem?_cons_succ, Nat.add_zero, Nat.zero_add, Nat.zero_mul, nbeq, nble, nblt, Nat.reduceLeDiff, Nat.reduceLT, Nat.reduceMul, Nat.reduceAdd, Nat.reduceSub, Bool.and_true, Bool.true_and, Bool.and_false, Bool.false_and, eq_self, Int.ofNat_eq_natCast, Int.cast_ofNat_Int, Int.natCast_zero, Int.reduceEq, Int.reduceLT, Int.reduceLE, Int.reduceNeg, ld3, st3, ld4, st4, ld5, st5, al9, ld9, st9, ld24, st24, ld27, st27, al28, ix28, bs28, ld28, st28, al32, ix32, bs32, ld32, st32, al37, ix37, bs37, ld37, st37, al40, ix40, bs40, ld40, st40, ld42, st42, fa63_0, ld63, fa65_0, fa65_1, fa65_2, fa65_3, fa65_4, fa65_5, ld65, ld96, st96, ld119, ix119, cv3_96, cv9_32, g0, g1, g2, g3, g5, g10, hjd, hand, hshr, hxor, hod]; rfl) ?_
          | fail "stop")
        refine ⟨8 - (j + 1), by omega, rfl, by simp [PT.get_set, g0], by simp [PT.get_set, g1], by simp [PT.get_set, g2], by simp [PT.get_set, g5], j + 1, by omega, rfl, ?_, ?_⟩
        · simp only [PT.get_set, Nat.reduceEqDiff, reduceIte, wrap64_succ (show j < 9223372036854775807 by omega)]
        · simp only [PT.get_set, Nat.reduceEqDiff, reduceIte, stN, st, ho]
      · have hod : decide (((stN j i % 2 : Nat) : Int) = 1) = false := by simp; omega
        with_reducible repeat' (first
          | refine AW.seq ?_
          | refine AW.region ?_
          | refine AW.block ?_
          | refine AW.scope ?_
          | refine AOs.nil ?_
          | refine AW.skip ?_
          | refine AW.exit ?_
          | refine AW.ret ?_
          | refine AW.label ?_
          | refine andThen_normal ?_
          | refine andThen_exit ?_
          | refine andThen_ret ?_
          | refine inBlock_normal ?_
          | refine inBlock_hit ?_
          | refine inBlock_ret ?_
          | refine inBlock_miss (by with_unfolding_all rfl) ?_
          | refine AOs.guardN (by with_unfolding_all rfl) (by simp only [aeval, PT.get_set, Nat.reduceEqDiff, reduceIte, g0, g1, g2, g3, g5, g10, hjd, hand, hshr, hod]; rfl) (by with_unfolding_all rfl) ?_
          | refine AOs.guardT (by with_unfolding_all rfl) (by simp only [aeval, PT.get_set, Nat.reduceEqDiff, reduceIte, g0, g1, g2, g3, g5, g10, hjd, hand, hshr, hod]; rfl) (by first | rfl | decide | assumption) ?_
          | refine AOs.guardF (by with_unfolding_all rfl) (by simp only [aeval, PT.get_set, Nat.reduceEqDiff, reduceIte, g0, g1, g2, g3, g5, g10, hjd, hand, hshr, hod]; rfl) (by first | rfl | decide | assumption) (by with_unfolding_all rfl) ?_
          | refine AOs.guardF0 (by with_unfolding_all rfl) (by simp only [aeval, PT.get_set, Nat.reduceEqDiff, reduceIte, g0, g1, g2, g3, g5, g10, hjd, hand, hshr, hod]; rfl) (by first | rfl | decide | assumption) ?_
          | refine AW.condT (by simp only [aeval, PT.get_set, Nat.reduceEqDiff, reduceIte, g0, g1, g2, g3, g5, g10, hjd, hand, hshr, hod]; rfl) (by first | rfl | decide | assumption) ?_
          | refine AW.condF (by simp only [aeval, PT.get_set, Nat.reduceEqDiff, reduceIte, g0, g1, g2, g3, g5, g10, hjd, hand, hshr, hod]; rfl) (by first | rfl | decide | assumption) ?_
          | refine AOs.op1 tOK (by simp only [evOp_move, evOp_assign, evOp_pick, evOp_build, evOp_nilCheck, evOp_binOp, evOp_not, evOp_fieldAddr, evOp_field, evOp_indexAddr, evOp_index, evOp_extract, evOp_makeFunc, evOp_load, evOp_lookup, evOp_store, evOp_mapUpdate, evOp_insert, evOp_range, evOp_makeMap, evOp_len, evOp_append, evOp_copy, evOp_delete, evOp_slice, evOp_convert, storeAt, one_bool, one_int, one_str, one_nilp, one_ptr, one_nils, one_slice, one_empty, one_nilm, one_map, one_func, one_nilf, one_iface, one_nili, aeval, ofVal, PT.get_set, Nat.reduceEqDiff, reduceIte, lenOfAV_slice, lenOfAV_nils, lenOfAV_empty, afield, apart, aindex, aconv, cellAt, cellsAt, mapLenAt, List.map_cons, List.map_nil, Option.map_some, Option.map_none, List.nil_append, List.append_nil, abin_add, abin_sub, abin_mul, abin_lss, abin_leq, abin_gtr, abin_geq, abin_eql, abin_neq, cond_true, cond_false, decide_true, decide_false, Bool.not_true, Bool.not_false, TI.agg, List.getElem?_cons_zero, List.getElem?_cons_succ, Nat.add_zero, Nat.zero_add, Nat.zero_mul, nbeq, nble, nblt, Nat.reduceLeDiff, Nat.reduceLT, Nat.reduceMul, Nat.reduceAdd, Nat.reduceSub, Bool.and_true, Bool.true_and, Bool.and_false, Bool.false_and, eq_self, Int.ofNat_eq_natCast, Int.cast_ofNat_Int, Int.natCast_zero, Int.reduceEq, Int.reduceLT, Int.reduceLE, Int.reduceNeg, ld3, st3, ld4, st4, ld5, st5, al9, ld9, st9, ld24, st24, ld27, st27, al28, ix28, bs28, ld28, st28, al32, ix32, bs32, ld32, st32, al37, ix37, bs37, ld37, st37, al40, ix40, bs40, ld40, st40, ld42, st42, fa63_0, ld63, fa65_0, fa65_1, fa65_2, fa65_3, fa65_4, fa65_5, ld65, ld96, st96, ld119, ix119, cv3_96, cv9_32, g0, g1, g2, g3, g5, g10, hjd, hand, hshr, hod]; rfl) (by with_unfolding_all rfl) ?_
          | refine AOs.op0 tOK (by simp only [evOp_move, evOp_assign, evOp_pick, evOp_build, evOp_nilCheck, evOp_binOp, evOp_not, evOp_fieldAddr, evOp_field, evOp_indexAddr, evOp_index, evOp_extract, evOp_makeFunc, evOp_load, evOp_lookup, evOp_store, evOp_mapUpdate, evOp_insert, evOp_range, evOp_makeMap, evOp_len, evOp_append, evOp_copy, evOp_delete, evOp_slice, evOp_convert, storeAt, one_bool, one_int, one_str, one_nilp, one_ptr, one_nils, one_slice, one_empty, one_nilm, one_map, one_func, one_nilf, one_iface, one_nili, aeval, ofVal, PT.get_set, Nat.reduceEqDiff, reduceIte, lenOfAV_slice, lenOfAV_nils, lenOfAV_empty, afield, apart, aindex, aconv, cellAt, cellsAt, mapLenAt, List.map_cons, List.map_nil, Option.map_some, Option.map_none, List.nil_append, List.append_nil, abin_add, abin_sub, abin_mul, abin_lss, abin_leq, abin_gtr, abin_geq, abin_eql, abin_neq, cond_true, cond_false, decide_true, decide_false, Bool.not_true, Bool.not_false, TI.agg, List.getElem?_cons_zero, List.getElem?_cons_succ, Nat.add_zero, Nat.zero_add, Nat.zero_mul, nbeq, nble, nblt, Nat.reduceLeDiff, Nat.reduceLT, Nat.reduceMul, Nat.reduceAdd, Nat.reduceSub, Bool.and_true, Bool.true_and, Bool.and_false, Bool.false_and, eq_self, Int.ofNat_eq_natCast, Int.cast_ofNat_Int, Int.natCast_zero, Int.reduceEq, Int.reduceLT, Int.reduceLE, Int.reduceNeg, ld3, st3, ld4, st4, ld5, st5, al9, ld9, st9, ld24, st24, ld27, st27, al28, ix28, bs28, ld28, st28, al32, ix32, bs32, ld32, st32, al37, ix37, bs37, ld37, st37, al40, ix40, bs40, ld40, st40, ld42, st42, fa63_0, ld63, fa65_0, fa65_1, fa65_2, fa65_3, fa65_4, fa65_5, ld65, ld96, st96, ld119, ix119, cv3_96, cv9_32, g0, g1, g2, g3, g5, g10, hjd, hand, hshr, hod]; rfl) ?_
          | fail "stop")
        refine ⟨8 - (j + 1), by omega, rfl, by simp [PT.get_set, g0], by simp [PT.get_set, g1], by simp [PT.get_set, g2], by simp [PT.get_set, g5], j + 1, by omega, rfl, ?_, ?_⟩
        · simp only [PT.get_set, Nat.reduceEqDiff, reduceIte, wrap64_succ (show j < 9223372036854775807 by omega)]
        · simp only [PT.get_set, Nat.reduceEqDiff, reduceIte, stN, st, ho]
    · have hjd : decide ((j : Int) < 8) = false := by simp; omega
      obtain rfl : j = 8 := by omega
      have hlen := rowAV_length hi
      have hin : i * 1 < (rowAV i).length := by omega
      with_reducible repeat' (first
        | refine AW.seq ?_
        | refine AW.region ?_
        | refine AW.block ?_
        | refine AW.scope ?_
        | refine AOs.nil ?_
        | refine AW.skip ?_
        | refine AW.exit ?_
        | refine AW.ret ?_
        | refine AW.label ?_
        | refine andThen_normal ?_
        | refine andThen_exit ?_
        | refine andThen_ret ?_
        | refine inBlock_normal ?_
        | refine inBlock_hit ?_
        | refine inBlock_ret ?_
        | refine inBlock_miss (by with_unfolding_all rfl) ?_
        | refine AOs.guardN (by with_unfolding_all rfl) (by simp only [aeval, PT.get_set, Nat.reduceEqDiff, reduceIte, g0, g1, g2, g3, g5, g10, hjd, hlt, hk1, hin]; rfl) (by with_unfolding_all rfl) ?_
        | refine AOs.guardT (by with_unfolding_all rfl) (by simp only [aeval, PT.get_set, Nat.reduceEqDiff, reduceIte, g0, g1, g2, g3, g5, g10, hjd, hlt, hk1, hin]; rfl) (by first | rfl | decide | assumption) ?_
        | refine AOs.guardF (by with_unfolding_all rfl) (by simp only [aeval, PT.get_set, Nat.reduceEqDiff, reduceIte, g0, g1, g2, g3, g5, g10, hjd, hlt, hk1, hin]; rfl) (by first | rfl | decide | assumption) (by with_unfolding_all rfl) ?_
        | refine AOs.guardF0 (by with_unfolding_all rfl) (by simp only [aeval, PT.get_set, Nat.reduceEqDiff, reduceIte, g0, g1, g2, g3, g5, g10, hjd, hlt, hk1, hin]; rfl) (by first | rfl | decide | assumption) ?_
        | refine AW.condT (by simp only [aeval, PT.get_set, Nat.reduceEqDiff, reduceIte, g0, g1, g2, g3, g5, g10, hjd, hlt, hk1, hin]; rfl) (by first | rfl | decide | assumption) ?_
        | refine AW.condF (by simp only [aeval, PT.get_set, Nat.reduceEqDiff, reduceIte, g0, g1, g2, g3, g5, g10, hjd, hlt, hk1, hin]; rfl) (by first | rfl | decide | assumption) ?_
        | refine AOs.op1 tOK (by simp only [evOp_move, evOp_assign, evOp_pick, evOp_build, evOp_nilCheck, evOp_binOp, evOp_not, evOp_fieldAddr, evOp_field, evOp_indexAddr, evOp_index, evOp_extract, evOp_makeFunc, evOp_load, evOp_lookup, evOp_store, evOp_mapUpdate, evOp_insert, evOp_range, evOp_makeMap, evOp_len, evOp_append, evOp_copy, evOp_delete, evOp_slice, evOp_convert, storeAt, one_bool, one_int, one_str, one_nilp, one_ptr, one_nils, one_slice, one_empty, one_nilm, one_map, one_func, one_nilf, one_iface, one_nili, aeval, ofVal, PT.get_set, Nat.reduceEqDiff, reduceIte, lenOfAV_slice, lenOfAV_nils, lenOfAV_empty, afield, apart, aindex, aconv, cellAt, cellsAt, mapLenAt, List.map_cons, List.map_nil, Option.map_some, Option.map_none, List.nil_append, List.append_nil, abin_add, abin_sub, abin_mul, abin_lss, abin_leq, abin_gtr, abin_geq, abin_eql, abin_neq, cond_true, cond_false, decide_true, decide_false, Bool.not_true, Bool.not_false, TI.agg, List.getElem?_cons_zero, List.getElem?_cons_succ, Nat.add_zero, Nat.zero_add, Nat.zero_mul, nbeq, nble, nblt, Nat.reduceLeDiff, Nat.reduceLT, Nat.reduceMul, Nat.reduceAdd, Nat.reduceSub, Bool.and_true, Bool.true_and, Bool.and_false, Bool.false_and, eq_self, Int.ofNat_eq_natCast, Int.cast_ofNat_Int, Int.natCast_zero, Int.reduceEq, Int.reduceLT, Int.reduceLE, Int.reduceNeg, ld3, st3, ld4, st4, ld5, st5, al9, ld9, st9, ld24, st24, ld27, st27, al28, ix28, bs28, ld28, st28, al32, ix32, bs32, ld32, st32, al37, ix37, bs37, ld37, st37, al40, ix40, bs40, ld40, st40, ld42, st42, fa63_0, ld63, fa65_0, fa65_1, fa65_2, fa65_3, fa65_4, fa65_5, ld65, ld96, st96, ld119, ix119, cv3_96, cv9_32, g0, g1, g2, g3, g5, g10, hjd, hlt, hk1, hin]; rfl) (by with_unfolding_all rfl) ?_
        | refine AOs.op0 tOK (by simp only [evOp_move, evOp_assign, evOp_pick, evOp_build, evOp_nilCheck, evOp_binOp, evOp_not, evOp_fieldAddr, evOp_field, evOp_indexAddr, evOp_index, evOp_extract, evOp_makeFunc, evOp_load, evOp_lookup, evOp_store, evOp_mapUpdate, evOp_insert, evOp_range, evOp_makeMap, evOp_len, evOp_append, evOp_copy, evOp_delete, evOp_slice, evOp_convert, storeAt, one_bool, one_int, one_str, one_nilp, one_ptr, one_nils, one_slice, one_empty, one_nilm, one_map, one_func, one_nilf, one_iface, one_nili, aeval, ofVal, PT.get_set, Nat.reduceEqDiff, reduceIte, lenOfAV_slice, lenOfAV_nils, lenOfAV_empty, afield, apart, aindex, aconv, cellAt, cellsAt, mapLenAt, List.map_cons, List.map_nil, Option.map_some, Option.map_none, List.nil_append, List.append_nil, abin_add, abin_sub, abin_mul, abin_lss, abin_leq, abin_gtr, abin_geq, abin_eql, abin_neq, cond_true, cond_false, decide_true, decide_false, Bool.not_true, Bool.not_false, TI.agg, List.getElem?_cons_zero, List.getElem?_cons_succ, Nat.add_zero, Nat.zero_add, Nat.zero_mul, nbeq, nble, nblt, Nat.reduceLeDiff, Nat.reduceLT, Nat.reduceMul, Nat.reduceAdd, Nat.reduceSub, Bool.and_true, Bool.true_and, Bool.and_false, Bool.false_and, eq_self, Int.ofNat_eq_natCast, Int.cast_ofNat_Int, Int.natCast_zero, Int.reduceEq, Int.reduceLT, Int.reduceLE, Int.reduceNeg, ld3, st3, ld4, st4, ld5, st5, al9, ld9, st9, ld24, st24, ld27, st27, al28, ix28, bs28, ld28, st28, al32, ix32, bs32, ld32, st32, al37, ix37, bs37, ld37, st37, al40, ix40, bs40, ld40, st40, ld42, st42, fa63_0, ld63, fa65_0, fa65_1, fa65_2, fa65_3, fa65_4, fa65_5, ld65, ld96, st96, ld119, ix119, cv3_96, cv9_32, g0, g1, g2, g3, g5, g10, hjd, hlt, hk1, hin]; rfl) ?_
        | fail "stop")
      refine ⟨256 - (i + 1), by omega, by simp [PT.get_set, g0], by simp [PT.get_set, g1], i + 1, by omega, rfl, ?_, ?_, ?_⟩
      · simp only [PT.get_set, Nat.reduceEqDiff, reduceIte, wrap64_succ (show i < 9223372036854775807 by omega)]
      · rw [AH.get_set, if_pos rfl, Nat.mul_one, ← rowAV_set hlt]; rfl
      · rw [AH.get_set, if_neg (by omega)]; exact hk0
  · have hd : decide ((i : Int) < 256) = false := by simp; omega
    obtain rfl : i = 256 := by omega
    have hlen := rowAV_length hi
    have h256 : ((rowAV 256).drop 0).take 256 = rowAV 256 := by rw [List.drop_zero, List.take_of_length_le (by omega)]
    have hst : astore tC K 119 (.ptr H.next 0) (.agg (rowAV 256)) = some (K.set H.next (.cells false (splice (rowAV 0) 0 (rowAV 256)))) := astore_agg ti119 hk0 (by rw [hlen]) (row_all _) (by rw [hlen, hz0]; omega)
    with_reducible repeat' (first
      | refine AW.seq ?_
      | refine AW.region ?_
      | refine AW.block ?_
      | refine AW.scope ?_
      | refine AOs.nil ?_
      | refine AW.skip ?_
      | refine AW.exit ?_
      | refine AW.ret ?_
      | refine AW.label ?_
      | refine andThen_normal ?_
      | refine andThen_exit ?_
      | refine andThen_ret ?_
      | refine inBlock_normal ?_
      | refine inBlock_hit ?_
      | refine inBlock_ret ?_
      | refine inBlock_miss (by with_unfolding_all rfl) ?_
      | refine AOs.guardN (by with_unfolding_all rfl) (by simp only [aeval, PT.get_set, Nat.reduceEqDiff, reduceIte, h0, h1, h5, hd, hk1, h256, hlen, hst]; rfl) (by with_unfolding_all rfl) ?_
      | refine AOs.guardT (by with_unfolding_all rfl) (by simp only [aeval, PT.get_set, Nat.reduceEqDiff, reduceIte, h0, h1, h5, hd, hk1, h256, hlen, hst]; rfl) (by first | rfl | decide | assumption) ?_
      | refine AOs.guardF (by with_unfolding_all rfl) (by simp only [aeval, PT.get_set, Nat.reduceEqDiff, reduceIte, h0, h1, h5, hd, hk1, h256, hlen, hst]; rfl) (by first | rfl | decide | assumption) (by with_unfolding_all rfl) ?_
      | refine AOs.guardF0 (by with_unfolding_all rfl) (by simp only [aeval, PT.get_set, Nat.reduceEqDiff, reduceIte, h0, h1, h5, hd, hk1, h256, hlen, hst]; rfl) (by first | rfl | decide | assumption) ?_
      | refine AW.condT (by simp only [aeval, PT.get_set, Nat.reduceEqDiff, reduceIte, h0, h1, h5, hd, hk1, h256, hlen, hst]; rfl) (by first | rfl | decide | assumption) ?_
      | refine AW.condF (by simp only [aeval, PT.get_set, Nat.reduceEqDiff, reduceIte, h0, h1, h5, hd, hk1, h256, hlen, hst]; rfl) (by first | rfl | decide | assumption) ?_
      | refine AOs.op1 tOK (by simp only [evOp_move, evOp_assign, evOp_pick, evOp_build, evOp_nilCheck, evOp_binOp, evOp_not, evOp_fieldAddr, evOp_field, evOp_indexAddr, evOp_index, evOp_extract, evOp_makeFunc, evOp_load, evOp_lookup, evOp_store, evOp_mapUpdate, evOp_insert, evOp_range, evOp_makeMap, evOp_len, evOp_append, evOp_copy, evOp_delete, evOp_slice, evOp_convert, storeAt, one_bool, one_int, one_str, one_nilp, one_ptr, one_nils, one_slice, one_empty, one_nilm, one_map, one_func, one_nilf, one_iface, one_nili, aeval, ofVal, PT.get_set, Nat.reduceEqDiff, reduceIte, lenOfAV_slice, lenOfAV_nils, lenOfAV_empty, afield, apart, aindex, aconv, cellAt, cellsAt, mapLenAt, List.map_cons, List.map_nil, Option.map_some, Option.map_none, List.nil_append, List.append_nil, abin_add, abin_sub, abin_mul, abin_lss, abin_leq, abin_gtr, abin_geq, abin_eql, abin_neq, cond_true, cond_false, decide_true, decide_false, Bool.not_true, Bool.not_false, TI.agg, List.getElem?_cons_zero, List.getElem?_cons_succ, Nat.add_zero, Nat.zero_add, Nat.zero_mul, nbeq, nble, nblt, Nat.reduceLeDiff, Nat.reduceLT, Nat.reduceMul, Nat.reduceAdd, Nat.reduceSub, Bool.and_true, Bool.true_and, Bool.and_false, Bool.false_and, eq_self, Int.ofNat_eq_natCast, Int.cast_ofNat_Int, Int.natCast_zero, Int.reduceEq, Int.reduceLT, Int.reduceLE, Int.reduceNeg, ld3, st3, ld4, st4, ld5, st5, al9, ld9, st9, ld24, st24, ld27, st27, al28, ix28, bs28, ld28, st28, al32, ix32, bs32, ld32, st32, al37, ix37, bs37, ld37, st37, al40, ix40, bs40, ld40, st40, ld42, st42, fa63_0, ld63, fa65_0, fa65_1, fa65_2, fa65_3, fa65_4, fa65_5, ld65, ld96, st96, ld119, ix119, cv3_96, cv9_32, h0, h1, h5, hd, hk1, h256, hlen, hst]; rfl) (by with_unfolding_all rfl) ?_
      | refine AOs.op0 tOK (by simp only [evOp_move, evOp_assign, evOp_pick, evOp_build, evOp_nilCheck, evOp_binOp, evOp_not, evOp_fieldAddr, evOp_field, evOp_indexAddr, evOp_index, evOp_extract, evOp_makeFunc, evOp_load, evOp_lookup, evOp_store, evOp_mapUpdate, evOp_insert, evOp_range, evOp_makeMap, evOp_len, evOp_append, evOp_copy, evOp_delete, evOp_slice, evOp_convert, storeAt, one_bool, one_int, one_str, one_nilp, one_ptr, one_nils, one_slice, one_empty, one_nilm, one_map, one_func, one_nilf, one_iface, one_nili, aeval, ofVal, PT.get_set, Nat.reduceEqDiff, reduceIte, lenOfAV_slice, lenOfAV_nils, lenOfAV_empty, afield, apart, aindex, aconv, cellAt, cellsAt, mapLenAt, List.map_cons, List.map_nil, Option.map_some, Option.map_none, List.nil_append, List.append_nil, abin_add, abin_sub, abin_mul, abin_lss, abin_leq, abin_gtr, abin_geq, abin_eql, abin_neq, cond_true, cond_false, decide_true, decide_false, Bool.not_true, Bool.not_false, TI.agg, List.getElem?_cons_zero, List.getElem?_cons_succ, Nat.add_zero, Nat.zero_add, Nat.zero_mul, nbeq, nble, nblt, Nat.reduceLeDiff, Nat.reduceLT, Nat.reduceMul, Nat.reduceAdd, Nat.reduceSub, Bool.and_true, Bool.true_and, Bool.and_false, Bool.false_and, eq_self, Int.ofNat_eq_natCast, Int.cast_ofNat_Int, Int.natCast_zero, Int.reduceEq, Int.reduceLT, Int.reduceLE, Int.reduceNeg, ld3, st3, ld4, st4, ld5, st5, al9, ld9, st9, ld24, st24, ld27, st27, al28, ix28, bs28, ld28, st28, al32, ix32, bs32, ld32, st32, al37, ix37, bs37, ld37, st37, al40, ix40, bs40, ld40, st40, ld42, st42, fa63_0, ld63, fa65_0, fa65_1, fa65_2, fa65_3, fa65_4, fa65_5, ld65, ld96, st96, ld119, ix119, cv3_96, cv9_32, h0, h1, h5, hd, hk1, h256, hlen, hst]; rfl) ?_
      | fail "stop")
    have hsp : splice (rowAV 0) 0 (rowAV 256) = rowAV 256 := by
      unfold splice
      rw [List.take_zero, List.nil_append, List.drop_of_length_le (by rw [hlen, hz0]; omega), List.append_nil]
    refine fnPost_ret (show _ = some [AV.agg (rowAV 256)] from ?_) ?_
    · have e0 : PT.get (((T.set 6 (AV.bool false)).set 25 (AV.agg (rowAV 256)))) 0 = some (.ptr H.next 0) := by simp [PT.get_set, h0]
      simp only [aresults, aresult, e0, ld119, cellsAt, AH.get_set, if_true, hsp, h256, hlen, nbeq, decide_true, cond_true]
    · simp [one, rowAV]

end Go.Proofs.YtgihociajfgohaaGreatDoor
