/- Log: the law of a nil log, walked from whatever abstract heap; no condition. -/
import Derived.Test.YtgihociajfgohaaGreatDoorRecs
open Go Go.AB Go.Proofs
namespace Go.Proofs.YtgihociajfgohaaGreatDoor
set_option linter.unusedSimpArgs false
set_option linter.unusedVariables false
set_option maxRecDepth 100000

def K0 (f : FuncId) : Option (List AV → AH → Option (AV × AH)) := none
def E0 (f : FuncId) (args : List AV) (H : AH) : Option (AV × AH) := none
theorem K0_ok (N : Nat) : KnownOK tC N 0 K0 E0 where
  call f k h := by cases h
  ext f args H r H' h := by cases h
theorem ac_ev {N : Nat} {fuel d f : Nat} {args : List AV} {H H' : AH} {r : AV} (h : evCall tC K0 E0 0 fuel d f args H = some (r, H')) : AC tC N 0 f args H fun x K => x = r ∧ K = H' := fun ρ w vs hR hv =>
  (evCall_ok tOK tCodes (K0_ok N) h hR hv).mono fun e w' ⟨v, ρ', he, h1, h2, h3⟩ => ⟨v, ρ', r, H', ⟨rfl, rfl⟩, he, h1, h2, h3⟩

theorem nil21 (x : AV) (H : AH) : evCall tC K0 E0 0 100 5 21 [.nilp, x] H = some (.int .i64 1, H) := by kernel_rfl
theorem nil23 (H : AH) : evCall tC K0 E0 0 100 5 23 [.nilp] H = some (.int .i64 1, H) := by kernel_rfl
theorem nil25 (x : AV) (H : AH) : evCall tC K0 E0 0 100 5 25 [.nilp, x] H = some (.int .i64 1, H) := by kernel_rfl
theorem nil27 (H : AH) : evCall tC K0 E0 0 100 5 27 [.nilp] H = some (.int .i64 0, H) := by kernel_rfl
theorem nil28 (H : AH) : evCall tC K0 E0 0 100 5 28 [.nilp] H = some (.int .i64 0, H) := by kernel_rfl
theorem nil29 (H : AH) : evCall tC K0 E0 0 100 5 29 [.nilp] H = some (.int .i64 0, H) := by kernel_rfl
theorem nil30 (H : AH) : evCall tC K0 E0 0 100 5 30 [.nilp] H = some (.int .i64 1, H) := by kernel_rfl

set_option maxHeartbeats 2000000 in
theorem law6 (N : Nat) (H : AH) (v : AV) (l : List (List UInt8)) (hl : TextsAt H v l) (hlt : ∀ b o, H.get b = some o → b < H.next) (hlives : ∀ K, AC tC N 0 11 [] K fun r K' => r = .bool true ∧ K' = K) :
    AC tC N 0 6 [v] H fun r _ => r = .bool true := by
  refine AC.by (n := 46) (rs := [.tmp 2]) tOK fn6 rfl rfl rfl rfl ?_
  have e0 : (PT.ofList .leaf 0 [v]).get 0 = some v := rfl
  with_reducible repeat' (first
    | refine AW.seq ?_
    | refine AW.region ?_
    | refine AW.block ?_
    | refine AW.scope ?_
    | refine AOs.nil ?_
    | refine AW.skip ?_
    | refine AW.exit ?_
    | refine AW.ret ?_
    | refine AW.label ?_
    | refine andThen_normal ?_
    | refine andThen_exit ?_
    | refine andThen_ret ?_
    | refine inBlock_normal ?_
    | refine inBlock_hit ?_
    | refine inBlock_ret ?_
    | refine inBlock_miss (by with_unfolding_all rfl) ?_
    | refine AOs.guardN (by with_unfolding_all rfl) (by simp only [aeval, PT.get_set, Nat.reduceEqDiff, reduceIte, if_true]; rfl) (by with_unfolding_all rfl) ?_
    | refine AOs.guardT (by with_unfolding_all rfl) (by simp only [aeval, PT.get_set, Nat.reduceEqDiff, reduceIte, if_true]; rfl) (by first | rfl | decide | assumption) ?_
    | refine AOs.guardF (by with_unfolding_all rfl) (by simp only [aeval, PT.get_set, Nat.reduceEqDiff, reduceIte, if_true]; rfl) (by first | rfl | decide | assumption) (by with_unfolding_all rfl) ?_
    | refine AOs.guardF0 (by with_unfolding_all rfl) (by simp only [aeval, PT.get_set, Nat.reduceEqDiff, reduceIte, if_true]; rfl) (by first | rfl | decide | assumption) ?_
    | refine AW.condT (by simp only [aeval, PT.get_set, Nat.reduceEqDiff, reduceIte, if_true]; rfl) (by first | rfl | decide | assumption) ?_
    | refine AW.condF (by simp only [aeval, PT.get_set, Nat.reduceEqDiff, reduceIte, if_true]; rfl) (by first | rfl | decide | assumption) ?_
    | refine AOs.op1 tOK (by simp only [evOp_move, evOp_assign, evOp_pick, evOp_build, evOp_nilCheck, evOp_binOp, evOp_not, evOp_fieldAddr, evOp_field, evOp_indexAddr, evOp_index, evOp_extract, evOp_makeFunc, evOp_load, evOp_lookup, evOp_store, evOp_mapUpdate, evOp_insert, evOp_range, evOp_makeMap, evOp_len, evOp_append, evOp_copy, evOp_delete, evOp_slice, evOp_convert, storeAt, one_bool, one_int, one_str, one_nilp, one_ptr, one_nils, one_slice, one_empty, one_nilm, one_map, one_func, one_nilf, one_iface, one_nili, aeval, ofVal, PT.get_set, Nat.reduceEqDiff, reduceIte, lenOfAV_slice, lenOfAV_nils, lenOfAV_empty, afield, apart, aindex, aconv, cellAt, cellsAt, mapLenAt, List.map_cons, List.map_nil, Option.map_some, Option.map_none, List.nil_append, List.append_nil, abin_add, abin_sub, abin_mul, abin_lss, abin_leq, abin_gtr, abin_geq, abin_eql, abin_neq, cond_true, cond_false, decide_true, decide_false, Bool.not_true, Bool.not_false, TI.agg, List.getElem?_cons_zero, List.getElem?_cons_succ, Nat.add_zero, Nat.zero_add, Nat.zero_mul, nbeq, nble, nblt, Nat.reduceLeDiff, Nat.reduceLT, Nat.reduceMul, Nat.reduceAdd, Nat.reduceSub, Bool.and_true, Bool.true_and, Bool.and_false, Bool.false_and, eq_self, Int.ofNat_eq_natCast, Int.cast_ofNat_Int, Int.natCast_zero, Int.reduceEq, Int.reduceLT, Int.reduceLE, Int.reduceNeg, ld3, st3, ld4, st4, ld5, st5, al9, ld9, st9, ld24, st24, ld27, st27, al28, ix28, bs28, ld28, st28, al32, ix32, bs32, ld32, st32, al37, ix37, bs37, ld37, st37, al40, ix40, bs40, ld40, st40, ld42, st42, fa63_0, ld63, fa65_0, fa65_1, fa65_2, fa65_3, fa65_4, fa65_5, ld65, ld96, st96, ld119, ix119, cv3_96, cv9_32, if_true]; rfl) (by with_unfolding_all rfl) ?_
    | refine AOs.op0 tOK (by simp only [evOp_move, evOp_assign, evOp_pick, evOp_build, evOp_nilCheck, evOp_binOp, evOp_not, evOp_fieldAddr, evOp_field, evOp_indexAddr, evOp_index, evOp_extract, evOp_makeFunc, evOp_load, evOp_lookup, evOp_store, evOp_mapUpdate, evOp_insert, evOp_range, evOp_makeMap, evOp_len, evOp_append, evOp_copy, evOp_delete, evOp_slice, evOp_convert, storeAt, one_bool, one_int, one_str, one_nilp, one_ptr, one_nils, one_slice, one_empty, one_nilm, one_map, one_func, one_nilf, one_iface, one_nili, aeval, ofVal, PT.get_set, Nat.reduceEqDiff, reduceIte, lenOfAV_slice, lenOfAV_nils, lenOfAV_empty, afield, apart, aindex, aconv, cellAt, cellsAt, mapLenAt, List.map_cons, List.map_nil, Option.map_some, Option.map_none, List.nil_append, List.append_nil, abin_add, abin_sub, abin_mul, abin_lss, abin_leq, abin_gtr, abin_geq, abin_eql, abin_neq, cond_true, cond_false, decide_true, decide_false, Bool.not_true, Bool.not_false, TI.agg, List.getElem?_cons_zero, List.getElem?_cons_succ, Nat.add_zero, Nat.zero_add, Nat.zero_mul, nbeq, nble, nblt, Nat.reduceLeDiff, Nat.reduceLT, Nat.reduceMul, Nat.reduceAdd, Nat.reduceSub, Bool.and_true, Bool.true_and, Bool.and_false, Bool.false_and, eq_self, Int.ofNat_eq_natCast, Int.cast_ofNat_Int, Int.natCast_zero, Int.reduceEq, Int.reduceLT, Int.reduceLE, Int.reduceNeg, ld3, st3, ld4, st4, ld5, st5, al9, ld9, st9, ld24, st24, ld27, st27, al28, ix28, bs28, ld28, st28, al32, ix32, bs32, ld32, st32, al37, ix37, bs37, ld37, st37, al40, ix40, bs40, ld40, st40, ld42, st42, fa63_0, ld63, fa65_0, fa65_1, fa65_2, fa65_3, fa65_4, fa65_5, ld65, ld96, st96, ld119, ix119, cv3_96, cv9_32, if_true]; rfl) ?_
    | fail "stop")
  refine AOs.callQ tOK (fs := []) (cs := []) rfl fn11 ok11 rfl (by simp only [List.map_cons, List.map_nil, List.nil_append, List.append_nil, List.cons_append, aeval, ofVal, PT.get_set, Nat.reduceEqDiff, reduceIte] <;> rfl) (hlives _) ?_
  rintro r K1 ⟨rfl, rfl⟩
  with_reducible repeat' (first
    | refine AW.seq ?_
    | refine AW.region ?_
    | refine AW.block ?_
    | refine AW.scope ?_
    | refine AOs.nil ?_
    | refine AW.skip ?_
    | refine AW.exit ?_
    | refine AW.ret ?_
    | refine AW.label ?_
    | refine andThen_normal ?_
    | refine andThen_exit ?_
    | refine andThen_ret ?_
    | refine inBlock_normal ?_
    | refine inBlock_hit ?_
    | refine inBlock_ret ?_
    | refine inBlock_miss (by with_unfolding_all rfl) ?_
    | refine AOs.guardN (by with_unfolding_all rfl) (by simp only [aeval, PT.get_set, Nat.reduceEqDiff, reduceIte, e0]; rfl) (by with_unfolding_all rfl) ?_
    | refine AOs.guardT (by with_unfolding_all rfl) (by simp only [aeval, PT.get_set, Nat.reduceEqDiff, reduceIte, e0]; rfl) (by first | rfl | decide | assumption) ?_
    | refine AOs.guardF (by with_unfolding_all rfl) (by simp only [aeval, PT.get_set, Nat.reduceEqDiff, reduceIte, e0]; rfl) (by first | rfl | decide | assumption) (by with_unfolding_all rfl) ?_
    | refine AOs.guardF0 (by with_unfolding_all rfl) (by simp only [aeval, PT.get_set, Nat.reduceEqDiff, reduceIte, e0]; rfl) (by first | rfl | decide | assumption) ?_
    | refine AW.condT (by simp only [aeval, PT.get_set, Nat.reduceEqDiff, reduceIte, e0]; rfl) (by first | rfl | decide | assumption) ?_
    | refine AW.condF (by simp only [aeval, PT.get_set, Nat.reduceEqDiff, reduceIte, e0]; rfl) (by first | rfl | decide | assumption) ?_
    | refine AOs.op1 tOK (by simp only [evOp_move, evOp_assign, evOp_pick, evOp_build, evOp_nilCheck, evOp_binOp, evOp_not, evOp_fieldAddr, evOp_field, evOp_indexAddr, evOp_index, evOp_extract, evOp_makeFunc, evOp_load, evOp_lookup, evOp_store, evOp_mapUpdate, evOp_insert, evOp_range, evOp_makeMap, evOp_len, evOp_append, evOp_copy, evOp_delete, evOp_slice, evOp_convert, storeAt, one_bool, one_int, one_str, one_nilp, one_ptr, one_nils, one_slice, one_empty, one_nilm, one_map, one_func, one_nilf, one_iface, one_nili, aeval, ofVal, PT.get_set, Nat.reduceEqDiff, reduceIte, lenOfAV_slice, lenOfAV_nils, lenOfAV_empty, afield, apart, aindex, aconv, cellAt, cellsAt, mapLenAt, List.map_cons, List.map_nil, Option.map_some, Option.map_none, List.nil_append, List.append_nil, abin_add, abin_sub, abin_mul, abin_lss, abin_leq, abin_gtr, abin_geq, abin_eql, abin_neq, cond_true, cond_false, decide_true, decide_false, Bool.not_true, Bool.not_false, TI.agg, List.getElem?_cons_zero, List.getElem?_cons_succ, Nat.add_zero, Nat.zero_add, Nat.zero_mul, nbeq, nble, nblt, Nat.reduceLeDiff, Nat.reduceLT, Nat.reduceMul, Nat.reduceAdd, Nat.reduceSub, Bool.and_true, Bool.true_and, Bool.and_false, Bool.false_and, eq_self, Int.ofNat_eq_natCast, Int.cast_ofNat_Int, Int.natCast_zero, Int.reduceEq, Int.reduceLT, Int.reduceLE, Int.reduceNeg, ld3, st3, ld4, st4, ld5, st5, al9, ld9, st9, ld24, st24, ld27, st27, al28, ix28, bs28, ld28, st28, al32, ix32, bs32, ld32, st32, al37, ix37, bs37, ld37, st37, al40, ix40, bs40, ld40, st40, ld42, st42, fa63_0, ld63, fa65_0, fa65_1, fa65_2, fa65_3, fa65_4, fa65_5, ld65, ld96, st96, ld119, ix119, cv3_96, cv9_32, e0]; rfl) (by with_unfolding_all rfl) ?_
    | refine AOs.op0 tOK (by simp only [evOp_move, evOp_assign, evOp_pick, evOp_build, evOp_nilCheck, evOp_binOp, evOp_not, evOp_fieldAddr, evOp_field, evOp_indexAddr, evOp_index, evOp_extract, evOp_makeFunc, evOp_load, evOp_lookup, evOp_store, evOp_mapUpdate, evOp_insert, evOp_range, evOp_makeMap, evOp_len, evOp_append, evOp_copy, evOp_delete, evOp_slice, evOp_convert, storeAt, one_bool, one_int, one_str, one_nilp, one_ptr, one_nils, one_slice, one_empty, one_nilm, one_map, one_func, one_nilf, one_iface, one_nili, aeval, ofVal, PT.get_set, Nat.reduceEqDiff, reduceIte, lenOfAV_slice, lenOfAV_nils, lenOfAV_empty, afield, apart, aindex, aconv, cellAt, cellsAt, mapLenAt, List.map_cons, List.map_nil, Option.map_some, Option.map_none, List.nil_append, List.append_nil, abin_add, abin_sub, abin_mul, abin_lss, abin_leq, abin_gtr, abin_geq, abin_eql, abin_neq, cond_true, cond_false, decide_true, decide_false, Bool.not_true, Bool.not_false, TI.agg, List.getElem?_cons_zero, List.getElem?_cons_succ, Nat.add_zero, Nat.zero_add, Nat.zero_mul, nbeq, nble, nblt, Nat.reduceLeDiff, Nat.reduceLT, Nat.reduceMul, Nat.reduceAdd, Nat.reduceSub, Bool.and_true, Bool.true_and, Bool.and_false, Bool.false_and, eq_self, Int.ofNat_eq_natCast, Int.cast_ofNat_Int, Int.natCast_zero, Int.reduceEq, Int.reduceLT, Int.reduceLE, Int.reduceNeg, ld3, st3, ld4, st4, ld5, st5, al9, ld9, st9, ld24, st24, ld27, st27, al28, ix28, bs28, ld28, st28, al32, ix32, bs32, ld32, st32, al37, ix37, bs37, ld37, st37, al40, ix40, bs40, ld40, st40, ld42, st42, fa63_0, ld63, fa65_0, fa65_1, fa65_2, fa65_3, fa65_4, fa65_5, ld65, ld96, st96, ld119, ix119, cv3_96, cv9_32, e0]; rfl) ?_
    | fail "stop")
  refine AOs.callQ tOK (fs := []) (cs := []) rfl fn19 ok19 rfl (by simp only [List.map_cons, List.map_nil, List.nil_append, List.append_nil, List.cons_append, aeval, ofVal, PT.get_set, Nat.reduceEqDiff, reduceIte] <;> rfl) (light19 N _ v l hl) ?_
  rintro r K1 ⟨rfl, x, rfl, hx⟩
  cases x
  · with_reducible repeat' (first
      | refine AW.seq ?_
      | refine AW.region ?_
      | refine AW.block ?_
      | refine AW.scope ?_
      | refine AOs.nil ?_
      | refine AW.skip ?_
      | refine AW.exit ?_
      | refine AW.ret ?_
      | refine AW.label ?_
      | refine andThen_normal ?_
      | refine andThen_exit ?_
      | refine andThen_ret ?_
      | refine inBlock_normal ?_
      | refine inBlock_hit ?_
      | refine inBlock_ret ?_
      | refine inBlock_miss (by with_unfolding_all rfl) ?_
      | refine AOs.guardN (by with_unfolding_all rfl) (by simp only [aeval, PT.get_set, Nat.reduceEqDiff, reduceIte, e0]; rfl) (by with_unfolding_all rfl) ?_
      | refine AOs.guardT (by with_unfolding_all rfl) (by simp only [aeval, PT.get_set, Nat.reduceEqDiff, reduceIte, e0]; rfl) (by first | rfl | decide | assumption) ?_
      | refine AOs.guardF (by with_unfolding_all rfl) (by simp only [aeval, PT.get_set, Nat.reduceEqDiff, reduceIte, e0]; rfl) (by first | rfl | decide | assumption) (by with_unfolding_all rfl) ?_
      | refine AOs.guardF0 (by with_unfolding_all rfl) (by simp only [aeval, PT.get_set, Nat.reduceEqDiff, reduceIte, e0]; rfl) (by first | rfl | decide | assumption) ?_
      | refine AW.condT (by simp only [aeval, PT.get_set, Nat.reduceEqDiff, reduceIte, e0]; rfl) (by first | rfl | decide | assumption) ?_
      | refine AW.condF (by simp only [aeval, PT.get_set, Nat.reduceEqDiff, reduceIte, e0]; rfl) (by first | rfl | decide | assumption) ?_
      | refine AOs.op1 tOK (by simp only [evOp_move, evOp_assign, evOp_pick, evOp_build, evOp_nilCheck, evOp_binOp, evOp_not, evOp_fieldAddr, evOp_field, evOp_indexAddr, evOp_index, evOp_extract, evOp_makeFunc, evOp_load, evOp_lookup, evOp_store, evOp_mapUpdate, evOp_insert, evOp_range, evOp_makeMap, evOp_len, evOp_append, evOp_copy, evOp_delete, evOp_slice, evOp_convert, storeAt, one_bool, one_int, one_str, one_nilp, one_ptr, one_nils, one_slice, one_empty, one_nilm, one_map, one_func, one_nilf, one_iface, one_nili, aeval, ofVal, PT.get_set, Nat.reduceEqDiff, reduceIte, lenOfAV_slice, lenOfAV_nils, lenOfAV_empty, afield, apart, aindex, aconv, cellAt, cellsAt, mapLenAt, List.map_cons, List.map_nil, Option.map_some, Option.map_none, List.nil_append, List.append_nil, abin_add, abin_sub, abin_mul, abin_lss, abin_leq, abin_gtr, abin_geq, abin_eql, abin_neq, cond_true, cond_false, decide_true, decide_false, Bool.not_true, Bool.not_false, TI.agg, List.getElem?_cons_zero, List.getElem?_cons_succ, Nat.add_zero, Nat.zero_add, Nat.zero_mul, nbeq, nble, nblt, Nat.reduceLeDiff, Nat.reduceLT, Nat.reduceMul, Nat.reduceAdd, Nat.reduceSub, Bool.and_true, Bool.true_and, Bool.and_false, Bool.false_and, eq_self, Int.ofNat_eq_natCast, Int.cast_ofNat_Int, Int.natCast_zero, Int.reduceEq, Int.reduceLT, Int.reduceLE, Int.reduceNeg, ld3, st3, ld4, st4, ld5, st5, al9, ld9, st9, ld24, st24, ld27, st27, al28, ix28, bs28, ld28, st28, al32, ix32, bs32, ld32, st32, al37, ix37, bs37, ld37, st37, al40, ix40, bs40, ld40, st40, ld42, st42, fa63_0, ld63, fa65_0, fa65_1, fa65_2, fa65_3, fa65_4, fa65_5, ld65, ld96, st96, ld119, ix119, cv3_96, cv9_32, e0]; rfl) (by with_unfolding_all rfl) ?_
      | refine AOs.op0 tOK (by simp only [evOp_move, evOp_assign, evOp_pick, evOp_build, evOp_nilCheck, evOp_binOp, evOp_not, evOp_fieldAddr, evOp_field, evOp_indexAddr, evOp_index, evOp_extract, evOp_makeFunc, evOp_load, evOp_lookup, evOp_store, evOp_mapUpdate, evOp_insert, evOp_range, evOp_makeMap, evOp_len, evOp_append, evOp_copy, evOp_delete, evOp_slice, evOp_convert, storeAt, one_bool, one_int, one_str, one_nilp, one_ptr, one_nils, one_slice, one_empty, one_nilm, one_map, one_func, one_nilf, one_iface, one_nili, aeval, ofVal, PT.get_set, Nat.reduceEqDiff, reduceIte, lenOfAV_slice, lenOfAV_nils, lenOfAV_empty, afield, apart, aindex, aconv, cellAt, cellsAt, mapLenAt, List.map_cons, List.map_nil, Option.map_some, Option.map_none, List.nil_append, List.append_nil, abin_add, abin_sub, abin_mul, abin_lss, abin_leq, abin_gtr, abin_geq, abin_eql, abin_neq, cond_true, cond_false, decide_true, decide_false, Bool.not_true, Bool.not_false, TI.agg, List.getElem?_cons_zero, List.getElem?_cons_succ, Nat.add_zero, Nat.zero_add, Nat.zero_mul, nbeq, nble, nblt, Nat.reduceLeDiff, Nat.reduceLT, Nat.reduceMul, Nat.reduceAdd, Nat.reduceSub, Bool.and_true, Bool.true_and, Bool.and_false, Bool.false_and, eq_self, Int.ofNat_eq_natCast, Int.cast_ofNat_Int, Int.natCast_zero, Int.reduceEq, Int.reduceLT, Int.reduceLE, Int.reduceNeg, ld3, st3, ld4, st4, ld5, st5, al9, ld9, st9, ld24, st24, ld27, st27, al28, ix28, bs28, ld28, st28, al32, ix32, bs32, ld32, st32, al37, ix37, bs37, ld37, st37, al40, ix40, bs40, ld40, st40, ld42, st42, fa63_0, ld63, fa65_0, fa65_1, fa65_2, fa65_3, fa65_4, fa65_5, ld65, ld96, st96, ld119, ix119, cv3_96, cv9_32, e0]; rfl) ?_
      | fail "stop")
    exact fnPost_ret1 (by simp only [PT.get_set, Nat.reduceEqDiff, reduceIte] <;> rfl) rfl
  · have h30 := (hx rfl).1
    with_reducible repeat' (first
      | refine AW.seq ?_
      | refine AW.region ?_
      | refine AW.block ?_
      | refine AW.scope ?_
      | refine AOs.nil ?_
      | refine AW.skip ?_
      | refine AW.exit ?_
      | refine AW.ret ?_
      | refine AW.label ?_
      | refine andThen_normal ?_
      | refine andThen_exit ?_
      | refine andThen_ret ?_
      | refine inBlock_normal ?_
      | refine inBlock_hit ?_
      | refine inBlock_ret ?_
      | refine inBlock_miss (by with_unfolding_all rfl) ?_
      | refine AOs.guardN (by with_unfolding_all rfl) (by simp only [aeval, PT.get_set, Nat.reduceEqDiff, reduceIte, e0]; rfl) (by with_unfolding_all rfl) ?_
      | refine AOs.guardT (by with_unfolding_all rfl) (by simp only [aeval, PT.get_set, Nat.reduceEqDiff, reduceIte, e0]; rfl) (by first | rfl | decide | assumption) ?_
      | refine AOs.guardF (by with_unfolding_all rfl) (by simp only [aeval, PT.get_set, Nat.reduceEqDiff, reduceIte, e0]; rfl) (by first | rfl | decide | assumption) (by with_unfolding_all rfl) ?_
      | refine AOs.guardF0 (by with_unfolding_all rfl) (by simp only [aeval, PT.get_set, Nat.reduceEqDiff, reduceIte, e0]; rfl) (by first | rfl | decide | assumption) ?_
      | refine AW.condT (by simp only [aeval, PT.get_set, Nat.reduceEqDiff, reduceIte, e0]; rfl) (by first | rfl | decide | assumption) ?_
      | refine AW.condF (by simp only [aeval, PT.get_set, Nat.reduceEqDiff, reduceIte, e0]; rfl) (by first | rfl | decide | assumption) ?_
      | refine AOs.op1 tOK (by simp only [evOp_move, evOp_assign, evOp_pick, evOp_build, evOp_nilCheck, evOp_binOp, evOp_not, evOp_fieldAddr, evOp_field, evOp_indexAddr, evOp_index, evOp_extract, evOp_makeFunc, evOp_load, evOp_lookup, evOp_store, evOp_mapUpdate, evOp_insert, evOp_range, evOp_makeMap, evOp_len, evOp_append, evOp_copy, evOp_delete, evOp_slice, evOp_convert, storeAt, one_bool, one_int, one_str, one_nilp, one_ptr, one_nils, one_slice, one_empty, one_nilm, one_map, one_func, one_nilf, one_iface, one_nili, aeval, ofVal, PT.get_set, Nat.reduceEqDiff, reduceIte, lenOfAV_slice, lenOfAV_nils, lenOfAV_empty, afield, apart, aindex, aconv, cellAt, cellsAt, mapLenAt, List.map_cons, List.map_nil, Option.map_some, Option.map_none, List.nil_append, List.append_nil, abin_add, abin_sub, abin_mul, abin_lss, abin_leq, abin_gtr, abin_geq, abin_eql, abin_neq, cond_true, cond_false, decide_true, decide_false, Bool.not_true, Bool.not_false, TI.agg, List.getElem?_cons_zero, List.getElem?_cons_succ, Nat.add_zero, Nat.zero_add, Nat.zero_mul, nbeq, nble, nblt, Nat.reduceLeDiff, Nat.reduceLT, Nat.reduceMul, Nat.reduceAdd, Nat.reduceSub, Bool.and_true, Bool.true_and, Bool.and_false, Bool.false_and, eq_self, Int.ofNat_eq_natCast, Int.cast_ofNat_Int, Int.natCast_zero, Int.reduceEq, Int.reduceLT, Int.reduceLE, Int.reduceNeg, ld3, st3, ld4, st4, ld5, st5, al9, ld9, st9, ld24, st24, ld27, st27, al28, ix28, bs28, ld28, st28, al32, ix32, bs32, ld32, st32, al37, ix37, bs37, ld37, st37, al40, ix40, bs40, ld40, st40, ld42, st42, fa63_0, ld63, fa65_0, fa65_1, fa65_2, fa65_3, fa65_4, fa65_5, ld65, ld96, st96, ld119, ix119, cv3_96, cv9_32, e0]; rfl) (by with_unfolding_all rfl) ?_
      | refine AOs.op0 tOK (by simp only [evOp_move, evOp_assign, evOp_pick, evOp_build, evOp_nilCheck, evOp_binOp, evOp_not, evOp_fieldAddr, evOp_field, evOp_indexAddr, evOp_index, evOp_extract, evOp_makeFunc, evOp_load, evOp_lookup, evOp_store, evOp_mapUpdate, evOp_insert, evOp_range, evOp_makeMap, evOp_len, evOp_append, evOp_copy, evOp_delete, evOp_slice, evOp_convert, storeAt, one_bool, one_int, one_str, one_nilp, one_ptr, one_nils, one_slice, one_empty, one_nilm, one_map, one_func, one_nilf, one_iface, one_nili, aeval, ofVal, PT.get_set, Nat.reduceEqDiff, reduceIte, lenOfAV_slice, lenOfAV_nils, lenOfAV_empty, afield, apart, aindex, aconv, cellAt, cellsAt, mapLenAt, List.map_cons, List.map_nil, Option.map_some, Option.map_none, List.nil_append, List.append_nil, abin_add, abin_sub, abin_mul, abin_lss, abin_leq, abin_gtr, abin_geq, abin_eql, abin_neq, cond_true, cond_false, decide_true, decide_false, Bool.not_true, Bool.not_false, TI.agg, List.getElem?_cons_zero, List.getElem?_cons_succ, Nat.add_zero, Nat.zero_add, Nat.zero_mul, nbeq, nble, nblt, Nat.reduceLeDiff, Nat.reduceLT, Nat.reduceMul, Nat.reduceAdd, Nat.reduceSub, Bool.and_true, Bool.true_and, Bool.and_false, Bool.false_and, eq_self, Int.ofNat_eq_natCast, Int.cast_ofNat_Int, Int.natCast_zero, Int.reduceEq, Int.reduceLT, Int.reduceLE, Int.reduceNeg, ld3, st3, ld4, st4, ld5, st5, al9, ld9, st9, ld24, st24, ld27, st27, al28, ix28, bs28, ld28, st28, al32, ix32, bs32, ld32, st32, al37, ix37, bs37, ld37, st37, al40, ix40, bs40, ld40, st40, ld42, st42, fa63_0, ld63, fa65_0, fa65_1, fa65_2, fa65_3, fa65_4, fa65_5, ld65, ld96, st96, ld119, ix119, cv3_96, cv9_32, e0]; rfl) ?_
      | fail "stop")
    refine AOs.callQ tOK (fs := []) (cs := []) rfl fn22 ok22 rfl (by simp only [List.map_cons, List.map_nil, List.nil_append, List.append_nil, List.cons_append, aeval, ofVal, PT.get_set, Nat.reduceEqDiff, reduceIte] <;> rfl) (recs22 N _ v l hl hlt (by omega)).wf ?_
    rintro r K2 ⟨⟨hs2, -⟩, hwf⟩
    with_reducible repeat' (first
      | refine AW.seq ?_
      | refine AW.region ?_
      | refine AW.block ?_
      | refine AW.scope ?_
      | refine AOs.nil ?_
      | refine AW.skip ?_
      | refine AW.exit ?_
      | refine AW.ret ?_
      | refine AW.label ?_
      | refine andThen_normal ?_
      | refine andThen_exit ?_
      | refine andThen_ret ?_
      | refine inBlock_normal ?_
      | refine inBlock_hit ?_
      | refine inBlock_ret ?_
      | refine inBlock_miss (by with_unfolding_all rfl) ?_
      | refine AOs.guardN (by with_unfolding_all rfl) (by simp only [aeval, PT.get_set, Nat.reduceEqDiff, reduceIte, if_true]; rfl) (by with_unfolding_all rfl) ?_
      | refine AOs.guardT (by with_unfolding_all rfl) (by simp only [aeval, PT.get_set, Nat.reduceEqDiff, reduceIte, if_true]; rfl) (by first | rfl | decide | assumption) ?_
      | refine AOs.guardF (by with_unfolding_all rfl) (by simp only [aeval, PT.get_set, Nat.reduceEqDiff, reduceIte, if_true]; rfl) (by first | rfl | decide | assumption) (by with_unfolding_all rfl) ?_
      | refine AOs.guardF0 (by with_unfolding_all rfl) (by simp only [aeval, PT.get_set, Nat.reduceEqDiff, reduceIte, if_true]; rfl) (by first | rfl | decide | assumption) ?_
      | refine AW.condT (by simp only [aeval, PT.get_set, Nat.reduceEqDiff, reduceIte, if_true]; rfl) (by first | rfl | decide | assumption) ?_
      | refine AW.condF (by simp only [aeval, PT.get_set, Nat.reduceEqDiff, reduceIte, if_true]; rfl) (by first | rfl | decide | assumption) ?_
      | refine AOs.op1 tOK (by simp only [evOp_move, evOp_assign, evOp_pick, evOp_build, evOp_nilCheck, evOp_binOp, evOp_not, evOp_fieldAddr, evOp_field, evOp_indexAddr, evOp_index, evOp_extract, evOp_makeFunc, evOp_load, evOp_lookup, evOp_store, evOp_mapUpdate, evOp_insert, evOp_range, evOp_makeMap, evOp_len, evOp_append, evOp_copy, evOp_delete, evOp_slice, evOp_convert, storeAt, one_bool, one_int, one_str, one_nilp, one_ptr, one_nils, one_slice, one_empty, one_nilm, one_map, one_func, one_nilf, one_iface, one_nili, aeval, ofVal, PT.get_set, Nat.reduceEqDiff, reduceIte, lenOfAV_slice, lenOfAV_nils, lenOfAV_empty, afield, apart, aindex, aconv, cellAt, cellsAt, mapLenAt, List.map_cons, List.map_nil, Option.map_some, Option.map_none, List.nil_append, List.append_nil, abin_add, abin_sub, abin_mul, abin_lss, abin_leq, abin_gtr, abin_geq, abin_eql, abin_neq, cond_true, cond_false, decide_true, decide_false, Bool.not_true, Bool.not_false, TI.agg, List.getElem?_cons_zero, List.getElem?_cons_succ, Nat.add_zero, Nat.zero_add, Nat.zero_mul, nbeq, nble, nblt, Nat.reduceLeDiff, Nat.reduceLT, Nat.reduceMul, Nat.reduceAdd, Nat.reduceSub, Bool.and_true, Bool.true_and, Bool.and_false, Bool.false_and, eq_self, Int.ofNat_eq_natCast, Int.cast_ofNat_Int, Int.natCast_zero, Int.reduceEq, Int.reduceLT, Int.reduceLE, Int.reduceNeg, ld3, st3, ld4, st4, ld5, st5, al9, ld9, st9, ld24, st24, ld27, st27, al28, ix28, bs28, ld28, st28, al32, ix32, bs32, ld32, st32, al37, ix37, bs37, ld37, st37, al40, ix40, bs40, ld40, st40, ld42, st42, fa63_0, ld63, fa65_0, fa65_1, fa65_2, fa65_3, fa65_4, fa65_5, ld65, ld96, st96, ld119, ix119, cv3_96, cv9_32, if_true]; rfl) (by with_unfolding_all rfl) ?_
      | refine AOs.op0 tOK (by simp only [evOp_move, evOp_assign, evOp_pick, evOp_build, evOp_nilCheck, evOp_binOp, evOp_not, evOp_fieldAddr, evOp_field, evOp_indexAddr, evOp_index, evOp_extract, evOp_makeFunc, evOp_load, evOp_lookup, evOp_store, evOp_mapUpdate, evOp_insert, evOp_range, evOp_makeMap, evOp_len, evOp_append, evOp_copy, evOp_delete, evOp_slice, evOp_convert, storeAt, one_bool, one_int, one_str, one_nilp, one_ptr, one_nils, one_slice, one_empty, one_nilm, one_map, one_func, one_nilf, one_iface, one_nili, aeval, ofVal, PT.get_set, Nat.reduceEqDiff, reduceIte, lenOfAV_slice, lenOfAV_nils, lenOfAV_empty, afield, apart, aindex, aconv, cellAt, cellsAt, mapLenAt, List.map_cons, List.map_nil, Option.map_some, Option.map_none, List.nil_append, List.append_nil, abin_add, abin_sub, abin_mul, abin_lss, abin_leq, abin_gtr, abin_geq, abin_eql, abin_neq, cond_true, cond_false, decide_true, decide_false, Bool.not_true, Bool.not_false, TI.agg, List.getElem?_cons_zero, List.getElem?_cons_succ, Nat.add_zero, Nat.zero_add, Nat.zero_mul, nbeq, nble, nblt, Nat.reduceLeDiff, Nat.reduceLT, Nat.reduceMul, Nat.reduceAdd, Nat.reduceSub, Bool.and_true, Bool.true_and, Bool.and_false, Bool.false_and, eq_self, Int.ofNat_eq_natCast, Int.cast_ofNat_Int, Int.natCast_zero, Int.reduceEq, Int.reduceLT, Int.reduceLE, Int.reduceNeg, ld3, st3, ld4, st4, ld5, st5, al9, ld9, st9, ld24, st24, ld27, st27, al28, ix28, bs28, ld28, st28, al32, ix32, bs32, ld32, st32, al37, ix37, bs37, ld37, st37, al40, ix40, bs40, ld40, st40, ld42, st42, fa63_0, ld63, fa65_0, fa65_1, fa65_2, fa65_3, fa65_4, fa65_5, ld65, ld96, st96, ld119, ix119, cv3_96, cv9_32, if_true]; rfl) ?_
      | fail "stop")
    refine AOs.callQ tOK (fs := []) (cs := []) rfl fn21 ok21 rfl (by simp only [List.map_cons, List.map_nil, List.nil_append, List.append_nil, List.cons_append, aeval, ofVal, PT.get_set, Nat.reduceEqDiff, reduceIte] <;> rfl) (ac_ev (nil21 r _)) ?_
    rintro r1 K3 ⟨rfl, rfl⟩
    with_reducible repeat' (first
      | refine AW.seq ?_
      | refine AW.region ?_
      | refine AW.block ?_
      | refine AW.scope ?_
      | refine AOs.nil ?_
      | refine AW.skip ?_
      | refine AW.exit ?_
      | refine AW.ret ?_
      | refine AW.label ?_
      | refine andThen_normal ?_
      | refine andThen_exit ?_
      | refine andThen_ret ?_
      | refine inBlock_normal ?_
      | refine inBlock_hit ?_
      | refine inBlock_ret ?_
      | refine inBlock_miss (by with_unfolding_all rfl) ?_
      | refine AOs.guardN (by with_unfolding_all rfl) (by simp only [aeval, PT.get_set, Nat.reduceEqDiff, reduceIte, if_true]; rfl) (by with_unfolding_all rfl) ?_
      | refine AOs.guardT (by with_unfolding_all rfl) (by simp only [aeval, PT.get_set, Nat.reduceEqDiff, reduceIte, if_true]; rfl) (by first | rfl | decide | assumption) ?_
      | refine AOs.guardF (by with_unfolding_all rfl) (by simp only [aeval, PT.get_set, Nat.reduceEqDiff, reduceIte, if_true]; rfl) (by first | rfl | decide | assumption) (by with_unfolding_all rfl) ?_
      | refine AOs.guardF0 (by with_unfolding_all rfl) (by simp only [aeval, PT.get_set, Nat.reduceEqDiff, reduceIte, if_true]; rfl) (by first | rfl | decide | assumption) ?_
      | refine AW.condT (by simp only [aeval, PT.get_set, Nat.reduceEqDiff, reduceIte, if_true]; rfl) (by first | rfl | decide | assumption) ?_
      | refine AW.condF (by simp only [aeval, PT.get_set, Nat.reduceEqDiff, reduceIte, if_true]; rfl) (by first | rfl | decide | assumption) ?_
      | refine AOs.op1 tOK (by simp only [evOp_move, evOp_assign, evOp_pick, evOp_build, evOp_nilCheck, evOp_binOp, evOp_not, evOp_fieldAddr, evOp_field, evOp_indexAddr, evOp_index, evOp_extract, evOp_makeFunc, evOp_load, evOp_lookup, evOp_store, evOp_mapUpdate, evOp_insert, evOp_range, evOp_makeMap, evOp_len, evOp_append, evOp_copy, evOp_delete, evOp_slice, evOp_convert, storeAt, one_bool, one_int, one_str, one_nilp, one_ptr, one_nils, one_slice, one_empty, one_nilm, one_map, one_func, one_nilf, one_iface, one_nili, aeval, ofVal, PT.get_set, Nat.reduceEqDiff, reduceIte, lenOfAV_slice, lenOfAV_nils, lenOfAV_empty, afield, apart, aindex, aconv, cellAt, cellsAt, mapLenAt, List.map_cons, List.map_nil, Option.map_some, Option.map_none, List.nil_append, List.append_nil, abin_add, abin_sub, abin_mul, abin_lss, abin_leq, abin_gtr, abin_geq, abin_eql, abin_neq, cond_true, cond_false, decide_true, decide_false, Bool.not_true, Bool.not_false, TI.agg, List.getElem?_cons_zero, List.getElem?_cons_succ, Nat.add_zero, Nat.zero_add, Nat.zero_mul, nbeq, nble, nblt, Nat.reduceLeDiff, Nat.reduceLT, Nat.reduceMul, Nat.reduceAdd, Nat.reduceSub, Bool.and_true, Bool.true_and, Bool.and_false, Bool.false_and, eq_self, Int.ofNat_eq_natCast, Int.cast_ofNat_Int, Int.natCast_zero, Int.reduceEq, Int.reduceLT, Int.reduceLE, Int.reduceNeg, ld3, st3, ld4, st4, ld5, st5, al9, ld9, st9, ld24, st24, ld27, st27, al28, ix28, bs28, ld28, st28, al32, ix32, bs32, ld32, st32, al37, ix37, bs37, ld37, st37, al40, ix40, bs40, ld40, st40, ld42, st42, fa63_0, ld63, fa65_0, fa65_1, fa65_2, fa65_3, fa65_4, fa65_5, ld65, ld96, st96, ld119, ix119, cv3_96, cv9_32, if_true]; rfl) (by with_unfolding_all rfl) ?_
      | refine AOs.op0 tOK (by simp only [evOp_move, evOp_assign, evOp_pick, evOp_build, evOp_nilCheck, evOp_binOp, evOp_not, evOp_fieldAddr, evOp_field, evOp_indexAddr, evOp_index, evOp_extract, evOp_makeFunc, evOp_load, evOp_lookup, evOp_store, evOp_mapUpdate, evOp_insert, evOp_range, evOp_makeMap, evOp_len, evOp_append, evOp_copy, evOp_delete, evOp_slice, evOp_convert, storeAt, one_bool, one_int, one_str, one_nilp, one_ptr, one_nils, one_slice, one_empty, one_nilm, one_map, one_func, one_nilf, one_iface, one_nili, aeval, ofVal, PT.get_set, Nat.reduceEqDiff, reduceIte, lenOfAV_slice, lenOfAV_nils, lenOfAV_empty, afield, apart, aindex, aconv, cellAt, cellsAt, mapLenAt, List.map_cons, List.map_nil, Option.map_some, Option.map_none, List.nil_append, List.append_nil, abin_add, abin_sub, abin_mul, abin_lss, abin_leq, abin_gtr, abin_geq, abin_eql, abin_neq, cond_true, cond_false, decide_true, decide_false, Bool.not_true, Bool.not_false, TI.agg, List.getElem?_cons_zero, List.getElem?_cons_succ, Nat.add_zero, Nat.zero_add, Nat.zero_mul, nbeq, nble, nblt, Nat.reduceLeDiff, Nat.reduceLT, Nat.reduceMul, Nat.reduceAdd, Nat.reduceSub, Bool.and_true, Bool.true_and, Bool.and_false, Bool.false_and, eq_self, Int.ofNat_eq_natCast, Int.cast_ofNat_Int, Int.natCast_zero, Int.reduceEq, Int.reduceLT, Int.reduceLE, Int.reduceNeg, ld3, st3, ld4, st4, ld5, st5, al9, ld9, st9, ld24, st24, ld27, st27, al28, ix28, bs28, ld28, st28, al32, ix32, bs32, ld32, st32, al37, ix37, bs37, ld37, st37, al40, ix40, bs40, ld40, st40, ld42, st42, fa63_0, ld63, fa65_0, fa65_1, fa65_2, fa65_3, fa65_4, fa65_5, ld65, ld96, st96, ld119, ix119, cv3_96, cv9_32, if_true]; rfl) ?_
      | fail "stop")
    refine AOs.callQ tOK (fs := []) (cs := []) rfl fn23 ok23 rfl (by simp only [List.map_cons, List.map_nil, List.nil_append, List.append_nil, List.cons_append, aeval, ofVal, PT.get_set, Nat.reduceEqDiff, reduceIte] <;> rfl) (ac_ev (nil23 _)) ?_
    rintro r1 K3 ⟨rfl, rfl⟩
    with_reducible repeat' (first
      | refine AW.seq ?_
      | refine AW.region ?_
      | refine AW.block ?_
      | refine AW.scope ?_
      | refine AOs.nil ?_
      | refine AW.skip ?_
      | refine AW.exit ?_
      | refine AW.ret ?_
      | refine AW.label ?_
      | refine andThen_normal ?_
      | refine andThen_exit ?_
      | refine andThen_ret ?_
      | refine inBlock_normal ?_
      | refine inBlock_hit ?_
      | refine inBlock_ret ?_
      | refine inBlock_miss (by with_unfolding_all rfl) ?_
      | refine AOs.guardN (by with_unfolding_all rfl) (by simp only [aeval, PT.get_set, Nat.reduceEqDiff, reduceIte, e0]; rfl) (by with_unfolding_all rfl) ?_
      | refine AOs.guardT (by with_unfolding_all rfl) (by simp only [aeval, PT.get_set, Nat.reduceEqDiff, reduceIte, e0]; rfl) (by first | rfl | decide | assumption) ?_
      | refine AOs.guardF (by with_unfolding_all rfl) (by simp only [aeval, PT.get_set, Nat.reduceEqDiff, reduceIte, e0]; rfl) (by first | rfl | decide | assumption) (by with_unfolding_all rfl) ?_
      | refine AOs.guardF0 (by with_unfolding_all rfl) (by simp only [aeval, PT.get_set, Nat.reduceEqDiff, reduceIte, e0]; rfl) (by first | rfl | decide | assumption) ?_
      | refine AW.condT (by simp only [aeval, PT.get_set, Nat.reduceEqDiff, reduceIte, e0]; rfl) (by first | rfl | decide | assumption) ?_
      | refine AW.condF (by simp only [aeval, PT.get_set, Nat.reduceEqDiff, reduceIte, e0]; rfl) (by first | rfl | decide | assumption) ?_
      | refine AOs.op1 tOK (by simp only [evOp_move, evOp_assign, evOp_pick, evOp_build, evOp_nilCheck, evOp_binOp, evOp_not, evOp_fieldAddr, evOp_field, evOp_indexAddr, evOp_index, evOp_extract, evOp_makeFunc, evOp_load, evOp_lookup, evOp_store, evOp_mapUpdate, evOp_insert, evOp_range, evOp_makeMap, evOp_len, evOp_append, evOp_copy, evOp_delete, evOp_slice, evOp_convert, storeAt, one_bool, one_int, one_str, one_nilp, one_ptr, one_nils, one_slice, one_empty, one_nilm, one_map, one_func, one_nilf, one_iface, one_nili, aeval, ofVal, PT.get_set, Nat.reduceEqDiff, reduceIte, lenOfAV_slice, lenOfAV_nils, lenOfAV_empty, afield, apart, aindex, aconv, cellAt, cellsAt, mapLenAt, List.map_cons, List.map_nil, Option.map_some, Option.map_none, List.nil_append, List.append_nil, abin_add, abin_sub, abin_mul, abin_lss, abin_leq, abin_gtr, abin_geq, abin_eql, abin_neq, cond_true, cond_false, decide_true, decide_false, Bool.not_true, Bool.not_false, TI.agg, List.getElem?_cons_zero, List.getElem?_cons_succ, Nat.add_zero, Nat.zero_add, Nat.zero_mul, nbeq, nble, nblt, Nat.reduceLeDiff, Nat.reduceLT, Nat.reduceMul, Nat.reduceAdd, Nat.reduceSub, Bool.and_true, Bool.true_and, Bool.and_false, Bool.false_and, eq_self, Int.ofNat_eq_natCast, Int.cast_ofNat_Int, Int.natCast_zero, Int.reduceEq, Int.reduceLT, Int.reduceLE, Int.reduceNeg, ld3, st3, ld4, st4, ld5, st5, al9, ld9, st9, ld24, st24, ld27, st27, al28, ix28, bs28, ld28, st28, al32, ix32, bs32, ld32, st32, al37, ix37, bs37, ld37, st37, al40, ix40, bs40, ld40, st40, ld42, st42, fa63_0, ld63, fa65_0, fa65_1, fa65_2, fa65_3, fa65_4, fa65_5, ld65, ld96, st96, ld119, ix119, cv3_96, cv9_32, e0]; rfl) (by with_unfolding_all rfl) ?_
      | refine AOs.op0 tOK (by simp only [evOp_move, evOp_assign, evOp_pick, evOp_build, evOp_nilCheck, evOp_binOp, evOp_not, evOp_fieldAddr, evOp_field, evOp_indexAddr, evOp_index, evOp_extract, evOp_makeFunc, evOp_load, evOp_lookup, evOp_store, evOp_mapUpdate, evOp_insert, evOp_range, evOp_makeMap, evOp_len, evOp_append, evOp_copy, evOp_delete, evOp_slice, evOp_convert, storeAt, one_bool, one_int, one_str, one_nilp, one_ptr, one_nils, one_slice, one_empty, one_nilm, one_map, one_func, one_nilf, one_iface, one_nili, aeval, ofVal, PT.get_set, Nat.reduceEqDiff, reduceIte, lenOfAV_slice, lenOfAV_nils, lenOfAV_empty, afield, apart, aindex, aconv, cellAt, cellsAt, mapLenAt, List.map_cons, List.map_nil, Option.map_some, Option.map_none, List.nil_append, List.append_nil, abin_add, abin_sub, abin_mul, abin_lss, abin_leq, abin_gtr, abin_geq, abin_eql, abin_neq, cond_true, cond_false, decide_true, decide_false, Bool.not_true, Bool.not_false, TI.agg, List.getElem?_cons_zero, List.getElem?_cons_succ, Nat.add_zero, Nat.zero_add, Nat.zero_mul, nbeq, nble, nblt, Nat.reduceLeDiff, Nat.reduceLT, Nat.reduceMul, Nat.reduceAdd, Nat.reduceSub, Bool.and_true, Bool.true_and, Bool.and_false, Bool.false_and, eq_self, Int.ofNat_eq_natCast, Int.cast_ofNat_Int, Int.natCast_zero, Int.reduceEq, Int.reduceLT, Int.reduceLE, Int.reduceNeg, ld3, st3, ld4, st4, ld5, st5, al9, ld9, st9, ld24, st24, ld27, st27, al28, ix28, bs28, ld28, st28, al32, ix32, bs32, ld32, st32, al37, ix37, bs37, ld37, st37, al40, ix40, bs40, ld40, st40, ld42, st42, fa63_0, ld63, fa65_0, fa65_1, fa65_2, fa65_3, fa65_4, fa65_5, ld65, ld96, st96, ld119, ix119, cv3_96, cv9_32, e0]; rfl) ?_
      | fail "stop")
    refine AOs.callQ tOK (fs := []) (cs := []) rfl fn22 ok22 rfl (by simp only [List.map_cons, List.map_nil, List.nil_append, List.append_nil, List.cons_append, aeval, ofVal, PT.get_set, Nat.reduceEqDiff, reduceIte] <;> rfl) (recs22 N _ v l (hl.mono hlt hs2) hwf (by omega)) ?_
    rintro r4 K4 -
    with_reducible repeat' (first
      | refine AW.seq ?_
      | refine AW.region ?_
      | refine AW.block ?_
      | refine AW.scope ?_
      | refine AOs.nil ?_
      | refine AW.skip ?_
      | refine AW.exit ?_
      | refine AW.ret ?_
      | refine AW.label ?_
      | refine andThen_normal ?_
      | refine andThen_exit ?_
      | refine andThen_ret ?_
      | refine inBlock_normal ?_
      | refine inBlock_hit ?_
      | refine inBlock_ret ?_
      | refine inBlock_miss (by with_unfolding_all rfl) ?_
      | refine AOs.guardN (by with_unfolding_all rfl) (by simp only [aeval, PT.get_set, Nat.reduceEqDiff, reduceIte, if_true]; rfl) (by with_unfolding_all rfl) ?_
      | refine AOs.guardT (by with_unfolding_all rfl) (by simp only [aeval, PT.get_set, Nat.reduceEqDiff, reduceIte, if_true]; rfl) (by first | rfl | decide | assumption) ?_
      | refine AOs.guardF (by with_unfolding_all rfl) (by simp only [aeval, PT.get_set, Nat.reduceEqDiff, reduceIte, if_true]; rfl) (by first | rfl | decide | assumption) (by with_unfolding_all rfl) ?_
      | refine AOs.guardF0 (by with_unfolding_all rfl) (by simp only [aeval, PT.get_set, Nat.reduceEqDiff, reduceIte, if_true]; rfl) (by first | rfl | decide | assumption) ?_
      | refine AW.condT (by simp only [aeval, PT.get_set, Nat.reduceEqDiff, reduceIte, if_true]; rfl) (by first | rfl | decide | assumption) ?_
      | refine AW.condF (by simp only [aeval, PT.get_set, Nat.reduceEqDiff, reduceIte, if_true]; rfl) (by first | rfl | decide | assumption) ?_
      | refine AOs.op1 tOK (by simp only [evOp_move, evOp_assign, evOp_pick, evOp_build, evOp_nilCheck, evOp_binOp, evOp_not, evOp_fieldAddr, evOp_field, evOp_indexAddr, evOp_index, evOp_extract, evOp_makeFunc, evOp_load, evOp_lookup, evOp_store, evOp_mapUpdate, evOp_insert, evOp_range, evOp_makeMap, evOp_len, evOp_append, evOp_copy, evOp_delete, evOp_slice, evOp_convert, storeAt, one_bool, one_int, one_str, one_nilp, one_ptr, one_nils, one_slice, one_empty, one_nilm, one_map, one_func, one_nilf, one_iface, one_nili, aeval, ofVal, PT.get_set, Nat.reduceEqDiff, reduceIte, lenOfAV_slice, lenOfAV_nils, lenOfAV_empty, afield, apart, aindex, aconv, cellAt, cellsAt, mapLenAt, List.map_cons, List.map_nil, Option.map_some, Option.map_none, List.nil_append, List.append_nil, abin_add, abin_sub, abin_mul, abin_lss, abin_leq, abin_gtr, abin_geq, abin_eql, abin_neq, cond_true, cond_false, decide_true, decide_false, Bool.not_true, Bool.not_false, TI.agg, List.getElem?_cons_zero, List.getElem?_cons_succ, Nat.add_zero, Nat.zero_add, Nat.zero_mul, nbeq, nble, nblt, Nat.reduceLeDiff, Nat.reduceLT, Nat.reduceMul, Nat.reduceAdd, Nat.reduceSub, Bool.and_true, Bool.true_and, Bool.and_false, Bool.false_and, eq_self, Int.ofNat_eq_natCast, Int.cast_ofNat_Int, Int.natCast_zero, Int.reduceEq, Int.reduceLT, Int.reduceLE, Int.reduceNeg, ld3, st3, ld4, st4, ld5, st5, al9, ld9, st9, ld24, st24, ld27, st27, al28, ix28, bs28, ld28, st28, al32, ix32, bs32, ld32, st32, al37, ix37, bs37, ld37, st37, al40, ix40, bs40, ld40, st40, ld42, st42, fa63_0, ld63, fa65_0, fa65_1, fa65_2, fa65_3, fa65_4, fa65_5, ld65, ld96, st96, ld119, ix119, cv3_96, cv9_32, if_true]; rfl) (by with_unfolding_all rfl) ?_
      | refine AOs.op0 tOK (by simp only [evOp_move, evOp_assign, evOp_pick, evOp_build, evOp_nilCheck, evOp_binOp, evOp_not, evOp_fieldAddr, evOp_field, evOp_indexAddr, evOp_index, evOp_extract, evOp_makeFunc, evOp_load, evOp_lookup, evOp_store, evOp_mapUpdate, evOp_insert, evOp_range, evOp_makeMap, evOp_len, evOp_append, evOp_copy, evOp_delete, evOp_slice, evOp_convert, storeAt, one_bool, one_int, one_str, one_nilp, one_ptr, one_nils, one_slice, one_empty, one_nilm, one_map, one_func, one_nilf, one_iface, one_nili, aeval, ofVal, PT.get_set, Nat.reduceEqDiff, reduceIte, lenOfAV_slice, lenOfAV_nils, lenOfAV_empty, afield, apart, aindex, aconv, cellAt, cellsAt, mapLenAt, List.map_cons, List.map_nil, Option.map_some, Option.map_none, List.nil_append, List.append_nil, abin_add, abin_sub, abin_mul, abin_lss, abin_leq, abin_gtr, abin_geq, abin_eql, abin_neq, cond_true, cond_false, decide_true, decide_false, Bool.not_true, Bool.not_false, TI.agg, List.getElem?_cons_zero, List.getElem?_cons_succ, Nat.add_zero, Nat.zero_add, Nat.zero_mul, nbeq, nble, nblt, Nat.reduceLeDiff, Nat.reduceLT, Nat.reduceMul, Nat.reduceAdd, Nat.reduceSub, Bool.and_true, Bool.true_and, Bool.and_false, Bool.false_and, eq_self, Int.ofNat_eq_natCast, Int.cast_ofNat_Int, Int.natCast_zero, Int.reduceEq, Int.reduceLT, Int.reduceLE, Int.reduceNeg, ld3, st3, ld4, st4, ld5, st5, al9, ld9, st9, ld24, st24, ld27, st27, al28, ix28, bs28, ld28, st28, al32, ix32, bs32, ld32, st32, al37, ix37, bs37, ld37, st37, al40, ix40, bs40, ld40, st40, ld42, st42, fa63_0, ld63, fa65_0, fa65_1, fa65_2, fa65_3, fa65_4, fa65_5, ld65, ld96, st96, ld119, ix119, cv3_96, cv9_32, if_true]; rfl) ?_
      | fail "stop")
    refine AOs.callQ tOK (fs := []) (cs := []) rfl fn25 ok25 rfl (by simp only [List.map_cons, List.map_nil, List.nil_append, List.append_nil, List.cons_append, aeval, ofVal, PT.get_set, Nat.reduceEqDiff, reduceIte] <;> rfl) (ac_ev (nil25 r4 _)) ?_
    rintro r1 K5 ⟨rfl, rfl⟩
    with_reducible repeat' (first
      | refine AW.seq ?_
      | refine AW.region ?_
      | refine AW.block ?_
      | refine AW.scope ?_
      | refine AOs.nil ?_
      | refine AW.skip ?_
      | refine AW.exit ?_
      | refine AW.ret ?_
      | refine AW.label ?_
      | refine andThen_normal ?_
      | refine andThen_exit ?_
      | refine andThen_ret ?_
      | refine inBlock_normal ?_
      | refine inBlock_hit ?_
      | refine inBlock_ret ?_
      | refine inBlock_miss (by with_unfolding_all rfl) ?_
      | refine AOs.guardN (by with_unfolding_all rfl) (by simp only [aeval, PT.get_set, Nat.reduceEqDiff, reduceIte, if_true]; rfl) (by with_unfolding_all rfl) ?_
      | refine AOs.guardT (by with_unfolding_all rfl) (by simp only [aeval, PT.get_set, Nat.reduceEqDiff, reduceIte, if_true]; rfl) (by first | rfl | decide | assumption) ?_
      | refine AOs.guardF (by with_unfolding_all rfl) (by simp only [aeval, PT.get_set, Nat.reduceEqDiff, reduceIte, if_true]; rfl) (by first | rfl | decide | assumption) (by with_unfolding_all rfl) ?_
      | refine AOs.guardF0 (by with_unfolding_all rfl) (by simp only [aeval, PT.get_set, Nat.reduceEqDiff, reduceIte, if_true]; rfl) (by first | rfl | decide | assumption) ?_
      | refine AW.condT (by simp only [aeval, PT.get_set, Nat.reduceEqDiff, reduceIte, if_true]; rfl) (by first | rfl | decide | assumption) ?_
      | refine AW.condF (by simp only [aeval, PT.get_set, Nat.reduceEqDiff, reduceIte, if_true]; rfl) (by first | rfl | decide | assumption) ?_
      | refine AOs.op1 tOK (by simp only [evOp_move, evOp_assign, evOp_pick, evOp_build, evOp_nilCheck, evOp_binOp, evOp_not, evOp_fieldAddr, evOp_field, evOp_indexAddr, evOp_index, evOp_extract, evOp_makeFunc, evOp_load, evOp_lookup, evOp_store, evOp_mapUpdate, evOp_insert, evOp_range, evOp_makeMap, evOp_len, evOp_append, evOp_copy, evOp_delete, evOp_slice, evOp_convert, storeAt, one_bool, one_int, one_str, one_nilp, one_ptr, one_nils, one_slice, one_empty, one_nilm, one_map, one_func, one_nilf, one_iface, one_nili, aeval, ofVal, PT.get_set, Nat.reduceEqDiff, reduceIte, lenOfAV_slice, lenOfAV_nils, lenOfAV_empty, afield, apart, aindex, aconv, cellAt, cellsAt, mapLenAt, List.map_cons, List.map_nil, Option.map_some, Option.map_none, List.nil_append, List.append_nil, abin_add, abin_sub, abin_mul, abin_lss, abin_leq, abin_gtr, abin_geq, abin_eql, abin_neq, cond_true, cond_false, decide_true, decide_false, Bool.not_true, Bool.not_false, TI.agg, List.getElem?_cons_zero, List.getElem?_cons_succ, Nat.add_zero, Nat.zero_add, Nat.zero_mul, nbeq, nble, nblt, Nat.reduceLeDiff, Nat.reduceLT, Nat.reduceMul, Nat.reduceAdd, Nat.reduceSub, Bool.and_true, Bool.true_and, Bool.and_false, Bool.false_and, eq_self, Int.ofNat_eq_natCast, Int.cast_ofNat_Int, Int.natCast_zero, Int.reduceEq, Int.reduceLT, Int.reduceLE, Int.reduceNeg, ld3, st3, ld4, st4, ld5, st5, al9, ld9, st9, ld24, st24, ld27, st27, al28, ix28, bs28, ld28, st28, al32, ix32, bs32, ld32, st32, al37, ix37, bs37, ld37, st37, al40, ix40, bs40, ld40, st40, ld42, st42, fa63_0, ld63, fa65_0, fa65_1, fa65_2, fa65_3, fa65_4, fa65_5, ld65, ld96, st96, ld119, ix119, cv3_96, cv9_32, if_true]; rfl) (by with_unfolding_all rfl) ?_
      | refine AOs.op0 tOK (by simp only [evOp_move, evOp_assign, evOp_pick, evOp_build, evOp_nilCheck, evOp_binOp, evOp_not, evOp_fieldAddr, evOp_field, evOp_indexAddr, evOp_index, evOp_extract, evOp_makeFunc, evOp_load, evOp_lookup, evOp_store, evOp_mapUpdate, evOp_insert, evOp_range, evOp_makeMap, evOp_len, evOp_append, evOp_copy, evOp_delete, evOp_slice, evOp_convert, storeAt, one_bool, one_int, one_str, one_nilp, one_ptr, one_nils, one_slice, one_empty, one_nilm, one_map, one_func, one_nilf, one_iface, one_nili, aeval, ofVal, PT.get_set, Nat.reduceEqDiff, reduceIte, lenOfAV_slice, lenOfAV_nils, lenOfAV_empty, afield, apart, aindex, aconv, cellAt, cellsAt, mapLenAt, List.map_cons, List.map_nil, Option.map_some, Option.map_none, List.nil_append, List.append_nil, abin_add, abin_sub, abin_mul, abin_lss, abin_leq, abin_gtr, abin_geq, abin_eql, abin_neq, cond_true, cond_false, decide_true, decide_false, Bool.not_true, Bool.not_false, TI.agg, List.getElem?_cons_zero, List.getElem?_cons_succ, Nat.add_zero, Nat.zero_add, Nat.zero_mul, nbeq, nble, nblt, Nat.reduceLeDiff, Nat.reduceLT, Nat.reduceMul, Nat.reduceAdd, Nat.reduceSub, Bool.and_true, Bool.true_and, Bool.and_false, Bool.false_and, eq_self, Int.ofNat_eq_natCast, Int.cast_ofNat_Int, Int.natCast_zero, Int.reduceEq, Int.reduceLT, Int.reduceLE, Int.reduceNeg, ld3, st3, ld4, st4, ld5, st5, al9, ld9, st9, ld24, st24, ld27, st27, al28, ix28, bs28, ld28, st28, al32, ix32, bs32, ld32, st32, al37, ix37, bs37, ld37, st37, al40, ix40, bs40, ld40, st40, ld42, st42, fa63_0, ld63, fa65_0, fa65_1, fa65_2, fa65_3, fa65_4, fa65_5, ld65, ld96, st96, ld119, ix119, cv3_96, cv9_32, if_true]; rfl) ?_
      | fail "stop")
    refine AOs.callQ tOK (fs := []) (cs := []) rfl fn27 ok27 rfl (by simp only [List.map_cons, List.map_nil, List.nil_append, List.append_nil, List.cons_append, aeval, ofVal, PT.get_set, Nat.reduceEqDiff, reduceIte] <;> rfl) (ac_ev (nil27 _)) ?_
    rintro r1 K5 ⟨rfl, rfl⟩
    with_reducible repeat' (first
      | refine AW.seq ?_
      | refine AW.region ?_
      | refine AW.block ?_
      | refine AW.scope ?_
      | refine AOs.nil ?_
      | refine AW.skip ?_
      | refine AW.exit ?_
      | refine AW.ret ?_
      | refine AW.label ?_
      | refine andThen_normal ?_
      | refine andThen_exit ?_
      | refine andThen_ret ?_
      | refine inBlock_normal ?_
      | refine inBlock_hit ?_
      | refine inBlock_ret ?_
      | refine inBlock_miss (by with_unfolding_all rfl) ?_
      | refine AOs.guardN (by with_unfolding_all rfl) (by simp only [aeval, PT.get_set, Nat.reduceEqDiff, reduceIte, if_true]; rfl) (by with_unfolding_all rfl) ?_
      | refine AOs.guardT (by with_unfolding_all rfl) (by simp only [aeval, PT.get_set, Nat.reduceEqDiff, reduceIte, if_true]; rfl) (by first | rfl | decide | assumption) ?_
      | refine AOs.guardF (by with_unfolding_all rfl) (by simp only [aeval, PT.get_set, Nat.reduceEqDiff, reduceIte, if_true]; rfl) (by first | rfl | decide | assumption) (by with_unfolding_all rfl) ?_
      | refine AOs.guardF0 (by with_unfolding_all rfl) (by simp only [aeval, PT.get_set, Nat.reduceEqDiff, reduceIte, if_true]; rfl) (by first | rfl | decide | assumption) ?_
      | refine AW.condT (by simp only [aeval, PT.get_set, Nat.reduceEqDiff, reduceIte, if_true]; rfl) (by first | rfl | decide | assumption) ?_
      | refine AW.condF (by simp only [aeval, PT.get_set, Nat.reduceEqDiff, reduceIte, if_true]; rfl) (by first | rfl | decide | assumption) ?_
      | refine AOs.op1 tOK (by simp only [evOp_move, evOp_assign, evOp_pick, evOp_build, evOp_nilCheck, evOp_binOp, evOp_not, evOp_fieldAddr, evOp_field, evOp_indexAddr, evOp_index, evOp_extract, evOp_makeFunc, evOp_load, evOp_lookup, evOp_store, evOp_mapUpdate, evOp_insert, evOp_range, evOp_makeMap, evOp_len, evOp_append, evOp_copy, evOp_delete, evOp_slice, evOp_convert, storeAt, one_bool, one_int, one_str, one_nilp, one_ptr, one_nils, one_slice, one_empty, one_nilm, one_map, one_func, one_nilf, one_iface, one_nili, aeval, ofVal, PT.get_set, Nat.reduceEqDiff, reduceIte, lenOfAV_slice, lenOfAV_nils, lenOfAV_empty, afield, apart, aindex, aconv, cellAt, cellsAt, mapLenAt, List.map_cons, List.map_nil, Option.map_some, Option.map_none, List.nil_append, List.append_nil, abin_add, abin_sub, abin_mul, abin_lss, abin_leq, abin_gtr, abin_geq, abin_eql, abin_neq, cond_true, cond_false, decide_true, decide_false, Bool.not_true, Bool.not_false, TI.agg, List.getElem?_cons_zero, List.getElem?_cons_succ, Nat.add_zero, Nat.zero_add, Nat.zero_mul, nbeq, nble, nblt, Nat.reduceLeDiff, Nat.reduceLT, Nat.reduceMul, Nat.reduceAdd, Nat.reduceSub, Bool.and_true, Bool.true_and, Bool.and_false, Bool.false_and, eq_self, Int.ofNat_eq_natCast, Int.cast_ofNat_Int, Int.natCast_zero, Int.reduceEq, Int.reduceLT, Int.reduceLE, Int.reduceNeg, ld3, st3, ld4, st4, ld5, st5, al9, ld9, st9, ld24, st24, ld27, st27, al28, ix28, bs28, ld28, st28, al32, ix32, bs32, ld32, st32, al37, ix37, bs37, ld37, st37, al40, ix40, bs40, ld40, st40, ld42, st42, fa63_0, ld63, fa65_0, fa65_1, fa65_2, fa65_3, fa65_4, fa65_5, ld65, ld96, st96, ld119, ix119, cv3_96, cv9_32, if_true]; rfl) (by with_unfolding_all rfl) ?_
      | refine AOs.op0 tOK (by simp only [evOp_move, evOp_assign, evOp_pick, evOp_build, evOp_nilCheck, evOp_binOp, evOp_not, evOp_fieldAddr, evOp_field, evOp_indexAddr, evOp_index, evOp_extract, evOp_makeFunc, evOp_load, evOp_lookup, evOp_store, evOp_mapUpdate, evOp_insert, evOp_range, evOp_makeMap, evOp_len, evOp_append, evOp_copy, evOp_delete, evOp_slice, evOp_convert, storeAt, one_bool, one_int, one_str, one_nilp, one_ptr, one_nils, one_slice, one_empty, one_nilm, one_map, one_func, one_nilf, one_iface, one_nili, aeval, ofVal, PT.get_set, Nat.reduceEqDiff, reduceIte, lenOfAV_slice, lenOfAV_nils, lenOfAV_empty, afield, apart, aindex, aconv, cellAt, cellsAt, mapLenAt, List.map_cons, List.map_nil, Option.map_some, Option.map_none, List.nil_append, List.append_nil, abin_add, abin_sub, abin_mul, abin_lss, abin_leq, abin_gtr, abin_geq, abin_eql, abin_neq, cond_true, cond_false, decide_true, decide_false, Bool.not_true, Bool.not_false, TI.agg, List.getElem?_cons_zero, List.getElem?_cons_succ, Nat.add_zero, Nat.zero_add, Nat.zero_mul, nbeq, nble, nblt, Nat.reduceLeDiff, Nat.reduceLT, Nat.reduceMul, Nat.reduceAdd, Nat.reduceSub, Bool.and_true, Bool.true_and, Bool.and_false, Bool.false_and, eq_self, Int.ofNat_eq_natCast, Int.cast_ofNat_Int, Int.natCast_zero, Int.reduceEq, Int.reduceLT, Int.reduceLE, Int.reduceNeg, ld3, st3, ld4, st4, ld5, st5, al9, ld9, st9, ld24, st24, ld27, st27, al28, ix28, bs28, ld28, st28, al32, ix32, bs32, ld32, st32, al37, ix37, bs37, ld37, st37, al40, ix40, bs40, ld40, st40, ld42, st42, fa63_0, ld63, fa65_0, fa65_1, fa65_2, fa65_3, fa65_4, fa65_5, ld65, ld96, st96, ld119, ix119, cv3_96, cv9_32, if_true]; rfl) ?_
      | fail "stop")
    refine AOs.callQ tOK (fs := []) (cs := []) rfl fn28 ok28 rfl (by simp only [List.map_cons, List.map_nil, List.nil_append, List.append_nil, List.cons_append, aeval, ofVal, PT.get_set, Nat.reduceEqDiff, reduceIte] <;> rfl) (ac_ev (nil28 _)) ?_
    rintro r1 K5 ⟨rfl, rfl⟩
    with_reducible repeat' (first
      | refine AW.seq ?_
      | refine AW.region ?_
      | refine AW.block ?_
      | refine AW.scope ?_
      | refine AOs.nil ?_
      | refine AW.skip ?_
      | refine AW.exit ?_
      | refine AW.ret ?_
      | refine AW.label ?_
      | refine andThen_normal ?_
      | refine andThen_exit ?_
      | refine andThen_ret ?_
      | refine inBlock_normal ?_
      | refine inBlock_hit ?_
      | refine inBlock_ret ?_
      | refine inBlock_miss (by with_unfolding_all rfl) ?_
      | refine AOs.guardN (by with_unfolding_all rfl) (by simp only [aeval, PT.get_set, Nat.reduceEqDiff, reduceIte, if_true]; rfl) (by with_unfolding_all rfl) ?_
      | refine AOs.guardT (by with_unfolding_all rfl) (by simp only [aeval, PT.get_set, Nat.reduceEqDiff, reduceIte, if_true]; rfl) (by first | rfl | decide | assumption) ?_
      | refine AOs.guardF (by with_unfolding_all rfl) (by simp only [aeval, PT.get_set, Nat.reduceEqDiff, reduceIte, if_true]; rfl) (by first | rfl | decide | assumption) (by with_unfolding_all rfl) ?_
      | refine AOs.guardF0 (by with_unfolding_all rfl) (by simp only [aeval, PT.get_set, Nat.reduceEqDiff, reduceIte, if_true]; rfl) (by first | rfl | decide | assumption) ?_
      | refine AW.condT (by simp only [aeval, PT.get_set, Nat.reduceEqDiff, reduceIte, if_true]; rfl) (by first | rfl | decide | assumption) ?_
      | refine AW.condF (by simp only [aeval, PT.get_set, Nat.reduceEqDiff, reduceIte, if_true]; rfl) (by first | rfl | decide | assumption) ?_
      | refine AOs.op1 tOK (by simp only [evOp_move, evOp_assign, evOp_pick, evOp_build, evOp_nilCheck, evOp_binOp, evOp_not, evOp_fieldAddr, evOp_field, evOp_indexAddr, evOp_index, evOp_extract, evOp_makeFunc, evOp_load, evOp_lookup, evOp_store, evOp_mapUpdate, evOp_insert, evOp_range, evOp_makeMap, evOp_len, evOp_append, evOp_copy, evOp_delete, evOp_slice, evOp_convert, storeAt, one_bool, one_int, one_str, one_nilp, one_ptr, one_nils, one_slice, one_empty, one_nilm, one_map, one_func, one_nilf, one_iface, one_nili, aeval, ofVal, PT.get_set, Nat.reduceEqDiff, reduceIte, lenOfAV_slice, lenOfAV_nils, lenOfAV_empty, afield, apart, aindex, aconv, cellAt, cellsAt, mapLenAt, List.map_cons, List.map_nil, Option.map_some, Option.map_none, List.nil_append, List.append_nil, abin_add, abin_sub, abin_mul, abin_lss, abin_leq, abin_gtr, abin_geq, abin_eql, abin_neq, cond_true, cond_false, decide_true, decide_false, Bool.not_true, Bool.not_false, TI.agg, List.getElem?_cons_zero, List.getElem?_cons_succ, Nat.add_zero, Nat.zero_add, Nat.zero_mul, nbeq, nble, nblt, Nat.reduceLeDiff, Nat.reduceLT, Nat.reduceMul, Nat.reduceAdd, Nat.reduceSub, Bool.and_true, Bool.true_and, Bool.and_false, Bool.false_and, eq_self, Int.ofNat_eq_natCast, Int.cast_ofNat_Int, Int.natCast_zero, Int.reduceEq, Int.reduceLT, Int.reduceLE, Int.reduceNeg, ld3, st3, ld4, st4, ld5, st5, al9, ld9, st9, ld24, st24, ld27, st27, al28, ix28, bs28, ld28, st28, al32, ix32, bs32, ld32, st32, al37, ix37, bs37, ld37, st37, al40, ix40, bs40, ld40, st40, ld42, st42, fa63_0, ld63, fa65_0, fa65_1, fa65_2, fa65_3, fa65_4, fa65_5, ld65, ld96, st96, ld119, ix119, cv3_96, cv9_32, if_true]; rfl) (by with_unfolding_all rfl) ?_
      | refine AOs.op0 tOK (by simp only [evOp_move, evOp_assign, evOp_pick, evOp_build, evOp_nilCheck, evOp_binOp, evOp_not, evOp_fieldAddr, evOp_field, evOp_indexAddr, evOp_index, evOp_extract, evOp_makeFunc, evOp_load, evOp_lookup, evOp_store, evOp_mapUpdate, evOp_insert, evOp_range, evOp_makeMap, evOp_len, evOp_append, evOp_copy, evOp_delete, evOp_slice, evOp_convert, storeAt, one_bool, one_int, one_str, one_nilp, one_ptr, one_nils, one_slice, one_empty, one_nilm, one_map, one_func, one_nilf, one_iface, one_nili, aeval, ofVal, PT.get_set, Nat.reduceEqDiff, reduceIte, lenOfAV_slice, lenOfAV_nils, lenOfAV_empty, afield, apart, aindex, aconv, cellAt, cellsAt, mapLenAt, List.map_cons, List.map_nil, Option.map_some, Option.map_none, List.nil_append, List.append_nil, abin_add, abin_sub, abin_mul, abin_lss, abin_leq, abin_gtr, abin_geq, abin_eql, abin_neq, cond_true, cond_false, decide_true, decide_false, Bool.not_true, Bool.not_false, TI.agg, List.getElem?_cons_zero, List.getElem?_cons_succ, Nat.add_zero, Nat.zero_add, Nat.zero_mul, nbeq, nble, nblt, Nat.reduceLeDiff, Nat.reduceLT, Nat.reduceMul, Nat.reduceAdd, Nat.reduceSub, Bool.and_true, Bool.true_and, Bool.and_false, Bool.false_and, eq_self, Int.ofNat_eq_natCast, Int.cast_ofNat_Int, Int.natCast_zero, Int.reduceEq, Int.reduceLT, Int.reduceLE, Int.reduceNeg, ld3, st3, ld4, st4, ld5, st5, al9, ld9, st9, ld24, st24, ld27, st27, al28, ix28, bs28, ld28, st28, al32, ix32, bs32, ld32, st32, al37, ix37, bs37, ld37, st37, al40, ix40, bs40, ld40, st40, ld42, st42, fa63_0, ld63, fa65_0, fa65_1, fa65_2, fa65_3, fa65_4, fa65_5, ld65, ld96, st96, ld119, ix119, cv3_96, cv9_32, if_true]; rfl) ?_
      | fail "stop")
    refine AOs.callQ tOK (fs := []) (cs := []) rfl fn29 ok29 rfl (by simp only [List.map_cons, List.map_nil, List.nil_append, List.append_nil, List.cons_append, aeval, ofVal, PT.get_set, Nat.reduceEqDiff, reduceIte] <;> rfl) (ac_ev (nil29 _)) ?_
    rintro r1 K5 ⟨rfl, rfl⟩
    with_reducible repeat' (first
      | refine AW.seq ?_
      | refine AW.region ?_
      | refine AW.block ?_
      | refine AW.scope ?_
      | refine AOs.nil ?_
      | refine AW.skip ?_
      | refine AW.exit ?_
      | refine AW.ret ?_
      | refine AW.label ?_
      | refine andThen_normal ?_
      | refine andThen_exit ?_
      | refine andThen_ret ?_
      | refine inBlock_normal ?_
      | refine inBlock_hit ?_
      | refine inBlock_ret ?_
      | refine inBlock_miss (by with_unfolding_all rfl) ?_
      | refine AOs.guardN (by with_unfolding_all rfl) (by simp only [aeval, PT.get_set, Nat.reduceEqDiff, reduceIte, if_true]; rfl) (by with_unfolding_all rfl) ?_
      | refine AOs.guardT (by with_unfolding_all rfl) (by simp only [aeval, PT.get_set, Nat.reduceEqDiff, reduceIte, if_true]; rfl) (by first | rfl | decide | assumption) ?_
      | refine AOs.guardF (by with_unfolding_all rfl) (by simp only [aeval, PT.get_set, Nat.reduceEqDiff, reduceIte, if_true]; rfl) (by first | rfl | decide | assumption) (by with_unfolding_all rfl) ?_
      | refine AOs.guardF0 (by with_unfolding_all rfl) (by simp only [aeval, PT.get_set, Nat.reduceEqDiff, reduceIte, if_true]; rfl) (by first | rfl | decide | assumption) ?_
      | refine AW.condT (by simp only [aeval, PT.get_set, Nat.reduceEqDiff, reduceIte, if_true]; rfl) (by first | rfl | decide | assumption) ?_
      | refine AW.condF (by simp only [aeval, PT.get_set, Nat.reduceEqDiff, reduceIte, if_true]; rfl) (by first | rfl | decide | assumption) ?_
      | refine AOs.op1 tOK (by simp only [evOp_move, evOp_assign, evOp_pick, evOp_build, evOp_nilCheck, evOp_binOp, evOp_not, evOp_fieldAddr, evOp_field, evOp_indexAddr, evOp_index, evOp_extract, evOp_makeFunc, evOp_load, evOp_lookup, evOp_store, evOp_mapUpdate, evOp_insert, evOp_range, evOp_makeMap, evOp_len, evOp_append, evOp_copy, evOp_delete, evOp_slice, evOp_convert, storeAt, one_bool, one_int, one_str, one_nilp, one_ptr, one_nils, one_slice, one_empty, one_nilm, one_map, one_func, one_nilf, one_iface, one_nili, aeval, ofVal, PT.get_set, Nat.reduceEqDiff, reduceIte, lenOfAV_slice, lenOfAV_nils, lenOfAV_empty, afield, apart, aindex, aconv, cellAt, cellsAt, mapLenAt, List.map_cons, List.map_nil, Option.map_some, Option.map_none, List.nil_append, List.append_nil, abin_add, abin_sub, abin_mul, abin_lss, abin_leq, abin_gtr, abin_geq, abin_eql, abin_neq, cond_true, cond_false, decide_true, decide_false, Bool.not_true, Bool.not_false, TI.agg, List.getElem?_cons_zero, List.getElem?_cons_succ, Nat.add_zero, Nat.zero_add, Nat.zero_mul, nbeq, nble, nblt, Nat.reduceLeDiff, Nat.reduceLT, Nat.reduceMul, Nat.reduceAdd, Nat.reduceSub, Bool.and_true, Bool.true_and, Bool.and_false, Bool.false_and, eq_self, Int.ofNat_eq_natCast, Int.cast_ofNat_Int, Int.natCast_zero, Int.reduceEq, Int.reduceLT, Int.reduceLE, Int.reduceNeg, ld3, st3, ld4, st4, ld5, st5, al9, ld9, st9, ld24, st24, ld27, st27, al28, ix28, bs28, ld28, st28, al32, ix32, bs32, ld32, st32, al37, ix37, bs37, ld37, st37, al40, ix40, bs40, ld40, st40, ld42, st42, fa63_0, ld63, fa65_0, fa65_1, fa65_2, fa65_3, fa65_4, fa65_5, ld65, ld96, st96, ld119, ix119, cv3_96, cv9_32, if_true]; rfl) (by with_unfolding_all rfl) ?_
      | refine AOs.op0 tOK (by simp only [evOp_move, evOp_assign, evOp_pick, evOp_build, evOp_nilCheck, evOp_binOp, evOp_not, evOp_fieldAddr, evOp_field, evOp_indexAddr, evOp_index, evOp_extract, evOp_makeFunc, evOp_load, evOp_lookup, evOp_store, evOp_mapUpdate, evOp_insert, evOp_range, evOp_makeMap, evOp_len, evOp_append, evOp_copy, evOp_delete, evOp_slice, evOp_convert, storeAt, one_bool, one_int, one_str, one_nilp, one_ptr, one_nils, one_slice, one_empty, one_nilm, one_map, one_func, one_nilf, one_iface, one_nili, aeval, ofVal, PT.get_set, Nat.reduceEqDiff, reduceIte, lenOfAV_slice, lenOfAV_nils, lenOfAV_empty, afield, apart, aindex, aconv, cellAt, cellsAt, mapLenAt, List.map_cons, List.map_nil, Option.map_some, Option.map_none, List.nil_append, List.append_nil, abin_add, abin_sub, abin_mul, abin_lss, abin_leq, abin_gtr, abin_geq, abin_eql, abin_neq, cond_true, cond_false, decide_true, decide_false, Bool.not_true, Bool.not_false, TI.agg, List.getElem?_cons_zero, List.getElem?_cons_succ, Nat.add_zero, Nat.zero_add, Nat.zero_mul, nbeq, nble, nblt, Nat.reduceLeDiff, Nat.reduceLT, Nat.reduceMul, Nat.reduceAdd, Nat.reduceSub, Bool.and_true, Bool.true_and, Bool.and_false, Bool.false_and, eq_self, Int.ofNat_eq_natCast, Int.cast_ofNat_Int, Int.natCast_zero, Int.reduceEq, Int.reduceLT, Int.reduceLE, Int.reduceNeg, ld3, st3, ld4, st4, ld5, st5, al9, ld9, st9, ld24, st24, ld27, st27, al28, ix28, bs28, ld28, st28, al32, ix32, bs32, ld32, st32, al37, ix37, bs37, ld37, st37, al40, ix40, bs40, ld40, st40, ld42, st42, fa63_0, ld63, fa65_0, fa65_1, fa65_2, fa65_3, fa65_4, fa65_5, ld65, ld96, st96, ld119, ix119, cv3_96, cv9_32, if_true]; rfl) ?_
      | fail "stop")
    refine AOs.callQ tOK (fs := []) (cs := []) rfl fn30 ok30 rfl (by simp only [List.map_cons, List.map_nil, List.nil_append, List.append_nil, List.cons_append, aeval, ofVal, PT.get_set, Nat.reduceEqDiff, reduceIte] <;> rfl) (ac_ev (nil30 _)) ?_
    rintro r1 K5 ⟨rfl, rfl⟩
    with_reducible repeat' (first
      | refine AW.seq ?_
      | refine AW.region ?_
      | refine AW.block ?_
      | refine AW.scope ?_
      | refine AOs.nil ?_
      | refine AW.skip ?_
      | refine AW.exit ?_
      | refine AW.ret ?_
      | refine AW.label ?_
      | refine andThen_normal ?_
      | refine andThen_exit ?_
      | refine andThen_ret ?_
      | refine inBlock_normal ?_
      | refine inBlock_hit ?_
      | refine inBlock_ret ?_
      | refine inBlock_miss (by with_unfolding_all rfl) ?_
      | refine AOs.guardN (by with_unfolding_all rfl) (by simp only [aeval, PT.get_set, Nat.reduceEqDiff, reduceIte, if_true]; rfl) (by with_unfolding_all rfl) ?_
      | refine AOs.guardT (by with_unfolding_all rfl) (by simp only [aeval, PT.get_set, Nat.reduceEqDiff, reduceIte, if_true]; rfl) (by first | rfl | decide | assumption) ?_
      | refine AOs.guardF (by with_unfolding_all rfl) (by simp only [aeval, PT.get_set, Nat.reduceEqDiff, reduceIte, if_true]; rfl) (by first | rfl | decide | assumption) (by with_unfolding_all rfl) ?_
      | refine AOs.guardF0 (by with_unfolding_all rfl) (by simp only [aeval, PT.get_set, Nat.reduceEqDiff, reduceIte, if_true]; rfl) (by first | rfl | decide | assumption) ?_
      | refine AW.condT (by simp only [aeval, PT.get_set, Nat.reduceEqDiff, reduceIte, if_true]; rfl) (by first | rfl | decide | assumption) ?_
      | refine AW.condF (by simp only [aeval, PT.get_set, Nat.reduceEqDiff, reduceIte, if_true]; rfl) (by first | rfl | decide | assumption) ?_
      | refine AOs.op1 tOK (by simp only [evOp_move, evOp_assign, evOp_pick, evOp_build, evOp_nilCheck, evOp_binOp, evOp_not, evOp_fieldAddr, evOp_field, evOp_indexAddr, evOp_index, evOp_extract, evOp_makeFunc, evOp_load, evOp_lookup, evOp_store, evOp_mapUpdate, evOp_insert, evOp_range, evOp_makeMap, evOp_len, evOp_append, evOp_copy, evOp_delete, evOp_slice, evOp_convert, storeAt, one_bool, one_int, one_str, one_nilp, one_ptr, one_nils, one_slice, one_empty, one_nilm, one_map, one_func, one_nilf, one_iface, one_nili, aeval, ofVal, PT.get_set, Nat.reduceEqDiff, reduceIte, lenOfAV_slice, lenOfAV_nils, lenOfAV_empty, afield, apart, aindex, aconv, cellAt, cellsAt, mapLenAt, List.map_cons, List.map_nil, Option.map_some, Option.map_none, List.nil_append, List.append_nil, abin_add, abin_sub, abin_mul, abin_lss, abin_leq, abin_gtr, abin_geq, abin_eql, abin_neq, cond_true, cond_false, decide_true, decide_false, Bool.not_true, Bool.not_false, TI.agg, List.getElem?_cons_zero, List.getElem?_cons_succ, Nat.add_zero, Nat.zero_add, Nat.zero_mul, nbeq, nble, nblt, Nat.reduceLeDiff, Nat.reduceLT, Nat.reduceMul, Nat.reduceAdd, Nat.reduceSub, Bool.and_true, Bool.true_and, Bool.and_false, Bool.false_and, eq_self, Int.ofNat_eq_natCast, Int.cast_ofNat_Int, Int.natCast_zero, Int.reduceEq, Int.reduceLT, Int.reduceLE, Int.reduceNeg, ld3, st3, ld4, st4, ld5, st5, al9, ld9, st9, ld24, st24, ld27, st27, al28, ix28, bs28, ld28, st28, al32, ix32, bs32, ld32, st32, al37, ix37, bs37, ld37, st37, al40, ix40, bs40, ld40, st40, ld42, st42, fa63_0, ld63, fa65_0, fa65_1, fa65_2, fa65_3, fa65_4, fa65_5, ld65, ld96, st96, ld119, ix119, cv3_96, cv9_32, if_true]; rfl) (by with_unfolding_all rfl) ?_
      | refine AOs.op0 tOK (by simp only [evOp_move, evOp_assign, evOp_pick, evOp_build, evOp_nilCheck, evOp_binOp, evOp_not, evOp_fieldAddr, evOp_field, evOp_indexAddr, evOp_index, evOp_extract, evOp_makeFunc, evOp_load, evOp_lookup, evOp_store, evOp_mapUpdate, evOp_insert, evOp_range, evOp_makeMap, evOp_len, evOp_append, evOp_copy, evOp_delete, evOp_slice, evOp_convert, storeAt, one_bool, one_int, one_str, one_nilp, one_ptr, one_nils, one_slice, one_empty, one_nilm, one_map, one_func, one_nilf, one_iface, one_nili, aeval, ofVal, PT.get_set, Nat.reduceEqDiff, reduceIte, lenOfAV_slice, lenOfAV_nils, lenOfAV_empty, afield, apart, aindex, aconv, cellAt, cellsAt, mapLenAt, List.map_cons, List.map_nil, Option.map_some, Option.map_none, List.nil_append, List.append_nil, abin_add, abin_sub, abin_mul, abin_lss, abin_leq, abin_gtr, abin_geq, abin_eql, abin_neq, cond_true, cond_false, decide_true, decide_false, Bool.not_true, Bool.not_false, TI.agg, List.getElem?_cons_zero, List.getElem?_cons_succ, Nat.add_zero, Nat.zero_add, Nat.zero_mul, nbeq, nble, nblt, Nat.reduceLeDiff, Nat.reduceLT, Nat.reduceMul, Nat.reduceAdd, Nat.reduceSub, Bool.and_true, Bool.true_and, Bool.and_false, Bool.false_and, eq_self, Int.ofNat_eq_natCast, Int.cast_ofNat_Int, Int.natCast_zero, Int.reduceEq, Int.reduceLT, Int.reduceLE, Int.reduceNeg, ld3, st3, ld4, st4, ld5, st5, al9, ld9, st9, ld24, st24, ld27, st27, al28, ix28, bs28, ld28, st28, al32, ix32, bs32, ld32, st32, al37, ix37, bs37, ld37, st37, al40, ix40, bs40, ld40, st40, ld42, st42, fa63_0, ld63, fa65_0, fa65_1, fa65_2, fa65_3, fa65_4, fa65_5, ld65, ld96, st96, ld119, ix119, cv3_96, cv9_32, if_true]; rfl) ?_
      | fail "stop")
    exact fnPost_ret1 (by simp only [PT.get_set, Nat.reduceEqDiff, reduceIte] <;> rfl) rfl

section
variable {X : Type} {H : AH}
theorem u37 : Tryz.prog.underlying 37 = some (.slice 9) := by kernel_rfl
theorem u9 : Tryz.prog.underlying 9 = some .string := by kernel_rfl
theorem c9 : Tryz.prog.cellsOf 9 = 1 := by kernel_rfl

theorem has_texts {k : Nat} {d : DataW X} {v : AV} (h : Has Tryz.prog H (k + 2) 37 d [v]) : ∃ l, TextsAt H v l := by
  unfold Has at h
  rw [u37] at h
  rcases h with ⟨_, e⟩ | ⟨_, e⟩ | ⟨b, es, sp, vs, rfl, _, e, hb, hl, hx⟩
  · cases e; exact ⟨[], .inl ⟨.inl rfl, rfl⟩⟩
  · cases e; exact ⟨[], .inl ⟨.inr rfl, rfl⟩⟩
  · cases e
    rw [c9] at hl hx
    have key : ∀ i, i < es.length → ∃ s, vs[i]? = some (AV.str s) := by
      intro i hi
      obtain ⟨x, hxi⟩ : ∃ x, (es ++ sp)[i]? = some x := ⟨_, List.getElem?_eq_getElem (by rw [List.length_append]; omega)⟩
      have h1 := hx i x hxi
      unfold Has at h1
      rw [u9] at h1
      obtain ⟨s, _, _, e⟩ := h1
      have e0 := congrArg (fun l : List AV => l[0]?) e
      simp only [List.getElem?_take, List.getElem?_drop] at e0
      exact ⟨s, by simpa using e0⟩
    refine ⟨(List.range es.length).map fun i => (match vs[i]? with | some (AV.str s) => s | _ => []), .inr ⟨b, _, vs, by simp [c9]; rfl, hb, fun i s hs => ?_⟩⟩
    have hi : i < es.length := by
      have := (List.getElem?_eq_some_iff.1 hs).1
      simpa using this
    obtain ⟨t, ht⟩ := key i hi
    rw [List.getElem?_map, List.getElem?_range hi] at hs
    simp only [Option.map_some, Option.some.injEq, ht] at hs
    subst hs
    exact ht
end

/-- The law, of whatever texts. -/
theorem law6_all {X : Type} (hlives : ∀ (N : Nat) (K : AH), AC tC N 0 11 [] K fun r K' => r = .bool true ∧ K' = K) {ds : List (DataW X)} (N : Nat) (H : AH) (xs : List AV) (hlt : ∀ b o, H.get b = some o → b < H.next) (h : HasAll Tryz.prog H 8 [37] ds xs) :
    AC tC N 0 6 xs H fun r _ => r = .bool true := by
  match ds, h with
  | [d], h =>
    obtain ⟨a, xs', rfl, h1, rfl⟩ := h
    obtain ⟨l, hl⟩ := has_texts h1
    exact law6 N H a l hl hlt (hlives N)

end Go.Proofs.YtgihociajfgohaaGreatDoor
