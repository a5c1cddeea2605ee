/- Log: texts among the arguments: are they few, and their records; no condition. -/
import Derived.Test.YtgihociajfgohaaGreatDoorTypes
import Derived.Test.YtgihociajfgohaaGreatDoorAb33
open Go Go.AB Go.Proofs
namespace Go.Proofs.YtgihociajfgohaaGreatDoor
set_option linter.unusedSimpArgs false
set_option linter.unusedVariables false

/-- A row of texts in the memory that was there. -/
def TextsAt (H : AH) (v : AV) (l : List (List UInt8)) : Prop :=
  ((v = .nils ∨ v = .empty 0) ∧ l = []) ∨ ∃ b c vs, v = .slice b 0 l.length c 1 ∧ H.get b = some (.cells true vs) ∧ ∀ (i : Nat) s, l[i]? = some s → vs[i]? = some (AV.str s)

theorem TextsAt.len {H : AH} {v : AV} {l : List (List UInt8)} (h : TextsAt H v l) : lenOfAV v = some l.length := by
  rcases h with ⟨rfl | rfl, rfl⟩ | ⟨b, c, vs, rfl, _⟩ <;> rfl

theorem TextsAt.mono {H K : AH} {v : AV} {l : List (List UInt8)} (hlt : ∀ b o, H.get b = some o → b < H.next) (hs : Stays H K) (h : TextsAt H v l) : TextsAt K v l := by
  rcases h with h | ⟨b, c, vs, rfl, h1, h2⟩
  · exact .inl h
  · exact .inr ⟨b, c, vs, rfl, hs.get b _ (hlt b _ h1) h1, h2⟩

set_option maxHeartbeats 1000000 in
theorem light19 (N : Nat) (H : AH) (v : AV) (l : List (List UInt8)) (hl : TextsAt H v l) : AC tC N 0 19 [v, .int .i64 30] H fun r K => K = H ∧ ∃ x, r = .bool x ∧ (x = true → l.length ≤ 30 ∧ ∀ s ∈ l, s.length ≤ 300) := by
  have hlen := hl.len
  refine AC.by (n := 27) (rs := [.tmp 4]) tOK fn19 rfl rfl rfl rfl ?_
  have e0 : (PT.ofList .leaf 0 [v, .int .i64 30]).get 0 = some v := rfl
  have e1 : (PT.ofList .leaf 0 [v, .int .i64 30]).get 1 = some (.int .i64 30) := rfl
  with_reducible repeat' (first
    | refine AW.seq ?_
    | refine AW.region ?_
    | refine AW.block ?_
    | refine AW.scope ?_
    | refine AOs.nil ?_
    | refine AW.skip ?_
    | refine AW.exit ?_
    | refine AW.ret ?_
    | refine AW.label ?_
    | refine andThen_normal ?_
    | refine andThen_exit ?_
    | refine andThen_ret ?_
    | refine inBlock_normal ?_
    | refine inBlock_hit ?_
    | refine inBlock_ret ?_
    | refine inBlock_miss (by with_unfolding_all rfl) ?_
    | refine AOs.guardN (by with_unfolding_all rfl) (by simp only [aeval, PT.get_set, Nat.reduceEqDiff, reduceIte, e0, e1]; rfl) (by with_unfolding_all rfl) ?_
    | refine AOs.guardT (by with_unfolding_all rfl) (by simp only [aeval, PT.get_set, Nat.reduceEqDiff, reduceIte, e0, e1]; rfl) (by first | rfl | decide | assumption) ?_
    | refine AOs.guardF (by with_unfolding_all rfl) (by simp only [aeval, PT.get_set, Nat.reduceEqDiff, reduceIte, e0, e1]; rfl) (by first | rfl | decide | assumption) (by with_unfolding_all rfl) ?_
    | refine AOs.guardF0 (by with_unfolding_all rfl) (by simp only [aeval, PT.get_set, Nat.reduceEqDiff, reduceIte, e0, e1]; rfl) (by first | rfl | decide | assumption) ?_
    | refine AW.condT (by simp only [aeval, PT.get_set, Nat.reduceEqDiff, reduceIte, e0, e1]; rfl) (by first | rfl | decide | assumption) ?_
    | refine AW.condF (by simp only [aeval, PT.get_set, Nat.reduceEqDiff, reduceIte, e0, e1]; rfl) (by first | rfl | decide | assumption) ?_
    | refine AOs.op1 tOK (by simp only [evOp_move, evOp_assign, evOp_pick, evOp_build, evOp_nilCheck, evOp_binOp, evOp_not, evOp_fieldAddr, evOp_field, evOp_indexAddr, evOp_index, evOp_extract, evOp_makeFunc, evOp_load, evOp_lookup, evOp_store, evOp_mapUpdate, evOp_insert, evOp_range, evOp_makeMap, evOp_len, evOp_append, evOp_copy, evOp_delete, evOp_slice, evOp_convert, storeAt, one_bool, one_int, one_str, one_nilp, one_ptr, one_nils, one_slice, one_empty, one_nilm, one_map, one_func, one_nilf, one_iface, one_nili, aeval, ofVal, PT.get_set, Nat.reduceEqDiff, reduceIte, lenOfAV_slice, lenOfAV_nils, lenOfAV_empty, afield, apart, aindex, aconv, cellAt, cellsAt, mapLenAt, List.map_cons, List.map_nil, Option.map_some, Option.map_none, List.nil_append, List.append_nil, abin_add, abin_sub, abin_mul, abin_lss, abin_leq, abin_gtr, abin_geq, abin_eql, abin_neq, cond_true, cond_false, decide_true, decide_false, Bool.not_true, Bool.not_false, TI.agg, List.getElem?_cons_zero, List.getElem?_cons_succ, Nat.add_zero, Nat.zero_add, Nat.zero_mul, nbeq, nble, nblt, Nat.reduceLeDiff, Nat.reduceLT, Nat.reduceMul, Nat.reduceAdd, Nat.reduceSub, Bool.and_true, Bool.true_and, Bool.and_false, Bool.false_and, eq_self, Int.ofNat_eq_natCast, Int.cast_ofNat_Int, Int.natCast_zero, Int.reduceEq, Int.reduceLT, Int.reduceLE, Int.reduceNeg, ld3, st3, ld4, st4, ld5, st5, al9, ld9, st9, ld24, st24, ld27, st27, al28, ix28, bs28, ld28, st28, al32, ix32, bs32, ld32, st32, al37, ix37, bs37, ld37, st37, al40, ix40, bs40, ld40, st40, ld42, st42, fa63_0, ld63, fa65_0, fa65_1, fa65_2, fa65_3, fa65_4, fa65_5, ld65, ld96, st96, ld119, ix119, cv3_96, cv9_32, e0, e1]; rfl) (by with_unfolding_all rfl) ?_
    | refine AOs.op0 tOK (by simp only [evOp_move, evOp_assign, evOp_pick, evOp_build, evOp_nilCheck, evOp_binOp, evOp_not, evOp_fieldAddr, evOp_field, evOp_indexAddr, evOp_index, evOp_extract, evOp_makeFunc, evOp_load, evOp_lookup, evOp_store, evOp_mapUpdate, evOp_insert, evOp_range, evOp_makeMap, evOp_len, evOp_append, evOp_copy, evOp_delete, evOp_slice, evOp_convert, storeAt, one_bool, one_int, one_str, one_nilp, one_ptr, one_nils, one_slice, one_empty, one_nilm, one_map, one_func, one_nilf, one_iface, one_nili, aeval, ofVal, PT.get_set, Nat.reduceEqDiff, reduceIte, lenOfAV_slice, lenOfAV_nils, lenOfAV_empty, afield, apart, aindex, aconv, cellAt, cellsAt, mapLenAt, List.map_cons, List.map_nil, Option.map_some, Option.map_none, List.nil_append, List.append_nil, abin_add, abin_sub, abin_mul, abin_lss, abin_leq, abin_gtr, abin_geq, abin_eql, abin_neq, cond_true, cond_false, decide_true, decide_false, Bool.not_true, Bool.not_false, TI.agg, List.getElem?_cons_zero, List.getElem?_cons_succ, Nat.add_zero, Nat.zero_add, Nat.zero_mul, nbeq, nble, nblt, Nat.reduceLeDiff, Nat.reduceLT, Nat.reduceMul, Nat.reduceAdd, Nat.reduceSub, Bool.and_true, Bool.true_and, Bool.and_false, Bool.false_and, eq_self, Int.ofNat_eq_natCast, Int.cast_ofNat_Int, Int.natCast_zero, Int.reduceEq, Int.reduceLT, Int.reduceLE, Int.reduceNeg, ld3, st3, ld4, st4, ld5, st5, al9, ld9, st9, ld24, st24, ld27, st27, al28, ix28, bs28, ld28, st28, al32, ix32, bs32, ld32, st32, al37, ix37, bs37, ld37, st37, al40, ix40, bs40, ld40, st40, ld42, st42, fa63_0, ld63, fa65_0, fa65_1, fa65_2, fa65_3, fa65_4, fa65_5, ld65, ld96, st96, ld119, ix119, cv3_96, cv9_32, e0, e1]; rfl) ?_
    | fail "stop")
  refine AW.loop (fun m T K => K = H ∧ T.get 0 = some v ∧ T.get 1 = some (.int .i64 30) ∧ ∃ i : Nat, i ≤ l.length ∧ m = l.length - i ∧ i ≤ 31 ∧ T.get 5 = some (.int .i64 i) ∧ ∀ (j : Nat) s, j < i → l[j]? = some s → s.length ≤ 300) ?_ (l.length - 0) ⟨rfl, by simp [PT.get_set, e0], by simp [PT.get_set, e1], 0, by omega, rfl, by omega, by simp [PT.get_set], fun j s hj => by omega⟩
  rintro m T K ⟨rfl, h0, h1, i, hi, rfl, hi31, h5, hall⟩
  by_cases hlt : i < l.length
  · have hd := lt_int hlt
    by_cases h30 : (i : Int) ≤ 30
    · rcases hl with ⟨_, rfl⟩ | ⟨b, c, vs, rfl, hb, hat⟩
      · simp at hlt
      · obtain ⟨s, hs⟩ : ∃ s, l[i]? = some s := ⟨_, List.getElem?_eq_getElem hlt⟩
        have hvs : vs[i * 1]? = some (AV.str s) := by rw [Nat.mul_one]; exact hat i s hs
        by_cases h300 : (300 : Int) < (s.length : Int)
        · with_reducible repeat' (first
            | refine AW.seq ?_
            | refine AW.region ?_
            | refine AW.block ?_
            | refine AW.scope ?_
            | refine AOs.nil ?_
            | refine AW.skip ?_
            | refine AW.exit ?_
            | refine AW.ret ?_
            | refine AW.label ?_
            | refine andThen_normal ?_
            | refine andThen_exit ?_
            | refine andThen_ret ?_
            | refine inBlock_normal ?_
            | refine inBlock_hit ?_
            | refine inBlock_ret ?_
            | refine inBlock_miss (by with_unfolding_all rfl) ?_
            | refine AOs.guardN (by with_unfolding_all rfl) (by simp only [aeval, PT.get_set, Nat.reduceEqDiff, reduceIte, h0, h1, h5, hd, h30, h300, hlt, hb, hvs]; rfl) (by with_unfolding_all rfl) ?_
            | refine AOs.guardT (by with_unfolding_all rfl) (by simp only [aeval, PT.get_set, Nat.reduceEqDiff, reduceIte, h0, h1, h5, hd, h30, h300, hlt, hb, hvs]; rfl) (by first | rfl | decide | assumption) ?_
            | refine AOs.guardF (by with_unfolding_all rfl) (by simp only [aeval, PT.get_set, Nat.reduceEqDiff, reduceIte, h0, h1, h5, hd, h30, h300, hlt, hb, hvs]; rfl) (by first | rfl | decide | assumption) (by with_unfolding_all rfl) ?_
            | refine AOs.guardF0 (by with_unfolding_all rfl) (by simp only [aeval, PT.get_set, Nat.reduceEqDiff, reduceIte, h0, h1, h5, hd, h30, h300, hlt, hb, hvs]; rfl) (by first | rfl | decide | assumption) ?_
            | refine AW.condT (by simp only [aeval, PT.get_set, Nat.reduceEqDiff, reduceIte, h0, h1, h5, hd, h30, h300, hlt, hb, hvs]; rfl) (by first | rfl | decide | assumption) ?_
            | refine AW.condF (by simp only [aeval, PT.get_set, Nat.reduceEqDiff, reduceIte, h0, h1, h5, hd, h30, h300, hlt, hb, hvs]; rfl) (by first | rfl | decide | assumption) ?_
            | refine AOs.op1 tOK (by simp only [evOp_move, evOp_assign, evOp_pick, evOp_build, evOp_nilCheck, evOp_binOp, evOp_not, evOp_fieldAddr, evOp_field, evOp_indexAddr, evOp_index, evOp_extract, evOp_makeFunc, evOp_load, evOp_lookup, evOp_store, evOp_mapUpdate, evOp_insert, evOp_range, evOp_makeMap, evOp_len, evOp_append, evOp_copy, evOp_delete, evOp_slice, evOp_convert, storeAt, one_bool, one_int, one_str, one_nilp, one_ptr, one_nils, one_slice, one_empty, one_nilm, one_map, one_func, one_nilf, one_iface, one_nili, aeval, ofVal, PT.get_set, Nat.reduceEqDiff, reduceIte, lenOfAV_slice, lenOfAV_nils, lenOfAV_empty, afield, apart, aindex, aconv, cellAt, cellsAt, mapLenAt, List.map_cons, List.map_nil, Option.map_some, Option.map_none, List.nil_append, List.append_nil, abin_add, abin_sub, abin_mul, abin_lss, abin_leq, abin_gtr, abin_geq, abin_eql, abin_neq, cond_true, cond_false, decide_true, decide_false, Bool.not_true, Bool.not_false, TI.agg, List.getElem?_cons_zero, List.getElem?_cons_succ, Nat.add_zero, Nat.zero_add, Nat.zero_mul, nbeq, nble, nblt, Nat.reduceLeDiff, Nat.reduceLT, Nat.reduceMul, Nat.reduceAdd, Nat.reduceSub, Bool.and_true, Bool.true_and, Bool.and_false, Bool.false_and, eq_self, Int.ofNat_eq_natCast, Int.cast_ofNat_Int, Int.natCast_zero, Int.reduceEq, Int.reduceLT, Int.reduceLE, Int.reduceNeg, ld3, st3, ld4, st4, ld5, st5, al9, ld9, st9, ld24, st24, ld27, st27, al28, ix28, bs28, ld28, st28, al32, ix32, bs32, ld32, st32, al37, ix37, bs37, ld37, st37, al40, ix40, bs40, ld40, st40, ld42, st42, fa63_0, ld63, fa65_0, fa65_1, fa65_2, fa65_3, fa65_4, fa65_5, ld65, ld96, st96, ld119, ix119, cv3_96, cv9_32, h0, h1, h5, hd, h30, h300, hlt, hb, hvs]; rfl) (by with_unfolding_all rfl) ?_
            | refine AOs.op0 tOK (by simp only [evOp_move, evOp_assign, evOp_pick, evOp_build, evOp_nilCheck, evOp_binOp, evOp_not, evOp_fieldAddr, evOp_field, evOp_indexAddr, evOp_index, evOp_extract, evOp_makeFunc, evOp_load, evOp_lookup, evOp_store, evOp_mapUpdate, evOp_insert, evOp_range, evOp_makeMap, evOp_len, evOp_append, evOp_copy, evOp_delete, evOp_slice, evOp_convert, storeAt, one_bool, one_int, one_str, one_nilp, one_ptr, one_nils, one_slice, one_empty, one_nilm, one_map, one_func, one_nilf, one_iface, one_nili, aeval, ofVal, PT.get_set, Nat.reduceEqDiff, reduceIte, lenOfAV_slice, lenOfAV_nils, lenOfAV_empty, afield, apart, aindex, aconv, cellAt, cellsAt, mapLenAt, List.map_cons, List.map_nil, Option.map_some, Option.map_none, List.nil_append, List.append_nil, abin_add, abin_sub, abin_mul, abin_lss, abin_leq, abin_gtr, abin_geq, abin_eql, abin_neq, cond_true, cond_false, decide_true, decide_false, Bool.not_true, Bool.not_false, TI.agg, List.getElem?_cons_zero, List.getElem?_cons_succ, Nat.add_zero, Nat.zero_add, Nat.zero_mul, nbeq, nble, nblt, Nat.reduceLeDiff, Nat.reduceLT, Nat.reduceMul, Nat.reduceAdd, Nat.reduceSub, Bool.and_true, Bool.true_and, Bool.and_false, Bool.false_and, eq_self, Int.ofNat_eq_natCast, Int.cast_ofNat_Int, Int.natCast_zero, Int.reduceEq, Int.reduceLT, Int.reduceLE, Int.reduceNeg, ld3, st3, ld4, st4, ld5, st5, al9, ld9, st9, ld24, st24, ld27, st27, al28, ix28, bs28, ld28, st28, al32, ix32, bs32, ld32, st32, al37, ix37, bs37, ld37, st37, al40, ix40, bs40, ld40, st40, ld42, st42, fa63_0, ld63, fa65_0, fa65_1, fa65_2, fa65_3, fa65_4, fa65_5, ld65, ld96, st96, ld119, ix119, cv3_96, cv9_32, h0, h1, h5, hd, h30, h300, hlt, hb, hvs]; rfl) ?_
            | fail "stop")
          exact fnPost_ret1 (by simp only [PT.get_set, Nat.reduceEqDiff, reduceIte] <;> rfl) ⟨rfl, _, rfl, fun h => by cases h⟩
        · with_reducible repeat' (first
            | refine AW.seq ?_
            | refine AW.region ?_
            | refine AW.block ?_
            | refine AW.scope ?_
            | refine AOs.nil ?_
            | refine AW.skip ?_
            | refine AW.exit ?_
            | refine AW.ret ?_
            | refine AW.label ?_
            | refine andThen_normal ?_
            | refine andThen_exit ?_
            | refine andThen_ret ?_
            | refine inBlock_normal ?_
            | refine inBlock_hit ?_
            | refine inBlock_ret ?_
            | refine inBlock_miss (by with_unfolding_all rfl) ?_
            | refine AOs.guardN (by with_unfolding_all rfl) (by simp only [aeval, PT.get_set, Nat.reduceEqDiff, reduceIte, h0, h1, h5, hd, h30, h300, hlt, hb, hvs]; rfl) (by with_unfolding_all rfl) ?_
            | refine AOs.guardT (by with_unfolding_all rfl) (by simp only [aeval, PT.get_set, Nat.reduceEqDiff, reduceIte, h0, h1, h5, hd, h30, h300, hlt, hb, hvs]; rfl) (by first | rfl | decide | assumption) ?_
            | refine AOs.guardF (by with_unfolding_all rfl) (by simp only [aeval, PT.get_set, Nat.reduceEqDiff, reduceIte, h0, h1, h5, hd, h30, h300, hlt, hb, hvs]; rfl) (by first | rfl | decide | assumption) (by with_unfolding_all rfl) ?_
            | refine AOs.guardF0 (by with_unfolding_all rfl) (by simp only [aeval, PT.get_set, Nat.reduceEqDiff, reduceIte, h0, h1, h5, hd, h30, h300, hlt, hb, hvs]; rfl) (by first | rfl | decide | assumption) ?_
            | refine AW.condT (by simp only [aeval, PT.get_set, Nat.reduceEqDiff, reduceIte, h0, h1, h5, hd, h30, h300, hlt, hb, hvs]; rfl) (by first | rfl | decide | assumption) ?_
            | refine AW.condF (by simp only [aeval, PT.get_set, Nat.reduceEqDiff, reduceIte, h0, h1, h5, hd, h30, h300, hlt, hb, hvs]; rfl) (by first | rfl | decide | assumption) ?_
            | refine AOs.op1 tOK (by simp only [evOp_move, evOp_assign, evOp_pick, evOp_build, evOp_nilCheck, evOp_binOp, evOp_not, evOp_fieldAddr, evOp_field, evOp_indexAddr, evOp_index, evOp_extract, evOp_makeFunc, evOp_load, evOp_lookup, evOp_store, evOp_mapUpdate, evOp_insert, evOp_range, evOp_makeMap, evOp_len, evOp_append, evOp_copy, evOp_delete, evOp_slice, evOp_convert, storeAt, one_bool, one_int, one_str, one_nilp, one_ptr, one_nils, one_slice, one_empty, one_nilm, one_map, one_func, one_nilf, one_iface, one_nili, aeval, ofVal, PT.get_set, Nat.reduceEqDiff, reduceIte, lenOfAV_slice, lenOfAV_nils, lenOfAV_empty, afield, apart, aindex, aconv, cellAt, cellsAt, mapLenAt, List.map_cons, List.map_nil, Option.map_some, Option.map_none, List.nil_append, List.append_nil, abin_add, abin_sub, abin_mul, abin_lss, abin_leq, abin_gtr, abin_geq, abin_eql, abin_neq, cond_true, cond_false, decide_true, decide_false, Bool.not_true, Bool.not_false, TI.agg, List.getElem?_cons_zero, List.getElem?_cons_succ, Nat.add_zero, Nat.zero_add, Nat.zero_mul, nbeq, nble, nblt, Nat.reduceLeDiff, Nat.reduceLT, Nat.reduceMul, Nat.reduceAdd, Nat.reduceSub, Bool.and_true, Bool.true_and, Bool.and_false, Bool.false_and, eq_self, Int.ofNat_eq_natCast, Int.cast_ofNat_Int, Int.natCast_zero, Int.reduceEq, Int.reduceLT, Int.reduceLE, Int.reduceNeg, ld3, st3, ld4, st4, ld5, st5, al9, ld9, st9, ld24, st24, ld27, st27, al28, ix28, bs28, ld28, st28, al32, ix32, bs32, ld32, st32, al37, ix37, bs37, ld37, st37, al40, ix40, bs40, ld40, st40, ld42, st42, fa63_0, ld63, fa65_0, fa65_1, fa65_2, fa65_3, fa65_4, fa65_5, ld65, ld96, st96, ld119, ix119, cv3_96, cv9_32, h0, h1, h5, hd, h30, h300, hlt, hb, hvs]; rfl) (by with_unfolding_all rfl) ?_
            | refine AOs.op0 tOK (by simp only [evOp_move, evOp_assign, evOp_pick, evOp_build, evOp_nilCheck, evOp_binOp, evOp_not, evOp_fieldAddr, evOp_field, evOp_indexAddr, evOp_index, evOp_extract, evOp_makeFunc, evOp_load, evOp_lookup, evOp_store, evOp_mapUpdate, evOp_insert, evOp_range, evOp_makeMap, evOp_len, evOp_append, evOp_copy, evOp_delete, evOp_slice, evOp_convert, storeAt, one_bool, one_int, one_str, one_nilp, one_ptr, one_nils, one_slice, one_empty, one_nilm, one_map, one_func, one_nilf, one_iface, one_nili, aeval, ofVal, PT.get_set, Nat.reduceEqDiff, reduceIte, lenOfAV_slice, lenOfAV_nils, lenOfAV_empty, afield, apart, aindex, aconv, cellAt, cellsAt, mapLenAt, List.map_cons, List.map_nil, Option.map_some, Option.map_none, List.nil_append, List.append_nil, abin_add, abin_sub, abin_mul, abin_lss, abin_leq, abin_gtr, abin_geq, abin_eql, abin_neq, cond_true, cond_false, decide_true, decide_false, Bool.not_true, Bool.not_false, TI.agg, List.getElem?_cons_zero, List.getElem?_cons_succ, Nat.add_zero, Nat.zero_add, Nat.zero_mul, nbeq, nble, nblt, Nat.reduceLeDiff, Nat.reduceLT, Nat.reduceMul, Nat.reduceAdd, Nat.reduceSub, Bool.and_true, Bool.true_and, Bool.and_false, Bool.false_and, eq_self, Int.ofNat_eq_natCast, Int.cast_ofNat_Int, Int.natCast_zero, Int.reduceEq, Int.reduceLT, Int.reduceLE, Int.reduceNeg, ld3, st3, ld4, st4, ld5, st5, al9, ld9, st9, ld24, st24, ld27, st27, al28, ix28, bs28, ld28, st28, al32, ix32, bs32, ld32, st32, al37, ix37, bs37, ld37, st37, al40, ix40, bs40, ld40, st40, ld42, st42, fa63_0, ld63, fa65_0, fa65_1, fa65_2, fa65_3, fa65_4, fa65_5, ld65, ld96, st96, ld119, ix119, cv3_96, cv9_32, h0, h1, h5, hd, h30, h300, hlt, hb, hvs]; rfl) ?_
            | fail "stop")
          refine ⟨l.length - (i + 1), by omega, rfl, by simp only [PT.get_set, Nat.reduceEqDiff, reduceIte, h0], by simp only [PT.get_set, Nat.reduceEqDiff, reduceIte, h1], i + 1, by omega, rfl, by omega, ?_, fun j t hj ht => ?_⟩
          · simp only [PT.get_set, Nat.reduceEqDiff, reduceIte, wrap64_succ (show i < 9223372036854775807 by omega)]
          · by_cases e : j = i
            · subst e; rw [hs] at ht; cases ht; omega
            · exact hall j t (by omega) ht
    · with_reducible repeat' (first
        | refine AW.seq ?_
        | refine AW.region ?_
        | refine AW.block ?_
        | refine AW.scope ?_
        | refine AOs.nil ?_
        | refine AW.skip ?_
        | refine AW.exit ?_
        | refine AW.ret ?_
        | refine AW.label ?_
        | refine andThen_normal ?_
        | refine andThen_exit ?_
        | refine andThen_ret ?_
        | refine inBlock_normal ?_
        | refine inBlock_hit ?_
        | refine inBlock_ret ?_
        | refine inBlock_miss (by with_unfolding_all rfl) ?_
        | refine AOs.guardN (by with_unfolding_all rfl) (by simp only [aeval, PT.get_set, Nat.reduceEqDiff, reduceIte, h0, h1, h5, hd, h30, hlen]; rfl) (by with_unfolding_all rfl) ?_
        | refine AOs.guardT (by with_unfolding_all rfl) (by simp only [aeval, PT.get_set, Nat.reduceEqDiff, reduceIte, h0, h1, h5, hd, h30, hlen]; rfl) (by first | rfl | decide | assumption) ?_
        | refine AOs.guardF (by with_unfolding_all rfl) (by simp only [aeval, PT.get_set, Nat.reduceEqDiff, reduceIte, h0, h1, h5, hd, h30, hlen]; rfl) (by first | rfl | decide | assumption) (by with_unfolding_all rfl) ?_
        | refine AOs.guardF0 (by with_unfolding_all rfl) (by simp only [aeval, PT.get_set, Nat.reduceEqDiff, reduceIte, h0, h1, h5, hd, h30, hlen]; rfl) (by first | rfl | decide | assumption) ?_
        | refine AW.condT (by simp only [aeval, PT.get_set, Nat.reduceEqDiff, reduceIte, h0, h1, h5, hd, h30, hlen]; rfl) (by first | rfl | decide | assumption) ?_
        | refine AW.condF (by simp only [aeval, PT.get_set, Nat.reduceEqDiff, reduceIte, h0, h1, h5, hd, h30, hlen]; rfl) (by first | rfl | decide | assumption) ?_
        | refine AOs.op1 tOK (by simp only [evOp_move, evOp_assign, evOp_pick, evOp_build, evOp_nilCheck, evOp_binOp, evOp_not, evOp_fieldAddr, evOp_field, evOp_indexAddr, evOp_index, evOp_extract, evOp_makeFunc, evOp_load, evOp_lookup, evOp_store, evOp_mapUpdate, evOp_insert, evOp_range, evOp_makeMap, evOp_len, evOp_append, evOp_copy, evOp_delete, evOp_slice, evOp_convert, storeAt, one_bool, one_int, one_str, one_nilp, one_ptr, one_nils, one_slice, one_empty, one_nilm, one_map, one_func, one_nilf, one_iface, one_nili, aeval, ofVal, PT.get_set, Nat.reduceEqDiff, reduceIte, lenOfAV_slice, lenOfAV_nils, lenOfAV_empty, afield, apart, aindex, aconv, cellAt, cellsAt, mapLenAt, List.map_cons, List.map_nil, Option.map_some, Option.map_none, List.nil_append, List.append_nil, abin_add, abin_sub, abin_mul, abin_lss, abin_leq, abin_gtr, abin_geq, abin_eql, abin_neq, cond_true, cond_false, decide_true, decide_false, Bool.not_true, Bool.not_false, TI.agg, List.getElem?_cons_zero, List.getElem?_cons_succ, Nat.add_zero, Nat.zero_add, Nat.zero_mul, nbeq, nble, nblt, Nat.reduceLeDiff, Nat.reduceLT, Nat.reduceMul, Nat.reduceAdd, Nat.reduceSub, Bool.and_true, Bool.true_and, Bool.and_false, Bool.false_and, eq_self, Int.ofNat_eq_natCast, Int.cast_ofNat_Int, Int.natCast_zero, Int.reduceEq, Int.reduceLT, Int.reduceLE, Int.reduceNeg, ld3, st3, ld4, st4, ld5, st5, al9, ld9, st9, ld24, st24, ld27, st27, al28, ix28, bs28, ld28, st28, al32, ix32, bs32, ld32, st32, al37, ix37, bs37, ld37, st37, al40, ix40, bs40, ld40, st40, ld42, st42, fa63_0, ld63, fa65_0, fa65_1, fa65_2, fa65_3, fa65_4, fa65_5, ld65, ld96, st96, ld119, ix119, cv3_96, cv9_32, h0, h1, h5, hd, h30, hlen]; rfl) (by with_unfolding_all rfl) ?_
        | refine AOs.op0 tOK (by simp only [evOp_move, evOp_assign, evOp_pick, evOp_build, evOp_nilCheck, evOp_binOp, evOp_not, evOp_fieldAddr, evOp_field, evOp_indexAddr, evOp_index, evOp_extract, evOp_makeFunc, evOp_load, evOp_lookup, evOp_store, evOp_mapUpdate, evOp_insert, evOp_range, evOp_makeMap, evOp_len, evOp_append, evOp_copy, evOp_delete, evOp_slice, evOp_convert, storeAt, one_bool, one_int, one_str, one_nilp, one_ptr, one_nils, one_slice, one_empty, one_nilm, one_map, one_func, one_nilf, one_iface, one_nili, aeval, ofVal, PT.get_set, Nat.reduceEqDiff, reduceIte, lenOfAV_slice, lenOfAV_nils, lenOfAV_empty, afield, apart, aindex, aconv, cellAt, cellsAt, mapLenAt, List.map_cons, List.map_nil, Option.map_some, Option.map_none, List.nil_append, List.append_nil, abin_add, abin_sub, abin_mul, abin_lss, abin_leq, abin_gtr, abin_geq, abin_eql, abin_neq, cond_true, cond_false, decide_true, decide_false, Bool.not_true, Bool.not_false, TI.agg, List.getElem?_cons_zero, List.getElem?_cons_succ, Nat.add_zero, Nat.zero_add, Nat.zero_mul, nbeq, nble, nblt, Nat.reduceLeDiff, Nat.reduceLT, Nat.reduceMul, Nat.reduceAdd, Nat.reduceSub, Bool.and_true, Bool.true_and, Bool.and_false, Bool.false_and, eq_self, Int.ofNat_eq_natCast, Int.cast_ofNat_Int, Int.natCast_zero, Int.reduceEq, Int.reduceLT, Int.reduceLE, Int.reduceNeg, ld3, st3, ld4, st4, ld5, st5, al9, ld9, st9, ld24, st24, ld27, st27, al28, ix28, bs28, ld28, st28, al32, ix32, bs32, ld32, st32, al37, ix37, bs37, ld37, st37, al40, ix40, bs40, ld40, st40, ld42, st42, fa63_0, ld63, fa65_0, fa65_1, fa65_2, fa65_3, fa65_4, fa65_5, ld65, ld96, st96, ld119, ix119, cv3_96, cv9_32, h0, h1, h5, hd, h30, hlen]; rfl) ?_
        | fail "stop")
      refine fnPost_ret1 (by simp only [PT.get_set, Nat.reduceEqDiff, reduceIte] <;> rfl) ⟨rfl, _, rfl, fun h => ?_⟩
      simp at h; omega
  · have hd := nlt_int hlt
    with_reducible repeat' (first
      | refine AW.seq ?_
      | refine AW.region ?_
      | refine AW.block ?_
      | refine AW.scope ?_
      | refine AOs.nil ?_
      | refine AW.skip ?_
      | refine AW.exit ?_
      | refine AW.ret ?_
      | refine AW.label ?_
      | refine andThen_normal ?_
      | refine andThen_exit ?_
      | refine andThen_ret ?_
      | refine inBlock_normal ?_
      | refine inBlock_hit ?_
      | refine inBlock_ret ?_
      | refine inBlock_miss (by with_unfolding_all rfl) ?_
      | refine AOs.guardN (by with_unfolding_all rfl) (by simp only [aeval, PT.get_set, Nat.reduceEqDiff, reduceIte, h0, h1, h5, hd, hlen]; rfl) (by with_unfolding_all rfl) ?_
      | refine AOs.guardT (by with_unfolding_all rfl) (by simp only [aeval, PT.get_set, Nat.reduceEqDiff, reduceIte, h0, h1, h5, hd, hlen]; rfl) (by first | rfl | decide | assumption) ?_
      | refine AOs.guardF (by with_unfolding_all rfl) (by simp only [aeval, PT.get_set, Nat.reduceEqDiff, reduceIte, h0, h1, h5, hd, hlen]; rfl) (by first | rfl | decide | assumption) (by with_unfolding_all rfl) ?_
      | refine AOs.guardF0 (by with_unfolding_all rfl) (by simp only [aeval, PT.get_set, Nat.reduceEqDiff, reduceIte, h0, h1, h5, hd, hlen]; rfl) (by first | rfl | decide | assumption) ?_
      | refine AW.condT (by simp only [aeval, PT.get_set, Nat.reduceEqDiff, reduceIte, h0, h1, h5, hd, hlen]; rfl) (by first | rfl | decide | assumption) ?_
      | refine AW.condF (by simp only [aeval, PT.get_set, Nat.reduceEqDiff, reduceIte, h0, h1, h5, hd, hlen]; rfl) (by first | rfl | decide | assumption) ?_
      | refine AOs.op1 tOK (by simp only [evOp_move, evOp_assign, evOp_pick, evOp_build, evOp_nilCheck, evOp_binOp, evOp_not, evOp_fieldAddr, evOp_field, evOp_indexAddr, evOp_index, evOp_extract, evOp_makeFunc, evOp_load, evOp_lookup, evOp_store, evOp_mapUpdate, evOp_insert, evOp_range, evOp_makeMap, evOp_len, evOp_append, evOp_copy, evOp_delete, evOp_slice, evOp_convert, storeAt, one_bool, one_int, one_str, one_nilp, one_ptr, one_nils, one_slice, one_empty, one_nilm, one_map, one_func, one_nilf, one_iface, one_nili, aeval, ofVal, PT.get_set, Nat.reduceEqDiff, reduceIte, lenOfAV_slice, lenOfAV_nils, lenOfAV_empty, afield, apart, aindex, aconv, cellAt, cellsAt, mapLenAt, List.map_cons, List.map_nil, Option.map_some, Option.map_none, List.nil_append, List.append_nil, abin_add, abin_sub, abin_mul, abin_lss, abin_leq, abin_gtr, abin_geq, abin_eql, abin_neq, cond_true, cond_false, decide_true, decide_false, Bool.not_true, Bool.not_false, TI.agg, List.getElem?_cons_zero, List.getElem?_cons_succ, Nat.add_zero, Nat.zero_add, Nat.zero_mul, nbeq, nble, nblt, Nat.reduceLeDiff, Nat.reduceLT, Nat.reduceMul, Nat.reduceAdd, Nat.reduceSub, Bool.and_true, Bool.true_and, Bool.and_false, Bool.false_and, eq_self, Int.ofNat_eq_natCast, Int.cast_ofNat_Int, Int.natCast_zero, Int.reduceEq, Int.reduceLT, Int.reduceLE, Int.reduceNeg, ld3, st3, ld4, st4, ld5, st5, al9, ld9, st9, ld24, st24, ld27, st27, al28, ix28, bs28, ld28, st28, al32, ix32, bs32, ld32, st32, al37, ix37, bs37, ld37, st37, al40, ix40, bs40, ld40, st40, ld42, st42, fa63_0, ld63, fa65_0, fa65_1, fa65_2, fa65_3, fa65_4, fa65_5, ld65, ld96, st96, ld119, ix119, cv3_96, cv9_32, h0, h1, h5, hd, hlen]; rfl) (by with_unfolding_all rfl) ?_
      | refine AOs.op0 tOK (by simp only [evOp_move, evOp_assign, evOp_pick, evOp_build, evOp_nilCheck, evOp_binOp, evOp_not, evOp_fieldAddr, evOp_field, evOp_indexAddr, evOp_index, evOp_extract, evOp_makeFunc, evOp_load, evOp_lookup, evOp_store, evOp_mapUpdate, evOp_insert, evOp_range, evOp_makeMap, evOp_len, evOp_append, evOp_copy, evOp_delete, evOp_slice, evOp_convert, storeAt, one_bool, one_int, one_str, one_nilp, one_ptr, one_nils, one_slice, one_empty, one_nilm, one_map, one_func, one_nilf, one_iface, one_nili, aeval, ofVal, PT.get_set, Nat.reduceEqDiff, reduceIte, lenOfAV_slice, lenOfAV_nils, lenOfAV_empty, afield, apart, aindex, aconv, cellAt, cellsAt, mapLenAt, List.map_cons, List.map_nil, Option.map_some, Option.map_none, List.nil_append, List.append_nil, abin_add, abin_sub, abin_mul, abin_lss, abin_leq, abin_gtr, abin_geq, abin_eql, abin_neq, cond_true, cond_false, decide_true, decide_false, Bool.not_true, Bool.not_false, TI.agg, List.getElem?_cons_zero, List.getElem?_cons_succ, Nat.add_zero, Nat.zero_add, Nat.zero_mul, nbeq, nble, nblt, Nat.reduceLeDiff, Nat.reduceLT, Nat.reduceMul, Nat.reduceAdd, Nat.reduceSub, Bool.and_true, Bool.true_and, Bool.and_false, Bool.false_and, eq_self, Int.ofNat_eq_natCast, Int.cast_ofNat_Int, Int.natCast_zero, Int.reduceEq, Int.reduceLT, Int.reduceLE, Int.reduceNeg, ld3, st3, ld4, st4, ld5, st5, al9, ld9, st9, ld24, st24, ld27, st27, al28, ix28, bs28, ld28, st28, al32, ix32, bs32, ld32, st32, al37, ix37, bs37, ld37, st37, al40, ix40, bs40, ld40, st40, ld42, st42, fa63_0, ld63, fa65_0, fa65_1, fa65_2, fa65_3, fa65_4, fa65_5, ld65, ld96, st96, ld119, ix119, cv3_96, cv9_32, h0, h1, h5, hd, hlen]; rfl) ?_
      | fail "stop")
    refine fnPost_ret1 (by simp only [PT.get_set, Nat.reduceEqDiff, reduceIte] <;> rfl) ⟨rfl, _, rfl, fun h => ⟨by simp at h; omega, fun s hs => ?_⟩⟩
    obtain ⟨j, hj⟩ := List.getElem?_of_mem hs
    have := (List.getElem?_eq_some_iff.1 hj).1
    exact hall j s (by omega) hj

def bytesAV (s : List UInt8) : List AV := s.map fun b => .int .u8 b.toNat

/-- Rows of bytes that a call has made: their heads lie in 'a', each in a block of its own; none below 'n'. -/
def RecsAt (n : Nat) (K : AH) (v : AV) (l : List (List UInt8)) : Prop :=
  (v = .nils ∧ l = []) ∨ ∃ a ws, v = .slice a 0 l.length (.lo l.length) 1 ∧ n ≤ a ∧ a < K.next ∧ K.get a = some (.cells false ws) ∧ ws.length = l.length ∧
    ∀ (i : Nat) s, l[i]? = some s → ∃ b, ws[i]? = some (AV.slice b 0 s.length (.lo s.length) 1) ∧ n ≤ b ∧ b < K.next ∧ b ≠ a ∧ K.get b = some (.cells false (bytesAV s))

theorem take_succ_of {α : Type} {l : List α} {i : Nat} {s : α} (h : l[i]? = some s) : l.take (i + 1) = l.take i ++ [s] := by
  rw [List.take_add_one, h]; rfl

set_option maxHeartbeats 2000000 in
theorem recs22 (N : Nat) (H : AH) (v : AV) (l : List (List UInt8)) (hl : TextsAt H v l) (hlt : ∀ b o, H.get b = some o → b < H.next) (h30 : l.length ≤ 1000000) : AC tC N 0 22 [v] H fun r K => Stays H K ∧ RecsAt H.next K r l := by
  have hlen := hl.len
  refine AC.by (n := 20) (rs := [.tmp 2]) tOK fn22 rfl rfl rfl rfl ?_
  have e0 : (PT.ofList .leaf 0 [v]).get 0 = some v := rfl
  with_reducible repeat' (first
    | refine AW.seq ?_
    | refine AW.region ?_
    | refine AW.block ?_
    | refine AW.scope ?_
    | refine AOs.nil ?_
    | refine AW.skip ?_
    | refine AW.exit ?_
    | refine AW.ret ?_
    | refine AW.label ?_
    | refine andThen_normal ?_
    | refine andThen_exit ?_
    | refine andThen_ret ?_
    | refine inBlock_normal ?_
    | refine inBlock_hit ?_
    | refine inBlock_ret ?_
    | refine inBlock_miss (by with_unfolding_all rfl) ?_
    | refine AOs.guardN (by with_unfolding_all rfl) (by simp only [aeval, PT.get_set, Nat.reduceEqDiff, reduceIte, e0]; rfl) (by with_unfolding_all rfl) ?_
    | refine AOs.guardT (by with_unfolding_all rfl) (by simp only [aeval, PT.get_set, Nat.reduceEqDiff, reduceIte, e0]; rfl) (by first | rfl | decide | assumption) ?_
    | refine AOs.guardF (by with_unfolding_all rfl) (by simp only [aeval, PT.get_set, Nat.reduceEqDiff, reduceIte, e0]; rfl) (by first | rfl | decide | assumption) (by with_unfolding_all rfl) ?_
    | refine AOs.guardF0 (by with_unfolding_all rfl) (by simp only [aeval, PT.get_set, Nat.reduceEqDiff, reduceIte, e0]; rfl) (by first | rfl | decide | assumption) ?_
    | refine AW.condT (by simp only [aeval, PT.get_set, Nat.reduceEqDiff, reduceIte, e0]; rfl) (by first | rfl | decide | assumption) ?_
    | refine AW.condF (by simp only [aeval, PT.get_set, Nat.reduceEqDiff, reduceIte, e0]; rfl) (by first | rfl | decide | assumption) ?_
    | refine AOs.op1 tOK (by simp only [evOp_move, evOp_assign, evOp_pick, evOp_build, evOp_nilCheck, evOp_binOp, evOp_not, evOp_fieldAddr, evOp_field, evOp_indexAddr, evOp_index, evOp_extract, evOp_makeFunc, evOp_load, evOp_lookup, evOp_store, evOp_mapUpdate, evOp_insert, evOp_range, evOp_makeMap, evOp_len, evOp_append, evOp_copy, evOp_delete, evOp_slice, evOp_convert, storeAt, one_bool, one_int, one_str, one_nilp, one_ptr, one_nils, one_slice, one_empty, one_nilm, one_map, one_func, one_nilf, one_iface, one_nili, aeval, ofVal, PT.get_set, Nat.reduceEqDiff, reduceIte, lenOfAV_slice, lenOfAV_nils, lenOfAV_empty, afield, apart, aindex, aconv, cellAt, cellsAt, mapLenAt, List.map_cons, List.map_nil, Option.map_some, Option.map_none, List.nil_append, List.append_nil, abin_add, abin_sub, abin_mul, abin_lss, abin_leq, abin_gtr, abin_geq, abin_eql, abin_neq, cond_true, cond_false, decide_true, decide_false, Bool.not_true, Bool.not_false, TI.agg, List.getElem?_cons_zero, List.getElem?_cons_succ, Nat.add_zero, Nat.zero_add, Nat.zero_mul, nbeq, nble, nblt, Nat.reduceLeDiff, Nat.reduceLT, Nat.reduceMul, Nat.reduceAdd, Nat.reduceSub, Bool.and_true, Bool.true_and, Bool.and_false, Bool.false_and, eq_self, Int.ofNat_eq_natCast, Int.cast_ofNat_Int, Int.natCast_zero, Int.reduceEq, Int.reduceLT, Int.reduceLE, Int.reduceNeg, ld3, st3, ld4, st4, ld5, st5, al9, ld9, st9, ld24, st24, ld27, st27, al28, ix28, bs28, ld28, st28, al32, ix32, bs32, ld32, st32, al37, ix37, bs37, ld37, st37, al40, ix40, bs40, ld40, st40, ld42, st42, fa63_0, ld63, fa65_0, fa65_1, fa65_2, fa65_3, fa65_4, fa65_5, ld65, ld96, st96, ld119, ix119, cv3_96, cv9_32, e0]; rfl) (by with_unfolding_all rfl) ?_
    | refine AOs.op0 tOK (by simp only [evOp_move, evOp_assign, evOp_pick, evOp_build, evOp_nilCheck, evOp_binOp, evOp_not, evOp_fieldAddr, evOp_field, evOp_indexAddr, evOp_index, evOp_extract, evOp_makeFunc, evOp_load, evOp_lookup, evOp_store, evOp_mapUpdate, evOp_insert, evOp_range, evOp_makeMap, evOp_len, evOp_append, evOp_copy, evOp_delete, evOp_slice, evOp_convert, storeAt, one_bool, one_int, one_str, one_nilp, one_ptr, one_nils, one_slice, one_empty, one_nilm, one_map, one_func, one_nilf, one_iface, one_nili, aeval, ofVal, PT.get_set, Nat.reduceEqDiff, reduceIte, lenOfAV_slice, lenOfAV_nils, lenOfAV_empty, afield, apart, aindex, aconv, cellAt, cellsAt, mapLenAt, List.map_cons, List.map_nil, Option.map_some, Option.map_none, List.nil_append, List.append_nil, abin_add, abin_sub, abin_mul, abin_lss, abin_leq, abin_gtr, abin_geq, abin_eql, abin_neq, cond_true, cond_false, decide_true, decide_false, Bool.not_true, Bool.not_false, TI.agg, List.getElem?_cons_zero, List.getElem?_cons_succ, Nat.add_zero, Nat.zero_add, Nat.zero_mul, nbeq, nble, nblt, Nat.reduceLeDiff, Nat.reduceLT, Nat.reduceMul, Nat.reduceAdd, Nat.reduceSub, Bool.and_true, Bool.true_and, Bool.and_false, Bool.false_and, eq_self, Int.ofNat_eq_natCast, Int.cast_ofNat_Int, Int.natCast_zero, Int.reduceEq, Int.reduceLT, Int.reduceLE, Int.reduceNeg, ld3, st3, ld4, st4, ld5, st5, al9, ld9, st9, ld24, st24, ld27, st27, al28, ix28, bs28, ld28, st28, al32, ix32, bs32, ld32, st32, al37, ix37, bs37, ld37, st37, al40, ix40, bs40, ld40, st40, ld42, st42, fa63_0, ld63, fa65_0, fa65_1, fa65_2, fa65_3, fa65_4, fa65_5, ld65, ld96, st96, ld119, ix119, cv3_96, cv9_32, e0]; rfl) ?_
    | fail "stop")
  refine AW.loop (fun m T K => Stays H K ∧ T.get 0 = some v ∧ ∃ (i : Nat) (o : AV), i ≤ l.length ∧ m = l.length - i ∧ T.get 4 = some (.int .i64 i) ∧ T.get 3 = some o ∧ RecsAt H.next K o (l.take i)) ?_ (l.length - 0) ⟨Stays.refl H, by simp [PT.get_set, e0], 0, .nils, by omega, rfl, by simp [PT.get_set], by simp [PT.get_set], .inl ⟨rfl, by simp⟩⟩
  rintro m T K ⟨hst, h0, i, o, hi, rfl, h4, h3, hr⟩
  by_cases hil : i < l.length
  · have hd := lt_int hil
    rcases hl with ⟨_, rfl⟩ | ⟨b, c, vs, rfl, hb, hat⟩
    · simp at hil
    · obtain ⟨s, hs⟩ : ∃ s, l[i]? = some s := ⟨_, List.getElem?_eq_getElem hil⟩
      have hvs : vs[i * 1]? = some (AV.str s) := by rw [Nat.mul_one]; exact hat i s hs
      have hbK := hst.get b _ (hlt b _ hb) hb
      have hbs : ∀ (F : Fns) (H : AH) (ev : Operand → AV) (x : Operand) (dst : Option Tmp) (ty : TypeId) (pos : String) (after : Array Edge) (guard : Option (Nat × Bool)), (ev x).one = true →
          evOp tC F H ev { dst, op := .buildSlice 28 1 ⟨[(0, x)]⟩, type := ty, pos, after, guard } = some (.slice H.next 0 1 (.ex 1) 1, H.alloc (.cells false [ev x])) := fun F H ev x dst ty pos after guard hv => evOp_buildSlice1 ti28 rfl ti32 rfl rfl rfl hv
      -- the heap behind the new row and the row of one
      have hn := hst.next
      obtain ⟨K1, hK1⟩ : ∃ K1, K.alloc (.cells false (s.map fun b => AV.int .u8 b.toNat)) = K1 := ⟨_, rfl⟩
      obtain ⟨K2, hK2⟩ : ∃ K2, K1.alloc (.cells false [.slice K.next 0 s.length (.lo s.length) 1]) = K2 := ⟨_, rfl⟩
      have n1 : K1.next = K.next + 1 := by rw [← hK1]; rfl
      have n2 : K2.next = K.next + 2 := by rw [← hK2, AH.next_alloc, n1]
      have g2 : K2.get K1.next = some (.cells false [.slice K.next 0 s.length (.lo s.length) 1]) := by rw [← hK2, AH.get_alloc, if_pos rfl]
      have g1 : K2.get K.next = some (.cells false (bytesAV s)) := by rw [← hK2, AH.get_alloc, if_neg (by omega), ← hK1, AH.get_alloc, if_pos rfl]; rfl
      have st2 : Stays K K2 := by rw [← hK2, ← hK1]; exact ((Stays.refl K).alloc _).alloc _
      have ht1 := take_succ_of hs
      rcases hr with ⟨rfl, hl0⟩ | ⟨a, ws, rfl, ha1, ha2, ha3, hw, hws⟩
      · have hi0 : i = 0 := by
          rcases List.take_eq_nil_iff.1 hl0 with h | h
          · exact h
          · rw [h] at hil; simp at hil
        have happ := aappend_nil1 (C := tC) (H := K2) (st := 28) (c := .ex 1) (o := 0) ti28 rfl ti32 rfl rfl rfl g2 rfl rfl (by decide)
        with_reducible repeat' (first
          | refine AW.seq ?_
          | refine AW.region ?_
          | refine AW.block ?_
          | refine AW.scope ?_
          | refine AOs.nil ?_
          | refine AW.skip ?_
          | refine AW.exit ?_
          | refine AW.ret ?_
          | refine AW.label ?_
          | refine andThen_normal ?_
          | refine andThen_exit ?_
          | refine andThen_ret ?_
          | refine inBlock_normal ?_
          | refine inBlock_hit ?_
          | refine inBlock_ret ?_
          | refine inBlock_miss (by with_unfolding_all rfl) ?_
          | refine AOs.guardN (by with_unfolding_all rfl) (by simp only [aeval, PT.get_set, Nat.reduceEqDiff, reduceIte, h0, h4, h3, hd, hil, hbK, hvs, hbs, hK1, hK2, happ]; rfl) (by with_unfolding_all rfl) ?_
          | refine AOs.guardT (by with_unfolding_all rfl) (by simp only [aeval, PT.get_set, Nat.reduceEqDiff, reduceIte, h0, h4, h3, hd, hil, hbK, hvs, hbs, hK1, hK2, happ]; rfl) (by first | rfl | decide | assumption) ?_
          | refine AOs.guardF (by with_unfolding_all rfl) (by simp only [aeval, PT.get_set, Nat.reduceEqDiff, reduceIte, h0, h4, h3, hd, hil, hbK, hvs, hbs, hK1, hK2, happ]; rfl) (by first | rfl | decide | assumption) (by with_unfolding_all rfl) ?_
          | refine AOs.guardF0 (by with_unfolding_all rfl) (by simp only [aeval, PT.get_set, Nat.reduceEqDiff, reduceIte, h0, h4, h3, hd, hil, hbK, hvs, hbs, hK1, hK2, happ]; rfl) (by first | rfl | decide | assumption) ?_
          | refine AW.condT (by simp only [aeval, PT.get_set, Nat.reduceEqDiff, reduceIte, h0, h4, h3, hd, hil, hbK, hvs, hbs, hK1, hK2, happ]; rfl) (by first | rfl | decide | assumption) ?_
          | refine AW.condF (by simp only [aeval, PT.get_set, Nat.reduceEqDiff, reduceIte, h0, h4, h3, hd, hil, hbK, hvs, hbs, hK1, hK2, happ]; rfl) (by first | rfl | decide | assumption) ?_
          | refine AOs.op1 tOK (by simp only [evOp_move, evOp_assign, evOp_pick, evOp_build, evOp_nilCheck, evOp_binOp, evOp_not, evOp_fieldAddr, evOp_field, evOp_indexAddr, evOp_index, evOp_extract, evOp_makeFunc, evOp_load, evOp_lookup, evOp_store, evOp_mapUpdate, evOp_insert, evOp_range, evOp_makeMap, evOp_len, evOp_append, evOp_copy, evOp_delete, evOp_slice, evOp_convert, storeAt, one_bool, one_int, one_str, one_nilp, one_ptr, one_nils, one_slice, one_empty, one_nilm, one_map, one_func, one_nilf, one_iface, one_nili, aeval, ofVal, PT.get_set, Nat.reduceEqDiff, reduceIte, lenOfAV_slice, lenOfAV_nils, lenOfAV_empty, afield, apart, aindex, aconv, cellAt, cellsAt, mapLenAt, List.map_cons, List.map_nil, Option.map_some, Option.map_none, List.nil_append, List.append_nil, abin_add, abin_sub, abin_mul, abin_lss, abin_leq, abin_gtr, abin_geq, abin_eql, abin_neq, cond_true, cond_false, decide_true, decide_false, Bool.not_true, Bool.not_false, TI.agg, List.getElem?_cons_zero, List.getElem?_cons_succ, Nat.add_zero, Nat.zero_add, Nat.zero_mul, nbeq, nble, nblt, Nat.reduceLeDiff, Nat.reduceLT, Nat.reduceMul, Nat.reduceAdd, Nat.reduceSub, Bool.and_true, Bool.true_and, Bool.and_false, Bool.false_and, eq_self, Int.ofNat_eq_natCast, Int.cast_ofNat_Int, Int.natCast_zero, Int.reduceEq, Int.reduceLT, Int.reduceLE, Int.reduceNeg, ld3, st3, ld4, st4, ld5, st5, al9, ld9, st9, ld24, st24, ld27, st27, al28, ix28, bs28, ld28, st28, al32, ix32, bs32, ld32, st32, al37, ix37, bs37, ld37, st37, al40, ix40, bs40, ld40, st40, ld42, st42, fa63_0, ld63, fa65_0, fa65_1, fa65_2, fa65_3, fa65_4, fa65_5, ld65, ld96, st96, ld119, ix119, cv3_96, cv9_32, h0, h4, h3, hd, hil, hbK, hvs, hbs, hK1, hK2, happ]; rfl) (by with_unfolding_all rfl) ?_
          | refine AOs.op0 tOK (by simp only [evOp_move, evOp_assign, evOp_pick, evOp_build, evOp_nilCheck, evOp_binOp, evOp_not, evOp_fieldAddr, evOp_field, evOp_indexAddr, evOp_index, evOp_extract, evOp_makeFunc, evOp_load, evOp_lookup, evOp_store, evOp_mapUpdate, evOp_insert, evOp_range, evOp_makeMap, evOp_len, evOp_append, evOp_copy, evOp_delete, evOp_slice, evOp_convert, storeAt, one_bool, one_int, one_str, one_nilp, one_ptr, one_nils, one_slice, one_empty, one_nilm, one_map, one_func, one_nilf, one_iface, one_nili, aeval, ofVal, PT.get_set, Nat.reduceEqDiff, reduceIte, lenOfAV_slice, lenOfAV_nils, lenOfAV_empty, afield, apart, aindex, aconv, cellAt, cellsAt, mapLenAt, List.map_cons, List.map_nil, Option.map_some, Option.map_none, List.nil_append, List.append_nil, abin_add, abin_sub, abin_mul, abin_lss, abin_leq, abin_gtr, abin_geq, abin_eql, abin_neq, cond_true, cond_false, decide_true, decide_false, Bool.not_true, Bool.not_false, TI.agg, List.getElem?_cons_zero, List.getElem?_cons_succ, Nat.add_zero, Nat.zero_add, Nat.zero_mul, nbeq, nble, nblt, Nat.reduceLeDiff, Nat.reduceLT, Nat.reduceMul, Nat.reduceAdd, Nat.reduceSub, Bool.and_true, Bool.true_and, Bool.and_false, Bool.false_and, eq_self, Int.ofNat_eq_natCast, Int.cast_ofNat_Int, Int.natCast_zero, Int.reduceEq, Int.reduceLT, Int.reduceLE, Int.reduceNeg, ld3, st3, ld4, st4, ld5, st5, al9, ld9, st9, ld24, st24, ld27, st27, al28, ix28, bs28, ld28, st28, al32, ix32, bs32, ld32, st32, al37, ix37, bs37, ld37, st37, al40, ix40, bs40, ld40, st40, ld42, st42, fa63_0, ld63, fa65_0, fa65_1, fa65_2, fa65_3, fa65_4, fa65_5, ld65, ld96, st96, ld119, ix119, cv3_96, cv9_32, h0, h4, h3, hd, hil, hbK, hvs, hbs, hK1, hK2, happ]; rfl) ?_
          | fail "stop")
        refine ⟨l.length - (i + 1), by omega, (hst.trans st2).alloc _, by simp only [PT.get_set, Nat.reduceEqDiff, reduceIte, h0], i + 1, .slice K2.next 0 1 (.lo 1) 1, by omega, rfl, ?_, by simp only [PT.get_set, Nat.reduceEqDiff, reduceIte], ?_⟩
        · simp only [PT.get_set, Nat.reduceEqDiff, reduceIte, wrap64_succ (show i < 9223372036854775807 by omega)]
        · rw [ht1, hl0, List.nil_append]
          refine .inr ⟨K2.next, _, rfl, by omega, by simp, by rw [AH.get_alloc, if_pos rfl], rfl, fun k t hk => ?_⟩
          have hk0 : k = 0 := by
            have := (List.getElem?_eq_some_iff.1 hk).1
            simp at this; exact this
          subst hk0
          simp only [List.getElem?_cons_zero, Option.some.injEq] at hk
          subst hk
          exact ⟨K.next, rfl, hn, by simp; omega, by omega, by rw [AH.get_alloc, if_neg (by omega)]; exact g1⟩
      · have hlen' : (l.take i).length = i := by rw [List.length_take]; omega
        rw [hlen'] at hw h3
        have ha4 := st2.get a _ ha2 ha3
        have happ := aappend_lo1 (C := tC) (H := K2) (st := 28) (c := .ex 1) (o := 0) (a := a) (n := i) ti28 rfl ti32 rfl rfl rfl g2 rfl rfl ha4 hw (by show (2 * (i + 1) + 1024) * 24 ≤ _; omega) (by omega)
        with_reducible repeat' (first
          | refine AW.seq ?_
          | refine AW.region ?_
          | refine AW.block ?_
          | refine AW.scope ?_
          | refine AOs.nil ?_
          | refine AW.skip ?_
          | refine AW.exit ?_
          | refine AW.ret ?_
          | refine AW.label ?_
          | refine andThen_normal ?_
          | refine andThen_exit ?_
          | refine andThen_ret ?_
          | refine inBlock_normal ?_
          | refine inBlock_hit ?_
          | refine inBlock_ret ?_
          | refine inBlock_miss (by with_unfolding_all rfl) ?_
          | refine AOs.guardN (by with_unfolding_all rfl) (by simp only [aeval, PT.get_set, Nat.reduceEqDiff, reduceIte, h0, h4, h3, hd, hil, hbK, hvs, hbs, hK1, hK2, happ]; rfl) (by with_unfolding_all rfl) ?_
          | refine AOs.guardT (by with_unfolding_all rfl) (by simp only [aeval, PT.get_set, Nat.reduceEqDiff, reduceIte, h0, h4, h3, hd, hil, hbK, hvs, hbs, hK1, hK2, happ]; rfl) (by first | rfl | decide | assumption) ?_
          | refine AOs.guardF (by with_unfolding_all rfl) (by simp only [aeval, PT.get_set, Nat.reduceEqDiff, reduceIte, h0, h4, h3, hd, hil, hbK, hvs, hbs, hK1, hK2, happ]; rfl) (by first | rfl | decide | assumption) (by with_unfolding_all rfl) ?_
          | refine AOs.guardF0 (by with_unfolding_all rfl) (by simp only [aeval, PT.get_set, Nat.reduceEqDiff, reduceIte, h0, h4, h3, hd, hil, hbK, hvs, hbs, hK1, hK2, happ]; rfl) (by first | rfl | decide | assumption) ?_
          | refine AW.condT (by simp only [aeval, PT.get_set, Nat.reduceEqDiff, reduceIte, h0, h4, h3, hd, hil, hbK, hvs, hbs, hK1, hK2, happ]; rfl) (by first | rfl | decide | assumption) ?_
          | refine AW.condF (by simp only [aeval, PT.get_set, Nat.reduceEqDiff, reduceIte, h0, h4, h3, hd, hil, hbK, hvs, hbs, hK1, hK2, happ]; rfl) (by first | rfl | decide | assumption) ?_
          | refine AOs.op1 tOK (by simp only [evOp_move, evOp_assign, evOp_pick, evOp_build, evOp_nilCheck, evOp_binOp, evOp_not, evOp_fieldAddr, evOp_field, evOp_indexAddr, evOp_index, evOp_extract, evOp_makeFunc, evOp_load, evOp_lookup, evOp_store, evOp_mapUpdate, evOp_insert, evOp_range, evOp_makeMap, evOp_len, evOp_append, evOp_copy, evOp_delete, evOp_slice, evOp_convert, storeAt, one_bool, one_int, one_str, one_nilp, one_ptr, one_nils, one_slice, one_empty, one_nilm, one_map, one_func, one_nilf, one_iface, one_nili, aeval, ofVal, PT.get_set, Nat.reduceEqDiff, reduceIte, lenOfAV_slice, lenOfAV_nils, lenOfAV_empty, afield, apart, aindex, aconv, cellAt, cellsAt, mapLenAt, List.map_cons, List.map_nil, Option.map_some, Option.map_none, List.nil_append, List.append_nil, abin_add, abin_sub, abin_mul, abin_lss, abin_leq, abin_gtr, abin_geq, abin_eql, abin_neq, cond_true, cond_false, decide_true, decide_false, Bool.not_true, Bool.not_false, TI.agg, List.getElem?_cons_zero, List.getElem?_cons_succ, Nat.add_zero, Nat.zero_add, Nat.zero_mul, nbeq, nble, nblt, Nat.reduceLeDiff, Nat.reduceLT, Nat.reduceMul, Nat.reduceAdd, Nat.reduceSub, Bool.and_true, Bool.true_and, Bool.and_false, Bool.false_and, eq_self, Int.ofNat_eq_natCast, Int.cast_ofNat_Int, Int.natCast_zero, Int.reduceEq, Int.reduceLT, Int.reduceLE, Int.reduceNeg, ld3, st3, ld4, st4, ld5, st5, al9, ld9, st9, ld24, st24, ld27, st27, al28, ix28, bs28, ld28, st28, al32, ix32, bs32, ld32, st32, al37, ix37, bs37, ld37, st37, al40, ix40, bs40, ld40, st40, ld42, st42, fa63_0, ld63, fa65_0, fa65_1, fa65_2, fa65_3, fa65_4, fa65_5, ld65, ld96, st96, ld119, ix119, cv3_96, cv9_32, h0, h4, h3, hd, hil, hbK, hvs, hbs, hK1, hK2, happ]; rfl) (by with_unfolding_all rfl) ?_
          | refine AOs.op0 tOK (by simp only [evOp_move, evOp_assign, evOp_pick, evOp_build, evOp_nilCheck, evOp_binOp, evOp_not, evOp_fieldAddr, evOp_field, evOp_indexAddr, evOp_index, evOp_extract, evOp_makeFunc, evOp_load, evOp_lookup, evOp_store, evOp_mapUpdate, evOp_insert, evOp_range, evOp_makeMap, evOp_len, evOp_append, evOp_copy, evOp_delete, evOp_slice, evOp_convert, storeAt, one_bool, one_int, one_str, one_nilp, one_ptr, one_nils, one_slice, one_empty, one_nilm, one_map, one_func, one_nilf, one_iface, one_nili, aeval, ofVal, PT.get_set, Nat.reduceEqDiff, reduceIte, lenOfAV_slice, lenOfAV_nils, lenOfAV_empty, afield, apart, aindex, aconv, cellAt, cellsAt, mapLenAt, List.map_cons, List.map_nil, Option.map_some, Option.map_none, List.nil_append, List.append_nil, abin_add, abin_sub, abin_mul, abin_lss, abin_leq, abin_gtr, abin_geq, abin_eql, abin_neq, cond_true, cond_false, decide_true, decide_false, Bool.not_true, Bool.not_false, TI.agg, List.getElem?_cons_zero, List.getElem?_cons_succ, Nat.add_zero, Nat.zero_add, Nat.zero_mul, nbeq, nble, nblt, Nat.reduceLeDiff, Nat.reduceLT, Nat.reduceMul, Nat.reduceAdd, Nat.reduceSub, Bool.and_true, Bool.true_and, Bool.and_false, Bool.false_and, eq_self, Int.ofNat_eq_natCast, Int.cast_ofNat_Int, Int.natCast_zero, Int.reduceEq, Int.reduceLT, Int.reduceLE, Int.reduceNeg, ld3, st3, ld4, st4, ld5, st5, al9, ld9, st9, ld24, st24, ld27, st27, al28, ix28, bs28, ld28, st28, al32, ix32, bs32, ld32, st32, al37, ix37, bs37, ld37, st37, al40, ix40, bs40, ld40, st40, ld42, st42, fa63_0, ld63, fa65_0, fa65_1, fa65_2, fa65_3, fa65_4, fa65_5, ld65, ld96, st96, ld119, ix119, cv3_96, cv9_32, h0, h4, h3, hd, hil, hbK, hvs, hbs, hK1, hK2, happ]; rfl) ?_
          | fail "stop")
        refine ⟨l.length - (i + 1), by omega, ((hst.trans st2).del ha1).alloc _, by simp only [PT.get_set, Nat.reduceEqDiff, reduceIte, h0], i + 1, .slice K2.next 0 (i + 1) (.lo (i + 1)) 1, by omega, rfl, ?_, by simp only [PT.get_set, Nat.reduceEqDiff, reduceIte], ?_⟩
        · simp only [PT.get_set, Nat.reduceEqDiff, reduceIte, wrap64_succ (show i < 9223372036854775807 by omega)]
        · have hl1 : (l.take (i + 1)).length = i + 1 := by rw [List.length_take]; omega
          refine .inr ⟨K2.next, _, by rw [hl1], by omega, by simp, by rw [AH.get_alloc]; exact if_pos rfl, by rw [hl1, List.length_append, hw]; rfl, fun k t hk => ?_⟩
          by_cases hki : k < i
          · rw [ht1, List.getElem?_append_left (by omega)] at hk
            obtain ⟨b', q1, q2, q3, q4, q5⟩ := hws k t hk
            refine ⟨b', by rw [List.getElem?_append_left (by omega)]; exact q1, q2, by simp; omega, by omega, ?_⟩
            rw [AH.get_alloc, if_neg (by show b' ≠ K2.next; omega), AH.get_del, if_neg q4]
            exact st2.get b' _ q3 q5
          · have hk1 : k = i := by
              have := (List.getElem?_eq_some_iff.1 hk).1
              omega
            subst hk1
            rw [ht1, List.getElem?_append_right (by omega), hlen', Nat.sub_self] at hk
            simp only [List.getElem?_cons_zero, Option.some.injEq] at hk
            subst hk
            refine ⟨K.next, by rw [List.getElem?_append_right (by omega), hw, Nat.sub_self]; rfl, hn, by simp; omega, by omega, ?_⟩
            rw [AH.get_alloc, if_neg (by show K.next ≠ K2.next; omega), AH.get_del, if_neg (by omega)]
            exact g1
  · have hd := nlt_int hil
    obtain rfl : i = l.length := by omega
    with_reducible repeat' (first
      | refine AW.seq ?_
      | refine AW.region ?_
      | refine AW.block ?_
      | refine AW.scope ?_
      | refine AOs.nil ?_
      | refine AW.skip ?_
      | refine AW.exit ?_
      | refine AW.ret ?_
      | refine AW.label ?_
      | refine andThen_normal ?_
      | refine andThen_exit ?_
      | refine andThen_ret ?_
      | refine inBlock_normal ?_
      | refine inBlock_hit ?_
      | refine inBlock_ret ?_
      | refine inBlock_miss (by with_unfolding_all rfl) ?_
      | refine AOs.guardN (by with_unfolding_all rfl) (by simp only [aeval, PT.get_set, Nat.reduceEqDiff, reduceIte, h0, h4, h3, hd, hlen]; rfl) (by with_unfolding_all rfl) ?_
      | refine AOs.guardT (by with_unfolding_all rfl) (by simp only [aeval, PT.get_set, Nat.reduceEqDiff, reduceIte, h0, h4, h3, hd, hlen]; rfl) (by first | rfl | decide | assumption) ?_
      | refine AOs.guardF (by with_unfolding_all rfl) (by simp only [aeval, PT.get_set, Nat.reduceEqDiff, reduceIte, h0, h4, h3, hd, hlen]; rfl) (by first | rfl | decide | assumption) (by with_unfolding_all rfl) ?_
      | refine AOs.guardF0 (by with_unfolding_all rfl) (by simp only [aeval, PT.get_set, Nat.reduceEqDiff, reduceIte, h0, h4, h3, hd, hlen]; rfl) (by first | rfl | decide | assumption) ?_
      | refine AW.condT (by simp only [aeval, PT.get_set, Nat.reduceEqDiff, reduceIte, h0, h4, h3, hd, hlen]; rfl) (by first | rfl | decide | assumption) ?_
      | refine AW.condF (by simp only [aeval, PT.get_set, Nat.reduceEqDiff, reduceIte, h0, h4, h3, hd, hlen]; rfl) (by first | rfl | decide | assumption) ?_
      | refine AOs.op1 tOK (by simp only [evOp_move, evOp_assign, evOp_pick, evOp_build, evOp_nilCheck, evOp_binOp, evOp_not, evOp_fieldAddr, evOp_field, evOp_indexAddr, evOp_index, evOp_extract, evOp_makeFunc, evOp_load, evOp_lookup, evOp_store, evOp_mapUpdate, evOp_insert, evOp_range, evOp_makeMap, evOp_len, evOp_append, evOp_copy, evOp_delete, evOp_slice, evOp_convert, storeAt, one_bool, one_int, one_str, one_nilp, one_ptr, one_nils, one_slice, one_empty, one_nilm, one_map, one_func, one_nilf, one_iface, one_nili, aeval, ofVal, PT.get_set, Nat.reduceEqDiff, reduceIte, lenOfAV_slice, lenOfAV_nils, lenOfAV_empty, afield, apart, aindex, aconv, cellAt, cellsAt, mapLenAt, List.map_cons, List.map_nil, Option.map_some, Option.map_none, List.nil_append, List.append_nil, abin_add, abin_sub, abin_mul, abin_lss, abin_leq, abin_gtr, abin_geq, abin_eql, abin_neq, cond_true, cond_false, decide_true, decide_false, Bool.not_true, Bool.not_false, TI.agg, List.getElem?_cons_zero, List.getElem?_cons_succ, Nat.add_zero, Nat.zero_add, Nat.zero_mul, nbeq, nble, nblt, Nat.reduceLeDiff, Nat.reduceLT, Nat.reduceMul, Nat.reduceAdd, Nat.reduceSub, Bool.and_true, Bool.true_and, Bool.and_false, Bool.false_and, eq_self, Int.ofNat_eq_natCast, Int.cast_ofNat_Int, Int.natCast_zero, Int.reduceEq, Int.reduceLT, Int.reduceLE, Int.reduceNeg, ld3, st3, ld4, st4, ld5, st5, al9, ld9, st9, ld24, st24, ld27, st27, al28, ix28, bs28, ld28, st28, al32, ix32, bs32, ld32, st32, al37, ix37, bs37, ld37, st37, al40, ix40, bs40, ld40, st40, ld42, st42, fa63_0, ld63, fa65_0, fa65_1, fa65_2, fa65_3, fa65_4, fa65_5, ld65, ld96, st96, ld119, ix119, cv3_96, cv9_32, h0, h4, h3, hd, hlen]; rfl) (by with_unfolding_all rfl) ?_
      | refine AOs.op0 tOK (by simp only [evOp_move, evOp_assign, evOp_pick, evOp_build, evOp_nilCheck, evOp_binOp, evOp_not, evOp_fieldAddr, evOp_field, evOp_indexAddr, evOp_index, evOp_extract, evOp_makeFunc, evOp_load, evOp_lookup, evOp_store, evOp_mapUpdate, evOp_insert, evOp_range, evOp_makeMap, evOp_len, evOp_append, evOp_copy, evOp_delete, evOp_slice, evOp_convert, storeAt, one_bool, one_int, one_str, one_nilp, one_ptr, one_nils, one_slice, one_empty, one_nilm, one_map, one_func, one_nilf, one_iface, one_nili, aeval, ofVal, PT.get_set, Nat.reduceEqDiff, reduceIte, lenOfAV_slice, lenOfAV_nils, lenOfAV_empty, afield, apart, aindex, aconv, cellAt, cellsAt, mapLenAt, List.map_cons, List.map_nil, Option.map_some, Option.map_none, List.nil_append, List.append_nil, abin_add, abin_sub, abin_mul, abin_lss, abin_leq, abin_gtr, abin_geq, abin_eql, abin_neq, cond_true, cond_false, decide_true, decide_false, Bool.not_true, Bool.not_false, TI.agg, List.getElem?_cons_zero, List.getElem?_cons_succ, Nat.add_zero, Nat.zero_add, Nat.zero_mul, nbeq, nble, nblt, Nat.reduceLeDiff, Nat.reduceLT, Nat.reduceMul, Nat.reduceAdd, Nat.reduceSub, Bool.and_true, Bool.true_and, Bool.and_false, Bool.false_and, eq_self, Int.ofNat_eq_natCast, Int.cast_ofNat_Int, Int.natCast_zero, Int.reduceEq, Int.reduceLT, Int.reduceLE, Int.reduceNeg, ld3, st3, ld4, st4, ld5, st5, al9, ld9, st9, ld24, st24, ld27, st27, al28, ix28, bs28, ld28, st28, al32, ix32, bs32, ld32, st32, al37, ix37, bs37, ld37, st37, al40, ix40, bs40, ld40, st40, ld42, st42, fa63_0, ld63, fa65_0, fa65_1, fa65_2, fa65_3, fa65_4, fa65_5, ld65, ld96, st96, ld119, ix119, cv3_96, cv9_32, h0, h4, h3, hd, hlen]; rfl) ?_
      | fail "stop")
    refine fnPost_ret1 (by simp only [PT.get_set, Nat.reduceEqDiff, reduceIte] <;> rfl) ⟨hst, ?_⟩
    rw [List.take_length] at hr
    exact hr

end Go.Proofs.YtgihociajfgohaaGreatDoor
