/- Group: what the law of a nil group calls, walked from whatever abstract heap; no condition. -/
import Derived.Test.YtapokkpdgfpokaaGreatNilTypes
open Go Go.AB Go.Proofs
namespace Go.Proofs.YtapokkpdgfpokaaGreat
set_option linter.unusedSimpArgs false
set_option linter.unusedVariables false

def LabelsAt (H : AH) (v : AV) (l : List (List UInt8 × List UInt8)) : Prop :=
  ((v = .nils ∨ v = .empty 0) ∧ l = []) ∨ ∃ b o c ro vs, v = .slice b o l.length c 2 ∧ H.get b = some (.cells ro vs) ∧ ∀ i p, l[i]? = some p → vs[o + i * 2]? = some (.str p.1) ∧ vs[o + i * 2 + 1]? = some (.str p.2)

theorem LabelsAt.len {H : AH} {v : AV} {l : List (List UInt8 × List UInt8)} (h : LabelsAt H v l) : lenOfAV v = some l.length := by
  rcases h with ⟨rfl | rfl, rfl⟩ | ⟨b, o, c, ro, vs, rfl, _⟩ <;> rfl

theorem LabelsAt.at {H : AH} {v : AV} {l : List (List UInt8 × List UInt8)} (h : LabelsAt H v l) {i : Nat} {p : List UInt8 × List UInt8} (hi : l[i]? = some p) :
    ∃ b o c ro vs, v = .slice b o l.length c 2 ∧ H.get b = some (.cells ro vs) ∧ vs[o + i * 2]? = some (.str p.1) ∧ vs[o + i * 2 + 1]? = some (.str p.2) := by
  rcases h with ⟨_, rfl⟩ | ⟨b, o, c, ro, vs, rfl, h1, h2⟩
  · simp at hi
  · exact ⟨b, o, c, ro, vs, rfl, h1, h2 i p hi⟩

set_option maxHeartbeats 1000000 in
theorem light28 (N : Nat) (H : AH) (v : AV) (l : List (List UInt8 × List UInt8)) (hl : LabelsAt H v l) : AC tC N 0 28 [v] H fun r H' => H' = H ∧ ∃ x, r = .bool x := by
  have hlen := hl.len
  refine AC.by (n := 33) (rs := [.tmp 2]) tOK fn28 rfl rfl rfl rfl ?_
  with_reducible repeat' (first
    | refine AW.seq ?_
    | refine AW.region ?_
    | refine AW.block ?_
    | refine AW.scope ?_
    | refine AOs.nil ?_
    | refine AW.skip ?_
    | refine AW.exit ?_
    | refine AW.ret ?_
    | refine AW.label ?_
    | refine andThen_normal ?_
    | refine andThen_exit ?_
    | refine andThen_ret ?_
    | refine inBlock_normal ?_
    | refine inBlock_hit ?_
    | refine inBlock_ret ?_
    | refine inBlock_miss (by with_unfolding_all rfl) ?_
    | refine AOs.guardN (by with_unfolding_all rfl) (by simp only [aeval, PT.get_set, Nat.reduceEqDiff, reduceIte, if_true]; rfl) (by with_unfolding_all rfl) ?_
    | refine AOs.guardT (by with_unfolding_all rfl) (by simp only [aeval, PT.get_set, Nat.reduceEqDiff, reduceIte, if_true]; rfl) (by first | rfl | decide | assumption) ?_
    | refine AOs.guardF (by with_unfolding_all rfl) (by simp only [aeval, PT.get_set, Nat.reduceEqDiff, reduceIte, if_true]; rfl) (by first | rfl | decide | assumption) (by with_unfolding_all rfl) ?_
    | refine AOs.guardF0 (by with_unfolding_all rfl) (by simp only [aeval, PT.get_set, Nat.reduceEqDiff, reduceIte, if_true]; rfl) (by first | rfl | decide | assumption) ?_
    | refine AW.condT (by simp only [aeval, PT.get_set, Nat.reduceEqDiff, reduceIte, if_true]; rfl) (by first | rfl | decide | assumption) ?_
    | refine AW.condF (by simp only [aeval, PT.get_set, Nat.reduceEqDiff, reduceIte, if_true]; rfl) (by first | rfl | decide | assumption) ?_
    | refine AOs.op1 tOK (by simp only [evOp_move, evOp_assign, evOp_pick, evOp_build, evOp_nilCheck, evOp_binOp, evOp_not, evOp_fieldAddr, evOp_field, evOp_indexAddr, evOp_index, evOp_extract, evOp_makeFunc, evOp_load, evOp_lookup, evOp_store, evOp_mapUpdate, evOp_insert, evOp_range, evOp_makeMap, evOp_len, evOp_append, evOp_copy, evOp_delete, evOp_slice, aeval, ofVal, PT.get_set, Nat.reduceEqDiff, reduceIte, lenOfAV_slice, lenOfAV_nils, lenOfAV_empty, afield, apart, aindex, aconv, cellAt, cellsAt, mapLenAt, List.map_cons, List.map_nil, Option.map_some, Option.map_none, List.nil_append, List.append_nil, abin_add, abin_sub, abin_mul, abin_lss, abin_leq, abin_gtr, abin_geq, abin_eql, abin_neq, cond_true, cond_false, decide_true, decide_false, Bool.not_true, Bool.not_false, TI.agg, List.getElem?_cons_zero, List.getElem?_cons_succ, Nat.add_zero, Nat.zero_add, Nat.zero_mul, nbeq, nble, nblt, Nat.reduceLeDiff, Nat.reduceLT, Nat.reduceMul, Nat.reduceAdd, Nat.reduceSub, Bool.and_true, Bool.true_and, Bool.and_false, Bool.false_and, eq_self, Int.ofNat_eq_natCast, Int.cast_ofNat_Int, Int.natCast_zero, Int.reduceEq, Int.reduceLT, Int.reduceLE, Int.reduceNeg, ld2, ld3, ld4, ld5, al9, ld9, al22, ix22, bs22, ld22, al23, ix23, bs23, ld23, ld27, al29, ix29, bs29, ld29, fa31_0, fa31_1, ld31, fa33_0, fa33_1, fa33_2, ld33, al40, ix40, bs40, ld40, ld44, al50, ix50, bs50, ld50, fa58_0, fa58_1, ld58, fa71_0, fa71_1, ld71, an74, am74, ld74, fa76_0, fa76_1, fa76_2, fa76_3, ld76, an77, am77, ld77, an78, am78, ld78, ld82, ld90, ld93, ld94, fa96_0, fa96_1, fa96_2, ld96, ld97, fa99_0, fa99_1, fa99_2, fa99_3, ld99, ld101, if_true]; rfl) (by with_unfolding_all rfl) ?_
    | refine AOs.op0 tOK (by simp only [evOp_move, evOp_assign, evOp_pick, evOp_build, evOp_nilCheck, evOp_binOp, evOp_not, evOp_fieldAddr, evOp_field, evOp_indexAddr, evOp_index, evOp_extract, evOp_makeFunc, evOp_load, evOp_lookup, evOp_store, evOp_mapUpdate, evOp_insert, evOp_range, evOp_makeMap, evOp_len, evOp_append, evOp_copy, evOp_delete, evOp_slice, aeval, ofVal, PT.get_set, Nat.reduceEqDiff, reduceIte, lenOfAV_slice, lenOfAV_nils, lenOfAV_empty, afield, apart, aindex, aconv, cellAt, cellsAt, mapLenAt, List.map_cons, List.map_nil, Option.map_some, Option.map_none, List.nil_append, List.append_nil, abin_add, abin_sub, abin_mul, abin_lss, abin_leq, abin_gtr, abin_geq, abin_eql, abin_neq, cond_true, cond_false, decide_true, decide_false, Bool.not_true, Bool.not_false, TI.agg, List.getElem?_cons_zero, List.getElem?_cons_succ, Nat.add_zero, Nat.zero_add, Nat.zero_mul, nbeq, nble, nblt, Nat.reduceLeDiff, Nat.reduceLT, Nat.reduceMul, Nat.reduceAdd, Nat.reduceSub, Bool.and_true, Bool.true_and, Bool.and_false, Bool.false_and, eq_self, Int.ofNat_eq_natCast, Int.cast_ofNat_Int, Int.natCast_zero, Int.reduceEq, Int.reduceLT, Int.reduceLE, Int.reduceNeg, ld2, ld3, ld4, ld5, al9, ld9, al22, ix22, bs22, ld22, al23, ix23, bs23, ld23, ld27, al29, ix29, bs29, ld29, fa31_0, fa31_1, ld31, fa33_0, fa33_1, fa33_2, ld33, al40, ix40, bs40, ld40, ld44, al50, ix50, bs50, ld50, fa58_0, fa58_1, ld58, fa71_0, fa71_1, ld71, an74, am74, ld74, fa76_0, fa76_1, fa76_2, fa76_3, ld76, an77, am77, ld77, an78, am78, ld78, ld82, ld90, ld93, ld94, fa96_0, fa96_1, fa96_2, ld96, ld97, fa99_0, fa99_1, fa99_2, fa99_3, ld99, ld101, if_true]; rfl) ?_
    | fail "stop")
  refine AW.loop (fun m T K => K = H ∧ T.get 0 = some v ∧ ∃ i : Nat, i ≤ l.length ∧ m = l.length - i ∧ i ≤ 31 ∧ T.get 3 = some (.int .i64 i)) ?_ (l.length - 0) ⟨rfl, by simp [PT.get_set, PT.ofList, PT.get], 0, by omega, rfl, by omega, by simp [PT.get_set]⟩
  rintro m T K ⟨rfl, h0, i, hi, rfl, hi31, h3⟩
  by_cases hlt : i < l.length
  · have hd := lt_int hlt
    obtain ⟨p, hp⟩ : ∃ p, l[i]? = some p := ⟨_, List.getElem?_eq_getElem hlt⟩
    obtain ⟨b, o, c, ro, vs, rfl, hb, hs1, hs2⟩ := hl.at hp
    by_cases h30 : (i : Int) ≤ 30
    · by_cases hn : (300 : Int) < (p.1.length : Int)
      · with_reducible repeat' (first
          | refine AW.seq ?_
          | refine AW.region ?_
          | refine AW.block ?_
          | refine AW.scope ?_
          | refine AOs.nil ?_
          | refine AW.skip ?_
          | refine AW.exit ?_
          | refine AW.ret ?_
          | refine AW.label ?_
          | refine andThen_normal ?_
          | refine andThen_exit ?_
          | refine andThen_ret ?_
          | refine inBlock_normal ?_
          | refine inBlock_hit ?_
          | refine inBlock_ret ?_
          | refine inBlock_miss (by with_unfolding_all rfl) ?_
          | refine AOs.guardN (by with_unfolding_all rfl) (by simp only [aeval, PT.get_set, Nat.reduceEqDiff, reduceIte, h0, h3, hd, h30, hn, hlt, hb, hs1, hs2]; rfl) (by with_unfolding_all rfl) ?_
          | refine AOs.guardT (by with_unfolding_all rfl) (by simp only [aeval, PT.get_set, Nat.reduceEqDiff, reduceIte, h0, h3, hd, h30, hn, hlt, hb, hs1, hs2]; rfl) (by first | rfl | decide | assumption) ?_
          | refine AOs.guardF (by with_unfolding_all rfl) (by simp only [aeval, PT.get_set, Nat.reduceEqDiff, reduceIte, h0, h3, hd, h30, hn, hlt, hb, hs1, hs2]; rfl) (by first | rfl | decide | assumption) (by with_unfolding_all rfl) ?_
          | refine AOs.guardF0 (by with_unfolding_all rfl) (by simp only [aeval, PT.get_set, Nat.reduceEqDiff, reduceIte, h0, h3, hd, h30, hn, hlt, hb, hs1, hs2]; rfl) (by first | rfl | decide | assumption) ?_
          | refine AW.condT (by simp only [aeval, PT.get_set, Nat.reduceEqDiff, reduceIte, h0, h3, hd, h30, hn, hlt, hb, hs1, hs2]; rfl) (by first | rfl | decide | assumption) ?_
          | refine AW.condF (by simp only [aeval, PT.get_set, Nat.reduceEqDiff, reduceIte, h0, h3, hd, h30, hn, hlt, hb, hs1, hs2]; rfl) (by first | rfl | decide | assumption) ?_
          | refine AOs.op1 tOK (by simp only [evOp_move, evOp_assign, evOp_pick, evOp_build, evOp_nilCheck, evOp_binOp, evOp_not, evOp_fieldAddr, evOp_field, evOp_indexAddr, evOp_index, evOp_extract, evOp_makeFunc, evOp_load, evOp_lookup, evOp_store, evOp_mapUpdate, evOp_insert, evOp_range, evOp_makeMap, evOp_len, evOp_append, evOp_copy, evOp_delete, evOp_slice, aeval, ofVal, PT.get_set, Nat.reduceEqDiff, reduceIte, lenOfAV_slice, lenOfAV_nils, lenOfAV_empty, afield, apart, aindex, aconv, cellAt, cellsAt, mapLenAt, List.map_cons, List.map_nil, Option.map_some, Option.map_none, List.nil_append, List.append_nil, abin_add, abin_sub, abin_mul, abin_lss, abin_leq, abin_gtr, abin_geq, abin_eql, abin_neq, cond_true, cond_false, decide_true, decide_false, Bool.not_true, Bool.not_false, TI.agg, List.getElem?_cons_zero, List.getElem?_cons_succ, Nat.add_zero, Nat.zero_add, Nat.zero_mul, nbeq, nble, nblt, Nat.reduceLeDiff, Nat.reduceLT, Nat.reduceMul, Nat.reduceAdd, Nat.reduceSub, Bool.and_true, Bool.true_and, Bool.and_false, Bool.false_and, eq_self, Int.ofNat_eq_natCast, Int.cast_ofNat_Int, Int.natCast_zero, Int.reduceEq, Int.reduceLT, Int.reduceLE, Int.reduceNeg, ld2, ld3, ld4, ld5, al9, ld9, al22, ix22, bs22, ld22, al23, ix23, bs23, ld23, ld27, al29, ix29, bs29, ld29, fa31_0, fa31_1, ld31, fa33_0, fa33_1, fa33_2, ld33, al40, ix40, bs40, ld40, ld44, al50, ix50, bs50, ld50, fa58_0, fa58_1, ld58, fa71_0, fa71_1, ld71, an74, am74, ld74, fa76_0, fa76_1, fa76_2, fa76_3, ld76, an77, am77, ld77, an78, am78, ld78, ld82, ld90, ld93, ld94, fa96_0, fa96_1, fa96_2, ld96, ld97, fa99_0, fa99_1, fa99_2, fa99_3, ld99, ld101, h0, h3, hd, h30, hn, hlt, hb, hs1, hs2]; rfl) (by with_unfolding_all rfl) ?_
          | refine AOs.op0 tOK (by simp only [evOp_move, evOp_assign, evOp_pick, evOp_build, evOp_nilCheck, evOp_binOp, evOp_not, evOp_fieldAddr, evOp_field, evOp_indexAddr, evOp_index, evOp_extract, evOp_makeFunc, evOp_load, evOp_lookup, evOp_store, evOp_mapUpdate, evOp_insert, evOp_range, evOp_makeMap, evOp_len, evOp_append, evOp_copy, evOp_delete, evOp_slice, aeval, ofVal, PT.get_set, Nat.reduceEqDiff, reduceIte, lenOfAV_slice, lenOfAV_nils, lenOfAV_empty, afield, apart, aindex, aconv, cellAt, cellsAt, mapLenAt, List.map_cons, List.map_nil, Option.map_some, Option.map_none, List.nil_append, List.append_nil, abin_add, abin_sub, abin_mul, abin_lss, abin_leq, abin_gtr, abin_geq, abin_eql, abin_neq, cond_true, cond_false, decide_true, decide_false, Bool.not_true, Bool.not_false, TI.agg, List.getElem?_cons_zero, List.getElem?_cons_succ, Nat.add_zero, Nat.zero_add, Nat.zero_mul, nbeq, nble, nblt, Nat.reduceLeDiff, Nat.reduceLT, Nat.reduceMul, Nat.reduceAdd, Nat.reduceSub, Bool.and_true, Bool.true_and, Bool.and_false, Bool.false_and, eq_self, Int.ofNat_eq_natCast, Int.cast_ofNat_Int, Int.natCast_zero, Int.reduceEq, Int.reduceLT, Int.reduceLE, Int.reduceNeg, ld2, ld3, ld4, ld5, al9, ld9, al22, ix22, bs22, ld22, al23, ix23, bs23, ld23, ld27, al29, ix29, bs29, ld29, fa31_0, fa31_1, ld31, fa33_0, fa33_1, fa33_2, ld33, al40, ix40, bs40, ld40, ld44, al50, ix50, bs50, ld50, fa58_0, fa58_1, ld58, fa71_0, fa71_1, ld71, an74, am74, ld74, fa76_0, fa76_1, fa76_2, fa76_3, ld76, an77, am77, ld77, an78, am78, ld78, ld82, ld90, ld93, ld94, fa96_0, fa96_1, fa96_2, ld96, ld97, fa99_0, fa99_1, fa99_2, fa99_3, ld99, ld101, h0, h3, hd, h30, hn, hlt, hb, hs1, hs2]; rfl) ?_
          | fail "stop")
        refine fnPost_ret1 (by simp only [PT.get_set, Nat.reduceEqDiff, reduceIte] <;> rfl) ⟨rfl, _, rfl⟩
      · by_cases ht : (300 : Int) < (p.2.length : Int)
        · with_reducible repeat' (first
            | refine AW.seq ?_
            | refine AW.region ?_
            | refine AW.block ?_
            | refine AW.scope ?_
            | refine AOs.nil ?_
            | refine AW.skip ?_
            | refine AW.exit ?_
            | refine AW.ret ?_
            | refine AW.label ?_
            | refine andThen_normal ?_
            | refine andThen_exit ?_
            | refine andThen_ret ?_
            | refine inBlock_normal ?_
            | refine inBlock_hit ?_
            | refine inBlock_ret ?_
            | refine inBlock_miss (by with_unfolding_all rfl) ?_
            | refine AOs.guardN (by with_unfolding_all rfl) (by simp only [aeval, PT.get_set, Nat.reduceEqDiff, reduceIte, h0, h3, hd, h30, hn, ht, hlt, hb, hs1, hs2]; rfl) (by with_unfolding_all rfl) ?_
            | refine AOs.guardT (by with_unfolding_all rfl) (by simp only [aeval, PT.get_set, Nat.reduceEqDiff, reduceIte, h0, h3, hd, h30, hn, ht, hlt, hb, hs1, hs2]; rfl) (by first | rfl | decide | assumption) ?_
            | refine AOs.guardF (by with_unfolding_all rfl) (by simp only [aeval, PT.get_set, Nat.reduceEqDiff, reduceIte, h0, h3, hd, h30, hn, ht, hlt, hb, hs1, hs2]; rfl) (by first | rfl | decide | assumption) (by with_unfolding_all rfl) ?_
            | refine AOs.guardF0 (by with_unfolding_all rfl) (by simp only [aeval, PT.get_set, Nat.reduceEqDiff, reduceIte, h0, h3, hd, h30, hn, ht, hlt, hb, hs1, hs2]; rfl) (by first | rfl | decide | assumption) ?_
            | refine AW.condT (by simp only [aeval, PT.get_set, Nat.reduceEqDiff, reduceIte, h0, h3, hd, h30, hn, ht, hlt, hb, hs1, hs2]; rfl) (by first | rfl | decide | assumption) ?_
            | refine AW.condF (by simp only [aeval, PT.get_set, Nat.reduceEqDiff, reduceIte, h0, h3, hd, h30, hn, ht, hlt, hb, hs1, hs2]; rfl) (by first | rfl | decide | assumption) ?_
            | refine AOs.op1 tOK (by simp only [evOp_move, evOp_assign, evOp_pick, evOp_build, evOp_nilCheck, evOp_binOp, evOp_not, evOp_fieldAddr, evOp_field, evOp_indexAddr, evOp_index, evOp_extract, evOp_makeFunc, evOp_load, evOp_lookup, evOp_store, evOp_mapUpdate, evOp_insert, evOp_range, evOp_makeMap, evOp_len, evOp_append, evOp_copy, evOp_delete, evOp_slice, aeval, ofVal, PT.get_set, Nat.reduceEqDiff, reduceIte, lenOfAV_slice, lenOfAV_nils, lenOfAV_empty, afield, apart, aindex, aconv, cellAt, cellsAt, mapLenAt, List.map_cons, List.map_nil, Option.map_some, Option.map_none, List.nil_append, List.append_nil, abin_add, abin_sub, abin_mul, abin_lss, abin_leq, abin_gtr, abin_geq, abin_eql, abin_neq, cond_true, cond_false, decide_true, decide_false, Bool.not_true, Bool.not_false, TI.agg, List.getElem?_cons_zero, List.getElem?_cons_succ, Nat.add_zero, Nat.zero_add, Nat.zero_mul, nbeq, nble, nblt, Nat.reduceLeDiff, Nat.reduceLT, Nat.reduceMul, Nat.reduceAdd, Nat.reduceSub, Bool.and_true, Bool.true_and, Bool.and_false, Bool.false_and, eq_self, Int.ofNat_eq_natCast, Int.cast_ofNat_Int, Int.natCast_zero, Int.reduceEq, Int.reduceLT, Int.reduceLE, Int.reduceNeg, ld2, ld3, ld4, ld5, al9, ld9, al22, ix22, bs22, ld22, al23, ix23, bs23, ld23, ld27, al29, ix29, bs29, ld29, fa31_0, fa31_1, ld31, fa33_0, fa33_1, fa33_2, ld33, al40, ix40, bs40, ld40, ld44, al50, ix50, bs50, ld50, fa58_0, fa58_1, ld58, fa71_0, fa71_1, ld71, an74, am74, ld74, fa76_0, fa76_1, fa76_2, fa76_3, ld76, an77, am77, ld77, an78, am78, ld78, ld82, ld90, ld93, ld94, fa96_0, fa96_1, fa96_2, ld96, ld97, fa99_0, fa99_1, fa99_2, fa99_3, ld99, ld101, h0, h3, hd, h30, hn, ht, hlt, hb, hs1, hs2]; rfl) (by with_unfolding_all rfl) ?_
            | refine AOs.op0 tOK (by simp only [evOp_move, evOp_assign, evOp_pick, evOp_build, evOp_nilCheck, evOp_binOp, evOp_not, evOp_fieldAddr, evOp_field, evOp_indexAddr, evOp_index, evOp_extract, evOp_makeFunc, evOp_load, evOp_lookup, evOp_store, evOp_mapUpdate, evOp_insert, evOp_range, evOp_makeMap, evOp_len, evOp_append, evOp_copy, evOp_delete, evOp_slice, aeval, ofVal, PT.get_set, Nat.reduceEqDiff, reduceIte, lenOfAV_slice, lenOfAV_nils, lenOfAV_empty, afield, apart, aindex, aconv, cellAt, cellsAt, mapLenAt, List.map_cons, List.map_nil, Option.map_some, Option.map_none, List.nil_append, List.append_nil, abin_add, abin_sub, abin_mul, abin_lss, abin_leq, abin_gtr, abin_geq, abin_eql, abin_neq, cond_true, cond_false, decide_true, decide_false, Bool.not_true, Bool.not_false, TI.agg, List.getElem?_cons_zero, List.getElem?_cons_succ, Nat.add_zero, Nat.zero_add, Nat.zero_mul, nbeq, nble, nblt, Nat.reduceLeDiff, Nat.reduceLT, Nat.reduceMul, Nat.reduceAdd, Nat.reduceSub, Bool.and_true, Bool.true_and, Bool.and_false, Bool.false_and, eq_self, Int.ofNat_eq_natCast, Int.cast_ofNat_Int, Int.natCast_zero, Int.reduceEq, Int.reduceLT, Int.reduceLE, Int.reduceNeg, ld2, ld3, ld4, ld5, al9, ld9, al22, ix22, bs22, ld22, al23, ix23, bs23, ld23, ld27, al29, ix29, bs29, ld29, fa31_0, fa31_1, ld31, fa33_0, fa33_1, fa33_2, ld33, al40, ix40, bs40, ld40, ld44, al50, ix50, bs50, ld50, fa58_0, fa58_1, ld58, fa71_0, fa71_1, ld71, an74, am74, ld74, fa76_0, fa76_1, fa76_2, fa76_3, ld76, an77, am77, ld77, an78, am78, ld78, ld82, ld90, ld93, ld94, fa96_0, fa96_1, fa96_2, ld96, ld97, fa99_0, fa99_1, fa99_2, fa99_3, ld99, ld101, h0, h3, hd, h30, hn, ht, hlt, hb, hs1, hs2]; rfl) ?_
            | fail "stop")
          refine fnPost_ret1 (by simp only [PT.get_set, Nat.reduceEqDiff, reduceIte] <;> rfl) ⟨rfl, _, rfl⟩
        · with_reducible repeat' (first
            | refine AW.seq ?_
            | refine AW.region ?_
            | refine AW.block ?_
            | refine AW.scope ?_
            | refine AOs.nil ?_
            | refine AW.skip ?_
            | refine AW.exit ?_
            | refine AW.ret ?_
            | refine AW.label ?_
            | refine andThen_normal ?_
            | refine andThen_exit ?_
            | refine andThen_ret ?_
            | refine inBlock_normal ?_
            | refine inBlock_hit ?_
            | refine inBlock_ret ?_
            | refine inBlock_miss (by with_unfolding_all rfl) ?_
            | refine AOs.guardN (by with_unfolding_all rfl) (by simp only [aeval, PT.get_set, Nat.reduceEqDiff, reduceIte, h0, h3, hd, h30, hn, ht, hlt, hb, hs1, hs2]; rfl) (by with_unfolding_all rfl) ?_
            | refine AOs.guardT (by with_unfolding_all rfl) (by simp only [aeval, PT.get_set, Nat.reduceEqDiff, reduceIte, h0, h3, hd, h30, hn, ht, hlt, hb, hs1, hs2]; rfl) (by first | rfl | decide | assumption) ?_
            | refine AOs.guardF (by with_unfolding_all rfl) (by simp only [aeval, PT.get_set, Nat.reduceEqDiff, reduceIte, h0, h3, hd, h30, hn, ht, hlt, hb, hs1, hs2]; rfl) (by first | rfl | decide | assumption) (by with_unfolding_all rfl) ?_
            | refine AOs.guardF0 (by with_unfolding_all rfl) (by simp only [aeval, PT.get_set, Nat.reduceEqDiff, reduceIte, h0, h3, hd, h30, hn, ht, hlt, hb, hs1, hs2]; rfl) (by first | rfl | decide | assumption) ?_
            | refine AW.condT (by simp only [aeval, PT.get_set, Nat.reduceEqDiff, reduceIte, h0, h3, hd, h30, hn, ht, hlt, hb, hs1, hs2]; rfl) (by first | rfl | decide | assumption) ?_
            | refine AW.condF (by simp only [aeval, PT.get_set, Nat.reduceEqDiff, reduceIte, h0, h3, hd, h30, hn, ht, hlt, hb, hs1, hs2]; rfl) (by first | rfl | decide | assumption) ?_
            | refine AOs.op1 tOK (by simp only [evOp_move, evOp_assign, evOp_pick, evOp_build, evOp_nilCheck, evOp_binOp, evOp_not, evOp_fieldAddr, evOp_field, evOp_indexAddr, evOp_index, evOp_extract, evOp_makeFunc, evOp_load, evOp_lookup, evOp_store, evOp_mapUpdate, evOp_insert, evOp_range, evOp_makeMap, evOp_len, evOp_append, evOp_copy, evOp_delete, evOp_slice, aeval, ofVal, PT.get_set, Nat.reduceEqDiff, reduceIte, lenOfAV_slice, lenOfAV_nils, lenOfAV_empty, afield, apart, aindex, aconv, cellAt, cellsAt, mapLenAt, List.map_cons, List.map_nil, Option.map_some, Option.map_none, List.nil_append, List.append_nil, abin_add, abin_sub, abin_mul, abin_lss, abin_leq, abin_gtr, abin_geq, abin_eql, abin_neq, cond_true, cond_false, decide_true, decide_false, Bool.not_true, Bool.not_false, TI.agg, List.getElem?_cons_zero, List.getElem?_cons_succ, Nat.add_zero, Nat.zero_add, Nat.zero_mul, nbeq, nble, nblt, Nat.reduceLeDiff, Nat.reduceLT, Nat.reduceMul, Nat.reduceAdd, Nat.reduceSub, Bool.and_true, Bool.true_and, Bool.and_false, Bool.false_and, eq_self, Int.ofNat_eq_natCast, Int.cast_ofNat_Int, Int.natCast_zero, Int.reduceEq, Int.reduceLT, Int.reduceLE, Int.reduceNeg, ld2, ld3, ld4, ld5, al9, ld9, al22, ix22, bs22, ld22, al23, ix23, bs23, ld23, ld27, al29, ix29, bs29, ld29, fa31_0, fa31_1, ld31, fa33_0, fa33_1, fa33_2, ld33, al40, ix40, bs40, ld40, ld44, al50, ix50, bs50, ld50, fa58_0, fa58_1, ld58, fa71_0, fa71_1, ld71, an74, am74, ld74, fa76_0, fa76_1, fa76_2, fa76_3, ld76, an77, am77, ld77, an78, am78, ld78, ld82, ld90, ld93, ld94, fa96_0, fa96_1, fa96_2, ld96, ld97, fa99_0, fa99_1, fa99_2, fa99_3, ld99, ld101, h0, h3, hd, h30, hn, ht, hlt, hb, hs1, hs2]; rfl) (by with_unfolding_all rfl) ?_
            | refine AOs.op0 tOK (by simp only [evOp_move, evOp_assign, evOp_pick, evOp_build, evOp_nilCheck, evOp_binOp, evOp_not, evOp_fieldAddr, evOp_field, evOp_indexAddr, evOp_index, evOp_extract, evOp_makeFunc, evOp_load, evOp_lookup, evOp_store, evOp_mapUpdate, evOp_insert, evOp_range, evOp_makeMap, evOp_len, evOp_append, evOp_copy, evOp_delete, evOp_slice, aeval, ofVal, PT.get_set, Nat.reduceEqDiff, reduceIte, lenOfAV_slice, lenOfAV_nils, lenOfAV_empty, afield, apart, aindex, aconv, cellAt, cellsAt, mapLenAt, List.map_cons, List.map_nil, Option.map_some, Option.map_none, List.nil_append, List.append_nil, abin_add, abin_sub, abin_mul, abin_lss, abin_leq, abin_gtr, abin_geq, abin_eql, abin_neq, cond_true, cond_false, decide_true, decide_false, Bool.not_true, Bool.not_false, TI.agg, List.getElem?_cons_zero, List.getElem?_cons_succ, Nat.add_zero, Nat.zero_add, Nat.zero_mul, nbeq, nble, nblt, Nat.reduceLeDiff, Nat.reduceLT, Nat.reduceMul, Nat.reduceAdd, Nat.reduceSub, Bool.and_true, Bool.true_and, Bool.and_false, Bool.false_and, eq_self, Int.ofNat_eq_natCast, Int.cast_ofNat_Int, Int.natCast_zero, Int.reduceEq, Int.reduceLT, Int.reduceLE, Int.reduceNeg, ld2, ld3, ld4, ld5, al9, ld9, al22, ix22, bs22, ld22, al23, ix23, bs23, ld23, ld27, al29, ix29, bs29, ld29, fa31_0, fa31_1, ld31, fa33_0, fa33_1, fa33_2, ld33, al40, ix40, bs40, ld40, ld44, al50, ix50, bs50, ld50, fa58_0, fa58_1, ld58, fa71_0, fa71_1, ld71, an74, am74, ld74, fa76_0, fa76_1, fa76_2, fa76_3, ld76, an77, am77, ld77, an78, am78, ld78, ld82, ld90, ld93, ld94, fa96_0, fa96_1, fa96_2, ld96, ld97, fa99_0, fa99_1, fa99_2, fa99_3, ld99, ld101, h0, h3, hd, h30, hn, ht, hlt, hb, hs1, hs2]; rfl) ?_
            | fail "stop")
          refine ⟨l.length - (i + 1), by omega, rfl, by simp only [PT.get_set, Nat.reduceEqDiff, reduceIte, h0], i + 1, by omega, rfl, by omega, ?_⟩
          simp only [PT.get_set, Nat.reduceEqDiff, reduceIte, wrap64_succ (show i < 9223372036854775807 by omega)]
    · with_reducible repeat' (first
        | refine AW.seq ?_
        | refine AW.region ?_
        | refine AW.block ?_
        | refine AW.scope ?_
        | refine AOs.nil ?_
        | refine AW.skip ?_
        | refine AW.exit ?_
        | refine AW.ret ?_
        | refine AW.label ?_
        | refine andThen_normal ?_
        | refine andThen_exit ?_
        | refine andThen_ret ?_
        | refine inBlock_normal ?_
        | refine inBlock_hit ?_
        | refine inBlock_ret ?_
        | refine inBlock_miss (by with_unfolding_all rfl) ?_
        | refine AOs.guardN (by with_unfolding_all rfl) (by simp only [aeval, PT.get_set, Nat.reduceEqDiff, reduceIte, h0, h3, hd, h30]; rfl) (by with_unfolding_all rfl) ?_
        | refine AOs.guardT (by with_unfolding_all rfl) (by simp only [aeval, PT.get_set, Nat.reduceEqDiff, reduceIte, h0, h3, hd, h30]; rfl) (by first | rfl | decide | assumption) ?_
        | refine AOs.guardF (by with_unfolding_all rfl) (by simp only [aeval, PT.get_set, Nat.reduceEqDiff, reduceIte, h0, h3, hd, h30]; rfl) (by first | rfl | decide | assumption) (by with_unfolding_all rfl) ?_
        | refine AOs.guardF0 (by with_unfolding_all rfl) (by simp only [aeval, PT.get_set, Nat.reduceEqDiff, reduceIte, h0, h3, hd, h30]; rfl) (by first | rfl | decide | assumption) ?_
        | refine AW.condT (by simp only [aeval, PT.get_set, Nat.reduceEqDiff, reduceIte, h0, h3, hd, h30]; rfl) (by first | rfl | decide | assumption) ?_
        | refine AW.condF (by simp only [aeval, PT.get_set, Nat.reduceEqDiff, reduceIte, h0, h3, hd, h30]; rfl) (by first | rfl | decide | assumption) ?_
        | refine AOs.op1 tOK (by simp only [evOp_move, evOp_assign, evOp_pick, evOp_build, evOp_nilCheck, evOp_binOp, evOp_not, evOp_fieldAddr, evOp_field, evOp_indexAddr, evOp_index, evOp_extract, evOp_makeFunc, evOp_load, evOp_lookup, evOp_store, evOp_mapUpdate, evOp_insert, evOp_range, evOp_makeMap, evOp_len, evOp_append, evOp_copy, evOp_delete, evOp_slice, aeval, ofVal, PT.get_set, Nat.reduceEqDiff, reduceIte, lenOfAV_slice, lenOfAV_nils, lenOfAV_empty, afield, apart, aindex, aconv, cellAt, cellsAt, mapLenAt, List.map_cons, List.map_nil, Option.map_some, Option.map_none, List.nil_append, List.append_nil, abin_add, abin_sub, abin_mul, abin_lss, abin_leq, abin_gtr, abin_geq, abin_eql, abin_neq, cond_true, cond_false, decide_true, decide_false, Bool.not_true, Bool.not_false, TI.agg, List.getElem?_cons_zero, List.getElem?_cons_succ, Nat.add_zero, Nat.zero_add, Nat.zero_mul, nbeq, nble, nblt, Nat.reduceLeDiff, Nat.reduceLT, Nat.reduceMul, Nat.reduceAdd, Nat.reduceSub, Bool.and_true, Bool.true_and, Bool.and_false, Bool.false_and, eq_self, Int.ofNat_eq_natCast, Int.cast_ofNat_Int, Int.natCast_zero, Int.reduceEq, Int.reduceLT, Int.reduceLE, Int.reduceNeg, ld2, ld3, ld4, ld5, al9, ld9, al22, ix22, bs22, ld22, al23, ix23, bs23, ld23, ld27, al29, ix29, bs29, ld29, fa31_0, fa31_1, ld31, fa33_0, fa33_1, fa33_2, ld33, al40, ix40, bs40, ld40, ld44, al50, ix50, bs50, ld50, fa58_0, fa58_1, ld58, fa71_0, fa71_1, ld71, an74, am74, ld74, fa76_0, fa76_1, fa76_2, fa76_3, ld76, an77, am77, ld77, an78, am78, ld78, ld82, ld90, ld93, ld94, fa96_0, fa96_1, fa96_2, ld96, ld97, fa99_0, fa99_1, fa99_2, fa99_3, ld99, ld101, h0, h3, hd, h30]; rfl) (by with_unfolding_all rfl) ?_
        | refine AOs.op0 tOK (by simp only [evOp_move, evOp_assign, evOp_pick, evOp_build, evOp_nilCheck, evOp_binOp, evOp_not, evOp_fieldAddr, evOp_field, evOp_indexAddr, evOp_index, evOp_extract, evOp_makeFunc, evOp_load, evOp_lookup, evOp_store, evOp_mapUpdate, evOp_insert, evOp_range, evOp_makeMap, evOp_len, evOp_append, evOp_copy, evOp_delete, evOp_slice, aeval, ofVal, PT.get_set, Nat.reduceEqDiff, reduceIte, lenOfAV_slice, lenOfAV_nils, lenOfAV_empty, afield, apart, aindex, aconv, cellAt, cellsAt, mapLenAt, List.map_cons, List.map_nil, Option.map_some, Option.map_none, List.nil_append, List.append_nil, abin_add, abin_sub, abin_mul, abin_lss, abin_leq, abin_gtr, abin_geq, abin_eql, abin_neq, cond_true, cond_false, decide_true, decide_false, Bool.not_true, Bool.not_false, TI.agg, List.getElem?_cons_zero, List.getElem?_cons_succ, Nat.add_zero, Nat.zero_add, Nat.zero_mul, nbeq, nble, nblt, Nat.reduceLeDiff, Nat.reduceLT, Nat.reduceMul, Nat.reduceAdd, Nat.reduceSub, Bool.and_true, Bool.true_and, Bool.and_false, Bool.false_and, eq_self, Int.ofNat_eq_natCast, Int.cast_ofNat_Int, Int.natCast_zero, Int.reduceEq, Int.reduceLT, Int.reduceLE, Int.reduceNeg, ld2, ld3, ld4, ld5, al9, ld9, al22, ix22, bs22, ld22, al23, ix23, bs23, ld23, ld27, al29, ix29, bs29, ld29, fa31_0, fa31_1, ld31, fa33_0, fa33_1, fa33_2, ld33, al40, ix40, bs40, ld40, ld44, al50, ix50, bs50, ld50, fa58_0, fa58_1, ld58, fa71_0, fa71_1, ld71, an74, am74, ld74, fa76_0, fa76_1, fa76_2, fa76_3, ld76, an77, am77, ld77, an78, am78, ld78, ld82, ld90, ld93, ld94, fa96_0, fa96_1, fa96_2, ld96, ld97, fa99_0, fa99_1, fa99_2, fa99_3, ld99, ld101, h0, h3, hd, h30]; rfl) ?_
        | fail "stop")
      refine fnPost_ret1 (by simp only [PT.get_set, Nat.reduceEqDiff, reduceIte] <;> rfl) ⟨rfl, _, rfl⟩
  · have hd := nlt_int hlt
    with_reducible repeat' (first
      | refine AW.seq ?_
      | refine AW.region ?_
      | refine AW.block ?_
      | refine AW.scope ?_
      | refine AOs.nil ?_
      | refine AW.skip ?_
      | refine AW.exit ?_
      | refine AW.ret ?_
      | refine AW.label ?_
      | refine andThen_normal ?_
      | refine andThen_exit ?_
      | refine andThen_ret ?_
      | refine inBlock_normal ?_
      | refine inBlock_hit ?_
      | refine inBlock_ret ?_
      | refine inBlock_miss (by with_unfolding_all rfl) ?_
      | refine AOs.guardN (by with_unfolding_all rfl) (by simp only [aeval, PT.get_set, Nat.reduceEqDiff, reduceIte, h0, h3, hd, hlen]; rfl) (by with_unfolding_all rfl) ?_
      | refine AOs.guardT (by with_unfolding_all rfl) (by simp only [aeval, PT.get_set, Nat.reduceEqDiff, reduceIte, h0, h3, hd, hlen]; rfl) (by first | rfl | decide | assumption) ?_
      | refine AOs.guardF (by with_unfolding_all rfl) (by simp only [aeval, PT.get_set, Nat.reduceEqDiff, reduceIte, h0, h3, hd, hlen]; rfl) (by first | rfl | decide | assumption) (by with_unfolding_all rfl) ?_
      | refine AOs.guardF0 (by with_unfolding_all rfl) (by simp only [aeval, PT.get_set, Nat.reduceEqDiff, reduceIte, h0, h3, hd, hlen]; rfl) (by first | rfl | decide | assumption) ?_
      | refine AW.condT (by simp only [aeval, PT.get_set, Nat.reduceEqDiff, reduceIte, h0, h3, hd, hlen]; rfl) (by first | rfl | decide | assumption) ?_
      | refine AW.condF (by simp only [aeval, PT.get_set, Nat.reduceEqDiff, reduceIte, h0, h3, hd, hlen]; rfl) (by first | rfl | decide | assumption) ?_
      | refine AOs.op1 tOK (by simp only [evOp_move, evOp_assign, evOp_pick, evOp_build, evOp_nilCheck, evOp_binOp, evOp_not, evOp_fieldAddr, evOp_field, evOp_indexAddr, evOp_index, evOp_extract, evOp_makeFunc, evOp_load, evOp_lookup, evOp_store, evOp_mapUpdate, evOp_insert, evOp_range, evOp_makeMap, evOp_len, evOp_append, evOp_copy, evOp_delete, evOp_slice, aeval, ofVal, PT.get_set, Nat.reduceEqDiff, reduceIte, lenOfAV_slice, lenOfAV_nils, lenOfAV_empty, afield, apart, aindex, aconv, cellAt, cellsAt, mapLenAt, List.map_cons, List.map_nil, Option.map_some, Option.map_none, List.nil_append, List.append_nil, abin_add, abin_sub, abin_mul, abin_lss, abin_leq, abin_gtr, abin_geq, abin_eql, abin_neq, cond_true, cond_false, decide_true, decide_false, Bool.not_true, Bool.not_false, TI.agg, List.getElem?_cons_zero, List.getElem?_cons_succ, Nat.add_zero, Nat.zero_add, Nat.zero_mul, nbeq, nble, nblt, Nat.reduceLeDiff, Nat.reduceLT, Nat.reduceMul, Nat.reduceAdd, Nat.reduceSub, Bool.and_true, Bool.true_and, Bool.and_false, Bool.false_and, eq_self, Int.ofNat_eq_natCast, Int.cast_ofNat_Int, Int.natCast_zero, Int.reduceEq, Int.reduceLT, Int.reduceLE, Int.reduceNeg, ld2, ld3, ld4, ld5, al9, ld9, al22, ix22, bs22, ld22, al23, ix23, bs23, ld23, ld27, al29, ix29, bs29, ld29, fa31_0, fa31_1, ld31, fa33_0, fa33_1, fa33_2, ld33, al40, ix40, bs40, ld40, ld44, al50, ix50, bs50, ld50, fa58_0, fa58_1, ld58, fa71_0, fa71_1, ld71, an74, am74, ld74, fa76_0, fa76_1, fa76_2, fa76_3, ld76, an77, am77, ld77, an78, am78, ld78, ld82, ld90, ld93, ld94, fa96_0, fa96_1, fa96_2, ld96, ld97, fa99_0, fa99_1, fa99_2, fa99_3, ld99, ld101, h0, h3, hd, hlen]; rfl) (by with_unfolding_all rfl) ?_
      | refine AOs.op0 tOK (by simp only [evOp_move, evOp_assign, evOp_pick, evOp_build, evOp_nilCheck, evOp_binOp, evOp_not, evOp_fieldAddr, evOp_field, evOp_indexAddr, evOp_index, evOp_extract, evOp_makeFunc, evOp_load, evOp_lookup, evOp_store, evOp_mapUpdate, evOp_insert, evOp_range, evOp_makeMap, evOp_len, evOp_append, evOp_copy, evOp_delete, evOp_slice, aeval, ofVal, PT.get_set, Nat.reduceEqDiff, reduceIte, lenOfAV_slice, lenOfAV_nils, lenOfAV_empty, afield, apart, aindex, aconv, cellAt, cellsAt, mapLenAt, List.map_cons, List.map_nil, Option.map_some, Option.map_none, List.nil_append, List.append_nil, abin_add, abin_sub, abin_mul, abin_lss, abin_leq, abin_gtr, abin_geq, abin_eql, abin_neq, cond_true, cond_false, decide_true, decide_false, Bool.not_true, Bool.not_false, TI.agg, List.getElem?_cons_zero, List.getElem?_cons_succ, Nat.add_zero, Nat.zero_add, Nat.zero_mul, nbeq, nble, nblt, Nat.reduceLeDiff, Nat.reduceLT, Nat.reduceMul, Nat.reduceAdd, Nat.reduceSub, Bool.and_true, Bool.true_and, Bool.and_false, Bool.false_and, eq_self, Int.ofNat_eq_natCast, Int.cast_ofNat_Int, Int.natCast_zero, Int.reduceEq, Int.reduceLT, Int.reduceLE, Int.reduceNeg, ld2, ld3, ld4, ld5, al9, ld9, al22, ix22, bs22, ld22, al23, ix23, bs23, ld23, ld27, al29, ix29, bs29, ld29, fa31_0, fa31_1, ld31, fa33_0, fa33_1, fa33_2, ld33, al40, ix40, bs40, ld40, ld44, al50, ix50, bs50, ld50, fa58_0, fa58_1, ld58, fa71_0, fa71_1, ld71, an74, am74, ld74, fa76_0, fa76_1, fa76_2, fa76_3, ld76, an77, am77, ld77, an78, am78, ld78, ld82, ld90, ld93, ld94, fa96_0, fa96_1, fa96_2, ld96, ld97, fa99_0, fa99_1, fa99_2, fa99_3, ld99, ld101, h0, h3, hd, hlen]; rfl) ?_
      | fail "stop")
    refine fnPost_ret1 (by simp only [PT.get_set, Nat.reduceEqDiff, reduceIte] <;> rfl) ⟨rfl, _, rfl⟩

/-- A row of changes: their labels. -/
def ChangesAt (H : AH) (v : AV) (n : Nat) : Prop :=
  ((v = .nils ∨ v = .empty 0) ∧ n = 0) ∨ ∃ b c vs, v = .slice b 0 n c 4 ∧ H.get b = some (.cells true vs) ∧ n * 4 ≤ vs.length ∧ allOne (vs.take (n * 4)) = true ∧ ∀ i, i < n → ∃ lv l, vs[i * 4]? = some lv ∧ LabelsAt H lv l

theorem ChangesAt.len {H : AH} {v : AV} {n : Nat} (h : ChangesAt H v n) : lenOfAV v = some n := by
  rcases h with ⟨rfl | rfl, rfl⟩ | ⟨b, c, vs, rfl, _⟩ <;> rfl

set_option maxHeartbeats 1000000 in
theorem light8 (N : Nat) (H : AH) (v : AV) (n : Nat) (hl : ChangesAt H v n) : AC tC N 0 8 [v, .int .i64 40] H fun r H' => H' = H ∧ ∃ x, r = .bool x ∧ (x = true → n ≤ 40) := by
  have hlen := hl.len
  refine AC.by (n := 28) (rs := [.tmp 4]) tOK fn8 rfl rfl rfl rfl ?_
  with_reducible repeat' (first
    | refine AW.seq ?_
    | refine AW.region ?_
    | refine AW.block ?_
    | refine AW.scope ?_
    | refine AOs.nil ?_
    | refine AW.skip ?_
    | refine AW.exit ?_
    | refine AW.ret ?_
    | refine AW.label ?_
    | refine andThen_normal ?_
    | refine andThen_exit ?_
    | refine andThen_ret ?_
    | refine inBlock_normal ?_
    | refine inBlock_hit ?_
    | refine inBlock_ret ?_
    | refine inBlock_miss (by with_unfolding_all rfl) ?_
    | refine AOs.guardN (by with_unfolding_all rfl) (by simp only [aeval, PT.get_set, Nat.reduceEqDiff, reduceIte, if_true]; rfl) (by with_unfolding_all rfl) ?_
    | refine AOs.guardT (by with_unfolding_all rfl) (by simp only [aeval, PT.get_set, Nat.reduceEqDiff, reduceIte, if_true]; rfl) (by first | rfl | decide | assumption) ?_
    | refine AOs.guardF (by with_unfolding_all rfl) (by simp only [aeval, PT.get_set, Nat.reduceEqDiff, reduceIte, if_true]; rfl) (by first | rfl | decide | assumption) (by with_unfolding_all rfl) ?_
    | refine AOs.guardF0 (by with_unfolding_all rfl) (by simp only [aeval, PT.get_set, Nat.reduceEqDiff, reduceIte, if_true]; rfl) (by first | rfl | decide | assumption) ?_
    | refine AW.condT (by simp only [aeval, PT.get_set, Nat.reduceEqDiff, reduceIte, if_true]; rfl) (by first | rfl | decide | assumption) ?_
    | refine AW.condF (by simp only [aeval, PT.get_set, Nat.reduceEqDiff, reduceIte, if_true]; rfl) (by first | rfl | decide | assumption) ?_
    | refine AOs.op1 tOK (by simp only [evOp_move, evOp_assign, evOp_pick, evOp_build, evOp_nilCheck, evOp_binOp, evOp_not, evOp_fieldAddr, evOp_field, evOp_indexAddr, evOp_index, evOp_extract, evOp_makeFunc, evOp_load, evOp_lookup, evOp_store, evOp_mapUpdate, evOp_insert, evOp_range, evOp_makeMap, evOp_len, evOp_append, evOp_copy, evOp_delete, evOp_slice, aeval, ofVal, PT.get_set, Nat.reduceEqDiff, reduceIte, lenOfAV_slice, lenOfAV_nils, lenOfAV_empty, afield, apart, aindex, aconv, cellAt, cellsAt, mapLenAt, List.map_cons, List.map_nil, Option.map_some, Option.map_none, List.nil_append, List.append_nil, abin_add, abin_sub, abin_mul, abin_lss, abin_leq, abin_gtr, abin_geq, abin_eql, abin_neq, cond_true, cond_false, decide_true, decide_false, Bool.not_true, Bool.not_false, TI.agg, List.getElem?_cons_zero, List.getElem?_cons_succ, Nat.add_zero, Nat.zero_add, Nat.zero_mul, nbeq, nble, nblt, Nat.reduceLeDiff, Nat.reduceLT, Nat.reduceMul, Nat.reduceAdd, Nat.reduceSub, Bool.and_true, Bool.true_and, Bool.and_false, Bool.false_and, eq_self, Int.ofNat_eq_natCast, Int.cast_ofNat_Int, Int.natCast_zero, Int.reduceEq, Int.reduceLT, Int.reduceLE, Int.reduceNeg, ld2, ld3, ld4, ld5, al9, ld9, al22, ix22, bs22, ld22, al23, ix23, bs23, ld23, ld27, al29, ix29, bs29, ld29, fa31_0, fa31_1, ld31, fa33_0, fa33_1, fa33_2, ld33, al40, ix40, bs40, ld40, ld44, al50, ix50, bs50, ld50, fa58_0, fa58_1, ld58, fa71_0, fa71_1, ld71, an74, am74, ld74, fa76_0, fa76_1, fa76_2, fa76_3, ld76, an77, am77, ld77, an78, am78, ld78, ld82, ld90, ld93, ld94, fa96_0, fa96_1, fa96_2, ld96, ld97, fa99_0, fa99_1, fa99_2, fa99_3, ld99, ld101, if_true]; rfl) (by with_unfolding_all rfl) ?_
    | refine AOs.op0 tOK (by simp only [evOp_move, evOp_assign, evOp_pick, evOp_build, evOp_nilCheck, evOp_binOp, evOp_not, evOp_fieldAddr, evOp_field, evOp_indexAddr, evOp_index, evOp_extract, evOp_makeFunc, evOp_load, evOp_lookup, evOp_store, evOp_mapUpdate, evOp_insert, evOp_range, evOp_makeMap, evOp_len, evOp_append, evOp_copy, evOp_delete, evOp_slice, aeval, ofVal, PT.get_set, Nat.reduceEqDiff, reduceIte, lenOfAV_slice, lenOfAV_nils, lenOfAV_empty, afield, apart, aindex, aconv, cellAt, cellsAt, mapLenAt, List.map_cons, List.map_nil, Option.map_some, Option.map_none, List.nil_append, List.append_nil, abin_add, abin_sub, abin_mul, abin_lss, abin_leq, abin_gtr, abin_geq, abin_eql, abin_neq, cond_true, cond_false, decide_true, decide_false, Bool.not_true, Bool.not_false, TI.agg, List.getElem?_cons_zero, List.getElem?_cons_succ, Nat.add_zero, Nat.zero_add, Nat.zero_mul, nbeq, nble, nblt, Nat.reduceLeDiff, Nat.reduceLT, Nat.reduceMul, Nat.reduceAdd, Nat.reduceSub, Bool.and_true, Bool.true_and, Bool.and_false, Bool.false_and, eq_self, Int.ofNat_eq_natCast, Int.cast_ofNat_Int, Int.natCast_zero, Int.reduceEq, Int.reduceLT, Int.reduceLE, Int.reduceNeg, ld2, ld3, ld4, ld5, al9, ld9, al22, ix22, bs22, ld22, al23, ix23, bs23, ld23, ld27, al29, ix29, bs29, ld29, fa31_0, fa31_1, ld31, fa33_0, fa33_1, fa33_2, ld33, al40, ix40, bs40, ld40, ld44, al50, ix50, bs50, ld50, fa58_0, fa58_1, ld58, fa71_0, fa71_1, ld71, an74, am74, ld74, fa76_0, fa76_1, fa76_2, fa76_3, ld76, an77, am77, ld77, an78, am78, ld78, ld82, ld90, ld93, ld94, fa96_0, fa96_1, fa96_2, ld96, ld97, fa99_0, fa99_1, fa99_2, fa99_3, ld99, ld101, if_true]; rfl) ?_
    | fail "stop")
  refine AW.loop (fun m T K => K = H ∧ T.get 0 = some v ∧ T.get 1 = some (.int .i64 40) ∧ ∃ i : Nat, i ≤ n ∧ m = n - i ∧ i ≤ 41 ∧ T.get 5 = some (.int .i64 i)) ?_ (n - 0) ⟨rfl, by simp [PT.get_set, PT.ofList, PT.get], by simp [PT.get_set, PT.ofList, PT.get], 0, by omega, rfl, by omega, by simp [PT.get_set]⟩
  rintro m T K ⟨rfl, h0, h1, i, hi, rfl, hi41, h5⟩
  by_cases hlt : i < n
  · have hd := lt_int hlt
    by_cases h40 : (i : Int) ≤ 40
    · rcases hl with ⟨_, rfl⟩ | ⟨b, c, vs, rfl, hb, hle, hone, hat⟩
      · omega
      · obtain ⟨lv, l, hlv, hll⟩ := hat i hlt
        with_reducible repeat' (first
          | refine AW.seq ?_
          | refine AW.region ?_
          | refine AW.block ?_
          | refine AW.scope ?_
          | refine AOs.nil ?_
          | refine AW.skip ?_
          | refine AW.exit ?_
          | refine AW.ret ?_
          | refine AW.label ?_
          | refine andThen_normal ?_
          | refine andThen_exit ?_
          | refine andThen_ret ?_
          | refine inBlock_normal ?_
          | refine inBlock_hit ?_
          | refine inBlock_ret ?_
          | refine inBlock_miss (by with_unfolding_all rfl) ?_
          | refine AOs.guardN (by with_unfolding_all rfl) (by simp only [aeval, PT.get_set, Nat.reduceEqDiff, reduceIte, h0, h1, h5, hd, h40, hlt, hb, hlv]; rfl) (by with_unfolding_all rfl) ?_
          | refine AOs.guardT (by with_unfolding_all rfl) (by simp only [aeval, PT.get_set, Nat.reduceEqDiff, reduceIte, h0, h1, h5, hd, h40, hlt, hb, hlv]; rfl) (by first | rfl | decide | assumption) ?_
          | refine AOs.guardF (by with_unfolding_all rfl) (by simp only [aeval, PT.get_set, Nat.reduceEqDiff, reduceIte, h0, h1, h5, hd, h40, hlt, hb, hlv]; rfl) (by first | rfl | decide | assumption) (by with_unfolding_all rfl) ?_
          | refine AOs.guardF0 (by with_unfolding_all rfl) (by simp only [aeval, PT.get_set, Nat.reduceEqDiff, reduceIte, h0, h1, h5, hd, h40, hlt, hb, hlv]; rfl) (by first | rfl | decide | assumption) ?_
          | refine AW.condT (by simp only [aeval, PT.get_set, Nat.reduceEqDiff, reduceIte, h0, h1, h5, hd, h40, hlt, hb, hlv]; rfl) (by first | rfl | decide | assumption) ?_
          | refine AW.condF (by simp only [aeval, PT.get_set, Nat.reduceEqDiff, reduceIte, h0, h1, h5, hd, h40, hlt, hb, hlv]; rfl) (by first | rfl | decide | assumption) ?_
          | refine AOs.op1 tOK (by simp only [evOp_move, evOp_assign, evOp_pick, evOp_build, evOp_nilCheck, evOp_binOp, evOp_not, evOp_fieldAddr, evOp_field, evOp_indexAddr, evOp_index, evOp_extract, evOp_makeFunc, evOp_load, evOp_lookup, evOp_store, evOp_mapUpdate, evOp_insert, evOp_range, evOp_makeMap, evOp_len, evOp_append, evOp_copy, evOp_delete, evOp_slice, aeval, ofVal, PT.get_set, Nat.reduceEqDiff, reduceIte, lenOfAV_slice, lenOfAV_nils, lenOfAV_empty, afield, apart, aindex, aconv, cellAt, cellsAt, mapLenAt, List.map_cons, List.map_nil, Option.map_some, Option.map_none, List.nil_append, List.append_nil, abin_add, abin_sub, abin_mul, abin_lss, abin_leq, abin_gtr, abin_geq, abin_eql, abin_neq, cond_true, cond_false, decide_true, decide_false, Bool.not_true, Bool.not_false, TI.agg, List.getElem?_cons_zero, List.getElem?_cons_succ, Nat.add_zero, Nat.zero_add, Nat.zero_mul, nbeq, nble, nblt, Nat.reduceLeDiff, Nat.reduceLT, Nat.reduceMul, Nat.reduceAdd, Nat.reduceSub, Bool.and_true, Bool.true_and, Bool.and_false, Bool.false_and, eq_self, Int.ofNat_eq_natCast, Int.cast_ofNat_Int, Int.natCast_zero, Int.reduceEq, Int.reduceLT, Int.reduceLE, Int.reduceNeg, ld2, ld3, ld4, ld5, al9, ld9, al22, ix22, bs22, ld22, al23, ix23, bs23, ld23, ld27, al29, ix29, bs29, ld29, fa31_0, fa31_1, ld31, fa33_0, fa33_1, fa33_2, ld33, al40, ix40, bs40, ld40, ld44, al50, ix50, bs50, ld50, fa58_0, fa58_1, ld58, fa71_0, fa71_1, ld71, an74, am74, ld74, fa76_0, fa76_1, fa76_2, fa76_3, ld76, an77, am77, ld77, an78, am78, ld78, ld82, ld90, ld93, ld94, fa96_0, fa96_1, fa96_2, ld96, ld97, fa99_0, fa99_1, fa99_2, fa99_3, ld99, ld101, h0, h1, h5, hd, h40, hlt, hb, hlv]; rfl) (by with_unfolding_all rfl) ?_
          | refine AOs.op0 tOK (by simp only [evOp_move, evOp_assign, evOp_pick, evOp_build, evOp_nilCheck, evOp_binOp, evOp_not, evOp_fieldAddr, evOp_field, evOp_indexAddr, evOp_index, evOp_extract, evOp_makeFunc, evOp_load, evOp_lookup, evOp_store, evOp_mapUpdate, evOp_insert, evOp_range, evOp_makeMap, evOp_len, evOp_append, evOp_copy, evOp_delete, evOp_slice, aeval, ofVal, PT.get_set, Nat.reduceEqDiff, reduceIte, lenOfAV_slice, lenOfAV_nils, lenOfAV_empty, afield, apart, aindex, aconv, cellAt, cellsAt, mapLenAt, List.map_cons, List.map_nil, Option.map_some, Option.map_none, List.nil_append, List.append_nil, abin_add, abin_sub, abin_mul, abin_lss, abin_leq, abin_gtr, abin_geq, abin_eql, abin_neq, cond_true, cond_false, decide_true, decide_false, Bool.not_true, Bool.not_false, TI.agg, List.getElem?_cons_zero, List.getElem?_cons_succ, Nat.add_zero, Nat.zero_add, Nat.zero_mul, nbeq, nble, nblt, Nat.reduceLeDiff, Nat.reduceLT, Nat.reduceMul, Nat.reduceAdd, Nat.reduceSub, Bool.and_true, Bool.true_and, Bool.and_false, Bool.false_and, eq_self, Int.ofNat_eq_natCast, Int.cast_ofNat_Int, Int.natCast_zero, Int.reduceEq, Int.reduceLT, Int.reduceLE, Int.reduceNeg, ld2, ld3, ld4, ld5, al9, ld9, al22, ix22, bs22, ld22, al23, ix23, bs23, ld23, ld27, al29, ix29, bs29, ld29, fa31_0, fa31_1, ld31, fa33_0, fa33_1, fa33_2, ld33, al40, ix40, bs40, ld40, ld44, al50, ix50, bs50, ld50, fa58_0, fa58_1, ld58, fa71_0, fa71_1, ld71, an74, am74, ld74, fa76_0, fa76_1, fa76_2, fa76_3, ld76, an77, am77, ld77, an78, am78, ld78, ld82, ld90, ld93, ld94, fa96_0, fa96_1, fa96_2, ld96, ld97, fa99_0, fa99_1, fa99_2, fa99_3, ld99, ld101, h0, h1, h5, hd, h40, hlt, hb, hlv]; rfl) ?_
          | fail "stop")
        refine AOs.callQ tOK (fs := []) (cs := []) rfl fn28 (by kernel_rfl) rfl (by simp only [List.map_cons, List.map_nil, List.nil_append, List.append_nil, List.cons_append, aeval, ofVal, PT.get_set, Nat.reduceEqDiff, reduceIte] <;> rfl) (light28 N K lv l hll) ?_
        rintro r K1 ⟨rfl, x, rfl⟩
        cases x
        · with_reducible repeat' (first
            | refine AW.seq ?_
            | refine AW.region ?_
            | refine AW.block ?_
            | refine AW.scope ?_
            | refine AOs.nil ?_
            | refine AW.skip ?_
            | refine AW.exit ?_
            | refine AW.ret ?_
            | refine AW.label ?_
            | refine andThen_normal ?_
            | refine andThen_exit ?_
            | refine andThen_ret ?_
            | refine inBlock_normal ?_
            | refine inBlock_hit ?_
            | refine inBlock_ret ?_
            | refine inBlock_miss (by with_unfolding_all rfl) ?_
            | refine AOs.guardN (by with_unfolding_all rfl) (by simp only [aeval, PT.get_set, Nat.reduceEqDiff, reduceIte, h0, h1, h5]; rfl) (by with_unfolding_all rfl) ?_
            | refine AOs.guardT (by with_unfolding_all rfl) (by simp only [aeval, PT.get_set, Nat.reduceEqDiff, reduceIte, h0, h1, h5]; rfl) (by first | rfl | decide | assumption) ?_
            | refine AOs.guardF (by with_unfolding_all rfl) (by simp only [aeval, PT.get_set, Nat.reduceEqDiff, reduceIte, h0, h1, h5]; rfl) (by first | rfl | decide | assumption) (by with_unfolding_all rfl) ?_
            | refine AOs.guardF0 (by with_unfolding_all rfl) (by simp only [aeval, PT.get_set, Nat.reduceEqDiff, reduceIte, h0, h1, h5]; rfl) (by first | rfl | decide | assumption) ?_
            | refine AW.condT (by simp only [aeval, PT.get_set, Nat.reduceEqDiff, reduceIte, h0, h1, h5]; rfl) (by first | rfl | decide | assumption) ?_
            | refine AW.condF (by simp only [aeval, PT.get_set, Nat.reduceEqDiff, reduceIte, h0, h1, h5]; rfl) (by first | rfl | decide | assumption) ?_
            | refine AOs.op1 tOK (by simp only [evOp_move, evOp_assign, evOp_pick, evOp_build, evOp_nilCheck, evOp_binOp, evOp_not, evOp_fieldAddr, evOp_field, evOp_indexAddr, evOp_index, evOp_extract, evOp_makeFunc, evOp_load, evOp_lookup, evOp_store, evOp_mapUpdate, evOp_insert, evOp_range, evOp_makeMap, evOp_len, evOp_append, evOp_copy, evOp_delete, evOp_slice, aeval, ofVal, PT.get_set, Nat.reduceEqDiff, reduceIte, lenOfAV_slice, lenOfAV_nils, lenOfAV_empty, afield, apart, aindex, aconv, cellAt, cellsAt, mapLenAt, List.map_cons, List.map_nil, Option.map_some, Option.map_none, List.nil_append, List.append_nil, abin_add, abin_sub, abin_mul, abin_lss, abin_leq, abin_gtr, abin_geq, abin_eql, abin_neq, cond_true, cond_false, decide_true, decide_false, Bool.not_true, Bool.not_false, TI.agg, List.getElem?_cons_zero, List.getElem?_cons_succ, Nat.add_zero, Nat.zero_add, Nat.zero_mul, nbeq, nble, nblt, Nat.reduceLeDiff, Nat.reduceLT, Nat.reduceMul, Nat.reduceAdd, Nat.reduceSub, Bool.and_true, Bool.true_and, Bool.and_false, Bool.false_and, eq_self, Int.ofNat_eq_natCast, Int.cast_ofNat_Int, Int.natCast_zero, Int.reduceEq, Int.reduceLT, Int.reduceLE, Int.reduceNeg, ld2, ld3, ld4, ld5, al9, ld9, al22, ix22, bs22, ld22, al23, ix23, bs23, ld23, ld27, al29, ix29, bs29, ld29, fa31_0, fa31_1, ld31, fa33_0, fa33_1, fa33_2, ld33, al40, ix40, bs40, ld40, ld44, al50, ix50, bs50, ld50, fa58_0, fa58_1, ld58, fa71_0, fa71_1, ld71, an74, am74, ld74, fa76_0, fa76_1, fa76_2, fa76_3, ld76, an77, am77, ld77, an78, am78, ld78, ld82, ld90, ld93, ld94, fa96_0, fa96_1, fa96_2, ld96, ld97, fa99_0, fa99_1, fa99_2, fa99_3, ld99, ld101, h0, h1, h5]; rfl) (by with_unfolding_all rfl) ?_
            | refine AOs.op0 tOK (by simp only [evOp_move, evOp_assign, evOp_pick, evOp_build, evOp_nilCheck, evOp_binOp, evOp_not, evOp_fieldAddr, evOp_field, evOp_indexAddr, evOp_index, evOp_extract, evOp_makeFunc, evOp_load, evOp_lookup, evOp_store, evOp_mapUpdate, evOp_insert, evOp_range, evOp_makeMap, evOp_len, evOp_append, evOp_copy, evOp_delete, evOp_slice, aeval, ofVal, PT.get_set, Nat.reduceEqDiff, reduceIte, lenOfAV_slice, lenOfAV_nils, lenOfAV_empty, afield, apart, aindex, aconv, cellAt, cellsAt, mapLenAt, List.map_cons, List.map_nil, Option.map_some, Option.map_none, List.nil_append, List.append_nil, abin_add, abin_sub, abin_mul, abin_lss, abin_leq, abin_gtr, abin_geq, abin_eql, abin_neq, cond_true, cond_false, decide_true, decide_false, Bool.not_true, Bool.not_false, TI.agg, List.getElem?_cons_zero, List.getElem?_cons_succ, Nat.add_zero, Nat.zero_add, Nat.zero_mul, nbeq, nble, nblt, Nat.reduceLeDiff, Nat.reduceLT, Nat.reduceMul, Nat.reduceAdd, Nat.reduceSub, Bool.and_true, Bool.true_and, Bool.and_false, Bool.false_and, eq_self, Int.ofNat_eq_natCast, Int.cast_ofNat_Int, Int.natCast_zero, Int.reduceEq, Int.reduceLT, Int.reduceLE, Int.reduceNeg, ld2, ld3, ld4, ld5, al9, ld9, al22, ix22, bs22, ld22, al23, ix23, bs23, ld23, ld27, al29, ix29, bs29, ld29, fa31_0, fa31_1, ld31, fa33_0, fa33_1, fa33_2, ld33, al40, ix40, bs40, ld40, ld44, al50, ix50, bs50, ld50, fa58_0, fa58_1, ld58, fa71_0, fa71_1, ld71, an74, am74, ld74, fa76_0, fa76_1, fa76_2, fa76_3, ld76, an77, am77, ld77, an78, am78, ld78, ld82, ld90, ld93, ld94, fa96_0, fa96_1, fa96_2, ld96, ld97, fa99_0, fa99_1, fa99_2, fa99_3, ld99, ld101, h0, h1, h5]; rfl) ?_
            | fail "stop")
          refine fnPost_ret1 (by simp only [PT.get_set, Nat.reduceEqDiff, reduceIte] <;> rfl) ⟨rfl, _, rfl, fun h => by cases h⟩
        · with_reducible repeat' (first
            | refine AW.seq ?_
            | refine AW.region ?_
            | refine AW.block ?_
            | refine AW.scope ?_
            | refine AOs.nil ?_
            | refine AW.skip ?_
            | refine AW.exit ?_
            | refine AW.ret ?_
            | refine AW.label ?_
            | refine andThen_normal ?_
            | refine andThen_exit ?_
            | refine andThen_ret ?_
            | refine inBlock_normal ?_
            | refine inBlock_hit ?_
            | refine inBlock_ret ?_
            | refine inBlock_miss (by with_unfolding_all rfl) ?_
            | refine AOs.guardN (by with_unfolding_all rfl) (by simp only [aeval, PT.get_set, Nat.reduceEqDiff, reduceIte, h0, h1, h5]; rfl) (by with_unfolding_all rfl) ?_
            | refine AOs.guardT (by with_unfolding_all rfl) (by simp only [aeval, PT.get_set, Nat.reduceEqDiff, reduceIte, h0, h1, h5]; rfl) (by first | rfl | decide | assumption) ?_
            | refine AOs.guardF (by with_unfolding_all rfl) (by simp only [aeval, PT.get_set, Nat.reduceEqDiff, reduceIte, h0, h1, h5]; rfl) (by first | rfl | decide | assumption) (by with_unfolding_all rfl) ?_
            | refine AOs.guardF0 (by with_unfolding_all rfl) (by simp only [aeval, PT.get_set, Nat.reduceEqDiff, reduceIte, h0, h1, h5]; rfl) (by first | rfl | decide | assumption) ?_
            | refine AW.condT (by simp only [aeval, PT.get_set, Nat.reduceEqDiff, reduceIte, h0, h1, h5]; rfl) (by first | rfl | decide | assumption) ?_
            | refine AW.condF (by simp only [aeval, PT.get_set, Nat.reduceEqDiff, reduceIte, h0, h1, h5]; rfl) (by first | rfl | decide | assumption) ?_
            | refine AOs.op1 tOK (by simp only [evOp_move, evOp_assign, evOp_pick, evOp_build, evOp_nilCheck, evOp_binOp, evOp_not, evOp_fieldAddr, evOp_field, evOp_indexAddr, evOp_index, evOp_extract, evOp_makeFunc, evOp_load, evOp_lookup, evOp_store, evOp_mapUpdate, evOp_insert, evOp_range, evOp_makeMap, evOp_len, evOp_append, evOp_copy, evOp_delete, evOp_slice, aeval, ofVal, PT.get_set, Nat.reduceEqDiff, reduceIte, lenOfAV_slice, lenOfAV_nils, lenOfAV_empty, afield, apart, aindex, aconv, cellAt, cellsAt, mapLenAt, List.map_cons, List.map_nil, Option.map_some, Option.map_none, List.nil_append, List.append_nil, abin_add, abin_sub, abin_mul, abin_lss, abin_leq, abin_gtr, abin_geq, abin_eql, abin_neq, cond_true, cond_false, decide_true, decide_false, Bool.not_true, Bool.not_false, TI.agg, List.getElem?_cons_zero, List.getElem?_cons_succ, Nat.add_zero, Nat.zero_add, Nat.zero_mul, nbeq, nble, nblt, Nat.reduceLeDiff, Nat.reduceLT, Nat.reduceMul, Nat.reduceAdd, Nat.reduceSub, Bool.and_true, Bool.true_and, Bool.and_false, Bool.false_and, eq_self, Int.ofNat_eq_natCast, Int.cast_ofNat_Int, Int.natCast_zero, Int.reduceEq, Int.reduceLT, Int.reduceLE, Int.reduceNeg, ld2, ld3, ld4, ld5, al9, ld9, al22, ix22, bs22, ld22, al23, ix23, bs23, ld23, ld27, al29, ix29, bs29, ld29, fa31_0, fa31_1, ld31, fa33_0, fa33_1, fa33_2, ld33, al40, ix40, bs40, ld40, ld44, al50, ix50, bs50, ld50, fa58_0, fa58_1, ld58, fa71_0, fa71_1, ld71, an74, am74, ld74, fa76_0, fa76_1, fa76_2, fa76_3, ld76, an77, am77, ld77, an78, am78, ld78, ld82, ld90, ld93, ld94, fa96_0, fa96_1, fa96_2, ld96, ld97, fa99_0, fa99_1, fa99_2, fa99_3, ld99, ld101, h0, h1, h5]; rfl) (by with_unfolding_all rfl) ?_
            | refine AOs.op0 tOK (by simp only [evOp_move, evOp_assign, evOp_pick, evOp_build, evOp_nilCheck, evOp_binOp, evOp_not, evOp_fieldAddr, evOp_field, evOp_indexAddr, evOp_index, evOp_extract, evOp_makeFunc, evOp_load, evOp_lookup, evOp_store, evOp_mapUpdate, evOp_insert, evOp_range, evOp_makeMap, evOp_len, evOp_append, evOp_copy, evOp_delete, evOp_slice, aeval, ofVal, PT.get_set, Nat.reduceEqDiff, reduceIte, lenOfAV_slice, lenOfAV_nils, lenOfAV_empty, afield, apart, aindex, aconv, cellAt, cellsAt, mapLenAt, List.map_cons, List.map_nil, Option.map_some, Option.map_none, List.nil_append, List.append_nil, abin_add, abin_sub, abin_mul, abin_lss, abin_leq, abin_gtr, abin_geq, abin_eql, abin_neq, cond_true, cond_false, decide_true, decide_false, Bool.not_true, Bool.not_false, TI.agg, List.getElem?_cons_zero, List.getElem?_cons_succ, Nat.add_zero, Nat.zero_add, Nat.zero_mul, nbeq, nble, nblt, Nat.reduceLeDiff, Nat.reduceLT, Nat.reduceMul, Nat.reduceAdd, Nat.reduceSub, Bool.and_true, Bool.true_and, Bool.and_false, Bool.false_and, eq_self, Int.ofNat_eq_natCast, Int.cast_ofNat_Int, Int.natCast_zero, Int.reduceEq, Int.reduceLT, Int.reduceLE, Int.reduceNeg, ld2, ld3, ld4, ld5, al9, ld9, al22, ix22, bs22, ld22, al23, ix23, bs23, ld23, ld27, al29, ix29, bs29, ld29, fa31_0, fa31_1, ld31, fa33_0, fa33_1, fa33_2, ld33, al40, ix40, bs40, ld40, ld44, al50, ix50, bs50, ld50, fa58_0, fa58_1, ld58, fa71_0, fa71_1, ld71, an74, am74, ld74, fa76_0, fa76_1, fa76_2, fa76_3, ld76, an77, am77, ld77, an78, am78, ld78, ld82, ld90, ld93, ld94, fa96_0, fa96_1, fa96_2, ld96, ld97, fa99_0, fa99_1, fa99_2, fa99_3, ld99, ld101, h0, h1, h5]; rfl) ?_
            | fail "stop")
          refine ⟨n - (i + 1), by omega, rfl, by simp only [PT.get_set, Nat.reduceEqDiff, reduceIte, h0], by simp only [PT.get_set, Nat.reduceEqDiff, reduceIte, h1], i + 1, by omega, rfl, by omega, ?_⟩
          simp only [PT.get_set, Nat.reduceEqDiff, reduceIte, wrap64_succ (show i < 9223372036854775807 by omega)]
    · with_reducible repeat' (first
        | refine AW.seq ?_
        | refine AW.region ?_
        | refine AW.block ?_
        | refine AW.scope ?_
        | refine AOs.nil ?_
        | refine AW.skip ?_
        | refine AW.exit ?_
        | refine AW.ret ?_
        | refine AW.label ?_
        | refine andThen_normal ?_
        | refine andThen_exit ?_
        | refine andThen_ret ?_
        | refine inBlock_normal ?_
        | refine inBlock_hit ?_
        | refine inBlock_ret ?_
        | refine inBlock_miss (by with_unfolding_all rfl) ?_
        | refine AOs.guardN (by with_unfolding_all rfl) (by simp only [aeval, PT.get_set, Nat.reduceEqDiff, reduceIte, h0, h1, h5, hd, h40, hlen]; rfl) (by with_unfolding_all rfl) ?_
        | refine AOs.guardT (by with_unfolding_all rfl) (by simp only [aeval, PT.get_set, Nat.reduceEqDiff, reduceIte, h0, h1, h5, hd, h40, hlen]; rfl) (by first | rfl | decide | assumption) ?_
        | refine AOs.guardF (by with_unfolding_all rfl) (by simp only [aeval, PT.get_set, Nat.reduceEqDiff, reduceIte, h0, h1, h5, hd, h40, hlen]; rfl) (by first | rfl | decide | assumption) (by with_unfolding_all rfl) ?_
        | refine AOs.guardF0 (by with_unfolding_all rfl) (by simp only [aeval, PT.get_set, Nat.reduceEqDiff, reduceIte, h0, h1, h5, hd, h40, hlen]; rfl) (by first | rfl | decide | assumption) ?_
        | refine AW.condT (by simp only [aeval, PT.get_set, Nat.reduceEqDiff, reduceIte, h0, h1, h5, hd, h40, hlen]; rfl) (by first | rfl | decide | assumption) ?_
        | refine AW.condF (by simp only [aeval, PT.get_set, Nat.reduceEqDiff, reduceIte, h0, h1, h5, hd, h40, hlen]; rfl) (by first | rfl | decide | assumption) ?_
        | refine AOs.op1 tOK (by simp only [evOp_move, evOp_assign, evOp_pick, evOp_build, evOp_nilCheck, evOp_binOp, evOp_not, evOp_fieldAddr, evOp_field, evOp_indexAddr, evOp_index, evOp_extract, evOp_makeFunc, evOp_load, evOp_lookup, evOp_store, evOp_mapUpdate, evOp_insert, evOp_range, evOp_makeMap, evOp_len, evOp_append, evOp_copy, evOp_delete, evOp_slice, aeval, ofVal, PT.get_set, Nat.reduceEqDiff, reduceIte, lenOfAV_slice, lenOfAV_nils, lenOfAV_empty, afield, apart, aindex, aconv, cellAt, cellsAt, mapLenAt, List.map_cons, List.map_nil, Option.map_some, Option.map_none, List.nil_append, List.append_nil, abin_add, abin_sub, abin_mul, abin_lss, abin_leq, abin_gtr, abin_geq, abin_eql, abin_neq, cond_true, cond_false, decide_true, decide_false, Bool.not_true, Bool.not_false, TI.agg, List.getElem?_cons_zero, List.getElem?_cons_succ, Nat.add_zero, Nat.zero_add, Nat.zero_mul, nbeq, nble, nblt, Nat.reduceLeDiff, Nat.reduceLT, Nat.reduceMul, Nat.reduceAdd, Nat.reduceSub, Bool.and_true, Bool.true_and, Bool.and_false, Bool.false_and, eq_self, Int.ofNat_eq_natCast, Int.cast_ofNat_Int, Int.natCast_zero, Int.reduceEq, Int.reduceLT, Int.reduceLE, Int.reduceNeg, ld2, ld3, ld4, ld5, al9, ld9, al22, ix22, bs22, ld22, al23, ix23, bs23, ld23, ld27, al29, ix29, bs29, ld29, fa31_0, fa31_1, ld31, fa33_0, fa33_1, fa33_2, ld33, al40, ix40, bs40, ld40, ld44, al50, ix50, bs50, ld50, fa58_0, fa58_1, ld58, fa71_0, fa71_1, ld71, an74, am74, ld74, fa76_0, fa76_1, fa76_2, fa76_3, ld76, an77, am77, ld77, an78, am78, ld78, ld82, ld90, ld93, ld94, fa96_0, fa96_1, fa96_2, ld96, ld97, fa99_0, fa99_1, fa99_2, fa99_3, ld99, ld101, h0, h1, h5, hd, h40, hlen]; rfl) (by with_unfolding_all rfl) ?_
        | refine AOs.op0 tOK (by simp only [evOp_move, evOp_assign, evOp_pick, evOp_build, evOp_nilCheck, evOp_binOp, evOp_not, evOp_fieldAddr, evOp_field, evOp_indexAddr, evOp_index, evOp_extract, evOp_makeFunc, evOp_load, evOp_lookup, evOp_store, evOp_mapUpdate, evOp_insert, evOp_range, evOp_makeMap, evOp_len, evOp_append, evOp_copy, evOp_delete, evOp_slice, aeval, ofVal, PT.get_set, Nat.reduceEqDiff, reduceIte, lenOfAV_slice, lenOfAV_nils, lenOfAV_empty, afield, apart, aindex, aconv, cellAt, cellsAt, mapLenAt, List.map_cons, List.map_nil, Option.map_some, Option.map_none, List.nil_append, List.append_nil, abin_add, abin_sub, abin_mul, abin_lss, abin_leq, abin_gtr, abin_geq, abin_eql, abin_neq, cond_true, cond_false, decide_true, decide_false, Bool.not_true, Bool.not_false, TI.agg, List.getElem?_cons_zero, List.getElem?_cons_succ, Nat.add_zero, Nat.zero_add, Nat.zero_mul, nbeq, nble, nblt, Nat.reduceLeDiff, Nat.reduceLT, Nat.reduceMul, Nat.reduceAdd, Nat.reduceSub, Bool.and_true, Bool.true_and, Bool.and_false, Bool.false_and, eq_self, Int.ofNat_eq_natCast, Int.cast_ofNat_Int, Int.natCast_zero, Int.reduceEq, Int.reduceLT, Int.reduceLE, Int.reduceNeg, ld2, ld3, ld4, ld5, al9, ld9, al22, ix22, bs22, ld22, al23, ix23, bs23, ld23, ld27, al29, ix29, bs29, ld29, fa31_0, fa31_1, ld31, fa33_0, fa33_1, fa33_2, ld33, al40, ix40, bs40, ld40, ld44, al50, ix50, bs50, ld50, fa58_0, fa58_1, ld58, fa71_0, fa71_1, ld71, an74, am74, ld74, fa76_0, fa76_1, fa76_2, fa76_3, ld76, an77, am77, ld77, an78, am78, ld78, ld82, ld90, ld93, ld94, fa96_0, fa96_1, fa96_2, ld96, ld97, fa99_0, fa99_1, fa99_2, fa99_3, ld99, ld101, h0, h1, h5, hd, h40, hlen]; rfl) ?_
        | fail "stop")
      refine fnPost_ret1 (by simp only [PT.get_set, Nat.reduceEqDiff, reduceIte] <;> rfl) ⟨rfl, _, rfl, fun h => ?_⟩
      simp at h; omega
  · have hd := nlt_int hlt
    with_reducible repeat' (first
      | refine AW.seq ?_
      | refine AW.region ?_
      | refine AW.block ?_
      | refine AW.scope ?_
      | refine AOs.nil ?_
      | refine AW.skip ?_
      | refine AW.exit ?_
      | refine AW.ret ?_
      | refine AW.label ?_
      | refine andThen_normal ?_
      | refine andThen_exit ?_
      | refine andThen_ret ?_
      | refine inBlock_normal ?_
      | refine inBlock_hit ?_
      | refine inBlock_ret ?_
      | refine inBlock_miss (by with_unfolding_all rfl) ?_
      | refine AOs.guardN (by with_unfolding_all rfl) (by simp only [aeval, PT.get_set, Nat.reduceEqDiff, reduceIte, h0, h1, h5, hd, hlen]; rfl) (by with_unfolding_all rfl) ?_
      | refine AOs.guardT (by with_unfolding_all rfl) (by simp only [aeval, PT.get_set, Nat.reduceEqDiff, reduceIte, h0, h1, h5, hd, hlen]; rfl) (by first | rfl | decide | assumption) ?_
      | refine AOs.guardF (by with_unfolding_all rfl) (by simp only [aeval, PT.get_set, Nat.reduceEqDiff, reduceIte, h0, h1, h5, hd, hlen]; rfl) (by first | rfl | decide | assumption) (by with_unfolding_all rfl) ?_
      | refine AOs.guardF0 (by with_unfolding_all rfl) (by simp only [aeval, PT.get_set, Nat.reduceEqDiff, reduceIte, h0, h1, h5, hd, hlen]; rfl) (by first | rfl | decide | assumption) ?_
      | refine AW.condT (by simp only [aeval, PT.get_set, Nat.reduceEqDiff, reduceIte, h0, h1, h5, hd, hlen]; rfl) (by first | rfl | decide | assumption) ?_
      | refine AW.condF (by simp only [aeval, PT.get_set, Nat.reduceEqDiff, reduceIte, h0, h1, h5, hd, hlen]; rfl) (by first | rfl | decide | assumption) ?_
      | refine AOs.op1 tOK (by simp only [evOp_move, evOp_assign, evOp_pick, evOp_build, evOp_nilCheck, evOp_binOp, evOp_not, evOp_fieldAddr, evOp_field, evOp_indexAddr, evOp_index, evOp_extract, evOp_makeFunc, evOp_load, evOp_lookup, evOp_store, evOp_mapUpdate, evOp_insert, evOp_range, evOp_makeMap, evOp_len, evOp_append, evOp_copy, evOp_delete, evOp_slice, aeval, ofVal, PT.get_set, Nat.reduceEqDiff, reduceIte, lenOfAV_slice, lenOfAV_nils, lenOfAV_empty, afield, apart, aindex, aconv, cellAt, cellsAt, mapLenAt, List.map_cons, List.map_nil, Option.map_some, Option.map_none, List.nil_append, List.append_nil, abin_add, abin_sub, abin_mul, abin_lss, abin_leq, abin_gtr, abin_geq, abin_eql, abin_neq, cond_true, cond_false, decide_true, decide_false, Bool.not_true, Bool.not_false, TI.agg, List.getElem?_cons_zero, List.getElem?_cons_succ, Nat.add_zero, Nat.zero_add, Nat.zero_mul, nbeq, nble, nblt, Nat.reduceLeDiff, Nat.reduceLT, Nat.reduceMul, Nat.reduceAdd, Nat.reduceSub, Bool.and_true, Bool.true_and, Bool.and_false, Bool.false_and, eq_self, Int.ofNat_eq_natCast, Int.cast_ofNat_Int, Int.natCast_zero, Int.reduceEq, Int.reduceLT, Int.reduceLE, Int.reduceNeg, ld2, ld3, ld4, ld5, al9, ld9, al22, ix22, bs22, ld22, al23, ix23, bs23, ld23, ld27, al29, ix29, bs29, ld29, fa31_0, fa31_1, ld31, fa33_0, fa33_1, fa33_2, ld33, al40, ix40, bs40, ld40, ld44, al50, ix50, bs50, ld50, fa58_0, fa58_1, ld58, fa71_0, fa71_1, ld71, an74, am74, ld74, fa76_0, fa76_1, fa76_2, fa76_3, ld76, an77, am77, ld77, an78, am78, ld78, ld82, ld90, ld93, ld94, fa96_0, fa96_1, fa96_2, ld96, ld97, fa99_0, fa99_1, fa99_2, fa99_3, ld99, ld101, h0, h1, h5, hd, hlen]; rfl) (by with_unfolding_all rfl) ?_
      | refine AOs.op0 tOK (by simp only [evOp_move, evOp_assign, evOp_pick, evOp_build, evOp_nilCheck, evOp_binOp, evOp_not, evOp_fieldAddr, evOp_field, evOp_indexAddr, evOp_index, evOp_extract, evOp_makeFunc, evOp_load, evOp_lookup, evOp_store, evOp_mapUpdate, evOp_insert, evOp_range, evOp_makeMap, evOp_len, evOp_append, evOp_copy, evOp_delete, evOp_slice, aeval, ofVal, PT.get_set, Nat.reduceEqDiff, reduceIte, lenOfAV_slice, lenOfAV_nils, lenOfAV_empty, afield, apart, aindex, aconv, cellAt, cellsAt, mapLenAt, List.map_cons, List.map_nil, Option.map_some, Option.map_none, List.nil_append, List.append_nil, abin_add, abin_sub, abin_mul, abin_lss, abin_leq, abin_gtr, abin_geq, abin_eql, abin_neq, cond_true, cond_false, decide_true, decide_false, Bool.not_true, Bool.not_false, TI.agg, List.getElem?_cons_zero, List.getElem?_cons_succ, Nat.add_zero, Nat.zero_add, Nat.zero_mul, nbeq, nble, nblt, Nat.reduceLeDiff, Nat.reduceLT, Nat.reduceMul, Nat.reduceAdd, Nat.reduceSub, Bool.and_true, Bool.true_and, Bool.and_false, Bool.false_and, eq_self, Int.ofNat_eq_natCast, Int.cast_ofNat_Int, Int.natCast_zero, Int.reduceEq, Int.reduceLT, Int.reduceLE, Int.reduceNeg, ld2, ld3, ld4, ld5, al9, ld9, al22, ix22, bs22, ld22, al23, ix23, bs23, ld23, ld27, al29, ix29, bs29, ld29, fa31_0, fa31_1, ld31, fa33_0, fa33_1, fa33_2, ld33, al40, ix40, bs40, ld40, ld44, al50, ix50, bs50, ld50, fa58_0, fa58_1, ld58, fa71_0, fa71_1, ld71, an74, am74, ld74, fa76_0, fa76_1, fa76_2, fa76_3, ld76, an77, am77, ld77, an78, am78, ld78, ld82, ld90, ld93, ld94, fa96_0, fa96_1, fa96_2, ld96, ld97, fa99_0, fa99_1, fa99_2, fa99_3, ld99, ld101, h0, h1, h5, hd, hlen]; rfl) ?_
      | fail "stop")
    refine fnPost_ret1 (by simp only [PT.get_set, Nat.reduceEqDiff, reduceIte] <;> rfl) ⟨rfl, _, rfl, fun h => ?_⟩
    simp at h; omega

def K0 (f : FuncId) : Option (List AV → AH → Option (AV × AH)) := none
def E0 (f : FuncId) (args : List AV) (H : AH) : Option (AV × AH) := none
theorem K0_ok (N : Nat) : KnownOK tC N 0 K0 E0 where
  call f k h := by cases h
  ext f args H r H' h := by cases h
theorem nil45 (H : AH) : evCall tC K0 E0 0 100 5 45 [.nilp] H = some (.bool false, H) := by kernel_rfl
theorem nil21 (H : AH) : evCall tC K0 E0 0 100 5 21 [.nilp] H = some (.nils, H) := by kernel_rfl
theorem nil22 (H : AH) : evCall tC K0 E0 0 100 5 22 [.nilp] H = some (.nils, H) := by kernel_rfl
theorem nil23 (H : AH) : evCall tC K0 E0 0 100 5 23 [.nilp] H = some (.nils, H) := by kernel_rfl
theorem nil24 (H : AH) : evCall tC K0 E0 0 100 5 24 [.nilp] H = some (.int .i64 (.ofNat 0), H) := by kernel_rfl

theorem ac_ev {N : Nat} {fuel d f : Nat} {args : List AV} {H H' : AH} {r : AV} (h : evCall tC K0 E0 0 fuel d f args H = some (r, H')) : AC tC N 0 f args H fun x K => x = r ∧ K = H' := fun ρ w vs hR hv =>
  (evCall_ok tOK tCodes (K0_ok N) h hR hv).mono fun e w' ⟨v, ρ', he, h1, h2, h3⟩ => ⟨v, ρ', r, H', ⟨rfl, rfl⟩, he, h1, h2, h3⟩

set_option maxHeartbeats 1000000 in
theorem nil20 (N : Nat) (H : AH) (x : AV) : AC tC N 0 20 [.nilp, x] H fun r K => r = .tuple [.nils, .int .i64 1] ∧ K = H.alloc (.cells false [.nilp]) := by
  refine AC.by (n := 153) (rs := [.tmp 4, .tmp 5]) tOK fn20 rfl rfl rfl rfl ?_
  have e0 : (PT.ofList .leaf 0 [AV.nilp, x]).get 0 = some .nilp := rfl
  with_reducible repeat' (first
    | refine AW.seq ?_
    | refine AW.region ?_
    | refine AW.block ?_
    | refine AW.scope ?_
    | refine AOs.nil ?_
    | refine AW.skip ?_
    | refine AW.exit ?_
    | refine AW.ret ?_
    | refine AW.label ?_
    | refine andThen_normal ?_
    | refine andThen_exit ?_
    | refine andThen_ret ?_
    | refine inBlock_normal ?_
    | refine inBlock_hit ?_
    | refine inBlock_ret ?_
    | refine inBlock_miss (by with_unfolding_all rfl) ?_
    | refine AOs.guardN (by with_unfolding_all rfl) (by simp only [aeval, PT.get_set, Nat.reduceEqDiff, reduceIte, e0, evOp_box, notJunk, AV.cells, AH.get_alloc, eq_self, if_true]; rfl) (by with_unfolding_all rfl) ?_
    | refine AOs.guardT (by with_unfolding_all rfl) (by simp only [aeval, PT.get_set, Nat.reduceEqDiff, reduceIte, e0, evOp_box, notJunk, AV.cells, AH.get_alloc, eq_self, if_true]; rfl) (by first | rfl | decide | assumption) ?_
    | refine AOs.guardF (by with_unfolding_all rfl) (by simp only [aeval, PT.get_set, Nat.reduceEqDiff, reduceIte, e0, evOp_box, notJunk, AV.cells, AH.get_alloc, eq_self, if_true]; rfl) (by first | rfl | decide | assumption) (by with_unfolding_all rfl) ?_
    | refine AOs.guardF0 (by with_unfolding_all rfl) (by simp only [aeval, PT.get_set, Nat.reduceEqDiff, reduceIte, e0, evOp_box, notJunk, AV.cells, AH.get_alloc, eq_self, if_true]; rfl) (by first | rfl | decide | assumption) ?_
    | refine AW.condT (by simp only [aeval, PT.get_set, Nat.reduceEqDiff, reduceIte, e0, evOp_box, notJunk, AV.cells, AH.get_alloc, eq_self, if_true]; rfl) (by first | rfl | decide | assumption) ?_
    | refine AW.condF (by simp only [aeval, PT.get_set, Nat.reduceEqDiff, reduceIte, e0, evOp_box, notJunk, AV.cells, AH.get_alloc, eq_self, if_true]; rfl) (by first | rfl | decide | assumption) ?_
    | refine AOs.op1 tOK (by simp only [evOp_move, evOp_assign, evOp_pick, evOp_build, evOp_nilCheck, evOp_binOp, evOp_not, evOp_fieldAddr, evOp_field, evOp_indexAddr, evOp_index, evOp_extract, evOp_makeFunc, evOp_load, evOp_lookup, evOp_store, evOp_mapUpdate, evOp_insert, evOp_range, evOp_makeMap, evOp_len, evOp_append, evOp_copy, evOp_delete, evOp_slice, aeval, ofVal, PT.get_set, Nat.reduceEqDiff, reduceIte, lenOfAV_slice, lenOfAV_nils, lenOfAV_empty, afield, apart, aindex, aconv, cellAt, cellsAt, mapLenAt, List.map_cons, List.map_nil, Option.map_some, Option.map_none, List.nil_append, List.append_nil, abin_add, abin_sub, abin_mul, abin_lss, abin_leq, abin_gtr, abin_geq, abin_eql, abin_neq, cond_true, cond_false, decide_true, decide_false, Bool.not_true, Bool.not_false, TI.agg, List.getElem?_cons_zero, List.getElem?_cons_succ, Nat.add_zero, Nat.zero_add, Nat.zero_mul, nbeq, nble, nblt, Nat.reduceLeDiff, Nat.reduceLT, Nat.reduceMul, Nat.reduceAdd, Nat.reduceSub, Bool.and_true, Bool.true_and, Bool.and_false, Bool.false_and, eq_self, Int.ofNat_eq_natCast, Int.cast_ofNat_Int, Int.natCast_zero, Int.reduceEq, Int.reduceLT, Int.reduceLE, Int.reduceNeg, ld2, ld3, ld4, ld5, al9, ld9, al22, ix22, bs22, ld22, al23, ix23, bs23, ld23, ld27, al29, ix29, bs29, ld29, fa31_0, fa31_1, ld31, fa33_0, fa33_1, fa33_2, ld33, al40, ix40, bs40, ld40, ld44, al50, ix50, bs50, ld50, fa58_0, fa58_1, ld58, fa71_0, fa71_1, ld71, an74, am74, ld74, fa76_0, fa76_1, fa76_2, fa76_3, ld76, an77, am77, ld77, an78, am78, ld78, ld82, ld90, ld93, ld94, fa96_0, fa96_1, fa96_2, ld96, ld97, fa99_0, fa99_1, fa99_2, fa99_3, ld99, ld101, e0, evOp_box, notJunk, AV.cells, AH.get_alloc, eq_self, if_true]; rfl) (by with_unfolding_all rfl) ?_
    | refine AOs.op0 tOK (by simp only [evOp_move, evOp_assign, evOp_pick, evOp_build, evOp_nilCheck, evOp_binOp, evOp_not, evOp_fieldAddr, evOp_field, evOp_indexAddr, evOp_index, evOp_extract, evOp_makeFunc, evOp_load, evOp_lookup, evOp_store, evOp_mapUpdate, evOp_insert, evOp_range, evOp_makeMap, evOp_len, evOp_append, evOp_copy, evOp_delete, evOp_slice, aeval, ofVal, PT.get_set, Nat.reduceEqDiff, reduceIte, lenOfAV_slice, lenOfAV_nils, lenOfAV_empty, afield, apart, aindex, aconv, cellAt, cellsAt, mapLenAt, List.map_cons, List.map_nil, Option.map_some, Option.map_none, List.nil_append, List.append_nil, abin_add, abin_sub, abin_mul, abin_lss, abin_leq, abin_gtr, abin_geq, abin_eql, abin_neq, cond_true, cond_false, decide_true, decide_false, Bool.not_true, Bool.not_false, TI.agg, List.getElem?_cons_zero, List.getElem?_cons_succ, Nat.add_zero, Nat.zero_add, Nat.zero_mul, nbeq, nble, nblt, Nat.reduceLeDiff, Nat.reduceLT, Nat.reduceMul, Nat.reduceAdd, Nat.reduceSub, Bool.and_true, Bool.true_and, Bool.and_false, Bool.false_and, eq_self, Int.ofNat_eq_natCast, Int.cast_ofNat_Int, Int.natCast_zero, Int.reduceEq, Int.reduceLT, Int.reduceLE, Int.reduceNeg, ld2, ld3, ld4, ld5, al9, ld9, al22, ix22, bs22, ld22, al23, ix23, bs23, ld23, ld27, al29, ix29, bs29, ld29, fa31_0, fa31_1, ld31, fa33_0, fa33_1, fa33_2, ld33, al40, ix40, bs40, ld40, ld44, al50, ix50, bs50, ld50, fa58_0, fa58_1, ld58, fa71_0, fa71_1, ld71, an74, am74, ld74, fa76_0, fa76_1, fa76_2, fa76_3, ld76, an77, am77, ld77, an78, am78, ld78, ld82, ld90, ld93, ld94, fa96_0, fa96_1, fa96_2, ld96, ld97, fa99_0, fa99_1, fa99_2, fa99_3, ld99, ld101, e0, evOp_box, notJunk, AV.cells, AH.get_alloc, eq_self, if_true]; rfl) ?_
    | fail "stop")
  refine AOs.callQ tOK (fs := []) (cs := []) rfl fn45 (by kernel_rfl) rfl (by simp only [List.map_cons, List.map_nil, List.nil_append, List.append_nil, List.cons_append, aeval, ofVal, PT.get_set, Nat.reduceEqDiff, reduceIte] <;> rfl) (ac_ev (nil45 _)) ?_
  rintro r K1 ⟨rfl, rfl⟩
  with_reducible repeat' (first
    | refine AW.seq ?_
    | refine AW.region ?_
    | refine AW.block ?_
    | refine AW.scope ?_
    | refine AOs.nil ?_
    | refine AW.skip ?_
    | refine AW.exit ?_
    | refine AW.ret ?_
    | refine AW.label ?_
    | refine andThen_normal ?_
    | refine andThen_exit ?_
    | refine andThen_ret ?_
    | refine inBlock_normal ?_
    | refine inBlock_hit ?_
    | refine inBlock_ret ?_
    | refine inBlock_miss (by with_unfolding_all rfl) ?_
    | refine AOs.guardN (by with_unfolding_all rfl) (by simp only [aeval, PT.get_set, Nat.reduceEqDiff, reduceIte, if_true]; rfl) (by with_unfolding_all rfl) ?_
    | refine AOs.guardT (by with_unfolding_all rfl) (by simp only [aeval, PT.get_set, Nat.reduceEqDiff, reduceIte, if_true]; rfl) (by first | rfl | decide | assumption) ?_
    | refine AOs.guardF (by with_unfolding_all rfl) (by simp only [aeval, PT.get_set, Nat.reduceEqDiff, reduceIte, if_true]; rfl) (by first | rfl | decide | assumption) (by with_unfolding_all rfl) ?_
    | refine AOs.guardF0 (by with_unfolding_all rfl) (by simp only [aeval, PT.get_set, Nat.reduceEqDiff, reduceIte, if_true]; rfl) (by first | rfl | decide | assumption) ?_
    | refine AW.condT (by simp only [aeval, PT.get_set, Nat.reduceEqDiff, reduceIte, if_true]; rfl) (by first | rfl | decide | assumption) ?_
    | refine AW.condF (by simp only [aeval, PT.get_set, Nat.reduceEqDiff, reduceIte, if_true]; rfl) (by first | rfl | decide | assumption) ?_
    | refine AOs.op1 tOK (by simp only [evOp_move, evOp_assign, evOp_pick, evOp_build, evOp_nilCheck, evOp_binOp, evOp_not, evOp_fieldAddr, evOp_field, evOp_indexAddr, evOp_index, evOp_extract, evOp_makeFunc, evOp_load, evOp_lookup, evOp_store, evOp_mapUpdate, evOp_insert, evOp_range, evOp_makeMap, evOp_len, evOp_append, evOp_copy, evOp_delete, evOp_slice, aeval, ofVal, PT.get_set, Nat.reduceEqDiff, reduceIte, lenOfAV_slice, lenOfAV_nils, lenOfAV_empty, afield, apart, aindex, aconv, cellAt, cellsAt, mapLenAt, List.map_cons, List.map_nil, Option.map_some, Option.map_none, List.nil_append, List.append_nil, abin_add, abin_sub, abin_mul, abin_lss, abin_leq, abin_gtr, abin_geq, abin_eql, abin_neq, cond_true, cond_false, decide_true, decide_false, Bool.not_true, Bool.not_false, TI.agg, List.getElem?_cons_zero, List.getElem?_cons_succ, Nat.add_zero, Nat.zero_add, Nat.zero_mul, nbeq, nble, nblt, Nat.reduceLeDiff, Nat.reduceLT, Nat.reduceMul, Nat.reduceAdd, Nat.reduceSub, Bool.and_true, Bool.true_and, Bool.and_false, Bool.false_and, eq_self, Int.ofNat_eq_natCast, Int.cast_ofNat_Int, Int.natCast_zero, Int.reduceEq, Int.reduceLT, Int.reduceLE, Int.reduceNeg, ld2, ld3, ld4, ld5, al9, ld9, al22, ix22, bs22, ld22, al23, ix23, bs23, ld23, ld27, al29, ix29, bs29, ld29, fa31_0, fa31_1, ld31, fa33_0, fa33_1, fa33_2, ld33, al40, ix40, bs40, ld40, ld44, al50, ix50, bs50, ld50, fa58_0, fa58_1, ld58, fa71_0, fa71_1, ld71, an74, am74, ld74, fa76_0, fa76_1, fa76_2, fa76_3, ld76, an77, am77, ld77, an78, am78, ld78, ld82, ld90, ld93, ld94, fa96_0, fa96_1, fa96_2, ld96, ld97, fa99_0, fa99_1, fa99_2, fa99_3, ld99, ld101, if_true]; rfl) (by with_unfolding_all rfl) ?_
    | refine AOs.op0 tOK (by simp only [evOp_move, evOp_assign, evOp_pick, evOp_build, evOp_nilCheck, evOp_binOp, evOp_not, evOp_fieldAddr, evOp_field, evOp_indexAddr, evOp_index, evOp_extract, evOp_makeFunc, evOp_load, evOp_lookup, evOp_store, evOp_mapUpdate, evOp_insert, evOp_range, evOp_makeMap, evOp_len, evOp_append, evOp_copy, evOp_delete, evOp_slice, aeval, ofVal, PT.get_set, Nat.reduceEqDiff, reduceIte, lenOfAV_slice, lenOfAV_nils, lenOfAV_empty, afield, apart, aindex, aconv, cellAt, cellsAt, mapLenAt, List.map_cons, List.map_nil, Option.map_some, Option.map_none, List.nil_append, List.append_nil, abin_add, abin_sub, abin_mul, abin_lss, abin_leq, abin_gtr, abin_geq, abin_eql, abin_neq, cond_true, cond_false, decide_true, decide_false, Bool.not_true, Bool.not_false, TI.agg, List.getElem?_cons_zero, List.getElem?_cons_succ, Nat.add_zero, Nat.zero_add, Nat.zero_mul, nbeq, nble, nblt, Nat.reduceLeDiff, Nat.reduceLT, Nat.reduceMul, Nat.reduceAdd, Nat.reduceSub, Bool.and_true, Bool.true_and, Bool.and_false, Bool.false_and, eq_self, Int.ofNat_eq_natCast, Int.cast_ofNat_Int, Int.natCast_zero, Int.reduceEq, Int.reduceLT, Int.reduceLE, Int.reduceNeg, ld2, ld3, ld4, ld5, al9, ld9, al22, ix22, bs22, ld22, al23, ix23, bs23, ld23, ld27, al29, ix29, bs29, ld29, fa31_0, fa31_1, ld31, fa33_0, fa33_1, fa33_2, ld33, al40, ix40, bs40, ld40, ld44, al50, ix50, bs50, ld50, fa58_0, fa58_1, ld58, fa71_0, fa71_1, ld71, an74, am74, ld74, fa76_0, fa76_1, fa76_2, fa76_3, ld76, an77, am77, ld77, an78, am78, ld78, ld82, ld90, ld93, ld94, fa96_0, fa96_1, fa96_2, ld96, ld97, fa99_0, fa99_1, fa99_2, fa99_3, ld99, ld101, if_true]; rfl) ?_
    | fail "stop")
  refine fnPost_ret2 (by simp only [PT.get_set, Nat.reduceEqDiff, reduceIte] <;> rfl) (by simp only [PT.get_set, Nat.reduceEqDiff, reduceIte] <;> rfl) ⟨rfl, rfl⟩

theorem app23 (H : AH) (v : AV) (n b0 : Nat) (hl : ChangesAt H v n) (hn : n ≤ 40) : ∃ p, aappend tC H [23, 23] [.slice b0 0 0 (.ex 0) 4, v] = some p := by
  rcases hl with ⟨rfl | rfl, rfl⟩ | ⟨b, c, vs, rfl, hb, hle, hone, hat⟩
  · exact ⟨_, by simp only [aappend, ti23, ti33, aappended, lenOfAV, acells, nbeq, decide_true, cond_true, Option.map_some, allOne, zOK, notJunk, AV.cells, List.length_cons, List.length_nil, Bool.and_true, Nat.zero_mul, if_true]; rfl⟩
  · exact ⟨_, by simp only [aappend, ti23, ti33, aappended, lenOfAV, acells, nbeq, decide_true, cond_true, Option.map_some, allOne, zOK, notJunk, AV.cells, List.length_cons, List.length_nil, Bool.and_true, Nat.zero_mul, if_true]; rfl⟩
  · by_cases h0 : n = 0
    · subst h0
      exact ⟨_, by simp only [aappend, ti23, ti33, aappended, lenOfAV, acells, nbeq, decide_true, cond_true, Option.map_some, allOne, zOK, notJunk, AV.cells, List.length_cons, List.length_nil, Bool.and_true, Nat.zero_mul, if_true]; rfl⟩
    · have h1 : (vs.take (n * 4)).length = n * 4 := by rw [List.length_take]; omega
      have h2 : ¬ n * 4 = 0 := by omega
      have h3 : (2 * n + 1024) * 48 ≤ 281474976710656 := by omega
      have h4 : n ≤ 4611686018427387904 := by omega
      have h5 : ¬ n ≤ 0 := by omega
      exact ⟨_, by simp only [aappend, ti23, ti33, aappended, lenOfAV, acells, hb, List.drop_zero, h1, h2, h0, h3, h4, h5, hone, nbeq, nble, decide_true, decide_false, cond_true, cond_false, Option.map_some, zOK, notJunk, AV.cells, List.length_cons, List.length_nil, Bool.and_true, Nat.zero_mul, if_true, if_false, ACap.low, Nat.zero_add]; rfl⟩

set_option maxHeartbeats 2000000 in
theorem law5 (N : Nat) (H : AH) (v : AV) (n : Nat) (hl : ChangesAt H v n) (hlt : ∀ b o, H.get b = some o → b < H.next) (hlives : ∀ K, AC tC N 0 6 [] K fun r K' => r = .bool true ∧ K' = K) :
    AC tC N 0 5 [v] H fun r _ => r = .bool true := by
  refine AC.by (n := 49) (rs := [.tmp 2]) tOK fn5 rfl rfl rfl rfl ?_
  have e0 : (PT.ofList .leaf 0 [v]).get 0 = some v := rfl
  with_reducible repeat' (first
    | refine AW.seq ?_
    | refine AW.region ?_
    | refine AW.block ?_
    | refine AW.scope ?_
    | refine AOs.nil ?_
    | refine AW.skip ?_
    | refine AW.exit ?_
    | refine AW.ret ?_
    | refine AW.label ?_
    | refine andThen_normal ?_
    | refine andThen_exit ?_
    | refine andThen_ret ?_
    | refine inBlock_normal ?_
    | refine inBlock_hit ?_
    | refine inBlock_ret ?_
    | refine inBlock_miss (by with_unfolding_all rfl) ?_
    | refine AOs.guardN (by with_unfolding_all rfl) (by simp only [aeval, PT.get_set, Nat.reduceEqDiff, reduceIte, if_true]; rfl) (by with_unfolding_all rfl) ?_
    | refine AOs.guardT (by with_unfolding_all rfl) (by simp only [aeval, PT.get_set, Nat.reduceEqDiff, reduceIte, if_true]; rfl) (by first | rfl | decide | assumption) ?_
    | refine AOs.guardF (by with_unfolding_all rfl) (by simp only [aeval, PT.get_set, Nat.reduceEqDiff, reduceIte, if_true]; rfl) (by first | rfl | decide | assumption) (by with_unfolding_all rfl) ?_
    | refine AOs.guardF0 (by with_unfolding_all rfl) (by simp only [aeval, PT.get_set, Nat.reduceEqDiff, reduceIte, if_true]; rfl) (by first | rfl | decide | assumption) ?_
    | refine AW.condT (by simp only [aeval, PT.get_set, Nat.reduceEqDiff, reduceIte, if_true]; rfl) (by first | rfl | decide | assumption) ?_
    | refine AW.condF (by simp only [aeval, PT.get_set, Nat.reduceEqDiff, reduceIte, if_true]; rfl) (by first | rfl | decide | assumption) ?_
    | refine AOs.op1 tOK (by simp only [evOp_move, evOp_assign, evOp_pick, evOp_build, evOp_nilCheck, evOp_binOp, evOp_not, evOp_fieldAddr, evOp_field, evOp_indexAddr, evOp_index, evOp_extract, evOp_makeFunc, evOp_load, evOp_lookup, evOp_store, evOp_mapUpdate, evOp_insert, evOp_range, evOp_makeMap, evOp_len, evOp_append, evOp_copy, evOp_delete, evOp_slice, aeval, ofVal, PT.get_set, Nat.reduceEqDiff, reduceIte, lenOfAV_slice, lenOfAV_nils, lenOfAV_empty, afield, apart, aindex, aconv, cellAt, cellsAt, mapLenAt, List.map_cons, List.map_nil, Option.map_some, Option.map_none, List.nil_append, List.append_nil, abin_add, abin_sub, abin_mul, abin_lss, abin_leq, abin_gtr, abin_geq, abin_eql, abin_neq, cond_true, cond_false, decide_true, decide_false, Bool.not_true, Bool.not_false, TI.agg, List.getElem?_cons_zero, List.getElem?_cons_succ, Nat.add_zero, Nat.zero_add, Nat.zero_mul, nbeq, nble, nblt, Nat.reduceLeDiff, Nat.reduceLT, Nat.reduceMul, Nat.reduceAdd, Nat.reduceSub, Bool.and_true, Bool.true_and, Bool.and_false, Bool.false_and, eq_self, Int.ofNat_eq_natCast, Int.cast_ofNat_Int, Int.natCast_zero, Int.reduceEq, Int.reduceLT, Int.reduceLE, Int.reduceNeg, ld2, ld3, ld4, ld5, al9, ld9, al22, ix22, bs22, ld22, al23, ix23, bs23, ld23, ld27, al29, ix29, bs29, ld29, fa31_0, fa31_1, ld31, fa33_0, fa33_1, fa33_2, ld33, al40, ix40, bs40, ld40, ld44, al50, ix50, bs50, ld50, fa58_0, fa58_1, ld58, fa71_0, fa71_1, ld71, an74, am74, ld74, fa76_0, fa76_1, fa76_2, fa76_3, ld76, an77, am77, ld77, an78, am78, ld78, ld82, ld90, ld93, ld94, fa96_0, fa96_1, fa96_2, ld96, ld97, fa99_0, fa99_1, fa99_2, fa99_3, ld99, ld101, if_true]; rfl) (by with_unfolding_all rfl) ?_
    | refine AOs.op0 tOK (by simp only [evOp_move, evOp_assign, evOp_pick, evOp_build, evOp_nilCheck, evOp_binOp, evOp_not, evOp_fieldAddr, evOp_field, evOp_indexAddr, evOp_index, evOp_extract, evOp_makeFunc, evOp_load, evOp_lookup, evOp_store, evOp_mapUpdate, evOp_insert, evOp_range, evOp_makeMap, evOp_len, evOp_append, evOp_copy, evOp_delete, evOp_slice, aeval, ofVal, PT.get_set, Nat.reduceEqDiff, reduceIte, lenOfAV_slice, lenOfAV_nils, lenOfAV_empty, afield, apart, aindex, aconv, cellAt, cellsAt, mapLenAt, List.map_cons, List.map_nil, Option.map_some, Option.map_none, List.nil_append, List.append_nil, abin_add, abin_sub, abin_mul, abin_lss, abin_leq, abin_gtr, abin_geq, abin_eql, abin_neq, cond_true, cond_false, decide_true, decide_false, Bool.not_true, Bool.not_false, TI.agg, List.getElem?_cons_zero, List.getElem?_cons_succ, Nat.add_zero, Nat.zero_add, Nat.zero_mul, nbeq, nble, nblt, Nat.reduceLeDiff, Nat.reduceLT, Nat.reduceMul, Nat.reduceAdd, Nat.reduceSub, Bool.and_true, Bool.true_and, Bool.and_false, Bool.false_and, eq_self, Int.ofNat_eq_natCast, Int.cast_ofNat_Int, Int.natCast_zero, Int.reduceEq, Int.reduceLT, Int.reduceLE, Int.reduceNeg, ld2, ld3, ld4, ld5, al9, ld9, al22, ix22, bs22, ld22, al23, ix23, bs23, ld23, ld27, al29, ix29, bs29, ld29, fa31_0, fa31_1, ld31, fa33_0, fa33_1, fa33_2, ld33, al40, ix40, bs40, ld40, ld44, al50, ix50, bs50, ld50, fa58_0, fa58_1, ld58, fa71_0, fa71_1, ld71, an74, am74, ld74, fa76_0, fa76_1, fa76_2, fa76_3, ld76, an77, am77, ld77, an78, am78, ld78, ld82, ld90, ld93, ld94, fa96_0, fa96_1, fa96_2, ld96, ld97, fa99_0, fa99_1, fa99_2, fa99_3, ld99, ld101, if_true]; rfl) ?_
    | fail "stop")
  refine AOs.callQ tOK (fs := []) (cs := []) rfl fn6 ok6 rfl (by simp only [List.map_cons, List.map_nil, List.nil_append, List.append_nil, List.cons_append, aeval, ofVal, PT.get_set, Nat.reduceEqDiff, reduceIte] <;> rfl) (hlives _) ?_
  rintro r K1 ⟨rfl, rfl⟩
  with_reducible repeat' (first
    | refine AW.seq ?_
    | refine AW.region ?_
    | refine AW.block ?_
    | refine AW.scope ?_
    | refine AOs.nil ?_
    | refine AW.skip ?_
    | refine AW.exit ?_
    | refine AW.ret ?_
    | refine AW.label ?_
    | refine andThen_normal ?_
    | refine andThen_exit ?_
    | refine andThen_ret ?_
    | refine inBlock_normal ?_
    | refine inBlock_hit ?_
    | refine inBlock_ret ?_
    | refine inBlock_miss (by with_unfolding_all rfl) ?_
    | refine AOs.guardN (by with_unfolding_all rfl) (by simp only [aeval, PT.get_set, Nat.reduceEqDiff, reduceIte, e0]; rfl) (by with_unfolding_all rfl) ?_
    | refine AOs.guardT (by with_unfolding_all rfl) (by simp only [aeval, PT.get_set, Nat.reduceEqDiff, reduceIte, e0]; rfl) (by first | rfl | decide | assumption) ?_
    | refine AOs.guardF (by with_unfolding_all rfl) (by simp only [aeval, PT.get_set, Nat.reduceEqDiff, reduceIte, e0]; rfl) (by first | rfl | decide | assumption) (by with_unfolding_all rfl) ?_
    | refine AOs.guardF0 (by with_unfolding_all rfl) (by simp only [aeval, PT.get_set, Nat.reduceEqDiff, reduceIte, e0]; rfl) (by first | rfl | decide | assumption) ?_
    | refine AW.condT (by simp only [aeval, PT.get_set, Nat.reduceEqDiff, reduceIte, e0]; rfl) (by first | rfl | decide | assumption) ?_
    | refine AW.condF (by simp only [aeval, PT.get_set, Nat.reduceEqDiff, reduceIte, e0]; rfl) (by first | rfl | decide | assumption) ?_
    | refine AOs.op1 tOK (by simp only [evOp_move, evOp_assign, evOp_pick, evOp_build, evOp_nilCheck, evOp_binOp, evOp_not, evOp_fieldAddr, evOp_field, evOp_indexAddr, evOp_index, evOp_extract, evOp_makeFunc, evOp_load, evOp_lookup, evOp_store, evOp_mapUpdate, evOp_insert, evOp_range, evOp_makeMap, evOp_len, evOp_append, evOp_copy, evOp_delete, evOp_slice, aeval, ofVal, PT.get_set, Nat.reduceEqDiff, reduceIte, lenOfAV_slice, lenOfAV_nils, lenOfAV_empty, afield, apart, aindex, aconv, cellAt, cellsAt, mapLenAt, List.map_cons, List.map_nil, Option.map_some, Option.map_none, List.nil_append, List.append_nil, abin_add, abin_sub, abin_mul, abin_lss, abin_leq, abin_gtr, abin_geq, abin_eql, abin_neq, cond_true, cond_false, decide_true, decide_false, Bool.not_true, Bool.not_false, TI.agg, List.getElem?_cons_zero, List.getElem?_cons_succ, Nat.add_zero, Nat.zero_add, Nat.zero_mul, nbeq, nble, nblt, Nat.reduceLeDiff, Nat.reduceLT, Nat.reduceMul, Nat.reduceAdd, Nat.reduceSub, Bool.and_true, Bool.true_and, Bool.and_false, Bool.false_and, eq_self, Int.ofNat_eq_natCast, Int.cast_ofNat_Int, Int.natCast_zero, Int.reduceEq, Int.reduceLT, Int.reduceLE, Int.reduceNeg, ld2, ld3, ld4, ld5, al9, ld9, al22, ix22, bs22, ld22, al23, ix23, bs23, ld23, ld27, al29, ix29, bs29, ld29, fa31_0, fa31_1, ld31, fa33_0, fa33_1, fa33_2, ld33, al40, ix40, bs40, ld40, ld44, al50, ix50, bs50, ld50, fa58_0, fa58_1, ld58, fa71_0, fa71_1, ld71, an74, am74, ld74, fa76_0, fa76_1, fa76_2, fa76_3, ld76, an77, am77, ld77, an78, am78, ld78, ld82, ld90, ld93, ld94, fa96_0, fa96_1, fa96_2, ld96, ld97, fa99_0, fa99_1, fa99_2, fa99_3, ld99, ld101, e0]; rfl) (by with_unfolding_all rfl) ?_
    | refine AOs.op0 tOK (by simp only [evOp_move, evOp_assign, evOp_pick, evOp_build, evOp_nilCheck, evOp_binOp, evOp_not, evOp_fieldAddr, evOp_field, evOp_indexAddr, evOp_index, evOp_extract, evOp_makeFunc, evOp_load, evOp_lookup, evOp_store, evOp_mapUpdate, evOp_insert, evOp_range, evOp_makeMap, evOp_len, evOp_append, evOp_copy, evOp_delete, evOp_slice, aeval, ofVal, PT.get_set, Nat.reduceEqDiff, reduceIte, lenOfAV_slice, lenOfAV_nils, lenOfAV_empty, afield, apart, aindex, aconv, cellAt, cellsAt, mapLenAt, List.map_cons, List.map_nil, Option.map_some, Option.map_none, List.nil_append, List.append_nil, abin_add, abin_sub, abin_mul, abin_lss, abin_leq, abin_gtr, abin_geq, abin_eql, abin_neq, cond_true, cond_false, decide_true, decide_false, Bool.not_true, Bool.not_false, TI.agg, List.getElem?_cons_zero, List.getElem?_cons_succ, Nat.add_zero, Nat.zero_add, Nat.zero_mul, nbeq, nble, nblt, Nat.reduceLeDiff, Nat.reduceLT, Nat.reduceMul, Nat.reduceAdd, Nat.reduceSub, Bool.and_true, Bool.true_and, Bool.and_false, Bool.false_and, eq_self, Int.ofNat_eq_natCast, Int.cast_ofNat_Int, Int.natCast_zero, Int.reduceEq, Int.reduceLT, Int.reduceLE, Int.reduceNeg, ld2, ld3, ld4, ld5, al9, ld9, al22, ix22, bs22, ld22, al23, ix23, bs23, ld23, ld27, al29, ix29, bs29, ld29, fa31_0, fa31_1, ld31, fa33_0, fa33_1, fa33_2, ld33, al40, ix40, bs40, ld40, ld44, al50, ix50, bs50, ld50, fa58_0, fa58_1, ld58, fa71_0, fa71_1, ld71, an74, am74, ld74, fa76_0, fa76_1, fa76_2, fa76_3, ld76, an77, am77, ld77, an78, am78, ld78, ld82, ld90, ld93, ld94, fa96_0, fa96_1, fa96_2, ld96, ld97, fa99_0, fa99_1, fa99_2, fa99_3, ld99, ld101, e0]; rfl) ?_
    | fail "stop")
  refine AOs.callQ tOK (fs := []) (cs := []) rfl fn8 ok8 rfl (by simp only [List.map_cons, List.map_nil, List.nil_append, List.append_nil, List.cons_append, aeval, ofVal, PT.get_set, Nat.reduceEqDiff, reduceIte] <;> rfl) (light8 N _ v n hl) ?_
  rintro r K1 ⟨rfl, x, rfl, hx⟩
  cases x
  · with_reducible repeat' (first
      | refine AW.seq ?_
      | refine AW.region ?_
      | refine AW.block ?_
      | refine AW.scope ?_
      | refine AOs.nil ?_
      | refine AW.skip ?_
      | refine AW.exit ?_
      | refine AW.ret ?_
      | refine AW.label ?_
      | refine andThen_normal ?_
      | refine andThen_exit ?_
      | refine andThen_ret ?_
      | refine inBlock_normal ?_
      | refine inBlock_hit ?_
      | refine inBlock_ret ?_
      | refine inBlock_miss (by with_unfolding_all rfl) ?_
      | refine AOs.guardN (by with_unfolding_all rfl) (by simp only [aeval, PT.get_set, Nat.reduceEqDiff, reduceIte, e0]; rfl) (by with_unfolding_all rfl) ?_
      | refine AOs.guardT (by with_unfolding_all rfl) (by simp only [aeval, PT.get_set, Nat.reduceEqDiff, reduceIte, e0]; rfl) (by first | rfl | decide | assumption) ?_
      | refine AOs.guardF (by with_unfolding_all rfl) (by simp only [aeval, PT.get_set, Nat.reduceEqDiff, reduceIte, e0]; rfl) (by first | rfl | decide | assumption) (by with_unfolding_all rfl) ?_
      | refine AOs.guardF0 (by with_unfolding_all rfl) (by simp only [aeval, PT.get_set, Nat.reduceEqDiff, reduceIte, e0]; rfl) (by first | rfl | decide | assumption) ?_
      | refine AW.condT (by simp only [aeval, PT.get_set, Nat.reduceEqDiff, reduceIte, e0]; rfl) (by first | rfl | decide | assumption) ?_
      | refine AW.condF (by simp only [aeval, PT.get_set, Nat.reduceEqDiff, reduceIte, e0]; rfl) (by first | rfl | decide | assumption) ?_
      | refine AOs.op1 tOK (by simp only [evOp_move, evOp_assign, evOp_pick, evOp_build, evOp_nilCheck, evOp_binOp, evOp_not, evOp_fieldAddr, evOp_field, evOp_indexAddr, evOp_index, evOp_extract, evOp_makeFunc, evOp_load, evOp_lookup, evOp_store, evOp_mapUpdate, evOp_insert, evOp_range, evOp_makeMap, evOp_len, evOp_append, evOp_copy, evOp_delete, evOp_slice, aeval, ofVal, PT.get_set, Nat.reduceEqDiff, reduceIte, lenOfAV_slice, lenOfAV_nils, lenOfAV_empty, afield, apart, aindex, aconv, cellAt, cellsAt, mapLenAt, List.map_cons, List.map_nil, Option.map_some, Option.map_none, List.nil_append, List.append_nil, abin_add, abin_sub, abin_mul, abin_lss, abin_leq, abin_gtr, abin_geq, abin_eql, abin_neq, cond_true, cond_false, decide_true, decide_false, Bool.not_true, Bool.not_false, TI.agg, List.getElem?_cons_zero, List.getElem?_cons_succ, Nat.add_zero, Nat.zero_add, Nat.zero_mul, nbeq, nble, nblt, Nat.reduceLeDiff, Nat.reduceLT, Nat.reduceMul, Nat.reduceAdd, Nat.reduceSub, Bool.and_true, Bool.true_and, Bool.and_false, Bool.false_and, eq_self, Int.ofNat_eq_natCast, Int.cast_ofNat_Int, Int.natCast_zero, Int.reduceEq, Int.reduceLT, Int.reduceLE, Int.reduceNeg, ld2, ld3, ld4, ld5, al9, ld9, al22, ix22, bs22, ld22, al23, ix23, bs23, ld23, ld27, al29, ix29, bs29, ld29, fa31_0, fa31_1, ld31, fa33_0, fa33_1, fa33_2, ld33, al40, ix40, bs40, ld40, ld44, al50, ix50, bs50, ld50, fa58_0, fa58_1, ld58, fa71_0, fa71_1, ld71, an74, am74, ld74, fa76_0, fa76_1, fa76_2, fa76_3, ld76, an77, am77, ld77, an78, am78, ld78, ld82, ld90, ld93, ld94, fa96_0, fa96_1, fa96_2, ld96, ld97, fa99_0, fa99_1, fa99_2, fa99_3, ld99, ld101, e0]; rfl) (by with_unfolding_all rfl) ?_
      | refine AOs.op0 tOK (by simp only [evOp_move, evOp_assign, evOp_pick, evOp_build, evOp_nilCheck, evOp_binOp, evOp_not, evOp_fieldAddr, evOp_field, evOp_indexAddr, evOp_index, evOp_extract, evOp_makeFunc, evOp_load, evOp_lookup, evOp_store, evOp_mapUpdate, evOp_insert, evOp_range, evOp_makeMap, evOp_len, evOp_append, evOp_copy, evOp_delete, evOp_slice, aeval, ofVal, PT.get_set, Nat.reduceEqDiff, reduceIte, lenOfAV_slice, lenOfAV_nils, lenOfAV_empty, afield, apart, aindex, aconv, cellAt, cellsAt, mapLenAt, List.map_cons, List.map_nil, Option.map_some, Option.map_none, List.nil_append, List.append_nil, abin_add, abin_sub, abin_mul, abin_lss, abin_leq, abin_gtr, abin_geq, abin_eql, abin_neq, cond_true, cond_false, decide_true, decide_false, Bool.not_true, Bool.not_false, TI.agg, List.getElem?_cons_zero, List.getElem?_cons_succ, Nat.add_zero, Nat.zero_add, Nat.zero_mul, nbeq, nble, nblt, Nat.reduceLeDiff, Nat.reduceLT, Nat.reduceMul, Nat.reduceAdd, Nat.reduceSub, Bool.and_true, Bool.true_and, Bool.and_false, Bool.false_and, eq_self, Int.ofNat_eq_natCast, Int.cast_ofNat_Int, Int.natCast_zero, Int.reduceEq, Int.reduceLT, Int.reduceLE, Int.reduceNeg, ld2, ld3, ld4, ld5, al9, ld9, al22, ix22, bs22, ld22, al23, ix23, bs23, ld23, ld27, al29, ix29, bs29, ld29, fa31_0, fa31_1, ld31, fa33_0, fa33_1, fa33_2, ld33, al40, ix40, bs40, ld40, ld44, al50, ix50, bs50, ld50, fa58_0, fa58_1, ld58, fa71_0, fa71_1, ld71, an74, am74, ld74, fa76_0, fa76_1, fa76_2, fa76_3, ld76, an77, am77, ld77, an78, am78, ld78, ld82, ld90, ld93, ld94, fa96_0, fa96_1, fa96_2, ld96, ld97, fa99_0, fa99_1, fa99_2, fa99_3, ld99, ld101, e0]; rfl) ?_
      | fail "stop")
    exact fnPost_ret1 (by simp only [PT.get_set, Nat.reduceEqDiff, reduceIte] <;> rfl) rfl
  · have hn := hx rfl
    have hl' : ChangesAt (K1.alloc (.cells false [])) v n := by
      rcases hl with h | ⟨b, c, vs, rfl, hb, hle, hone, hat⟩
      · exact .inl h
      · refine .inr ⟨b, c, vs, rfl, by rw [AH.get_alloc, if_neg (by have := hlt _ _ hb; omega)]; exact hb, hle, hone, fun i hi => ?_⟩
        obtain ⟨lv, l, h1, h2⟩ := hat i hi
        refine ⟨lv, l, h1, ?_⟩
        rcases h2 with h | ⟨b, o, c, ro, us, e, hb, r⟩
        · exact .inl h
        · exact .inr ⟨b, o, c, ro, us, e, by rw [AH.get_alloc, if_neg (by have := hlt _ _ hb; omega)]; exact hb, r⟩
    obtain ⟨⟨s, K2⟩, hs⟩ := app23 _ v n K1.next hl' hn
    with_reducible repeat' (first
      | refine AW.seq ?_
      | refine AW.region ?_
      | refine AW.block ?_
      | refine AW.scope ?_
      | refine AOs.nil ?_
      | refine AW.skip ?_
      | refine AW.exit ?_
      | refine AW.ret ?_
      | refine AW.label ?_
      | refine andThen_normal ?_
      | refine andThen_exit ?_
      | refine andThen_ret ?_
      | refine inBlock_normal ?_
      | refine inBlock_hit ?_
      | refine inBlock_ret ?_
      | refine inBlock_miss (by with_unfolding_all rfl) ?_
      | refine AOs.guardN (by with_unfolding_all rfl) (by simp only [aeval, PT.get_set, Nat.reduceEqDiff, reduceIte, e0, hs]; rfl) (by with_unfolding_all rfl) ?_
      | refine AOs.guardT (by with_unfolding_all rfl) (by simp only [aeval, PT.get_set, Nat.reduceEqDiff, reduceIte, e0, hs]; rfl) (by first | rfl | decide | assumption) ?_
      | refine AOs.guardF (by with_unfolding_all rfl) (by simp only [aeval, PT.get_set, Nat.reduceEqDiff, reduceIte, e0, hs]; rfl) (by first | rfl | decide | assumption) (by with_unfolding_all rfl) ?_
      | refine AOs.guardF0 (by with_unfolding_all rfl) (by simp only [aeval, PT.get_set, Nat.reduceEqDiff, reduceIte, e0, hs]; rfl) (by first | rfl | decide | assumption) ?_
      | refine AW.condT (by simp only [aeval, PT.get_set, Nat.reduceEqDiff, reduceIte, e0, hs]; rfl) (by first | rfl | decide | assumption) ?_
      | refine AW.condF (by simp only [aeval, PT.get_set, Nat.reduceEqDiff, reduceIte, e0, hs]; rfl) (by first | rfl | decide | assumption) ?_
      | refine AOs.op1 tOK (by simp only [evOp_move, evOp_assign, evOp_pick, evOp_build, evOp_nilCheck, evOp_binOp, evOp_not, evOp_fieldAddr, evOp_field, evOp_indexAddr, evOp_index, evOp_extract, evOp_makeFunc, evOp_load, evOp_lookup, evOp_store, evOp_mapUpdate, evOp_insert, evOp_range, evOp_makeMap, evOp_len, evOp_append, evOp_copy, evOp_delete, evOp_slice, aeval, ofVal, PT.get_set, Nat.reduceEqDiff, reduceIte, lenOfAV_slice, lenOfAV_nils, lenOfAV_empty, afield, apart, aindex, aconv, cellAt, cellsAt, mapLenAt, List.map_cons, List.map_nil, Option.map_some, Option.map_none, List.nil_append, List.append_nil, abin_add, abin_sub, abin_mul, abin_lss, abin_leq, abin_gtr, abin_geq, abin_eql, abin_neq, cond_true, cond_false, decide_true, decide_false, Bool.not_true, Bool.not_false, TI.agg, List.getElem?_cons_zero, List.getElem?_cons_succ, Nat.add_zero, Nat.zero_add, Nat.zero_mul, nbeq, nble, nblt, Nat.reduceLeDiff, Nat.reduceLT, Nat.reduceMul, Nat.reduceAdd, Nat.reduceSub, Bool.and_true, Bool.true_and, Bool.and_false, Bool.false_and, eq_self, Int.ofNat_eq_natCast, Int.cast_ofNat_Int, Int.natCast_zero, Int.reduceEq, Int.reduceLT, Int.reduceLE, Int.reduceNeg, ld2, ld3, ld4, ld5, al9, ld9, al22, ix22, bs22, ld22, al23, ix23, bs23, ld23, ld27, al29, ix29, bs29, ld29, fa31_0, fa31_1, ld31, fa33_0, fa33_1, fa33_2, ld33, al40, ix40, bs40, ld40, ld44, al50, ix50, bs50, ld50, fa58_0, fa58_1, ld58, fa71_0, fa71_1, ld71, an74, am74, ld74, fa76_0, fa76_1, fa76_2, fa76_3, ld76, an77, am77, ld77, an78, am78, ld78, ld82, ld90, ld93, ld94, fa96_0, fa96_1, fa96_2, ld96, ld97, fa99_0, fa99_1, fa99_2, fa99_3, ld99, ld101, e0, hs]; rfl) (by with_unfolding_all rfl) ?_
      | refine AOs.op0 tOK (by simp only [evOp_move, evOp_assign, evOp_pick, evOp_build, evOp_nilCheck, evOp_binOp, evOp_not, evOp_fieldAddr, evOp_field, evOp_indexAddr, evOp_index, evOp_extract, evOp_makeFunc, evOp_load, evOp_lookup, evOp_store, evOp_mapUpdate, evOp_insert, evOp_range, evOp_makeMap, evOp_len, evOp_append, evOp_copy, evOp_delete, evOp_slice, aeval, ofVal, PT.get_set, Nat.reduceEqDiff, reduceIte, lenOfAV_slice, lenOfAV_nils, lenOfAV_empty, afield, apart, aindex, aconv, cellAt, cellsAt, mapLenAt, List.map_cons, List.map_nil, Option.map_some, Option.map_none, List.nil_append, List.append_nil, abin_add, abin_sub, abin_mul, abin_lss, abin_leq, abin_gtr, abin_geq, abin_eql, abin_neq, cond_true, cond_false, decide_true, decide_false, Bool.not_true, Bool.not_false, TI.agg, List.getElem?_cons_zero, List.getElem?_cons_succ, Nat.add_zero, Nat.zero_add, Nat.zero_mul, nbeq, nble, nblt, Nat.reduceLeDiff, Nat.reduceLT, Nat.reduceMul, Nat.reduceAdd, Nat.reduceSub, Bool.and_true, Bool.true_and, Bool.and_false, Bool.false_and, eq_self, Int.ofNat_eq_natCast, Int.cast_ofNat_Int, Int.natCast_zero, Int.reduceEq, Int.reduceLT, Int.reduceLE, Int.reduceNeg, ld2, ld3, ld4, ld5, al9, ld9, al22, ix22, bs22, ld22, al23, ix23, bs23, ld23, ld27, al29, ix29, bs29, ld29, fa31_0, fa31_1, ld31, fa33_0, fa33_1, fa33_2, ld33, al40, ix40, bs40, ld40, ld44, al50, ix50, bs50, ld50, fa58_0, fa58_1, ld58, fa71_0, fa71_1, ld71, an74, am74, ld74, fa76_0, fa76_1, fa76_2, fa76_3, ld76, an77, am77, ld77, an78, am78, ld78, ld82, ld90, ld93, ld94, fa96_0, fa96_1, fa96_2, ld96, ld97, fa99_0, fa99_1, fa99_2, fa99_3, ld99, ld101, e0, hs]; rfl) ?_
      | fail "stop")
    refine AOs.callQ tOK (fs := []) (cs := []) rfl fn20 ok20 rfl (by simp only [List.map_cons, List.map_nil, List.nil_append, List.append_nil, List.cons_append, aeval, ofVal, PT.get_set, Nat.reduceEqDiff, reduceIte] <;> rfl) (nil20 N _ s) ?_
    rintro r K3 ⟨rfl, rfl⟩
    with_reducible repeat' (first
      | refine AW.seq ?_
      | refine AW.region ?_
      | refine AW.block ?_
      | refine AW.scope ?_
      | refine AOs.nil ?_
      | refine AW.skip ?_
      | refine AW.exit ?_
      | refine AW.ret ?_
      | refine AW.label ?_
      | refine andThen_normal ?_
      | refine andThen_exit ?_
      | refine andThen_ret ?_
      | refine inBlock_normal ?_
      | refine inBlock_hit ?_
      | refine inBlock_ret ?_
      | refine inBlock_miss (by with_unfolding_all rfl) ?_
      | refine AOs.guardN (by with_unfolding_all rfl) (by simp only [aeval, PT.get_set, Nat.reduceEqDiff, reduceIte, if_true]; rfl) (by with_unfolding_all rfl) ?_
      | refine AOs.guardT (by with_unfolding_all rfl) (by simp only [aeval, PT.get_set, Nat.reduceEqDiff, reduceIte, if_true]; rfl) (by first | rfl | decide | assumption) ?_
      | refine AOs.guardF (by with_unfolding_all rfl) (by simp only [aeval, PT.get_set, Nat.reduceEqDiff, reduceIte, if_true]; rfl) (by first | rfl | decide | assumption) (by with_unfolding_all rfl) ?_
      | refine AOs.guardF0 (by with_unfolding_all rfl) (by simp only [aeval, PT.get_set, Nat.reduceEqDiff, reduceIte, if_true]; rfl) (by first | rfl | decide | assumption) ?_
      | refine AW.condT (by simp only [aeval, PT.get_set, Nat.reduceEqDiff, reduceIte, if_true]; rfl) (by first | rfl | decide | assumption) ?_
      | refine AW.condF (by simp only [aeval, PT.get_set, Nat.reduceEqDiff, reduceIte, if_true]; rfl) (by first | rfl | decide | assumption) ?_
      | refine AOs.op1 tOK (by simp only [evOp_move, evOp_assign, evOp_pick, evOp_build, evOp_nilCheck, evOp_binOp, evOp_not, evOp_fieldAddr, evOp_field, evOp_indexAddr, evOp_index, evOp_extract, evOp_makeFunc, evOp_load, evOp_lookup, evOp_store, evOp_mapUpdate, evOp_insert, evOp_range, evOp_makeMap, evOp_len, evOp_append, evOp_copy, evOp_delete, evOp_slice, aeval, ofVal, PT.get_set, Nat.reduceEqDiff, reduceIte, lenOfAV_slice, lenOfAV_nils, lenOfAV_empty, afield, apart, aindex, aconv, cellAt, cellsAt, mapLenAt, List.map_cons, List.map_nil, Option.map_some, Option.map_none, List.nil_append, List.append_nil, abin_add, abin_sub, abin_mul, abin_lss, abin_leq, abin_gtr, abin_geq, abin_eql, abin_neq, cond_true, cond_false, decide_true, decide_false, Bool.not_true, Bool.not_false, TI.agg, List.getElem?_cons_zero, List.getElem?_cons_succ, Nat.add_zero, Nat.zero_add, Nat.zero_mul, nbeq, nble, nblt, Nat.reduceLeDiff, Nat.reduceLT, Nat.reduceMul, Nat.reduceAdd, Nat.reduceSub, Bool.and_true, Bool.true_and, Bool.and_false, Bool.false_and, eq_self, Int.ofNat_eq_natCast, Int.cast_ofNat_Int, Int.natCast_zero, Int.reduceEq, Int.reduceLT, Int.reduceLE, Int.reduceNeg, ld2, ld3, ld4, ld5, al9, ld9, al22, ix22, bs22, ld22, al23, ix23, bs23, ld23, ld27, al29, ix29, bs29, ld29, fa31_0, fa31_1, ld31, fa33_0, fa33_1, fa33_2, ld33, al40, ix40, bs40, ld40, ld44, al50, ix50, bs50, ld50, fa58_0, fa58_1, ld58, fa71_0, fa71_1, ld71, an74, am74, ld74, fa76_0, fa76_1, fa76_2, fa76_3, ld76, an77, am77, ld77, an78, am78, ld78, ld82, ld90, ld93, ld94, fa96_0, fa96_1, fa96_2, ld96, ld97, fa99_0, fa99_1, fa99_2, fa99_3, ld99, ld101, if_true]; rfl) (by with_unfolding_all rfl) ?_
      | refine AOs.op0 tOK (by simp only [evOp_move, evOp_assign, evOp_pick, evOp_build, evOp_nilCheck, evOp_binOp, evOp_not, evOp_fieldAddr, evOp_field, evOp_indexAddr, evOp_index, evOp_extract, evOp_makeFunc, evOp_load, evOp_lookup, evOp_store, evOp_mapUpdate, evOp_insert, evOp_range, evOp_makeMap, evOp_len, evOp_append, evOp_copy, evOp_delete, evOp_slice, aeval, ofVal, PT.get_set, Nat.reduceEqDiff, reduceIte, lenOfAV_slice, lenOfAV_nils, lenOfAV_empty, afield, apart, aindex, aconv, cellAt, cellsAt, mapLenAt, List.map_cons, List.map_nil, Option.map_some, Option.map_none, List.nil_append, List.append_nil, abin_add, abin_sub, abin_mul, abin_lss, abin_leq, abin_gtr, abin_geq, abin_eql, abin_neq, cond_true, cond_false, decide_true, decide_false, Bool.not_true, Bool.not_false, TI.agg, List.getElem?_cons_zero, List.getElem?_cons_succ, Nat.add_zero, Nat.zero_add, Nat.zero_mul, nbeq, nble, nblt, Nat.reduceLeDiff, Nat.reduceLT, Nat.reduceMul, Nat.reduceAdd, Nat.reduceSub, Bool.and_true, Bool.true_and, Bool.and_false, Bool.false_and, eq_self, Int.ofNat_eq_natCast, Int.cast_ofNat_Int, Int.natCast_zero, Int.reduceEq, Int.reduceLT, Int.reduceLE, Int.reduceNeg, ld2, ld3, ld4, ld5, al9, ld9, al22, ix22, bs22, ld22, al23, ix23, bs23, ld23, ld27, al29, ix29, bs29, ld29, fa31_0, fa31_1, ld31, fa33_0, fa33_1, fa33_2, ld33, al40, ix40, bs40, ld40, ld44, al50, ix50, bs50, ld50, fa58_0, fa58_1, ld58, fa71_0, fa71_1, ld71, an74, am74, ld74, fa76_0, fa76_1, fa76_2, fa76_3, ld76, an77, am77, ld77, an78, am78, ld78, ld82, ld90, ld93, ld94, fa96_0, fa96_1, fa96_2, ld96, ld97, fa99_0, fa99_1, fa99_2, fa99_3, ld99, ld101, if_true]; rfl) ?_
      | fail "stop")
    refine AOs.callQ tOK (fs := []) (cs := []) rfl fn21 ok21 rfl (by simp only [List.map_cons, List.map_nil, List.nil_append, List.append_nil, List.cons_append, aeval, ofVal, PT.get_set, Nat.reduceEqDiff, reduceIte] <;> rfl) (ac_ev (nil21 _)) ?_
    rintro r K4 ⟨rfl, rfl⟩
    with_reducible repeat' (first
      | refine AW.seq ?_
      | refine AW.region ?_
      | refine AW.block ?_
      | refine AW.scope ?_
      | refine AOs.nil ?_
      | refine AW.skip ?_
      | refine AW.exit ?_
      | refine AW.ret ?_
      | refine AW.label ?_
      | refine andThen_normal ?_
      | refine andThen_exit ?_
      | refine andThen_ret ?_
      | refine inBlock_normal ?_
      | refine inBlock_hit ?_
      | refine inBlock_ret ?_
      | refine inBlock_miss (by with_unfolding_all rfl) ?_
      | refine AOs.guardN (by with_unfolding_all rfl) (by simp only [aeval, PT.get_set, Nat.reduceEqDiff, reduceIte, if_true]; rfl) (by with_unfolding_all rfl) ?_
      | refine AOs.guardT (by with_unfolding_all rfl) (by simp only [aeval, PT.get_set, Nat.reduceEqDiff, reduceIte, if_true]; rfl) (by first | rfl | decide | assumption) ?_
      | refine AOs.guardF (by with_unfolding_all rfl) (by simp only [aeval, PT.get_set, Nat.reduceEqDiff, reduceIte, if_true]; rfl) (by first | rfl | decide | assumption) (by with_unfolding_all rfl) ?_
      | refine AOs.guardF0 (by with_unfolding_all rfl) (by simp only [aeval, PT.get_set, Nat.reduceEqDiff, reduceIte, if_true]; rfl) (by first | rfl | decide | assumption) ?_
      | refine AW.condT (by simp only [aeval, PT.get_set, Nat.reduceEqDiff, reduceIte, if_true]; rfl) (by first | rfl | decide | assumption) ?_
      | refine AW.condF (by simp only [aeval, PT.get_set, Nat.reduceEqDiff, reduceIte, if_true]; rfl) (by first | rfl | decide | assumption) ?_
      | refine AOs.op1 tOK (by simp only [evOp_move, evOp_assign, evOp_pick, evOp_build, evOp_nilCheck, evOp_binOp, evOp_not, evOp_fieldAddr, evOp_field, evOp_indexAddr, evOp_index, evOp_extract, evOp_makeFunc, evOp_load, evOp_lookup, evOp_store, evOp_mapUpdate, evOp_insert, evOp_range, evOp_makeMap, evOp_len, evOp_append, evOp_copy, evOp_delete, evOp_slice, aeval, ofVal, PT.get_set, Nat.reduceEqDiff, reduceIte, lenOfAV_slice, lenOfAV_nils, lenOfAV_empty, afield, apart, aindex, aconv, cellAt, cellsAt, mapLenAt, List.map_cons, List.map_nil, Option.map_some, Option.map_none, List.nil_append, List.append_nil, abin_add, abin_sub, abin_mul, abin_lss, abin_leq, abin_gtr, abin_geq, abin_eql, abin_neq, cond_true, cond_false, decide_true, decide_false, Bool.not_true, Bool.not_false, TI.agg, List.getElem?_cons_zero, List.getElem?_cons_succ, Nat.add_zero, Nat.zero_add, Nat.zero_mul, nbeq, nble, nblt, Nat.reduceLeDiff, Nat.reduceLT, Nat.reduceMul, Nat.reduceAdd, Nat.reduceSub, Bool.and_true, Bool.true_and, Bool.and_false, Bool.false_and, eq_self, Int.ofNat_eq_natCast, Int.cast_ofNat_Int, Int.natCast_zero, Int.reduceEq, Int.reduceLT, Int.reduceLE, Int.reduceNeg, ld2, ld3, ld4, ld5, al9, ld9, al22, ix22, bs22, ld22, al23, ix23, bs23, ld23, ld27, al29, ix29, bs29, ld29, fa31_0, fa31_1, ld31, fa33_0, fa33_1, fa33_2, ld33, al40, ix40, bs40, ld40, ld44, al50, ix50, bs50, ld50, fa58_0, fa58_1, ld58, fa71_0, fa71_1, ld71, an74, am74, ld74, fa76_0, fa76_1, fa76_2, fa76_3, ld76, an77, am77, ld77, an78, am78, ld78, ld82, ld90, ld93, ld94, fa96_0, fa96_1, fa96_2, ld96, ld97, fa99_0, fa99_1, fa99_2, fa99_3, ld99, ld101, if_true]; rfl) (by with_unfolding_all rfl) ?_
      | refine AOs.op0 tOK (by simp only [evOp_move, evOp_assign, evOp_pick, evOp_build, evOp_nilCheck, evOp_binOp, evOp_not, evOp_fieldAddr, evOp_field, evOp_indexAddr, evOp_index, evOp_extract, evOp_makeFunc, evOp_load, evOp_lookup, evOp_store, evOp_mapUpdate, evOp_insert, evOp_range, evOp_makeMap, evOp_len, evOp_append, evOp_copy, evOp_delete, evOp_slice, aeval, ofVal, PT.get_set, Nat.reduceEqDiff, reduceIte, lenOfAV_slice, lenOfAV_nils, lenOfAV_empty, afield, apart, aindex, aconv, cellAt, cellsAt, mapLenAt, List.map_cons, List.map_nil, Option.map_some, Option.map_none, List.nil_append, List.append_nil, abin_add, abin_sub, abin_mul, abin_lss, abin_leq, abin_gtr, abin_geq, abin_eql, abin_neq, cond_true, cond_false, decide_true, decide_false, Bool.not_true, Bool.not_false, TI.agg, List.getElem?_cons_zero, List.getElem?_cons_succ, Nat.add_zero, Nat.zero_add, Nat.zero_mul, nbeq, nble, nblt, Nat.reduceLeDiff, Nat.reduceLT, Nat.reduceMul, Nat.reduceAdd, Nat.reduceSub, Bool.and_true, Bool.true_and, Bool.and_false, Bool.false_and, eq_self, Int.ofNat_eq_natCast, Int.cast_ofNat_Int, Int.natCast_zero, Int.reduceEq, Int.reduceLT, Int.reduceLE, Int.reduceNeg, ld2, ld3, ld4, ld5, al9, ld9, al22, ix22, bs22, ld22, al23, ix23, bs23, ld23, ld27, al29, ix29, bs29, ld29, fa31_0, fa31_1, ld31, fa33_0, fa33_1, fa33_2, ld33, al40, ix40, bs40, ld40, ld44, al50, ix50, bs50, ld50, fa58_0, fa58_1, ld58, fa71_0, fa71_1, ld71, an74, am74, ld74, fa76_0, fa76_1, fa76_2, fa76_3, ld76, an77, am77, ld77, an78, am78, ld78, ld82, ld90, ld93, ld94, fa96_0, fa96_1, fa96_2, ld96, ld97, fa99_0, fa99_1, fa99_2, fa99_3, ld99, ld101, if_true]; rfl) ?_
      | fail "stop")
    refine AOs.callQ tOK (fs := []) (cs := []) rfl fn22 ok22 rfl (by simp only [List.map_cons, List.map_nil, List.nil_append, List.append_nil, List.cons_append, aeval, ofVal, PT.get_set, Nat.reduceEqDiff, reduceIte] <;> rfl) (ac_ev (nil22 _)) ?_
    rintro r K5 ⟨rfl, rfl⟩
    with_reducible repeat' (first
      | refine AW.seq ?_
      | refine AW.region ?_
      | refine AW.block ?_
      | refine AW.scope ?_
      | refine AOs.nil ?_
      | refine AW.skip ?_
      | refine AW.exit ?_
      | refine AW.ret ?_
      | refine AW.label ?_
      | refine andThen_normal ?_
      | refine andThen_exit ?_
      | refine andThen_ret ?_
      | refine inBlock_normal ?_
      | refine inBlock_hit ?_
      | refine inBlock_ret ?_
      | refine inBlock_miss (by with_unfolding_all rfl) ?_
      | refine AOs.guardN (by with_unfolding_all rfl) (by simp only [aeval, PT.get_set, Nat.reduceEqDiff, reduceIte, if_true]; rfl) (by with_unfolding_all rfl) ?_
      | refine AOs.guardT (by with_unfolding_all rfl) (by simp only [aeval, PT.get_set, Nat.reduceEqDiff, reduceIte, if_true]; rfl) (by first | rfl | decide | assumption) ?_
      | refine AOs.guardF (by with_unfolding_all rfl) (by simp only [aeval, PT.get_set, Nat.reduceEqDiff, reduceIte, if_true]; rfl) (by first | rfl | decide | assumption) (by with_unfolding_all rfl) ?_
      | refine AOs.guardF0 (by with_unfolding_all rfl) (by simp only [aeval, PT.get_set, Nat.reduceEqDiff, reduceIte, if_true]; rfl) (by first | rfl | decide | assumption) ?_
      | refine AW.condT (by simp only [aeval, PT.get_set, Nat.reduceEqDiff, reduceIte, if_true]; rfl) (by first | rfl | decide | assumption) ?_
      | refine AW.condF (by simp only [aeval, PT.get_set, Nat.reduceEqDiff, reduceIte, if_true]; rfl) (by first | rfl | decide | assumption) ?_
      | refine AOs.op1 tOK (by simp only [evOp_move, evOp_assign, evOp_pick, evOp_build, evOp_nilCheck, evOp_binOp, evOp_not, evOp_fieldAddr, evOp_field, evOp_indexAddr, evOp_index, evOp_extract, evOp_makeFunc, evOp_load, evOp_lookup, evOp_store, evOp_mapUpdate, evOp_insert, evOp_range, evOp_makeMap, evOp_len, evOp_append, evOp_copy, evOp_delete, evOp_slice, aeval, ofVal, PT.get_set, Nat.reduceEqDiff, reduceIte, lenOfAV_slice, lenOfAV_nils, lenOfAV_empty, afield, apart, aindex, aconv, cellAt, cellsAt, mapLenAt, List.map_cons, List.map_nil, Option.map_some, Option.map_none, List.nil_append, List.append_nil, abin_add, abin_sub, abin_mul, abin_lss, abin_leq, abin_gtr, abin_geq, abin_eql, abin_neq, cond_true, cond_false, decide_true, decide_false, Bool.not_true, Bool.not_false, TI.agg, List.getElem?_cons_zero, List.getElem?_cons_succ, Nat.add_zero, Nat.zero_add, Nat.zero_mul, nbeq, nble, nblt, Nat.reduceLeDiff, Nat.reduceLT, Nat.reduceMul, Nat.reduceAdd, Nat.reduceSub, Bool.and_true, Bool.true_and, Bool.and_false, Bool.false_and, eq_self, Int.ofNat_eq_natCast, Int.cast_ofNat_Int, Int.natCast_zero, Int.reduceEq, Int.reduceLT, Int.reduceLE, Int.reduceNeg, ld2, ld3, ld4, ld5, al9, ld9, al22, ix22, bs22, ld22, al23, ix23, bs23, ld23, ld27, al29, ix29, bs29, ld29, fa31_0, fa31_1, ld31, fa33_0, fa33_1, fa33_2, ld33, al40, ix40, bs40, ld40, ld44, al50, ix50, bs50, ld50, fa58_0, fa58_1, ld58, fa71_0, fa71_1, ld71, an74, am74, ld74, fa76_0, fa76_1, fa76_2, fa76_3, ld76, an77, am77, ld77, an78, am78, ld78, ld82, ld90, ld93, ld94, fa96_0, fa96_1, fa96_2, ld96, ld97, fa99_0, fa99_1, fa99_2, fa99_3, ld99, ld101, if_true]; rfl) (by with_unfolding_all rfl) ?_
      | refine AOs.op0 tOK (by simp only [evOp_move, evOp_assign, evOp_pick, evOp_build, evOp_nilCheck, evOp_binOp, evOp_not, evOp_fieldAddr, evOp_field, evOp_indexAddr, evOp_index, evOp_extract, evOp_makeFunc, evOp_load, evOp_lookup, evOp_store, evOp_mapUpdate, evOp_insert, evOp_range, evOp_makeMap, evOp_len, evOp_append, evOp_copy, evOp_delete, evOp_slice, aeval, ofVal, PT.get_set, Nat.reduceEqDiff, reduceIte, lenOfAV_slice, lenOfAV_nils, lenOfAV_empty, afield, apart, aindex, aconv, cellAt, cellsAt, mapLenAt, List.map_cons, List.map_nil, Option.map_some, Option.map_none, List.nil_append, List.append_nil, abin_add, abin_sub, abin_mul, abin_lss, abin_leq, abin_gtr, abin_geq, abin_eql, abin_neq, cond_true, cond_false, decide_true, decide_false, Bool.not_true, Bool.not_false, TI.agg, List.getElem?_cons_zero, List.getElem?_cons_succ, Nat.add_zero, Nat.zero_add, Nat.zero_mul, nbeq, nble, nblt, Nat.reduceLeDiff, Nat.reduceLT, Nat.reduceMul, Nat.reduceAdd, Nat.reduceSub, Bool.and_true, Bool.true_and, Bool.and_false, Bool.false_and, eq_self, Int.ofNat_eq_natCast, Int.cast_ofNat_Int, Int.natCast_zero, Int.reduceEq, Int.reduceLT, Int.reduceLE, Int.reduceNeg, ld2, ld3, ld4, ld5, al9, ld9, al22, ix22, bs22, ld22, al23, ix23, bs23, ld23, ld27, al29, ix29, bs29, ld29, fa31_0, fa31_1, ld31, fa33_0, fa33_1, fa33_2, ld33, al40, ix40, bs40, ld40, ld44, al50, ix50, bs50, ld50, fa58_0, fa58_1, ld58, fa71_0, fa71_1, ld71, an74, am74, ld74, fa76_0, fa76_1, fa76_2, fa76_3, ld76, an77, am77, ld77, an78, am78, ld78, ld82, ld90, ld93, ld94, fa96_0, fa96_1, fa96_2, ld96, ld97, fa99_0, fa99_1, fa99_2, fa99_3, ld99, ld101, if_true]; rfl) ?_
      | fail "stop")
    refine AOs.callQ tOK (fs := []) (cs := []) rfl fn24 ok24 rfl (by simp only [List.map_cons, List.map_nil, List.nil_append, List.append_nil, List.cons_append, aeval, ofVal, PT.get_set, Nat.reduceEqDiff, reduceIte] <;> rfl) (ac_ev (nil24 _)) ?_
    rintro r K6 ⟨rfl, rfl⟩
    with_reducible repeat' (first
      | refine AW.seq ?_
      | refine AW.region ?_
      | refine AW.block ?_
      | refine AW.scope ?_
      | refine AOs.nil ?_
      | refine AW.skip ?_
      | refine AW.exit ?_
      | refine AW.ret ?_
      | refine AW.label ?_
      | refine andThen_normal ?_
      | refine andThen_exit ?_
      | refine andThen_ret ?_
      | refine inBlock_normal ?_
      | refine inBlock_hit ?_
      | refine inBlock_ret ?_
      | refine inBlock_miss (by with_unfolding_all rfl) ?_
      | refine AOs.guardN (by with_unfolding_all rfl) (by simp only [aeval, PT.get_set, Nat.reduceEqDiff, reduceIte, if_true]; rfl) (by with_unfolding_all rfl) ?_
      | refine AOs.guardT (by with_unfolding_all rfl) (by simp only [aeval, PT.get_set, Nat.reduceEqDiff, reduceIte, if_true]; rfl) (by first | rfl | decide | assumption) ?_
      | refine AOs.guardF (by with_unfolding_all rfl) (by simp only [aeval, PT.get_set, Nat.reduceEqDiff, reduceIte, if_true]; rfl) (by first | rfl | decide | assumption) (by with_unfolding_all rfl) ?_
      | refine AOs.guardF0 (by with_unfolding_all rfl) (by simp only [aeval, PT.get_set, Nat.reduceEqDiff, reduceIte, if_true]; rfl) (by first | rfl | decide | assumption) ?_
      | refine AW.condT (by simp only [aeval, PT.get_set, Nat.reduceEqDiff, reduceIte, if_true]; rfl) (by first | rfl | decide | assumption) ?_
      | refine AW.condF (by simp only [aeval, PT.get_set, Nat.reduceEqDiff, reduceIte, if_true]; rfl) (by first | rfl | decide | assumption) ?_
      | refine AOs.op1 tOK (by simp only [evOp_move, evOp_assign, evOp_pick, evOp_build, evOp_nilCheck, evOp_binOp, evOp_not, evOp_fieldAddr, evOp_field, evOp_indexAddr, evOp_index, evOp_extract, evOp_makeFunc, evOp_load, evOp_lookup, evOp_store, evOp_mapUpdate, evOp_insert, evOp_range, evOp_makeMap, evOp_len, evOp_append, evOp_copy, evOp_delete, evOp_slice, aeval, ofVal, PT.get_set, Nat.reduceEqDiff, reduceIte, lenOfAV_slice, lenOfAV_nils, lenOfAV_empty, afield, apart, aindex, aconv, cellAt, cellsAt, mapLenAt, List.map_cons, List.map_nil, Option.map_some, Option.map_none, List.nil_append, List.append_nil, abin_add, abin_sub, abin_mul, abin_lss, abin_leq, abin_gtr, abin_geq, abin_eql, abin_neq, cond_true, cond_false, decide_true, decide_false, Bool.not_true, Bool.not_false, TI.agg, List.getElem?_cons_zero, List.getElem?_cons_succ, Nat.add_zero, Nat.zero_add, Nat.zero_mul, nbeq, nble, nblt, Nat.reduceLeDiff, Nat.reduceLT, Nat.reduceMul, Nat.reduceAdd, Nat.reduceSub, Bool.and_true, Bool.true_and, Bool.and_false, Bool.false_and, eq_self, Int.ofNat_eq_natCast, Int.cast_ofNat_Int, Int.natCast_zero, Int.reduceEq, Int.reduceLT, Int.reduceLE, Int.reduceNeg, ld2, ld3, ld4, ld5, al9, ld9, al22, ix22, bs22, ld22, al23, ix23, bs23, ld23, ld27, al29, ix29, bs29, ld29, fa31_0, fa31_1, ld31, fa33_0, fa33_1, fa33_2, ld33, al40, ix40, bs40, ld40, ld44, al50, ix50, bs50, ld50, fa58_0, fa58_1, ld58, fa71_0, fa71_1, ld71, an74, am74, ld74, fa76_0, fa76_1, fa76_2, fa76_3, ld76, an77, am77, ld77, an78, am78, ld78, ld82, ld90, ld93, ld94, fa96_0, fa96_1, fa96_2, ld96, ld97, fa99_0, fa99_1, fa99_2, fa99_3, ld99, ld101, if_true]; rfl) (by with_unfolding_all rfl) ?_
      | refine AOs.op0 tOK (by simp only [evOp_move, evOp_assign, evOp_pick, evOp_build, evOp_nilCheck, evOp_binOp, evOp_not, evOp_fieldAddr, evOp_field, evOp_indexAddr, evOp_index, evOp_extract, evOp_makeFunc, evOp_load, evOp_lookup, evOp_store, evOp_mapUpdate, evOp_insert, evOp_range, evOp_makeMap, evOp_len, evOp_append, evOp_copy, evOp_delete, evOp_slice, aeval, ofVal, PT.get_set, Nat.reduceEqDiff, reduceIte, lenOfAV_slice, lenOfAV_nils, lenOfAV_empty, afield, apart, aindex, aconv, cellAt, cellsAt, mapLenAt, List.map_cons, List.map_nil, Option.map_some, Option.map_none, List.nil_append, List.append_nil, abin_add, abin_sub, abin_mul, abin_lss, abin_leq, abin_gtr, abin_geq, abin_eql, abin_neq, cond_true, cond_false, decide_true, decide_false, Bool.not_true, Bool.not_false, TI.agg, List.getElem?_cons_zero, List.getElem?_cons_succ, Nat.add_zero, Nat.zero_add, Nat.zero_mul, nbeq, nble, nblt, Nat.reduceLeDiff, Nat.reduceLT, Nat.reduceMul, Nat.reduceAdd, Nat.reduceSub, Bool.and_true, Bool.true_and, Bool.and_false, Bool.false_and, eq_self, Int.ofNat_eq_natCast, Int.cast_ofNat_Int, Int.natCast_zero, Int.reduceEq, Int.reduceLT, Int.reduceLE, Int.reduceNeg, ld2, ld3, ld4, ld5, al9, ld9, al22, ix22, bs22, ld22, al23, ix23, bs23, ld23, ld27, al29, ix29, bs29, ld29, fa31_0, fa31_1, ld31, fa33_0, fa33_1, fa33_2, ld33, al40, ix40, bs40, ld40, ld44, al50, ix50, bs50, ld50, fa58_0, fa58_1, ld58, fa71_0, fa71_1, ld71, an74, am74, ld74, fa76_0, fa76_1, fa76_2, fa76_3, ld76, an77, am77, ld77, an78, am78, ld78, ld82, ld90, ld93, ld94, fa96_0, fa96_1, fa96_2, ld96, ld97, fa99_0, fa99_1, fa99_2, fa99_3, ld99, ld101, if_true]; rfl) ?_
      | fail "stop")
    refine AOs.callQ tOK (fs := []) (cs := []) rfl fn23 ok23 rfl (by simp only [List.map_cons, List.map_nil, List.nil_append, List.append_nil, List.cons_append, aeval, ofVal, PT.get_set, Nat.reduceEqDiff, reduceIte] <;> rfl) (ac_ev (nil23 _)) ?_
    rintro r K7 ⟨rfl, rfl⟩
    with_reducible repeat' (first
      | refine AW.seq ?_
      | refine AW.region ?_
      | refine AW.block ?_
      | refine AW.scope ?_
      | refine AOs.nil ?_
      | refine AW.skip ?_
      | refine AW.exit ?_
      | refine AW.ret ?_
      | refine AW.label ?_
      | refine andThen_normal ?_
      | refine andThen_exit ?_
      | refine andThen_ret ?_
      | refine inBlock_normal ?_
      | refine inBlock_hit ?_
      | refine inBlock_ret ?_
      | refine inBlock_miss (by with_unfolding_all rfl) ?_
      | refine AOs.guardN (by with_unfolding_all rfl) (by simp only [aeval, PT.get_set, Nat.reduceEqDiff, reduceIte, if_true]; rfl) (by with_unfolding_all rfl) ?_
      | refine AOs.guardT (by with_unfolding_all rfl) (by simp only [aeval, PT.get_set, Nat.reduceEqDiff, reduceIte, if_true]; rfl) (by first | rfl | decide | assumption) ?_
      | refine AOs.guardF (by with_unfolding_all rfl) (by simp only [aeval, PT.get_set, Nat.reduceEqDiff, reduceIte, if_true]; rfl) (by first | rfl | decide | assumption) (by with_unfolding_all rfl) ?_
      | refine AOs.guardF0 (by with_unfolding_all rfl) (by simp only [aeval, PT.get_set, Nat.reduceEqDiff, reduceIte, if_true]; rfl) (by first | rfl | decide | assumption) ?_
      | refine AW.condT (by simp only [aeval, PT.get_set, Nat.reduceEqDiff, reduceIte, if_true]; rfl) (by first | rfl | decide | assumption) ?_
      | refine AW.condF (by simp only [aeval, PT.get_set, Nat.reduceEqDiff, reduceIte, if_true]; rfl) (by first | rfl | decide | assumption) ?_
      | refine AOs.op1 tOK (by simp only [evOp_move, evOp_assign, evOp_pick, evOp_build, evOp_nilCheck, evOp_binOp, evOp_not, evOp_fieldAddr, evOp_field, evOp_indexAddr, evOp_index, evOp_extract, evOp_makeFunc, evOp_load, evOp_lookup, evOp_store, evOp_mapUpdate, evOp_insert, evOp_range, evOp_makeMap, evOp_len, evOp_append, evOp_copy, evOp_delete, evOp_slice, aeval, ofVal, PT.get_set, Nat.reduceEqDiff, reduceIte, lenOfAV_slice, lenOfAV_nils, lenOfAV_empty, afield, apart, aindex, aconv, cellAt, cellsAt, mapLenAt, List.map_cons, List.map_nil, Option.map_some, Option.map_none, List.nil_append, List.append_nil, abin_add, abin_sub, abin_mul, abin_lss, abin_leq, abin_gtr, abin_geq, abin_eql, abin_neq, cond_true, cond_false, decide_true, decide_false, Bool.not_true, Bool.not_false, TI.agg, List.getElem?_cons_zero, List.getElem?_cons_succ, Nat.add_zero, Nat.zero_add, Nat.zero_mul, nbeq, nble, nblt, Nat.reduceLeDiff, Nat.reduceLT, Nat.reduceMul, Nat.reduceAdd, Nat.reduceSub, Bool.and_true, Bool.true_and, Bool.and_false, Bool.false_and, eq_self, Int.ofNat_eq_natCast, Int.cast_ofNat_Int, Int.natCast_zero, Int.reduceEq, Int.reduceLT, Int.reduceLE, Int.reduceNeg, ld2, ld3, ld4, ld5, al9, ld9, al22, ix22, bs22, ld22, al23, ix23, bs23, ld23, ld27, al29, ix29, bs29, ld29, fa31_0, fa31_1, ld31, fa33_0, fa33_1, fa33_2, ld33, al40, ix40, bs40, ld40, ld44, al50, ix50, bs50, ld50, fa58_0, fa58_1, ld58, fa71_0, fa71_1, ld71, an74, am74, ld74, fa76_0, fa76_1, fa76_2, fa76_3, ld76, an77, am77, ld77, an78, am78, ld78, ld82, ld90, ld93, ld94, fa96_0, fa96_1, fa96_2, ld96, ld97, fa99_0, fa99_1, fa99_2, fa99_3, ld99, ld101, if_true]; rfl) (by with_unfolding_all rfl) ?_
      | refine AOs.op0 tOK (by simp only [evOp_move, evOp_assign, evOp_pick, evOp_build, evOp_nilCheck, evOp_binOp, evOp_not, evOp_fieldAddr, evOp_field, evOp_indexAddr, evOp_index, evOp_extract, evOp_makeFunc, evOp_load, evOp_lookup, evOp_store, evOp_mapUpdate, evOp_insert, evOp_range, evOp_makeMap, evOp_len, evOp_append, evOp_copy, evOp_delete, evOp_slice, aeval, ofVal, PT.get_set, Nat.reduceEqDiff, reduceIte, lenOfAV_slice, lenOfAV_nils, lenOfAV_empty, afield, apart, aindex, aconv, cellAt, cellsAt, mapLenAt, List.map_cons, List.map_nil, Option.map_some, Option.map_none, List.nil_append, List.append_nil, abin_add, abin_sub, abin_mul, abin_lss, abin_leq, abin_gtr, abin_geq, abin_eql, abin_neq, cond_true, cond_false, decide_true, decide_false, Bool.not_true, Bool.not_false, TI.agg, List.getElem?_cons_zero, List.getElem?_cons_succ, Nat.add_zero, Nat.zero_add, Nat.zero_mul, nbeq, nble, nblt, Nat.reduceLeDiff, Nat.reduceLT, Nat.reduceMul, Nat.reduceAdd, Nat.reduceSub, Bool.and_true, Bool.true_and, Bool.and_false, Bool.false_and, eq_self, Int.ofNat_eq_natCast, Int.cast_ofNat_Int, Int.natCast_zero, Int.reduceEq, Int.reduceLT, Int.reduceLE, Int.reduceNeg, ld2, ld3, ld4, ld5, al9, ld9, al22, ix22, bs22, ld22, al23, ix23, bs23, ld23, ld27, al29, ix29, bs29, ld29, fa31_0, fa31_1, ld31, fa33_0, fa33_1, fa33_2, ld33, al40, ix40, bs40, ld40, ld44, al50, ix50, bs50, ld50, fa58_0, fa58_1, ld58, fa71_0, fa71_1, ld71, an74, am74, ld74, fa76_0, fa76_1, fa76_2, fa76_3, ld76, an77, am77, ld77, an78, am78, ld78, ld82, ld90, ld93, ld94, fa96_0, fa96_1, fa96_2, ld96, ld97, fa99_0, fa99_1, fa99_2, fa99_3, ld99, ld101, if_true]; rfl) ?_
      | fail "stop")
    exact fnPost_ret1 (by simp only [PT.get_set, Nat.reduceEqDiff, reduceIte] <;> rfl) rfl

end Go.Proofs.YtapokkpdgfpokaaGreat
