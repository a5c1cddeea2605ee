/- Log: names, digits, the generation of a name; no condition. -/
import Derived.Test.YtgihociajfgohaaGreatDoorPureBits
import Derived.Test.YtgihociajfgohaaGreatDoorHeap6
import Derived.Lib.ItoaNum
import Derived.Lib.AtoiAll
set_option linter.unusedSimpArgs false
set_option linter.unusedVariables false
open Go Go.AB Go.Proofs
namespace Go.Proofs.YtgihociajfgohaaGreatDoor
set_option maxRecDepth 100000

/-- Letters from a to z alone. -/
def lowB (s : Nm) : Bool := s.all fun c => decide (97 ≤ c.toNat) && decide (c.toNat ≤ 122)
/-- A log's name. -/
def rightB (s : Nm) : Bool := decide (1 ≤ s.length) && (decide (s.length ≤ 8) && lowB s)

theorem lowB_take {s : Nm} {i : Nat} {c : UInt8} (h : s[i]? = some c) : lowB (s.take (i + 1)) = (lowB (s.take i) && (decide (97 ≤ c.toNat) && decide (c.toNat ≤ 122))) := by
  rw [List.take_add_one, h]
  simp [lowB]
theorem lowB_false {s : Nm} {i : Nat} {c : UInt8} (h : s[i]? = some c) (hc : c.toNat < 97 ∨ 122 < c.toNat) : lowB s = false := by
  rw [lowB, List.all_eq_false]
  refine ⟨c, List.mem_of_getElem? h, ?_⟩
  rcases hc with hc | hc
  · simp; omega
  · simp; omega

theorem run60 (N : Nat) (H : AH) (c : Nat) : AC tC N 0 60 [.int .i32 (c : Int)] H fun r K => r = .bool (!(decide (97 ≤ c) && decide (c ≤ 122))) ∧ K = H := by
  refine AC.by (n := 9) (rs := [.tmp 2]) tOK fn60 rfl rfl rfl rfl ?_
  have e0 : (PT.ofList .leaf 0 [AV.int .i32 (c : Int)]).get 0 = some (.int .i32 (c : Int)) := rfl
  by_cases h1 : c < 97
  · have d1 : decide ((c : Int) < 97) = true := decide_eq_true (by omega)
    have d2 : decide (97 ≤ c) = false := decide_eq_false (by omega)
    rw [d2]
    with_reducible repeat' (first
      | refine AW.seq ?_
      | refine AW.region ?_
      | refine AOs.nil ?_
      | refine AW.ret ?_
      | refine andThen_normal ?_
      | refine AOs.guardF (by with_unfolding_all rfl) (by simp only [PT.get_set, Nat.reduceEqDiff, reduceIte]; rfl) (by first | rfl | decide | assumption) (by with_unfolding_all rfl) ?_
      | ((first
          | refine AOs.op1E tOK (by with_unfolding_all rfl) ?_
          ); refine Step.mk (by simp only [evOp_move, evOp_assign, evOp_pick, evOp_binOp, aeval, ofVal, PT.get_set, Nat.reduceEqDiff, reduceIte, Option.map_some, abin_lss, cond_true, eq_self, e0, d1]; rfl) ?_)
      | fail "stop")
    exact fnPost_ret1 (by first | (simp only [PT.get_set, Nat.reduceEqDiff, reduceIte]; rfl) | simp only [PT.get_set, Nat.reduceEqDiff, reduceIte]) ⟨rfl, rfl⟩
  · have d1 : decide ((c : Int) < 97) = false := decide_eq_false (by omega)
    have d2 : decide (97 ≤ c) = true := decide_eq_true (by omega)
    rw [d2]
    by_cases h2 : 122 < c
    · have d3 : decide ((122 : Int) < (c : Int)) = true := decide_eq_true (by omega)
      have d4 : decide (c ≤ 122) = false := decide_eq_false (by omega)
      rw [d4]
      with_reducible repeat' (first
        | refine AW.seq ?_
        | refine AW.region ?_
        | refine AOs.nil ?_
        | refine AW.ret ?_
        | refine andThen_normal ?_
        | refine AOs.guardT (by with_unfolding_all rfl) (by simp only [PT.get_set, Nat.reduceEqDiff, reduceIte]; rfl) (by first | rfl | decide | assumption) ?_
        | ((first
            | refine AOs.op1E tOK (by with_unfolding_all rfl) ?_
            ); refine Step.mk (by simp only [evOp_move, evOp_assign, evOp_pick, evOp_binOp, aeval, ofVal, PT.get_set, Nat.reduceEqDiff, reduceIte, Option.map_some, abin_lss, abin_gtr, cond_false, eq_self, e0, d1, d3]; rfl) ?_)
        | fail "stop")
      exact fnPost_ret1 (by first | (simp only [PT.get_set, Nat.reduceEqDiff, reduceIte]; rfl) | simp only [PT.get_set, Nat.reduceEqDiff, reduceIte]) ⟨rfl, rfl⟩
    · have d3 : decide ((122 : Int) < (c : Int)) = false := decide_eq_false (by omega)
      have d4 : decide (c ≤ 122) = true := decide_eq_true (by omega)
      rw [d4]
      with_reducible repeat' (first
        | refine AW.seq ?_
        | refine AW.region ?_
        | refine AOs.nil ?_
        | refine AW.ret ?_
        | refine andThen_normal ?_
        | refine AOs.guardT (by with_unfolding_all rfl) (by simp only [PT.get_set, Nat.reduceEqDiff, reduceIte]; rfl) (by first | rfl | decide | assumption) ?_
        | ((first
            | refine AOs.op1E tOK (by with_unfolding_all rfl) ?_
            ); refine Step.mk (by simp only [evOp_move, evOp_assign, evOp_pick, evOp_binOp, aeval, ofVal, PT.get_set, Nat.reduceEqDiff, reduceIte, Option.map_some, abin_lss, abin_gtr, cond_false, eq_self, e0, d1, d3]; rfl) ?_)
        | fail "stop")
      exact fnPost_ret1 (by first | (simp only [PT.get_set, Nat.reduceEqDiff, reduceIte]; rfl) | simp only [PT.get_set, Nat.reduceEqDiff, reduceIte]) ⟨rfl, rfl⟩

set_option maxHeartbeats 4000000 in
theorem index108 (N : Nat) (H : AH) (s : Nm) : AC tC N 0 108 [.str s, .func 60 [] [], .bool true] H fun r K => (∃ k : Int, r = .int .i64 k ∧ ((lowB s = true ∧ k = -1) ∨ (lowB s = false ∧ 0 ≤ k))) ∧ ∀ b x, H.get b = some x → K.get b = some x := by
  refine AC.wf0 fun hwf => ?_
  refine AC.by (n := 21) (rs := [.tmp 6]) tOK fn108 rfl rfl rfl rfl ?_
  have e0 : (PT.ofList .leaf 0 [AV.str s, .func 60 [] [], .bool true]).get 0 = some (.str s) := rfl
  have e1 : (PT.ofList .leaf 0 [AV.str s, .func 60 [] [], .bool true]).get 1 = some (.func 60 [] []) := rfl
  have e2 : (PT.ofList .leaf 0 [AV.str s, .func 60 [] [], .bool true]).get 2 = some (.bool true) := rfl
  have hr : ∀ K : AH, arange tC K 9 (.str s) = some (.ptr K.next 0, K.alloc (.siter s 0)) := fun K => by simp only [arange, ti9]
  with_reducible repeat' (first
    | refine AW.seq ?_
    | refine AW.region ?_
    | refine AW.block ?_
    | refine AOs.nil ?_
    | refine andThen_normal ?_
    | ((first
        | refine AOs.op1E tOK (by with_unfolding_all rfl) ?_
        ); refine Step.mk (by simp only [evOp_move, evOp_assign, evOp_range, aeval, ofVal, PT.get_set, Nat.reduceEqDiff, reduceIte, eq_self, e0, hr]; rfl) ?_)
    | fail "stop")
  refine AW.loop (fun m T K => T.get 1 = some (.func 60 [] []) ∧ T.get 2 = some (.bool true) ∧ T.get 10 = some (.ptr H.next 0) ∧ (∀ b x, H.get b = some x → K.get b = some x) ∧ ∃ i : Nat, i ≤ s.length ∧ m = s.length - i ∧ K.get H.next = some (.siter s i) ∧ lowB (s.take i) = true) ?_ (s.length - 0)
    ⟨by simp [PT.get_set, e1], by simp [PT.get_set, e2], by simp [PT.get_set], fun b x hb => stay_alloc hwf _ b x hb, 0, by omega, rfl, by rw [AH.get_alloc, if_pos rfl], rfl⟩
  rintro m T K ⟨g1, g2, g10, hk, i, hi, rfl, hit, hlow⟩
  with_reducible repeat' (first
    | refine AW.seq ?_
    | refine AW.region ?_
    | ((first
        | refine AOs.op1E tOK (by with_unfolding_all rfl) ?_
        ); refine Step.mk (by simp only [evOp_move, evOp_assign, evOp_pick, evOp_build, evOp_nilCheck, evOp_binOp, evOp_not, evOp_fieldAddr, evOp_field, evOp_indexAddr, evOp_index, evOp_extract, evOp_makeFunc, evOp_load, evOp_lookup, evOp_store, evOp_mapUpdate, evOp_insert, evOp_range, evOp_makeMap, evOp_len, evOp_append, evOp_copy, evOp_delete, evOp_slice, evOp_convert, evOp_entry, evOp_boxC, boxC_one, boxC_agg, evOp_cap, rangeMapAt, storeAt, one_bool, one_int, one_str, one_nilp, one_ptr, one_nils, one_slice, one_empty, one_nilm, one_map, one_func, one_nilf, one_iface, one_nili, aeval, ofVal, PT.get_set, Nat.reduceEqDiff, reduceIte, lenOfAV_slice, lenOfAV_nils, lenOfAV_empty, cellAt, cellsAt, mapLenAt, lookAt, mapSetAt, mapDelAt, List.map_cons, List.map_nil, Option.map_some, Option.map_none, List.nil_append, List.append_nil, abin_add, abin_sub, abin_mul, abin_lss, abin_leq, abin_gtr, abin_geq, abin_eql, abin_neq, abin_eqlS, abin_neqS, cond_true, cond_false, decide_true, decide_false, Bool.not_true, Bool.not_false, TI.agg, List.getElem?_cons_zero, List.getElem?_cons_succ, Nat.add_zero, Nat.zero_add, Nat.zero_mul, nbeq, nble, nblt, Nat.reduceLeDiff, Nat.reduceLT, Nat.reduceMul, Nat.reduceAdd, Nat.reduceSub, Bool.and_true, Bool.true_and, Bool.and_false, Bool.false_and, List.length_cons, List.length_nil, List.set_cons_zero, List.set_cons_succ, AH.get_set, AH.next_set, eq_self, Int.ofNat_eq_natCast, Int.cast_ofNat_Int, Int.natCast_zero, Int.reduceEq, Int.reduceLT, Int.reduceLE, Int.reduceNeg, ld3, st3, ld4, st4, ld5, st5, al9, ld9, st9, ld20, st20, ld21, st21, ld24, st24, ld27, ne27a, eq27a, ne27b, eq27b, st27, al28, ix28, bs28, ld28, ne28a, eq28a, ne28b, eq28b, ne28c, eq28c, st28, al32, ix32, bs32, ld32, ne32a, eq32a, ne32b, eq32b, ne32c, eq32c, st32, al37, ix37, bs37, ld37, ne37a, eq37a, ne37b, eq37b, ne37c, eq37c, st37, al40, ix40, bs40, ld40, ne40a, eq40a, ne40b, eq40b, ne40c, eq40c, st40, ld42, ne42a, eq42a, ne42b, eq42b, st42, ld47, st47, ld57, st57, ld60, st60, fa63_0, ld63, fa65_0, fa65_1, fa65_2, fa65_3, fa65_4, fa65_5, ld65, an72, am72, ld72, md72, ms72, lk72, ne72a, eq72a, ne72b, eq72b, st72, al73, ix73, bs73, ld73, ne73a, eq73a, ne73b, eq73b, ne73c, eq73c, st73, fa75_0, fa75_1, fa75_2, fa75_3, fa75_4, fa75_5, ld75, ld83, st83, ld85, ne85a, eq85a, ne85b, eq85b, st85, fa87_0, fa87_1, ld87, ld91, st91, ld96, st96, ld104, st104, al116, ix116, bs116, ld116, ne116a, eq116a, ne116b, eq116b, ne116c, eq116c, st116, ld118, st118, ld119, ix119, cv9_32, cv96_3, cv5_96, cv96_5, cv3_96, cv3_118, ld99, st99, cv5_3, cv3_5, cv3_99, cv96_99, g1, g2, g10]; rfl) ?_)
    | fail "stop")
  have hk2 : ∀ p, ∀ b x, H.get b = some x → (K.set H.next (.siter s p)).get b = some x := fun p b x hb => by
    have := hwf b x hb
    rw [AH.get_set, if_neg (by omega)]; exact hk b x hb
  refine AOs.nextS (s := s) (p := i) (by simp only [aeval, g10]) hit rfl ?_ ?_ ?_
  · intro h0
    have hall : s.take i = s := List.take_of_length_le (by rcases Nat.lt_or_ge i s.length with h | h; · rw [List.getElem?_eq_getElem h] at h0; cases h0
                                                           · exact h)
    rw [hall] at hlow
    with_reducible repeat' (first
      | refine AW.seq ?_
      | refine AW.region ?_
      | refine AOs.nil ?_
      | refine AW.exit ?_
      | refine AW.ret ?_
      | refine andThen_normal ?_
      | refine andThen_exit ?_
      | refine inBlock_hit ?_
      | refine AW.condF (by simp only [aeval, PT.get_set, Nat.reduceEqDiff, reduceIte]; rfl) (by first | rfl | decide | assumption) ?_
      | ((first
          | refine AOs.op1E tOK (by with_unfolding_all rfl) ?_
          ); refine Step.mk (by simp only [evOp_assign, evOp_extract, aeval, ofVal, PT.get_set, reduceIte, Option.map_some, List.getElem?_cons_zero, eq_self, Int.reduceNeg]; rfl) ?_)
      | fail "stop")
    exact fnPost_ret1 (by first | (simp only [PT.get_set, Nat.reduceEqDiff, reduceIte]; rfl) | simp only [PT.get_set, Nat.reduceEqDiff, reduceIte]) ⟨⟨-1, rfl, .inl ⟨hlow, rfl⟩⟩, hk⟩
  · intro c hc hlt
    have hil : i < s.length := (List.getElem?_eq_some_iff.1 hc).1
    with_reducible repeat' (first
      | refine AW.seq ?_
      | refine AW.region ?_
      | refine AW.block ?_
      | refine AOs.nil ?_
      | refine AW.skip ?_
      | refine andThen_normal ?_
      | refine AW.condT (by simp only [aeval, PT.get_set, Nat.reduceEqDiff, reduceIte]; rfl) (by first | rfl | decide | assumption) ?_
      | ((first
          | refine AOs.op1E tOK (by with_unfolding_all rfl) ?_
          ); refine Step.mk (by simp only [evOp_move, evOp_assign, evOp_extract, aeval, PT.get_set, Nat.reduceEqDiff, reduceIte, Option.map_some, List.getElem?_cons_zero, List.getElem?_cons_succ, eq_self, g1]; rfl) ?_)
      | fail "stop")
    refine AOs.callQ tOK (fs := []) (cs := []) (by simp only [aeval, PT.get_set, Nat.reduceEqDiff, reduceIte]) fn60 ok60 rfl (by simp only [List.map_cons, List.map_nil, List.nil_append, List.append_nil, aeval, PT.get_set, Nat.reduceEqDiff, reduceIte] <;> rfl) (run60 N _ c.toNat) ?_
    rintro r K1 ⟨rfl, rfl⟩
    by_cases hb : (decide (97 ≤ c.toNat) && decide (c.toNat ≤ 122)) = true
    · rw [hb]
      have hq : ∀ cst, abin tC .eql 4 cst (.bool false) (.bool true) = some (.bool false) := fun cst => by cases cst <;> rfl
      with_reducible repeat' (first
        | refine AOs.nil ?_
        | refine AW.skip ?_
        | refine andThen_normal ?_
        | refine inBlock_normal ?_
        | refine AW.condF (by simp only [aeval, PT.get_set, Nat.reduceEqDiff, reduceIte]; rfl) (by first | rfl | decide | assumption) ?_
        | ((first
            | refine AOs.op1E tOK (by with_unfolding_all rfl) ?_
            ); refine Step.mk (by simp only [evOp_move, evOp_binOp, aeval, PT.get_set, Nat.reduceEqDiff, reduceIte, Option.map_some, Bool.not_true, eq_self, g2, hq]; rfl) ?_)
        | fail "stop")
      refine ⟨s.length - (i + 1), by omega, by simp [PT.get_set, g1], by simp [PT.get_set, g2], by simp [PT.get_set, g10], hk2 _, i + 1, by omega, rfl, by rw [AH.get_set, if_pos rfl], by rw [lowB_take hc, hlow, hb]; rfl⟩
    · have hb' : (decide (97 ≤ c.toNat) && decide (c.toNat ≤ 122)) = false := by simpa using hb
      rw [hb']
      have hq : ∀ cst, abin tC .eql 4 cst (.bool true) (.bool true) = some (.bool true) := fun cst => by cases cst <;> rfl
      have hl : lowB s = false := lowB_false hc (by simp at hb'; omega)
      with_reducible repeat' (first
        | refine AW.seq ?_
        | refine AW.region ?_
        | refine AOs.nil ?_
        | refine AW.ret ?_
        | refine andThen_normal ?_
        | refine andThen_ret ?_
        | refine inBlock_ret ?_
        | refine AW.condT (by simp only [aeval, PT.get_set, Nat.reduceEqDiff, reduceIte]; rfl) (by first | rfl | decide | assumption) ?_
        | ((first
            | refine AOs.op1E tOK (by with_unfolding_all rfl) ?_
            ); refine Step.mk (by simp only [evOp_move, evOp_assign, evOp_binOp, aeval, PT.get_set, Nat.reduceEqDiff, reduceIte, Option.map_some, Bool.not_false, eq_self, g2, hq]; rfl) ?_)
        | fail "stop")
      exact fnPost_ret1 (by first | (simp only [PT.get_set, Nat.reduceEqDiff, reduceIte]; rfl) | simp only [PT.get_set, Nat.reduceEqDiff, reduceIte]) ⟨⟨_, rfl, .inr ⟨hl, by omega⟩⟩, hk2 _⟩
  · intro c r k hc hfar hrf
    with_reducible repeat' (first
      | refine AW.seq ?_
      | refine AW.region ?_
      | refine AW.block ?_
      | refine AOs.nil ?_
      | refine AW.skip ?_
      | refine andThen_normal ?_
      | refine AW.condT (by simp only [aeval, PT.get_set, Nat.reduceEqDiff, reduceIte]; rfl) (by first | rfl | decide | assumption) ?_
      | ((first
          | refine AOs.op1E tOK (by with_unfolding_all rfl) ?_
          ); refine Step.mk (by simp only [evOp_move, evOp_assign, evOp_extract, aeval, PT.get_set, Nat.reduceEqDiff, reduceIte, Option.map_some, List.getElem?_cons_zero, List.getElem?_cons_succ, eq_self, g1]; rfl) ?_)
      | fail "stop")
    refine AOs.callQ tOK (fs := []) (cs := []) (by simp only [aeval, PT.get_set, Nat.reduceEqDiff, reduceIte]) fn60 ok60 rfl (by simp only [List.map_cons, List.map_nil, List.nil_append, List.append_nil, aeval, PT.get_set, Nat.reduceEqDiff, reduceIte] <;> rfl) (run60 N _ r) ?_
    rintro r' K1 ⟨rfl, rfl⟩
    have hb' : (decide (97 ≤ r) && decide (r ≤ 122)) = false := by
      rw [decide_eq_false (show ¬ r ≤ 122 by omega), Bool.and_false]
    rw [hb']
    have hq : ∀ cst, abin tC .eql 4 cst (.bool true) (.bool true) = some (.bool true) := fun cst => by cases cst <;> rfl
    have hl : lowB s = false := lowB_false hc (by omega)
    with_reducible repeat' (first
      | refine AW.seq ?_
      | refine AW.region ?_
      | refine AOs.nil ?_
      | refine AW.ret ?_
      | refine andThen_normal ?_
      | refine andThen_ret ?_
      | refine inBlock_ret ?_
      | refine AW.condT (by simp only [aeval, PT.get_set, Nat.reduceEqDiff, reduceIte]; rfl) (by first | rfl | decide | assumption) ?_
      | ((first
          | refine AOs.op1E tOK (by with_unfolding_all rfl) ?_
          ); refine Step.mk (by simp only [evOp_move, evOp_assign, evOp_binOp, aeval, PT.get_set, Nat.reduceEqDiff, reduceIte, Option.map_some, Bool.not_false, eq_self, g2, hq]; rfl) ?_)
      | fail "stop")
    exact fnPost_ret1 (by first | (simp only [PT.get_set, Nat.reduceEqDiff, reduceIte]; rfl) | simp only [PT.get_set, Nat.reduceEqDiff, reduceIte]) ⟨⟨_, rfl, .inr ⟨hl, by omega⟩⟩, hk2 _⟩

theorem index91 (N : Nat) (H : AH) (s : Nm) : AC tC N 0 91 [.str s, .func 60 [] []] H fun r K => (∃ k : Int, r = .int .i64 k ∧ ((lowB s = true ∧ k = -1) ∨ (lowB s = false ∧ 0 ≤ k))) ∧ ∀ b x, H.get b = some x → K.get b = some x := by
  refine AC.by (n := 8) (rs := [.tmp 4]) tOK fn91 rfl rfl rfl rfl ?_
  have e0 : (PT.ofList .leaf 0 [AV.str s, .func 60 [] []]).get 0 = some (.str s) := rfl
  have e1 : (PT.ofList .leaf 0 [AV.str s, .func 60 [] []]).get 1 = some (.func 60 [] []) := rfl
  with_reducible repeat' (first
    | refine AW.seq ?_
    | refine AW.region ?_
    | refine AOs.nil ?_
    | refine andThen_normal ?_
    | ((first
        | refine AOs.op1E tOK (by with_unfolding_all rfl) ?_
        ); refine Step.mk (by simp only [evOp_move, evOp_assign, aeval, ofVal, PT.get_set, Nat.reduceEqDiff, reduceIte, e0, e1]; rfl) ?_)
    | fail "stop")
  refine AOs.callQ tOK (fs := []) (cs := []) rfl fn108 ok108 rfl (by simp only [List.map_cons, List.map_nil, List.nil_append, List.append_nil, aeval, ofVal, PT.get_set, Nat.reduceEqDiff, reduceIte] <;> rfl) (index108 N H s) ?_
  rintro r K ⟨⟨k, rfl, hk⟩, hst⟩
  with_reducible repeat' (first
    | refine AOs.nil ?_
    | refine AW.ret ?_
    | refine andThen_normal ?_
    | ((first
        | refine AOs.op1E tOK (by with_unfolding_all rfl) ?_
        ); refine Step.mk (by simp only [evOp_assign, aeval, PT.get_set, Nat.reduceEqDiff, reduceIte, eq_self]; rfl) ?_)
    | fail "stop")
  exact fnPost_ret1 (by first | (simp only [PT.get_set, Nat.reduceEqDiff, reduceIte]; rfl) | simp only [PT.get_set, Nat.reduceEqDiff, reduceIte]) ⟨⟨k, rfl, hk⟩, hst⟩

theorem contains59 (N : Nat) (H : AH) (s : Nm) : AC tC N 0 59 [.str s, .func 60 [] []] H fun r K => r = .bool (!lowB s) ∧ K = H := by
  refine AC.quiet rfl ?_
  refine AC.by (n := 9) (rs := [.tmp 4]) tOK fn59 rfl rfl rfl rfl ?_
  have e0 : (PT.ofList .leaf 0 [AV.str s, .func 60 [] []]).get 0 = some (.str s) := rfl
  have e1 : (PT.ofList .leaf 0 [AV.str s, .func 60 [] []]).get 1 = some (.func 60 [] []) := rfl
  with_reducible repeat' (first
    | refine AW.seq ?_
    | refine AW.region ?_
    | refine AOs.nil ?_
    | refine andThen_normal ?_
    | ((first
        | refine AOs.op1E tOK (by with_unfolding_all rfl) ?_
        ); refine Step.mk (by simp only [evOp_move, evOp_assign, aeval, ofVal, PT.get_set, Nat.reduceEqDiff, reduceIte, e0, e1]; rfl) ?_)
    | fail "stop")
  refine AOs.callQ tOK (fs := []) (cs := []) rfl fn91 ok91 rfl (by simp only [List.map_cons, List.map_nil, List.nil_append, List.append_nil, aeval, PT.get_set, Nat.reduceEqDiff, reduceIte] <;> rfl) (index91 N H s) ?_
  rintro r K ⟨⟨k, rfl, hk⟩, hst⟩
  rcases hk with ⟨h1, rfl⟩ | ⟨h1, h2⟩
  · rw [h1]
    with_reducible repeat' (first
      | refine AOs.nil ?_
      | refine AW.ret ?_
      | refine andThen_normal ?_
      | ((first
          | refine AOs.op1E tOK (by with_unfolding_all rfl) ?_
          ); refine Step.mk (by simp only [evOp_assign, evOp_binOp, aeval, ofVal, PT.get_set, Nat.reduceEqDiff, reduceIte, Option.map_some, abin_geq, decide_false, eq_self, Int.reduceLE, Int.reduceNeg]; rfl) ?_)
      | fail "stop")
    exact fnPost_ret1 (by first | (simp only [PT.get_set, Nat.reduceEqDiff, reduceIte]; rfl) | simp only [PT.get_set, Nat.reduceEqDiff, reduceIte]) ⟨rfl, hst⟩
  · rw [h1]
    have hd : decide ((0 : Int) ≤ k) = true := decide_eq_true h2
    with_reducible repeat' (first
      | refine AOs.nil ?_
      | refine AW.ret ?_
      | refine andThen_normal ?_
      | ((first
          | refine AOs.op1E tOK (by with_unfolding_all rfl) ?_
          ); refine Step.mk (by simp only [evOp_assign, evOp_binOp, aeval, ofVal, PT.get_set, Nat.reduceEqDiff, reduceIte, Option.map_some, abin_geq, eq_self, hd]; rfl) ?_)
      | fail "stop")
    exact fnPost_ret1 (by first | (simp only [PT.get_set, Nat.reduceEqDiff, reduceIte]; rfl) | simp only [PT.get_set, Nat.reduceEqDiff, reduceIte]) ⟨rfl, hst⟩

theorem right35a (N : Nat) (H : AH) (s : Nm) : AC tC N 0 35 [.str s] H fun r K => r = .bool (rightB s) ∧ K = H := by
  refine AC.by (n := 16) (rs := [.tmp 2]) tOK fn35 rfl rfl rfl rfl ?_
  have e0 : (PT.ofList .leaf 0 [AV.str s]).get 0 = some (.str s) := rfl
  unfold rightB
  by_cases h1 : 1 ≤ s.length
  · have d1 : decide ((1 : Int) ≤ (s.length : Nat)) = true := decide_eq_true (by omega)
    rw [decide_eq_true h1]
    by_cases h2 : s.length ≤ 8
    · have d2 : decide (((s.length : Nat) : Int) ≤ 8) = true := decide_eq_true (by omega)
      rw [decide_eq_true h2]
      with_reducible repeat' (first
        | refine AW.seq ?_
        | refine AW.region ?_
        | refine AOs.nil ?_
        | refine andThen_normal ?_
        | refine AOs.guardT (by with_unfolding_all rfl) (by simp only [PT.get_set, Nat.reduceEqDiff, reduceIte]; rfl) (by first | rfl | decide | assumption) ?_
        | ((first
            | refine AOs.op1E tOK (by with_unfolding_all rfl) ?_
            ); refine Step.mk (by simp only [evOp_move, evOp_assign, evOp_pick, evOp_binOp, evOp_len, aeval, ofVal, PT.get_set, Nat.reduceEqDiff, reduceIte, Option.map_some, abin_leq, abin_geq, cond_true, eq_self, al9, e0, d1, d2]; rfl) ?_)
        | fail "stop")
      refine AOs.callQ tOK (fs := []) (cs := []) rfl fn59 ok59 rfl (by simp only [List.map_cons, List.map_nil, List.nil_append, List.append_nil, aeval, PT.get_set, Nat.reduceEqDiff, reduceIte] <;> rfl) (contains59 N H s) ?_
      rintro r K ⟨rfl, rfl⟩
      with_reducible repeat' (first
        | refine AOs.nil ?_
        | refine AW.ret ?_
        | refine andThen_normal ?_
        | refine AOs.guardT (by with_unfolding_all rfl) (by simp only [PT.get_set, Nat.reduceEqDiff, reduceIte]; rfl) (by first | rfl | decide | assumption) ?_
        | ((first
            | refine AOs.op1E tOK (by with_unfolding_all rfl) ?_
            ); refine Step.mk (by simp only [evOp_assign, evOp_pick, evOp_not, aeval, ofVal, PT.get_set, Nat.reduceEqDiff, reduceIte, cond_true, eq_self, Bool.not_not]; rfl) ?_)
        | fail "stop")
      exact fnPost_ret1 (by first | (simp only [PT.get_set, Nat.reduceEqDiff, reduceIte]; rfl) | simp only [PT.get_set, Nat.reduceEqDiff, reduceIte]) ⟨rfl, rfl⟩
    · have d2 : decide (((s.length : Nat) : Int) ≤ 8) = false := decide_eq_false (by omega)
      rw [decide_eq_false h2]
      with_reducible repeat' (first
        | refine AW.seq ?_
        | refine AW.region ?_
        | refine AOs.nil ?_
        | refine AW.ret ?_
        | refine andThen_normal ?_
        | refine AOs.guardT (by with_unfolding_all rfl) (by simp only [PT.get_set, Nat.reduceEqDiff, reduceIte]; rfl) (by first | rfl | decide | assumption) ?_
        | refine AOs.guardF (by with_unfolding_all rfl) (by simp only [PT.get_set, Nat.reduceEqDiff, reduceIte]; rfl) (by first | rfl | decide | assumption) (by with_unfolding_all rfl) ?_
        | ((first
            | refine AOs.op1E tOK (by with_unfolding_all rfl) ?_
            ); refine Step.mk (by simp only [evOp_move, evOp_assign, evOp_pick, evOp_binOp, evOp_len, aeval, ofVal, PT.get_set, Nat.reduceEqDiff, reduceIte, Option.map_some, abin_leq, abin_geq, cond_true, cond_false, eq_self, al9, e0, d1, d2]; rfl) ?_)
        | fail "stop")
      exact fnPost_ret1 (by first | (simp only [PT.get_set, Nat.reduceEqDiff, reduceIte]; rfl) | simp only [PT.get_set, Nat.reduceEqDiff, reduceIte]) ⟨rfl, rfl⟩
  · have d1 : decide ((1 : Int) ≤ (s.length : Nat)) = false := decide_eq_false (by omega)
    rw [decide_eq_false h1]
    with_reducible repeat' (first
      | refine AW.seq ?_
      | refine AW.region ?_
      | refine AOs.nil ?_
      | refine AW.ret ?_
      | refine andThen_normal ?_
      | refine AOs.guardF (by with_unfolding_all rfl) (by simp only [PT.get_set, Nat.reduceEqDiff, reduceIte]; rfl) (by first | rfl | decide | assumption) (by with_unfolding_all rfl) ?_
      | ((first
          | refine AOs.op1E tOK (by with_unfolding_all rfl) ?_
          ); refine Step.mk (by simp only [evOp_move, evOp_assign, evOp_pick, evOp_binOp, evOp_len, aeval, ofVal, PT.get_set, Nat.reduceEqDiff, reduceIte, Option.map_some, abin_geq, cond_false, eq_self, al9, e0, d1]; rfl) ?_)
      | fail "stop")
    exact fnPost_ret1 (by first | (simp only [PT.get_set, Nat.reduceEqDiff, reduceIte]; rfl) | simp only [PT.get_set, Nat.reduceEqDiff, reduceIte]) ⟨rfl, rfl⟩

set_option maxHeartbeats 4000000 in
theorem name41 (N : Nat) (H : AH) (s : Nm) (hs : s.length ≤ 1000000) : AC tC N 0 41 [.str s] H fun r K => r = .bool (rightB s) ∧ K = H := by
  refine AC.by (n := 28) (rs := [.tmp 2]) tOK fn41 rfl rfl rfl rfl ?_
  have e0 : (PT.ofList .leaf 0 [AV.str s]).get 0 = some (.str s) := rfl
  with_reducible repeat' (first
    | refine AW.seq ?_
    | refine AW.region ?_
    | refine AW.block ?_
    | refine AOs.nil ?_
    | refine andThen_normal ?_
    | ((first
        | refine AOs.op1E tOK (by with_unfolding_all rfl) ?_
        ); refine Step.mk (by simp only [evOp_assign, aeval, ofVal]; rfl) ?_)
    | fail "stop")
  refine AW.loop (fun m T K => K = H ∧ T.get 0 = some (.str s) ∧ ∃ i : Nat, i ≤ s.length ∧ m = s.length - i ∧ T.get 3 = some (.int .i64 (i : Nat)) ∧ lowB (s.take i) = true) ?_ (s.length - 0)
    ⟨rfl, by simp [PT.get_set, e0], 0, by omega, rfl, by simp [PT.get_set], rfl⟩
  rintro m T K ⟨rfl, g0, i, hi, rfl, g3, hlow⟩
  by_cases hil : i < s.length
  · have hd := lt_int hil
    obtain ⟨c, hc⟩ : ∃ c, s[i]? = some c := ⟨_, List.getElem?_eq_getElem hil⟩
    have hx : ∀ k, aindex tC 9 (.str s) (.int k (i : Int)) = some (.int .u8 (c.toNat : Int)) := fun k => idx9 s k i c hc
    by_cases h1 : c.toNat < 97
    · have d1 : decide ((c.toNat : Int) < 97) = true := decide_eq_true (by omega)
      have hr : rightB s = false := by rw [rightB, lowB_false hc (.inl h1)]; simp
      rw [hr]
      with_reducible repeat' (first
        | refine AW.seq ?_
        | refine AW.region ?_
        | refine AW.block ?_
        | refine AOs.nil ?_
        | refine AW.skip ?_
        | refine AW.ret ?_
        | refine andThen_normal ?_
        | refine andThen_ret ?_
        | refine inBlock_ret ?_
        | refine AOs.guardF (by with_unfolding_all rfl) (by simp only [PT.get_set, Nat.reduceEqDiff, reduceIte]; rfl) (by first | rfl | decide | assumption) (by with_unfolding_all rfl) ?_
        | refine AW.condT (by simp only [aeval, PT.get_set, Nat.reduceEqDiff, reduceIte]; rfl) (by first | rfl | decide | assumption) ?_
        | ((first
            | refine AOs.op1E tOK (by with_unfolding_all rfl) ?_
            ); refine Step.mk (by simp only [evOp_move, evOp_assign, evOp_pick, evOp_binOp, evOp_index, evOp_len, aeval, ofVal, PT.get_set, Nat.reduceEqDiff, reduceIte, Option.map_some, abin_lss, cond_true, eq_self, al9, g0, g3, hd, hx, d1]; rfl) ?_)
        | fail "stop")
      exact fnPost_ret1 (by first | (simp only [PT.get_set, Nat.reduceEqDiff, reduceIte]; rfl) | simp only [PT.get_set, Nat.reduceEqDiff, reduceIte]) ⟨rfl, rfl⟩
    · have d1 : decide ((c.toNat : Int) < 97) = false := decide_eq_false (by omega)
      by_cases h2 : 122 < c.toNat
      · have d2 : decide ((122 : Int) < (c.toNat : Int)) = true := decide_eq_true (by omega)
        have hr : rightB s = false := by rw [rightB, lowB_false hc (.inr h2)]; simp
        rw [hr]
        with_reducible repeat' (first
          | refine AW.seq ?_
          | refine AW.region ?_
          | refine AW.block ?_
          | refine AOs.nil ?_
          | refine AW.skip ?_
          | refine AW.ret ?_
          | refine andThen_normal ?_
          | refine andThen_ret ?_
          | refine inBlock_ret ?_
          | refine AOs.guardT (by with_unfolding_all rfl) (by simp only [PT.get_set, Nat.reduceEqDiff, reduceIte]; rfl) (by first | rfl | decide | assumption) ?_
          | refine AW.condT (by simp only [aeval, PT.get_set, Nat.reduceEqDiff, reduceIte]; rfl) (by first | rfl | decide | assumption) ?_
          | ((first
              | refine AOs.op1E tOK (by with_unfolding_all rfl) ?_
              ); refine Step.mk (by simp only [evOp_move, evOp_assign, evOp_pick, evOp_binOp, evOp_index, evOp_len, aeval, ofVal, PT.get_set, Nat.reduceEqDiff, reduceIte, Option.map_some, abin_lss, abin_gtr, cond_false, eq_self, al9, g0, g3, hd, hx, d1, d2]; rfl) ?_)
          | fail "stop")
        exact fnPost_ret1 (by first | (simp only [PT.get_set, Nat.reduceEqDiff, reduceIte]; rfl) | simp only [PT.get_set, Nat.reduceEqDiff, reduceIte]) ⟨rfl, rfl⟩
      · have d2 : decide ((122 : Int) < (c.toNat : Int)) = false := decide_eq_false (by omega)
        with_reducible repeat' (first
          | refine AW.seq ?_
          | refine AW.region ?_
          | refine AW.block ?_
          | refine AOs.nil ?_
          | refine AW.skip ?_
          | refine andThen_normal ?_
          | refine inBlock_normal ?_
          | refine AOs.guardT (by with_unfolding_all rfl) (by simp only [PT.get_set, Nat.reduceEqDiff, reduceIte]; rfl) (by first | rfl | decide | assumption) ?_
          | refine AW.condT (by simp only [aeval, PT.get_set, Nat.reduceEqDiff, reduceIte]; rfl) (by first | rfl | decide | assumption) ?_
          | refine AW.condF (by simp only [aeval, PT.get_set, Nat.reduceEqDiff, reduceIte]; rfl) (by first | rfl | decide | assumption) ?_
          | ((first
              | refine AOs.op1E tOK (by with_unfolding_all rfl) ?_
              ); refine Step.mk (by simp only [evOp_move, evOp_assign, evOp_pick, evOp_binOp, evOp_index, evOp_len, aeval, ofVal, PT.get_set, Nat.reduceEqDiff, reduceIte, Option.map_some, abin_add, abin_lss, abin_gtr, cond_false, eq_self, al9, g0, g3, hd, hx, d1, d2]; rfl) ?_)
          | fail "stop")
        refine ⟨s.length - (i + 1), by omega, rfl, by simp [PT.get_set, g0], i + 1, by omega, rfl, ?_, ?_⟩
        · simp only [PT.get_set, Nat.reduceEqDiff, reduceIte, wrap64_succ (show i < 9223372036854775807 by omega)]
        · rw [lowB_take hc, hlow, decide_eq_true (show 97 ≤ c.toNat by omega), decide_eq_true (show c.toNat ≤ 122 by omega)]; rfl
  · have hd := nlt_int hil
    obtain rfl : i = s.length := by omega
    rw [List.take_length] at hlow
    have hr : rightB s = (decide (1 ≤ s.length) && decide (s.length ≤ 8)) := by rw [rightB, hlow, Bool.and_true]
    rw [hr]
    by_cases h1 : 1 ≤ s.length
    · have d1 : decide ((1 : Int) ≤ (s.length : Nat)) = true := decide_eq_true (by omega)
      have d2 : decide (((s.length : Nat) : Int) ≤ 8) = decide (s.length ≤ 8) := by
        by_cases h : s.length ≤ 8
        · rw [decide_eq_true h]; exact decide_eq_true (by omega)
        · rw [decide_eq_false h]; exact decide_eq_false (by omega)
      rw [decide_eq_true h1]
      with_reducible repeat' (first
        | refine AW.seq ?_
        | refine AW.region ?_
        | refine AOs.nil ?_
        | refine AW.exit ?_
        | refine AW.ret ?_
        | refine andThen_normal ?_
        | refine andThen_exit ?_
        | refine inBlock_hit ?_
        | refine AOs.guardT (by with_unfolding_all rfl) (by simp only [PT.get_set, Nat.reduceEqDiff, reduceIte]; rfl) (by first | rfl | decide | assumption) ?_
        | refine AW.condF (by simp only [aeval, PT.get_set, Nat.reduceEqDiff, reduceIte]; rfl) (by first | rfl | decide | assumption) ?_
        | ((first
            | refine AOs.op1E tOK (by with_unfolding_all rfl) ?_
            ); refine Step.mk (by simp only [evOp_move, evOp_assign, evOp_pick, evOp_binOp, evOp_len, aeval, ofVal, PT.get_set, Nat.reduceEqDiff, reduceIte, Option.map_some, abin_lss, abin_leq, abin_geq, cond_true, eq_self, al9, g0, g3, hd, d1, d2]; rfl) ?_)
        | fail "stop")
      exact fnPost_ret1 (by first | (simp only [PT.get_set, Nat.reduceEqDiff, reduceIte]; rfl) | simp only [PT.get_set, Nat.reduceEqDiff, reduceIte]) ⟨rfl, rfl⟩
    · have d1 : decide ((1 : Int) ≤ (s.length : Nat)) = false := decide_eq_false (by omega)
      rw [decide_eq_false h1]
      with_reducible repeat' (first
        | refine AW.seq ?_
        | refine AW.region ?_
        | refine AOs.nil ?_
        | refine AW.exit ?_
        | refine AW.ret ?_
        | refine andThen_normal ?_
        | refine andThen_exit ?_
        | refine inBlock_hit ?_
        | refine AOs.guardF (by with_unfolding_all rfl) (by simp only [PT.get_set, Nat.reduceEqDiff, reduceIte]; rfl) (by first | rfl | decide | assumption) (by with_unfolding_all rfl) ?_
        | refine AW.condF (by simp only [aeval, PT.get_set, Nat.reduceEqDiff, reduceIte]; rfl) (by first | rfl | decide | assumption) ?_
        | ((first
            | refine AOs.op1E tOK (by with_unfolding_all rfl) ?_
            ); refine Step.mk (by simp only [evOp_move, evOp_assign, evOp_pick, evOp_binOp, evOp_len, aeval, ofVal, PT.get_set, Nat.reduceEqDiff, reduceIte, Option.map_some, abin_lss, abin_geq, cond_false, eq_self, al9, g0, g3, hd, d1]; rfl) ?_)
        | fail "stop")
      exact fnPost_ret1 (by first | (simp only [PT.get_set, Nat.reduceEqDiff, reduceIte]; rfl) | simp only [PT.get_set, Nat.reduceEqDiff, reduceIte]) ⟨rfl, rfl⟩
end Go.Proofs.YtgihociajfgohaaGreatDoor

open Go Go.AB Go.Proofs
namespace Go.Proofs.YtgihociajfgohaaGreatDoor
set_option maxRecDepth 100000

theorem bs32_1 (F : Fns) (H : AH) (ev : Operand → AV) (dst : Option Tmp) (ty : TypeId) (pos : String) (after : Array Edge) (guard : Option (Nat × Bool)) (x : Operand) (hv : (ev x).one = true) :
    evOp tC F H ev { dst, op := .buildSlice 32 1 ⟨[(0, x)]⟩, type := ty, pos, after, guard } = some (.slice H.next 0 1 (.ex 1) 1, H.alloc (.cells false [ev x])) := evOp_buildSlice1 ti32 rfl ti5 rfl rfl rfl hv
theorem add9 {t : TypeId} {cst : Bool} {a b : List UInt8} (h : a.length + b.length ≤ 1000000000) : abin tC .add t cst (.str a) (.str b) = some (.str (a ++ b)) := by
  simp only [abin, astr]
  have : Nat.ble (a.length + b.length) 9223372036854775807 = true := Nat.ble_eq_true_of_le (by omega)
  rw [this]; rfl
theorem one_byte {K : AH} {b : Nat} {x : Nat} (h : K.get b = some (.cells false [.int .u8 (x : Int)])) (hx : x < 256) : BytesAt K (.slice b 0 1 (.ex 1) 1) [UInt8.ofNat x] := by
  refine .inr ⟨b, 0, .ex 1, false, _, rfl, h, ?_⟩
  have : (UInt8.ofNat x).toNat = x := by simp; omega
  simp [bytesAV, this]
theorem decDigits_lt {n : Nat} (h : n < 10) : Lib.decDigits n = [UInt8.ofNat (48 + n)] := by rw [Lib.decDigits, dif_pos h]
theorem decDigits_ge {n : Nat} (h : ¬ n < 10) : Lib.decDigits n = Lib.decDigits (n / 10) ++ [UInt8.ofNat (48 + n % 10)] := by rw [Lib.decDigits, dif_neg h]
theorem decDigits_len : ∀ n : Nat, n < 10000000000000000000000 → (Lib.decDigits n).length ≤ 1000 ∧ (Lib.decDigits n).length ≤ n + 1 := by
  intro n
  induction n using Nat.strongRecOn with
  | ind n ih =>
    intro hn
    have key : ∀ k n : Nat, n < 10 ^ (k + 1) → (Lib.decDigits n).length ≤ k + 1 := by
      intro k
      induction k with
      | zero => intro n h; rw [decDigits_lt (by simpa using h)]; simp
      | succ k ih =>
        intro n h
        by_cases h9 : n < 10
        · rw [decDigits_lt h9]; simp
        · rw [decDigits_ge h9, List.length_append]
          have := ih (n / 10) (by rw [Nat.pow_succ] at h; omega)
          simp; omega
    refine ⟨Nat.le_trans (key 21 n hn) (by omega), ?_⟩
    by_cases h9 : n < 10
    · rw [decDigits_lt h9]; simp
    · rw [decDigits_ge h9, List.length_append]
      have := (ih (n / 10) (by omega) (by omega)).2
      simp; omega

set_option maxHeartbeats 4000000 in
theorem digits42 (N : Nat) : ∀ (n : Nat), n < 1000000000 → ∀ (H : AH), AC tC N 0 42 [.int .i64 (n : Int)] H fun r K => r = .str (Lib.decDigits n) ∧ K = H := by
  intro n
  induction n using Nat.strongRecOn with
  | ind n ih =>
    intro hn H
    refine AC.quiet rfl ?_
    refine AC.wf0 fun hwf => ?_
    refine AC.by (n := 20) (rs := [.tmp 2]) tOK fn42 rfl rfl rfl rfl ?_
    have e0 : (PT.ofList .leaf 0 [AV.int .i64 (n : Int)]).get 0 = some (.int .i64 (n : Int)) := rfl
    by_cases h9 : n < 10
    · have hd : decide ((n : Int) < 10) = true := decide_eq_true (by omega)
      have hw1 : IntKind.i64.wrap (48 + (n : Int)) = ((48 + n : Nat) : Int) := by rw [wrap64 (by omega) (by omega)]; omega
      have hw2 : IntKind.u8.wrap ((48 + n : Nat) : Int) = ((48 + n : Nat) : Int) := by rw [wrapU8, Nat.mod_eq_of_lt (by omega)]
      generalize hK1 : H.alloc (.cells false [.int .u8 ((48 + n : Nat) : Int)]) = K1
      have g1 : K1.get H.next = some (.cells false [.int .u8 ((48 + n : Nat) : Int)]) := by rw [← hK1, AH.get_alloc, if_pos rfl]
      have hcv := cv32b (one_byte g1 (by omega))
      rw [decDigits_lt h9]
      with_reducible repeat' (first
        | refine AW.seq ?_
        | refine AW.region ?_
        | refine AOs.nil ?_
        | refine AW.ret ?_
        | refine andThen_normal ?_
        | refine andThen_ret ?_
        | refine AW.condT (by simp only [aeval, PT.get_set, Nat.reduceEqDiff, reduceIte]; rfl) (by first | rfl | decide | assumption) ?_
        | ((first
            | refine AOs.op1E tOK (by with_unfolding_all rfl) ?_
            ); refine Step.mk (by simp only [evOp_move, evOp_assign, evOp_binOp, evOp_convert, one_int, aeval, ofVal, PT.get_set, Nat.reduceEqDiff, reduceIte, Option.map_some, abin_add, abin_lss, eq_self, cv3_5, e0, hd, hw1, hw2, cv3_5, bs32_1, hK1, hcv]; rfl) ?_)
        | fail "stop")
      exact fnPost_ret1 (by first | (simp only [PT.get_set, Nat.reduceEqDiff, reduceIte]; rfl) | simp only [PT.get_set, Nat.reduceEqDiff, reduceIte]) ⟨rfl, fun b x hb => by rw [← hK1]; exact stay_alloc hwf _ b x hb⟩
    · have hd : decide ((n : Int) < 10) = false := decide_eq_false (by omega)
      have hq : ∀ cst t, abin tC .quo t cst (.int .i64 (n : Int)) (.int .i64 10) = some (.int .i64 ((n / 10 : Nat) : Int)) := fun cst t => by
        rw [abin_quo (by decide), show ((10 : Int)) = ((10 : Nat) : Int) from rfl, ← Int.ofNat_tdiv, wrap64 (by omega) (by omega)]
      have hm : ∀ cst t, abin tC .rem t cst (.int .i64 (n : Int)) (.int .i64 10) = some (.int .i64 ((n % 10 : Nat) : Int)) := fun cst t => by
        rw [abin_rem (by decide), show ((10 : Int)) = ((10 : Nat) : Int) from rfl, ← Int.ofNat_tmod]
      have hw1 : IntKind.i64.wrap (48 + ((n % 10 : Nat) : Int)) = ((48 + n % 10 : Nat) : Int) := by rw [wrap64 (by omega) (by omega)]; omega
      have hw2 : IntKind.u8.wrap ((48 + n % 10 : Nat) : Int) = ((48 + n % 10 : Nat) : Int) := by rw [wrapU8, Nat.mod_eq_of_lt (by omega)]
      have hlen := (decDigits_len (n / 10) (by omega)).1
      have hadd : ∀ t cst, abin tC .add t cst (.str (Lib.decDigits (n / 10))) (.str [UInt8.ofNat (48 + n % 10)]) = some (.str (Lib.decDigits (n / 10) ++ [UInt8.ofNat (48 + n % 10)])) := fun t cst => add9 (by simp; omega)
      have hrec : ∀ L : AH, AC tC N 0 42 [.int .i64 ((n / 10 : Nat) : Int)] L fun r K => r = .str (Lib.decDigits (n / 10)) ∧ K = L := fun L => ih (n / 10) (by omega) (by omega) L
      rw [decDigits_ge h9]
      with_reducible repeat' (first
        | refine AW.seq ?_
        | refine AW.region ?_
        | refine AOs.nil ?_
        | refine AW.skip ?_
        | refine andThen_normal ?_
        | refine AW.condF (by simp only [aeval, PT.get_set, Nat.reduceEqDiff, reduceIte]; rfl) (by first | rfl | decide | assumption) ?_
        | ((first
            | refine AOs.op1E tOK (by with_unfolding_all rfl) ?_
            ); refine Step.mk (by simp only [evOp_move, evOp_assign, evOp_binOp, aeval, ofVal, PT.get_set, Nat.reduceEqDiff, reduceIte, Option.map_some, abin_lss, eq_self, e0, hd]; rfl) ?_)
        | fail "stop")
      refine AW.drawN tOK (Qs := [2]) [0, 1, 2, 3, 4, 5, 6, 7, 8, 9, 10] (by kernel_rfl) (by simp only [pickL, List.getElem?_cons_zero, List.getElem?_cons_succ]; rfl) ?_
      with_reducible repeat' (first
        | ((first
            | refine DN.fl1E (by with_unfolding_all rfl) (by with_unfolding_all rfl) ?_
            | refine DN.rd1E (by kernel_rfl) (by with_unfolding_all rfl) ?_
            ); refine Step.mk (by simp only [evOp_move, evOp_binOp, aeval, ofVal, PT.get_set, Nat.reduceEqDiff, reduceIte, Option.map_some, eq_self, e0, hq]; rfl) ?_; refine Same.mk ?_)
        | fail "stop")
      refine DN.callQ (fs := []) (cs := []) rfl fn42 ok42 rfl (by simp only [List.map_cons, List.map_nil, List.nil_append, List.append_nil, aeval, PT.get_set, Nat.reduceEqDiff, reduceIte] <;> rfl) (hrec H) ?_
      generalize hK1 : H.alloc (.cells false [.int .u8 ((48 + n % 10 : Nat) : Int)]) = K1
      have g1 : K1.get H.next = some (.cells false [.int .u8 ((48 + n % 10 : Nat) : Int)]) := by rw [← hK1, AH.get_alloc, if_pos rfl]
      have hcv := cv32b (one_byte g1 (by omega))
      with_reducible repeat' (first
        | ((first
            | refine DN.fl1E (by with_unfolding_all rfl) (by with_unfolding_all rfl) ?_
            | refine DN.rd1E (by kernel_rfl) (by with_unfolding_all rfl) ?_
            ); refine Step.mk (by simp only [evOp_move, evOp_binOp, evOp_convert, aeval, ofVal, PT.get_set, Nat.reduceEqDiff, reduceIte, Option.map_some, abin_add, eq_self, cv3_5, e0, hm, hw1, hw2, cv3_5]; rfl) ?_; refine Same.mk ?_)
        | fail "stop")
      refine DN.actP tOK (by kernel_rfl) (by simp only [one_int, aeval, PT.get_set, Nat.reduceEqDiff, reduceIte, eq_self, bs32_1, hK1]; rfl) rfl ?_ ?_
      · repeat' (first | exact good_nil | refine good_cons ?_ ?_ | exact good_of (by kernel_rfl) rfl (by simp only [evOp_convert, aeval, PT.get_set, Nat.reduceEqDiff, reduceIte, eq_self, cv3_5, hw2, cv3_5] <;> rfl) 1 | fail "stop")
        exact good_callQ (fs := []) (cs := []) rfl fn42 ok42 (by simp only [List.map_cons, List.map_nil, List.nil_append, List.append_nil, aeval, PT.get_set, Nat.reduceEqDiff, reduceIte] <;> rfl) (hrec K1) 1
      with_reducible repeat' (first
        | refine AW.ret ?_
        | refine andThen_normal ?_
        | refine DN.nil tOK ?_
        | ((first
            | refine DN.fl1E (by with_unfolding_all rfl) (by with_unfolding_all rfl) ?_
            | refine DN.rd1E (by kernel_rfl) (by with_unfolding_all rfl) ?_
            ); refine Step.mk (by simp only [evOp_assign, evOp_binOp, evOp_convert, aeval, PT.get_set, Nat.reduceEqDiff, reduceIte, Option.map_some, eq_self, hcv, hadd]; rfl) ?_; refine Same.mk ?_)
        | fail "stop")
      exact fnPost_ret1 (by first | (simp only [PT.get_set, Nat.reduceEqDiff, reduceIte]; rfl) | simp only [PT.get_set, Nat.reduceEqDiff, reduceIte]) ⟨rfl, fun b x hb => by rw [← hK1]; exact stay_alloc hwf _ b x hb⟩

/-! What is behind a beginning. -/
theorem prefix85 (N : Nat) (H : AH) (s p : Nm) : AC tC N 0 85 [.str s, .str p] H fun r K => r = .bool (decide (p <+: s)) ∧ K = H := by
  refine AC.by (n := 18) (rs := [.tmp 4]) tOK fn85 rfl rfl rfl rfl ?_
  have e0 : (PT.ofList .leaf 0 [AV.str s, AV.str p]).get 0 = some (.str s) := rfl
  have e1 : (PT.ofList .leaf 0 [AV.str s, AV.str p]).get 1 = some (.str p) := rfl
  by_cases hl : p.length ≤ s.length
  · have hd : decide (((p.length : Nat) : Int) ≤ ((s.length : Nat) : Int)) = true := decide_eq_true (by omega)
    have hs : aslice tC 9 (.str s) none (some (.int .i64 (p.length : Int))) none = some (.str (s.take p.length)) := by
      have hb : ∀ d, bnd (some (AV.int .i64 (p.length : Int))) d = some p.length := fun d => rfl
      simp only [aslice, ti9, hb, show bnd none 0 = some 0 from rfl, nble, Nat.zero_le, hl, decide_true, Bool.and_true, cond_true, List.drop_zero, Nat.sub_zero]
    have he : decide (s.take p.length = p) = decide (p <+: s) := by
      by_cases h : p <+: s
      · rw [decide_eq_true h, decide_eq_true (List.prefix_iff_eq_take.1 h).symm]
      · rw [decide_eq_false h]
        exact decide_eq_false fun e => h (List.prefix_iff_eq_take.2 e.symm)
    rw [← he]
    with_reducible repeat' (first
      | refine AW.seq ?_
      | refine AW.region ?_
      | refine AOs.nil ?_
      | refine AW.ret ?_
      | refine andThen_normal ?_
      | refine AOs.guardT (by with_unfolding_all rfl) (by simp only [PT.get_set, Nat.reduceEqDiff, reduceIte]; rfl) (by first | rfl | decide | assumption) ?_
      | ((first
          | refine AOs.op1E tOK (by with_unfolding_all rfl) ?_
          ); refine Step.mk (by simp only [evOp_move, evOp_assign, evOp_pick, evOp_binOp, evOp_len, evOp_slice, aeval, ofVal, PT.get_set, Nat.reduceEqDiff, reduceIte, Option.map_some, Option.map_none, abin_geq, abin_eqlS, cond_true, eq_self, al9, e0, e1, hd, hs]; rfl) ?_)
      | fail "stop")
    exact fnPost_ret1 (by first | (simp only [PT.get_set, Nat.reduceEqDiff, reduceIte]; rfl) | simp only [PT.get_set, Nat.reduceEqDiff, reduceIte]) ⟨rfl, rfl⟩
  · have hd : decide (((p.length : Nat) : Int) ≤ ((s.length : Nat) : Int)) = false := decide_eq_false (by omega)
    have he : decide (p <+: s) = false := decide_eq_false fun h => hl h.length_le
    rw [he]
    with_reducible repeat' (first
      | refine AW.seq ?_
      | refine AW.region ?_
      | refine AOs.nil ?_
      | refine AW.ret ?_
      | refine andThen_normal ?_
      | refine AOs.guardF (by with_unfolding_all rfl) (by simp only [PT.get_set, Nat.reduceEqDiff, reduceIte]; rfl) (by first | rfl | decide | assumption) (by with_unfolding_all rfl) ?_
      | ((first
          | refine AOs.op1E tOK (by with_unfolding_all rfl) ?_
          ); refine Step.mk (by simp only [evOp_move, evOp_assign, evOp_pick, evOp_binOp, evOp_len, aeval, ofVal, PT.get_set, Nat.reduceEqDiff, reduceIte, Option.map_some, abin_geq, cond_false, eq_self, al9, e0, e1, hd]; rfl) ?_)
      | fail "stop")
    exact fnPost_ret1 (by first | (simp only [PT.get_set, Nat.reduceEqDiff, reduceIte]; rfl) | simp only [PT.get_set, Nat.reduceEqDiff, reduceIte]) ⟨rfl, rfl⟩
theorem cut56 (N : Nat) (H : AH) (s p : Nm) : AC tC N 0 56 [.str s, .str p] H fun r K => r = (if p <+: s then .tuple [.str (s.drop p.length), .bool true] else .tuple [.str s, .bool false]) ∧ K = H := by
  refine AC.by (n := 15) (rs := [.tmp 4, .tmp 5]) tOK fn56 rfl rfl rfl rfl ?_
  have e0 : (PT.ofList .leaf 0 [AV.str s, AV.str p]).get 0 = some (.str s) := rfl
  have e1 : (PT.ofList .leaf 0 [AV.str s, AV.str p]).get 1 = some (.str p) := rfl
  with_reducible repeat' (first
    | refine AW.seq ?_
    | refine AW.region ?_
    | refine AOs.nil ?_
    | refine andThen_normal ?_
    | ((first
        | refine AOs.op1E tOK (by with_unfolding_all rfl) ?_
        ); refine Step.mk (by simp only [evOp_move, evOp_assign, aeval, ofVal, PT.get_set, Nat.reduceEqDiff, reduceIte, e0, e1]; rfl) ?_)
    | fail "stop")
  refine AOs.callQ tOK (fs := []) (cs := []) rfl fn85 ok85 rfl (by simp only [List.map_cons, List.map_nil, List.nil_append, List.append_nil, aeval, PT.get_set, Nat.reduceEqDiff, reduceIte] <;> rfl) (prefix85 N H s p) ?_
  rintro r K ⟨rfl, rfl⟩
  by_cases h : p <+: s
  · have hl := h.length_le
    have hs : aslice tC 9 (.str s) (some (.int .i64 (p.length : Int))) none none = some (.str (s.drop p.length)) := by
      have hb : ∀ d, bnd (some (AV.int .i64 (p.length : Int))) d = some p.length := fun d => rfl
      simp only [aslice, ti9, hb, show bnd none s.length = some s.length from rfl, nble, Nat.le_refl, hl, decide_true, Bool.and_true, cond_true]
      rw [List.take_of_length_le (by simp)]
    rw [decide_eq_true h, if_pos h]
    with_reducible repeat' (first
      | refine AW.seq ?_
      | refine AW.region ?_
      | refine AOs.nil ?_
      | refine AW.skip ?_
      | refine AW.ret ?_
      | refine andThen_normal ?_
      | refine AW.condF (by simp only [aeval, PT.get_set, Nat.reduceEqDiff, reduceIte]; rfl) (by first | rfl | decide | assumption) ?_
      | ((first
          | refine AOs.op1E tOK (by with_unfolding_all rfl) ?_
          ); refine Step.mk (by simp only [evOp_move, evOp_assign, evOp_not, evOp_len, evOp_slice, aeval, ofVal, PT.get_set, Nat.reduceEqDiff, reduceIte, Option.map_some, Option.map_none, Bool.not_true, eq_self, al9, e0, e1, hs]; rfl) ?_)
      | fail "stop")
    exact fnPost_ret2 (by first | (simp only [PT.get_set, Nat.reduceEqDiff, reduceIte]; rfl) | simp only [PT.get_set, Nat.reduceEqDiff, reduceIte]) (by first | (simp only [PT.get_set, Nat.reduceEqDiff, reduceIte]; rfl) | simp only [PT.get_set, Nat.reduceEqDiff, reduceIte]) ⟨rfl, rfl⟩
  · rw [decide_eq_false h, if_neg h]
    with_reducible repeat' (first
      | refine AW.seq ?_
      | refine AW.region ?_
      | refine AOs.nil ?_
      | refine AW.ret ?_
      | refine andThen_normal ?_
      | refine andThen_ret ?_
      | refine AW.condT (by simp only [aeval, PT.get_set, Nat.reduceEqDiff, reduceIte]; rfl) (by first | rfl | decide | assumption) ?_
      | ((first
          | refine AOs.op1E tOK (by with_unfolding_all rfl) ?_
          ); refine Step.mk (by simp only [evOp_move, evOp_assign, evOp_not, aeval, ofVal, PT.get_set, Nat.reduceEqDiff, reduceIte, Bool.not_false, eq_self, e0]; rfl) ?_)
      | fail "stop")
    exact fnPost_ret2 (by first | (simp only [PT.get_set, Nat.reduceEqDiff, reduceIte]; rfl) | simp only [PT.get_set, Nat.reduceEqDiff, reduceIte]) (by first | (simp only [PT.get_set, Nat.reduceEqDiff, reduceIte]; rfl) | simp only [PT.get_set, Nat.reduceEqDiff, reduceIte]) ⟨rfl, rfl⟩
theorem cut33 (N : Nat) (H : AH) (s p : Nm) : AC tC N 0 33 [.str s, .str p] H fun r K => r = (if p <+: s then .tuple [.str (s.drop p.length), .bool true] else .tuple [.str s, .bool false]) ∧ K = H := by
  refine AC.by (n := 11) (rs := [.tmp 4, .tmp 5]) tOK fn33 rfl rfl rfl rfl ?_
  have e0 : (PT.ofList .leaf 0 [AV.str s, AV.str p]).get 0 = some (.str s) := rfl
  have e1 : (PT.ofList .leaf 0 [AV.str s, AV.str p]).get 1 = some (.str p) := rfl
  with_reducible repeat' (first
    | refine AW.seq ?_
    | refine AW.region ?_
    | refine AOs.nil ?_
    | refine andThen_normal ?_
    | ((first
        | refine AOs.op1E tOK (by with_unfolding_all rfl) ?_
        ); refine Step.mk (by simp only [evOp_move, evOp_assign, aeval, ofVal, PT.get_set, Nat.reduceEqDiff, reduceIte, e0, e1]; rfl) ?_)
    | fail "stop")
  refine AOs.callQ tOK (fs := []) (cs := []) rfl fn56 ok56 rfl (by simp only [List.map_cons, List.map_nil, List.nil_append, List.append_nil, aeval, PT.get_set, Nat.reduceEqDiff, reduceIte] <;> rfl) (cut56 N H s p) ?_
  rintro r K ⟨rfl, rfl⟩
  by_cases h : p <+: s
  · rw [if_pos h]
    with_reducible repeat' (first
      | refine AOs.nil ?_
      | refine AW.ret ?_
      | refine andThen_normal ?_
      | ((first
          | refine AOs.op1E tOK (by with_unfolding_all rfl) ?_
          ); refine Step.mk (by simp only [evOp_assign, evOp_extract, aeval, PT.get_set, Nat.reduceEqDiff, reduceIte, Option.map_some, List.getElem?_cons_zero, List.getElem?_cons_succ, eq_self]; rfl) ?_)
      | fail "stop")
    exact fnPost_ret2 (by first | (simp only [PT.get_set, Nat.reduceEqDiff, reduceIte]; rfl) | simp only [PT.get_set, Nat.reduceEqDiff, reduceIte]) (by first | (simp only [PT.get_set, Nat.reduceEqDiff, reduceIte]; rfl) | simp only [PT.get_set, Nat.reduceEqDiff, reduceIte]) ⟨rfl, rfl⟩
  · rw [if_neg h]
    with_reducible repeat' (first
      | refine AOs.nil ?_
      | refine AW.ret ?_
      | refine andThen_normal ?_
      | ((first
          | refine AOs.op1E tOK (by with_unfolding_all rfl) ?_
          ); refine Step.mk (by simp only [evOp_assign, evOp_extract, aeval, PT.get_set, Nat.reduceEqDiff, reduceIte, Option.map_some, List.getElem?_cons_zero, List.getElem?_cons_succ, eq_self]; rfl) ?_)
      | fail "stop")
    exact fnPost_ret2 (by first | (simp only [PT.get_set, Nat.reduceEqDiff, reduceIte]; rfl) | simp only [PT.get_set, Nat.reduceEqDiff, reduceIte]) (by first | (simp only [PT.get_set, Nat.reduceEqDiff, reduceIte]; rfl) | simp only [PT.get_set, Nat.reduceEqDiff, reduceIte]) ⟨rfl, rfl⟩

/-! Names of files. -/
def fileM (s : Nm) (n : Int) : Nm × Int := if rightB s = true ∧ 1 ≤ n ∧ n ≤ 999999 then (s ++ ([45] ++ Lib.decDigits n.toNat), 0) else ([], 2)
theorem rightB_len {s : Nm} (h : rightB s = true) : 1 ≤ s.length ∧ s.length ≤ 8 := by
  unfold rightB at h
  simp only [Bool.and_eq_true, decide_eq_true_eq] at h
  exact ⟨h.1, h.2.1⟩

set_option maxHeartbeats 1000000 in
theorem reffile12 (N : Nat) (H : AH) (s : Nm) (n : Int) (hs : s.length ≤ 1000000) : AC tC N 0 12 [.str s, .int .i64 n] H fun r K => r = .tuple [.str (fileM s n).1, .int .i64 (fileM s n).2] ∧ K = H := by
  refine AC.by (n := 22) (rs := [.tmp 4, .tmp 5]) tOK fn12 rfl rfl rfl rfl ?_
  have e0 : (PT.ofList .leaf 0 [AV.str s, AV.int .i64 n]).get 0 = some (.str s) := rfl
  have e1 : (PT.ofList .leaf 0 [AV.str s, AV.int .i64 n]).get 1 = some (.int .i64 n) := rfl
  with_reducible repeat' (first
    | refine AW.seq ?_
    | refine AW.region ?_
    | refine AOs.nil ?_
    | refine andThen_normal ?_
    | ((first
        | refine AOs.op1E tOK (by with_unfolding_all rfl) ?_
        ); refine Step.mk (by simp only [evOp_move, evOp_assign, aeval, ofVal, PT.get_set, Nat.reduceEqDiff, reduceIte, e0]; rfl) ?_)
    | fail "stop")
  refine AOs.callQ tOK (fs := []) (cs := []) rfl fn41 ok41 rfl (by simp only [List.map_cons, List.map_nil, List.nil_append, List.append_nil, aeval, PT.get_set, Nat.reduceEqDiff, reduceIte] <;> rfl) (name41 N H s hs) ?_
  rintro r K ⟨rfl, rfl⟩
  cases hr : rightB s with
  | false =>
    have hf : fileM s n = ([], 2) := by rw [fileM, if_neg (by rw [hr]; simp)]
    rw [hf]
    with_reducible repeat' (first
      | refine AW.seq ?_
      | refine AW.region ?_
      | refine AOs.nil ?_
      | refine AW.ret ?_
      | refine andThen_normal ?_
      | refine andThen_ret ?_
      | refine AOs.guardF (by with_unfolding_all rfl) (by simp only [PT.get_set, Nat.reduceEqDiff, reduceIte]; rfl) (by first | rfl | decide | assumption) (by with_unfolding_all rfl) ?_
      | refine AW.condT (by simp only [aeval, PT.get_set, Nat.reduceEqDiff, reduceIte]; rfl) (by first | rfl | decide | assumption) ?_
      | ((first
          | refine AOs.op1E tOK (by with_unfolding_all rfl) ?_
          ); refine Step.mk (by simp only [evOp_move, evOp_assign, evOp_pick, evOp_not, aeval, ofVal, PT.get_set, Nat.reduceEqDiff, reduceIte, cond_true, Bool.not_false, eq_self]; rfl) ?_)
      | fail "stop")
    exact fnPost_ret2 (by first | (simp only [PT.get_set, Nat.reduceEqDiff, reduceIte]; rfl) | simp only [PT.get_set, Nat.reduceEqDiff, reduceIte]) (by first | (simp only [PT.get_set, Nat.reduceEqDiff, reduceIte]; rfl) | simp only [PT.get_set, Nat.reduceEqDiff, reduceIte]) ⟨rfl, rfl⟩
  | true =>
    by_cases h1 : n < 1
    · have d1 : decide (n < 1) = true := decide_eq_true h1
      have hf : fileM s n = ([], 2) := by rw [fileM, if_neg (by omega)]
      rw [hf]
      with_reducible repeat' (first
        | refine AW.seq ?_
        | refine AW.region ?_
        | refine AOs.nil ?_
        | refine AW.ret ?_
        | refine andThen_normal ?_
        | refine andThen_ret ?_
        | refine AOs.guardT (by with_unfolding_all rfl) (by simp only [PT.get_set, Nat.reduceEqDiff, reduceIte]; rfl) (by first | rfl | decide | assumption) ?_
        | refine AOs.guardF (by with_unfolding_all rfl) (by simp only [PT.get_set, Nat.reduceEqDiff, reduceIte]; rfl) (by first | rfl | decide | assumption) (by with_unfolding_all rfl) ?_
        | refine AW.condT (by simp only [aeval, PT.get_set, Nat.reduceEqDiff, reduceIte]; rfl) (by first | rfl | decide | assumption) ?_
        | ((first
            | refine AOs.op1E tOK (by with_unfolding_all rfl) ?_
            ); refine Step.mk (by simp only [evOp_move, evOp_assign, evOp_pick, evOp_binOp, evOp_not, aeval, ofVal, PT.get_set, Nat.reduceEqDiff, reduceIte, Option.map_some, abin_lss, cond_true, cond_false, Bool.not_true, eq_self, e1, d1]; rfl) ?_)
        | fail "stop")
      exact fnPost_ret2 (by first | (simp only [PT.get_set, Nat.reduceEqDiff, reduceIte]; rfl) | simp only [PT.get_set, Nat.reduceEqDiff, reduceIte]) (by first | (simp only [PT.get_set, Nat.reduceEqDiff, reduceIte]; rfl) | simp only [PT.get_set, Nat.reduceEqDiff, reduceIte]) ⟨rfl, rfl⟩
    · have d1 : decide (n < 1) = false := decide_eq_false h1
      by_cases h2 : 999999 < n
      · have d2 : decide (999999 < n) = true := decide_eq_true h2
        have hf : fileM s n = ([], 2) := by rw [fileM, if_neg (by omega)]
        rw [hf]
        with_reducible repeat' (first
          | refine AW.seq ?_
          | refine AW.region ?_
          | refine AOs.nil ?_
          | refine AW.ret ?_
          | refine andThen_normal ?_
          | refine andThen_ret ?_
          | refine AOs.guardT (by with_unfolding_all rfl) (by simp only [PT.get_set, Nat.reduceEqDiff, reduceIte]; rfl) (by first | rfl | decide | assumption) ?_
          | refine AW.condT (by simp only [aeval, PT.get_set, Nat.reduceEqDiff, reduceIte]; rfl) (by first | rfl | decide | assumption) ?_
          | ((first
              | refine AOs.op1E tOK (by with_unfolding_all rfl) ?_
              ); refine Step.mk (by simp only [evOp_move, evOp_assign, evOp_pick, evOp_binOp, evOp_not, aeval, ofVal, PT.get_set, Nat.reduceEqDiff, reduceIte, Option.map_some, abin_lss, abin_gtr, cond_false, Bool.not_true, eq_self, e1, d1, d2]; rfl) ?_)
          | fail "stop")
        exact fnPost_ret2 (by first | (simp only [PT.get_set, Nat.reduceEqDiff, reduceIte]; rfl) | simp only [PT.get_set, Nat.reduceEqDiff, reduceIte]) (by first | (simp only [PT.get_set, Nat.reduceEqDiff, reduceIte]; rfl) | simp only [PT.get_set, Nat.reduceEqDiff, reduceIte]) ⟨rfl, rfl⟩
      · have d2 : decide (999999 < n) = false := decide_eq_false h2
        have hf : fileM s n = (s ++ ([45] ++ Lib.decDigits n.toNat), 0) := by rw [fileM, if_pos ⟨hr, by omega, by omega⟩]
        rw [hf]
        obtain ⟨m, rfl⟩ : ∃ m : Nat, n = (m : Int) := ⟨n.toNat, by omega⟩
        have hlen := (decDigits_len m (by omega)).1
        have ha1 : ∀ t cst, abin tC .add t cst (.str s) (.str [45]) = some (.str (s ++ [45])) := fun t cst => add9 (by simp; omega)
        have ha2 : ∀ t cst, abin tC .add t cst (.str (s ++ [45])) (.str (Lib.decDigits m)) = some (.str (s ++ [45] ++ Lib.decDigits m)) := fun t cst => add9 (by simp; omega)
        with_reducible repeat' (first
          | refine AW.seq ?_
          | refine AW.region ?_
          | refine AOs.nil ?_
          | refine AW.skip ?_
          | refine andThen_normal ?_
          | refine AOs.guardT (by with_unfolding_all rfl) (by simp only [PT.get_set, Nat.reduceEqDiff, reduceIte]; rfl) (by first | rfl | decide | assumption) ?_
          | refine AW.condF (by simp only [aeval, PT.get_set, Nat.reduceEqDiff, reduceIte]; rfl) (by first | rfl | decide | assumption) ?_
          | ((first
              | refine AOs.op1E tOK (by with_unfolding_all rfl) ?_
              ); refine Step.mk (by simp only [evOp_move, evOp_pick, evOp_binOp, evOp_not, aeval, ofVal, PT.get_set, Nat.reduceEqDiff, reduceIte, Option.map_some, abin_lss, abin_gtr, cond_false, Bool.not_true, eq_self, e0, e1, d1, d2, ha1]; rfl) ?_)
          | fail "stop")
        refine AOs.callQ tOK (fs := []) (cs := []) rfl fn42 ok42 rfl (by simp only [List.map_cons, List.map_nil, List.nil_append, List.append_nil, aeval, PT.get_set, Nat.reduceEqDiff, reduceIte] <;> rfl) (digits42 N m (by omega) K) ?_
        rintro r K ⟨rfl, rfl⟩
        with_reducible repeat' (first
          | refine AOs.nil ?_
          | refine AW.ret ?_
          | refine andThen_normal ?_
          | ((first
              | refine AOs.op1E tOK (by with_unfolding_all rfl) ?_
              ); refine Step.mk (by simp only [evOp_assign, evOp_binOp, aeval, ofVal, PT.get_set, Nat.reduceEqDiff, reduceIte, Option.map_some, eq_self, ha2]; rfl) ?_)
          | fail "stop")
        exact fnPost_ret2 (by first | (simp only [PT.get_set, Nat.reduceEqDiff, reduceIte]; rfl) | simp only [PT.get_set, Nat.reduceEqDiff, reduceIte]) (by first | (simp only [PT.get_set, Nat.reduceEqDiff, reduceIte]; rfl) | simp only [PT.get_set, Nat.reduceEqDiff, reduceIte]) ⟨by rw [List.append_assoc, Int.toNat_natCast], rfl⟩
end Go.Proofs.YtgihociajfgohaaGreatDoor

open Go Go.AB Go.Proofs
namespace Go.Proofs.YtgihociajfgohaaGreatDoor
set_option maxRecDepth 100000

def digB (c : UInt8) : Bool := decide (48 ≤ c.toNat) && decide (c.toNat ≤ 57)
def valF (t : Nm) (acc : Nat) : Nat := t.foldl (fun a c => a * 10 + (c.toNat - 48)) acc
def valN (t : Nm) : Nat := valF t 0
theorem valF_app (t u : Nm) (a : Nat) : valF (t ++ u) a = valF u (valF t a) := List.foldl_append
theorem valF_take {t : Nm} {i : Nat} {c : UInt8} (h : t[i]? = some c) (a : Nat) : valF (t.take (i + 1)) a = valF (t.take i) a * 10 + (c.toNat - 48) := by
  rw [List.take_add_one, h, valF_app]; rfl
theorem digB_of {x : Nat} (h : x < 10) : digB (UInt8.ofNat (48 + x)) = true ∧ (UInt8.ofNat (48 + x)).toNat - 48 = x := by
  have : (UInt8.ofNat (48 + x)).toNat = 48 + x := by simp; omega
  unfold digB
  rw [this]
  simp; omega
theorem dec_dig : ∀ n : Nat, (Lib.decDigits n).all digB = true := by
  intro n
  induction n using Nat.strongRecOn with
  | ind n ih =>
    by_cases h : n < 10
    · rw [decDigits_lt h]; simp only [List.all_cons, List.all_nil, (digB_of h).1, Bool.and_true]
    · rw [decDigits_ge h, List.all_append, ih (n / 10) (by omega)]; simp only [List.all_cons, List.all_nil, (digB_of (show n % 10 < 10 by omega)).1, Bool.and_true]
theorem dec_val : ∀ n : Nat, valN (Lib.decDigits n) = n := by
  intro n
  induction n using Nat.strongRecOn with
  | ind n ih =>
    by_cases h : n < 10
    · rw [decDigits_lt h]
      have := (digB_of h).2
      simp only [valN, valF, List.foldl_cons, List.foldl_nil]; omega
    · rw [decDigits_ge h, valN, valF_app]
      have h1 := ih (n / 10) (by omega)
      have h2 := (digB_of (show n % 10 < 10 by omega)).2
      unfold valN at h1
      rw [h1]
      simp only [valF, List.foldl_cons, List.foldl_nil]; omega
theorem dec_len {k : Nat} : ∀ {n : Nat}, n < 10 ^ (k + 1) → 1 ≤ (Lib.decDigits n).length ∧ (Lib.decDigits n).length ≤ k + 1 := by
  induction k with
  | zero => intro n h; rw [decDigits_lt (by simpa using h)]; simp
  | succ k ih =>
    intro n h
    by_cases h9 : n < 10
    · rw [decDigits_lt h9]; simp
    · rw [decDigits_ge h9, List.length_append]
      have := ih (n := n / 10) (by rw [Nat.pow_succ] at h; omega)
      simp; omega
theorem valF_lt : ∀ (t : Nm) (a : Nat), t.all digB = true → valF t a < (a + 1) * 10 ^ t.length
  | [], a, _ => by simp [valF]
  | c :: t, a, h => by
    simp only [List.all_cons, Bool.and_eq_true, digB, decide_eq_true_eq] at h
    have ih := valF_lt t (a * 10 + (c.toNat - 48)) h.2
    have e : valF (c :: t) a = valF t (a * 10 + (c.toNat - 48)) := rfl
    rw [e, List.length_cons, Nat.pow_succ, Nat.mul_comm (10 ^ t.length) 10, ← Nat.mul_assoc]
    exact Nat.lt_of_lt_of_le ih (Nat.mul_le_mul_right _ (by omega))
theorem parse_dig : ∀ (t : Nm) (a : Nat), t.all digB = true → (a + 1) * 10 ^ t.length ≤ 1000000000000000000 → Lib.parseUint10 a t = .ok (valF t a)
  | [], a, _, _ => rfl
  | c :: t, a, h, hb => by
    simp only [List.all_cons, Bool.and_eq_true, digB, decide_eq_true_eq] at h
    have hp : 1 ≤ 10 ^ t.length := Nat.one_le_pow _ _ (by decide)
    rw [List.length_cons, Nat.pow_succ, Nat.mul_comm (10 ^ t.length) 10, ← Nat.mul_assoc] at hb
    have h1 : (a + 1) * 10 ≤ 1000000000000000000 := Nat.le_trans (Nat.le_mul_of_pos_right _ hp) hb
    have ih := parse_dig t (a * 10 + (c.toNat - 48)) h.2 (Nat.le_trans (Nat.mul_le_mul_right _ (by omega)) hb)
    unfold Lib.parseUint10
    rw [if_pos ⟨h.1.1, h.1.2⟩, if_neg (by omega), if_neg (by omega), ih]; rfl
theorem atoi_dec {n : Nat} (h : n < 1000000) : Lib.atoiAll (Lib.decDigits n) = .ok (n : Int) := by
  have hl := dec_len (k := 5) (n := n) (by omega)
  have hd := dec_dig n
  have hv := dec_val n
  cases ht : Lib.decDigits n with
  | nil => rw [ht] at hl; simp at hl
  | cons c r =>
    rw [ht] at hl hd hv
    have hp := parse_dig (c :: r) 0 hd (by
      have : 10 ^ (c :: r).length ≤ 10 ^ 6 := Nat.pow_le_pow_right (by decide) hl.2
      omega)
    have hc : digB c = true := by simp only [List.all_cons, Bool.and_eq_true] at hd; exact hd.1
    simp only [digB, Bool.and_eq_true, decide_eq_true_eq] at hc
    have hm : Lib.parseMag (c :: r) = .ok n := by
      unfold Lib.parseMag
      rw [if_neg (by simp), hp]
      unfold valN at hv; rw [hv]
    unfold Lib.atoiAll
    simp only
    rw [if_neg (show ¬ (c.toNat = 43 ∨ c.toNat = 45) by omega), hm]
    simp only
    rw [if_neg (by omega), if_neg (by omega), if_neg (by omega)]

/-- The generation of a file's name. -/
def ofM (s file : Nm) : Int × Bool :=
  if rightB s = true ∧ (s ++ [45]) <+: file ∧ 1 ≤ valN (file.drop (s.length + 1)) ∧ valN (file.drop (s.length + 1)) ≤ 999999 ∧ Lib.decDigits (valN (file.drop (s.length + 1))) = file.drop (s.length + 1) then (valN (file.drop (s.length + 1)), true) else (0, false)
theorem ofM_no {s file : Nm} (h : ¬ (rightB s = true ∧ (s ++ [45]) <+: file ∧ 1 ≤ valN (file.drop (s.length + 1)) ∧ valN (file.drop (s.length + 1)) ≤ 999999 ∧ Lib.decDigits (valN (file.drop (s.length + 1))) = file.drop (s.length + 1))) : ofM s file = (0, false) := if_neg h
theorem behind {s file : Nm} (h : (s ++ [45]) <+: file) : file = s ++ ([45] ++ file.drop (s.length + 1)) := by
  obtain ⟨t, rfl⟩ := h
  rw [List.drop_left' (by simp), List.append_assoc]
theorem behind_len {s file : Nm} (h : (s ++ [45]) <+: file) : file.length = s.length + 1 + (file.drop (s.length + 1)).length := by
  have := h.length_le
  rw [List.length_drop]; simp at this; omega

set_option maxHeartbeats 4000000 in
theorem refof13 (N : Nat) (H : AH) (s file : Nm) (hs : s.length ≤ 1000000) (hf : file.length ≤ 1000000) : AC tC N 0 13 [.str s, .str file] H fun r K => r = .tuple [.int .i64 (ofM s file).1, .bool (ofM s file).2] ∧ K = H := by
  refine AC.by (n := 80) (rs := [.tmp 4, .tmp 5]) tOK fn13 rfl rfl rfl rfl ?_
  have e0 : (PT.ofList .leaf 0 [AV.str s, AV.str file]).get 0 = some (.str s) := rfl
  have e1 : (PT.ofList .leaf 0 [AV.str s, AV.str file]).get 1 = some (.str file) := rfl
  with_reducible repeat' (first
    | refine AW.seq ?_
    | refine AW.region ?_
    | refine AOs.nil ?_
    | refine andThen_normal ?_
    | ((first
        | refine AOs.op1E tOK (by with_unfolding_all rfl) ?_
        ); refine Step.mk (by simp only [evOp_move, evOp_assign, aeval, ofVal, PT.get_set, Nat.reduceEqDiff, reduceIte, e0]; rfl) ?_)
    | fail "stop")
  refine AOs.callQ tOK (fs := []) (cs := []) rfl fn41 ok41 rfl (by simp only [List.map_cons, List.map_nil, List.nil_append, List.append_nil, aeval, PT.get_set, Nat.reduceEqDiff, reduceIte] <;> rfl) (name41 N H s hs) ?_
  rintro r K ⟨rfl, rfl⟩
  cases hr : rightB s with
  | false =>
    rw [ofM_no (by rw [hr]; simp)]
    with_reducible repeat' (first
      | refine AW.seq ?_
      | refine AW.region ?_
      | refine AOs.nil ?_
      | refine AW.ret ?_
      | refine andThen_normal ?_
      | refine andThen_ret ?_
      | refine AOs.guardF (by with_unfolding_all rfl) (by simp only [PT.get_set, Nat.reduceEqDiff, reduceIte]; rfl) (by first | rfl | decide | assumption) (by with_unfolding_all rfl) ?_
      | refine AW.condT (by simp only [aeval, PT.get_set, Nat.reduceEqDiff, reduceIte]; rfl) (by first | rfl | decide | assumption) ?_
      | ((first
          | refine AOs.op1E tOK (by with_unfolding_all rfl) ?_
          ); refine Step.mk (by simp only [evOp_move, evOp_assign, evOp_pick, evOp_not, aeval, ofVal, PT.get_set, Nat.reduceEqDiff, reduceIte, cond_true, Bool.not_false, eq_self]; rfl) ?_)
      | fail "stop")
    exact fnPost_ret2 (by first | (simp only [PT.get_set, Nat.reduceEqDiff, reduceIte]; rfl) | simp only [PT.get_set, Nat.reduceEqDiff, reduceIte]) (by first | (simp only [PT.get_set, Nat.reduceEqDiff, reduceIte]; rfl) | simp only [PT.get_set, Nat.reduceEqDiff, reduceIte]) ⟨rfl, rfl⟩
  | true =>
    have h8 := rightB_len hr
    have w2 : IntKind.i64.wrap (((s.length : Nat) : Int) + 2) = ((s.length + 2 : Nat) : Int) := by rw [wrap64 (by omega) (by omega)]; omega
    have w7 : IntKind.i64.wrap (((s.length : Nat) : Int) + 7) = ((s.length + 7 : Nat) : Int) := by rw [wrap64 (by omega) (by omega)]; omega
    have w1 : IntKind.i64.wrap (((s.length : Nat) : Int) + 1) = ((s.length + 1 : Nat) : Int) := by rw [wrap64 (by omega) (by omega)]; omega
    by_cases hl2 : file.length < s.length + 2
    · have d1 : decide (((file.length : Nat) : Int) < ((s.length + 2 : Nat) : Int)) = true := decide_eq_true (by omega)
      rw [ofM_no (fun ⟨_, hp, h1, h2, hd⟩ => by
        have := behind_len hp
        have := (dec_len (k := 5) (n := valN (file.drop (s.length + 1))) (by omega)).1
        rw [hd] at this; omega)]
      with_reducible repeat' (first
        | refine AW.seq ?_
        | refine AW.region ?_
        | refine AOs.nil ?_
        | refine AW.ret ?_
        | refine andThen_normal ?_
        | refine andThen_ret ?_
        | refine AOs.guardT (by with_unfolding_all rfl) (by simp only [PT.get_set, Nat.reduceEqDiff, reduceIte]; rfl) (by first | rfl | decide | assumption) ?_
        | refine AOs.guardF (by with_unfolding_all rfl) (by simp only [PT.get_set, Nat.reduceEqDiff, reduceIte]; rfl) (by first | rfl | decide | assumption) (by with_unfolding_all rfl) ?_
        | refine AW.condT (by simp only [aeval, PT.get_set, Nat.reduceEqDiff, reduceIte]; rfl) (by first | rfl | decide | assumption) ?_
        | ((first
            | refine AOs.op1E tOK (by with_unfolding_all rfl) ?_
            ); refine Step.mk (by simp only [evOp_move, evOp_assign, evOp_pick, evOp_binOp, evOp_not, evOp_len, aeval, ofVal, PT.get_set, Nat.reduceEqDiff, reduceIte, Option.map_some, abin_add, abin_lss, cond_true, cond_false, Bool.not_true, eq_self, al9, e0, e1, w2, d1]; rfl) ?_)
        | fail "stop")
      exact fnPost_ret2 (by first | (simp only [PT.get_set, Nat.reduceEqDiff, reduceIte]; rfl) | simp only [PT.get_set, Nat.reduceEqDiff, reduceIte]) (by first | (simp only [PT.get_set, Nat.reduceEqDiff, reduceIte]; rfl) | simp only [PT.get_set, Nat.reduceEqDiff, reduceIte]) ⟨rfl, rfl⟩
    have d1 : decide (((file.length : Nat) : Int) < ((s.length + 2 : Nat) : Int)) = false := decide_eq_false (by omega)
    by_cases hl7 : s.length + 7 < file.length
    · have d2 : decide (((s.length + 7 : Nat) : Int) < ((file.length : Nat) : Int)) = true := decide_eq_true (by omega)
      rw [ofM_no (fun ⟨_, hp, h1, h2, hd⟩ => by
        have := behind_len hp
        have := (dec_len (k := 5) (n := valN (file.drop (s.length + 1))) (by omega)).2
        rw [hd] at this; omega)]
      with_reducible repeat' (first
        | refine AW.seq ?_
        | refine AW.region ?_
        | refine AOs.nil ?_
        | refine AW.ret ?_
        | refine andThen_normal ?_
        | refine andThen_ret ?_
        | refine AOs.guardT (by with_unfolding_all rfl) (by simp only [PT.get_set, Nat.reduceEqDiff, reduceIte]; rfl) (by first | rfl | decide | assumption) ?_
        | refine AOs.guardF (by with_unfolding_all rfl) (by simp only [PT.get_set, Nat.reduceEqDiff, reduceIte]; rfl) (by first | rfl | decide | assumption) (by with_unfolding_all rfl) ?_
        | refine AW.condT (by simp only [aeval, PT.get_set, Nat.reduceEqDiff, reduceIte]; rfl) (by first | rfl | decide | assumption) ?_
        | ((first
            | refine AOs.op1E tOK (by with_unfolding_all rfl) ?_
            ); refine Step.mk (by simp only [evOp_move, evOp_assign, evOp_pick, evOp_binOp, evOp_not, evOp_len, aeval, ofVal, PT.get_set, Nat.reduceEqDiff, reduceIte, Option.map_some, abin_add, abin_lss, abin_gtr, cond_true, cond_false, Bool.not_true, eq_self, al9, e0, e1, w2, w7, d1, d2]; rfl) ?_)
        | fail "stop")
      exact fnPost_ret2 (by first | (simp only [PT.get_set, Nat.reduceEqDiff, reduceIte]; rfl) | simp only [PT.get_set, Nat.reduceEqDiff, reduceIte]) (by first | (simp only [PT.get_set, Nat.reduceEqDiff, reduceIte]; rfl) | simp only [PT.get_set, Nat.reduceEqDiff, reduceIte]) ⟨rfl, rfl⟩
    have d2 : decide (((s.length + 7 : Nat) : Int) < ((file.length : Nat) : Int)) = false := decide_eq_false (by omega)
    have hsl : aslice tC 9 (.str file) none (some (.int .i64 ((s.length + 1 : Nat) : Int))) none = some (.str (file.take (s.length + 1))) := by
      have hb : ∀ d, bnd (some (AV.int .i64 ((s.length + 1 : Nat) : Int))) d = some (s.length + 1) := fun d => rfl
      simp only [aslice, ti9, hb, show bnd none 0 = some 0 from rfl, nble, Nat.zero_le, show s.length + 1 ≤ file.length by omega, decide_true, Bool.and_true, cond_true, List.drop_zero, Nat.sub_zero]
    have ha1 : ∀ t cst, abin tC .add t cst (.str s) (.str [45]) = some (.str (s ++ [45])) := fun t cst => add9 (by simp; omega)
    by_cases hp : (s ++ [45]) <+: file
    case neg =>
      have d3 : decide (file.take (s.length + 1) = s ++ [45]) = false := decide_eq_false fun e => hp (List.prefix_iff_eq_take.2 (by rw [List.length_append]; exact e.symm))
      rw [ofM_no (fun h => hp h.2.1)]
      with_reducible repeat' (first
        | refine AW.seq ?_
        | refine AW.region ?_
        | refine AOs.nil ?_
        | refine AW.ret ?_
        | refine andThen_normal ?_
        | refine andThen_ret ?_
        | refine AOs.guardT (by with_unfolding_all rfl) (by simp only [PT.get_set, Nat.reduceEqDiff, reduceIte]; rfl) (by first | rfl | decide | assumption) ?_
        | refine AW.condT (by simp only [aeval, PT.get_set, Nat.reduceEqDiff, reduceIte]; rfl) (by first | rfl | decide | assumption) ?_
        | ((first
            | refine AOs.op1E tOK (by with_unfolding_all rfl) ?_
            ); refine Step.mk (by simp only [evOp_move, evOp_assign, evOp_pick, evOp_binOp, evOp_not, evOp_len, evOp_slice, aeval, ofVal, PT.get_set, Nat.reduceEqDiff, reduceIte, Option.map_some, Option.map_none, abin_add, abin_lss, abin_gtr, abin_neqS, cond_false, Bool.not_true, Bool.not_false, eq_self, al9, e0, e1, w2, w7, w1, d1, d2, hsl, ha1, d3]; rfl) ?_)
        | fail "stop")
      exact fnPost_ret2 (by first | (simp only [PT.get_set, Nat.reduceEqDiff, reduceIte]; rfl) | simp only [PT.get_set, Nat.reduceEqDiff, reduceIte]) (by first | (simp only [PT.get_set, Nat.reduceEqDiff, reduceIte]; rfl) | simp only [PT.get_set, Nat.reduceEqDiff, reduceIte]) ⟨rfl, rfl⟩
    have d3 : decide (file.take (s.length + 1) = s ++ [45]) = true := decide_eq_true (by have := List.prefix_iff_eq_take.1 hp; rw [List.length_append] at this; exact this.symm)
    obtain ⟨t, ht⟩ : ∃ t, t = file.drop (s.length + 1) := ⟨_, rfl⟩
    have hbl := behind_len hp
    rw [← ht] at hbl
    with_reducible repeat' (first
      | refine AW.seq ?_
      | refine AW.region ?_
      | refine AW.block ?_
      | refine AOs.nil ?_
      | refine AW.skip ?_
      | refine andThen_normal ?_
      | refine AOs.guardT (by with_unfolding_all rfl) (by simp only [PT.get_set, Nat.reduceEqDiff, reduceIte]; rfl) (by first | rfl | decide | assumption) ?_
      | refine AW.condF (by simp only [aeval, PT.get_set, Nat.reduceEqDiff, reduceIte]; rfl) (by first | rfl | decide | assumption) ?_
      | ((first
          | refine AOs.op1E tOK (by with_unfolding_all rfl) ?_
          ); refine Step.mk (by simp only [evOp_move, evOp_assign, evOp_pick, evOp_binOp, evOp_not, evOp_len, evOp_slice, aeval, ofVal, PT.get_set, Nat.reduceEqDiff, reduceIte, Option.map_some, Option.map_none, abin_add, abin_lss, abin_gtr, abin_neqS, cond_false, Bool.not_true, eq_self, al9, e0, e1, w2, w7, w1, d1, d2, hsl, ha1, d3]; rfl) ?_)
      | fail "stop")
    refine AW.loop (fun m T L => L = K ∧ T.get 0 = some (.str s) ∧ T.get 1 = some (.str file) ∧ ∃ i : Nat, i ≤ t.length ∧ m = t.length - i ∧ T.get 7 = some (.int .i64 ((s.length + 1 + i : Nat) : Int)) ∧ T.get 6 = some (.int .i64 ((valF (t.take i) 0 : Nat) : Int)) ∧ (t.take i).all digB = true) ?_ (t.length - 0)
      ⟨rfl, by simp [PT.get_set, e0], by simp [PT.get_set, e1], 0, by omega, rfl, by simp [PT.get_set], by simp [PT.get_set, valF], rfl⟩
    rintro m T L ⟨rfl, g0, g1, i, hi, rfl, g7, g6, hall⟩
    have hvl := valF_lt (t.take i) 0 hall
    have hvl2 : valF (t.take i) 0 < 1000000 := by
      have : 10 ^ (t.take i).length ≤ 10 ^ 6 := Nat.pow_le_pow_right (by decide) (by rw [List.length_take]; omega)
      omega
    by_cases hil : i < t.length
    · have hd : decide (((s.length + 1 + i : Nat) : Int) < ((file.length : Nat) : Int)) = true := decide_eq_true (by omega)
      obtain ⟨c, hc⟩ : ∃ c, t[i]? = some c := ⟨_, List.getElem?_eq_getElem hil⟩
      have hcf : file[s.length + 1 + i]? = some c := by rw [ht, List.getElem?_drop] at hc; exact hc
      have hx : ∀ k, aindex tC 9 (.str file) (.int k ((s.length + 1 + i : Nat) : Int)) = some (.int .u8 (c.toNat : Int)) := fun k => idx9 file k _ c hcf
      by_cases hdg : digB c = true
      case neg =>
        have hno : ofM s file = (0, false) := ofM_no fun ⟨_, _, _, _, hdd⟩ => by
          have := dec_dig (valN (file.drop (s.length + 1)))
          rw [hdd, ← ht, List.all_eq_true] at this
          exact hdg (this c (List.mem_of_getElem? hc))
        rw [hno]
        by_cases h1 : c.toNat < 48
        · have q1 : decide (((c.toNat : Nat) : Int) < 48) = true := decide_eq_true (by omega)
          with_reducible repeat' (first
            | refine AW.seq ?_
            | refine AW.region ?_
            | refine AW.block ?_
            | refine AOs.nil ?_
            | refine AW.skip ?_
            | refine AW.ret ?_
            | refine andThen_normal ?_
            | refine andThen_ret ?_
            | refine inBlock_ret ?_
            | refine AOs.guardF (by with_unfolding_all rfl) (by simp only [PT.get_set, Nat.reduceEqDiff, reduceIte]; rfl) (by first | rfl | decide | assumption) (by with_unfolding_all rfl) ?_
            | refine AW.condT (by simp only [aeval, PT.get_set, Nat.reduceEqDiff, reduceIte]; rfl) (by first | rfl | decide | assumption) ?_
            | ((first
                | refine AOs.op1E tOK (by with_unfolding_all rfl) ?_
                ); refine Step.mk (by simp only [evOp_move, evOp_assign, evOp_pick, evOp_binOp, evOp_index, evOp_len, aeval, ofVal, PT.get_set, Nat.reduceEqDiff, reduceIte, Option.map_some, abin_lss, cond_true, eq_self, al9, g1, g7, hd, hx, q1]; rfl) ?_)
            | fail "stop")
          exact fnPost_ret2 (by first | (simp only [PT.get_set, Nat.reduceEqDiff, reduceIte]; rfl) | simp only [PT.get_set, Nat.reduceEqDiff, reduceIte]) (by first | (simp only [PT.get_set, Nat.reduceEqDiff, reduceIte]; rfl) | simp only [PT.get_set, Nat.reduceEqDiff, reduceIte]) ⟨rfl, rfl⟩
        · have q1 : decide (((c.toNat : Nat) : Int) < 48) = false := decide_eq_false (by omega)
          have q2 : decide ((57 : Int) < ((c.toNat : Nat) : Int)) = true := decide_eq_true (by simp [digB] at hdg; omega)
          with_reducible repeat' (first
            | refine AW.seq ?_
            | refine AW.region ?_
            | refine AW.block ?_
            | refine AOs.nil ?_
            | refine AW.skip ?_
            | refine AW.ret ?_
            | refine andThen_normal ?_
            | refine andThen_ret ?_
            | refine inBlock_ret ?_
            | refine AOs.guardT (by with_unfolding_all rfl) (by simp only [PT.get_set, Nat.reduceEqDiff, reduceIte]; rfl) (by first | rfl | decide | assumption) ?_
            | refine AW.condT (by simp only [aeval, PT.get_set, Nat.reduceEqDiff, reduceIte]; rfl) (by first | rfl | decide | assumption) ?_
            | ((first
                | refine AOs.op1E tOK (by with_unfolding_all rfl) ?_
                ); refine Step.mk (by simp only [evOp_move, evOp_assign, evOp_pick, evOp_binOp, evOp_index, evOp_len, aeval, ofVal, PT.get_set, Nat.reduceEqDiff, reduceIte, Option.map_some, abin_lss, abin_gtr, cond_false, eq_self, al9, g1, g7, hd, hx, q1, q2]; rfl) ?_)
            | fail "stop")
          exact fnPost_ret2 (by first | (simp only [PT.get_set, Nat.reduceEqDiff, reduceIte]; rfl) | simp only [PT.get_set, Nat.reduceEqDiff, reduceIte]) (by first | (simp only [PT.get_set, Nat.reduceEqDiff, reduceIte]; rfl) | simp only [PT.get_set, Nat.reduceEqDiff, reduceIte]) ⟨rfl, rfl⟩
      have hdg' := hdg
      simp only [digB, Bool.and_eq_true, decide_eq_true_eq] at hdg'
      have q1 : decide (((c.toNat : Nat) : Int) < 48) = false := decide_eq_false (by omega)
      have q2 : decide ((57 : Int) < ((c.toNat : Nat) : Int)) = false := decide_eq_false (by omega)
      have w3 : IntKind.u8.wrap (((c.toNat : Nat) : Int) - 48) = ((c.toNat - 48 : Nat) : Int) := by
        rw [show ((c.toNat : Nat) : Int) - 48 = ((c.toNat - 48 : Nat) : Int) by omega, wrapU8, Nat.mod_eq_of_lt (by omega)]
      have w4 : IntKind.i64.wrap ((c.toNat - 48 : Nat) : Int) = ((c.toNat - 48 : Nat) : Int) := wrap64 (by omega) (by omega)
      have w5 : IntKind.i64.wrap (((valF (t.take i) 0 : Nat) : Int) * 10) = ((valF (t.take i) 0 * 10 : Nat) : Int) := by rw [wrap64 (by omega) (by omega)]; omega
      have w6 : IntKind.i64.wrap (((valF (t.take i) 0 * 10 : Nat) : Int) + ((c.toNat - 48 : Nat) : Int)) = ((valF (t.take i) 0 * 10 + (c.toNat - 48) : Nat) : Int) := by rw [wrap64 (by omega) (by omega)]; omega
      have w8 : IntKind.i64.wrap (((s.length + 1 + i : Nat) : Int) + 1) = ((s.length + 1 + (i + 1) : Nat) : Int) := by rw [wrap64 (by omega) (by omega)]; omega
      with_reducible repeat' (first
        | refine AW.seq ?_
        | refine AW.region ?_
        | refine AW.block ?_
        | refine AOs.nil ?_
        | refine AW.skip ?_
        | refine andThen_normal ?_
        | refine inBlock_normal ?_
        | refine AOs.guardT (by with_unfolding_all rfl) (by simp only [PT.get_set, Nat.reduceEqDiff, reduceIte]; rfl) (by first | rfl | decide | assumption) ?_
        | refine AW.condT (by simp only [aeval, PT.get_set, Nat.reduceEqDiff, reduceIte]; rfl) (by first | rfl | decide | assumption) ?_
        | refine AW.condF (by simp only [aeval, PT.get_set, Nat.reduceEqDiff, reduceIte]; rfl) (by first | rfl | decide | assumption) ?_
        | ((first
            | refine AOs.op1E tOK (by with_unfolding_all rfl) ?_
            ); refine Step.mk (by simp only [evOp_move, evOp_assign, evOp_pick, evOp_binOp, evOp_index, evOp_len, evOp_convert, aeval, ofVal, PT.get_set, Nat.reduceEqDiff, reduceIte, Option.map_some, abin_add, abin_sub, abin_mul, abin_lss, abin_gtr, cond_false, eq_self, al9, cv5_3, g1, g6, g7, hd, hx, q1, q2, w3, w4, w5, w6, w8, cv5_3]; rfl) ?_)
        | fail "stop")
      refine ⟨t.length - (i + 1), by omega, rfl, by simp [PT.get_set, g0], by simp [PT.get_set, g1], i + 1, by omega, rfl, ?_, ?_, ?_⟩
      · simp only [PT.get_set, Nat.reduceEqDiff, reduceIte]
      · rw [valF_take hc]; simp only [PT.get_set, Nat.reduceEqDiff, reduceIte]
      · rw [List.take_add_one, hc, List.all_append, hall]; simp [hdg]
    · have hd : decide (((s.length + 1 + i : Nat) : Int) < ((file.length : Nat) : Int)) = false := decide_eq_false (by omega)
      obtain rfl : i = t.length := by omega
      rw [List.take_length] at hvl2 hall g6
      obtain ⟨v, hv⟩ : ∃ v, v = valF t 0 := ⟨_, rfl⟩
      have hvn : valN (file.drop (s.length + 1)) = v := by rw [← ht, hv]; rfl
      rw [← hv] at g6 hvl2
      with_reducible repeat' (first
        | refine AW.seq ?_
        | refine AW.region ?_
        | refine AOs.nil ?_
        | refine AW.exit ?_
        | refine andThen_normal ?_
        | refine andThen_exit ?_
        | refine inBlock_hit ?_
        | refine AW.condF (by simp only [aeval, PT.get_set, Nat.reduceEqDiff, reduceIte]; rfl) (by first | rfl | decide | assumption) ?_
        | ((first
            | refine AOs.op1E tOK (by with_unfolding_all rfl) ?_
            ); refine Step.mk (by simp only [evOp_move, evOp_binOp, evOp_len, aeval, PT.get_set, Nat.reduceEqDiff, reduceIte, Option.map_some, abin_lss, eq_self, al9, g0, g1, g6, g7, hd]; rfl) ?_)
        | fail "stop")
      refine AOs.callQ tOK (fs := []) (cs := []) rfl fn12 ok12 rfl (by simp only [List.map_cons, List.map_nil, List.nil_append, List.append_nil, aeval, PT.get_set, Nat.reduceEqDiff, reduceIte] <;> rfl) (reffile12 N L s v hs) ?_
      rintro r K ⟨rfl, rfl⟩
      by_cases h1 : 1 ≤ v
      case neg =>
        have hfm : fileM s (v : Int) = ([], 2) := by rw [fileM, if_neg (by omega)]
        rw [hfm, ofM_no (fun h => by rw [hvn] at h; omega)]
        with_reducible repeat' (first
          | refine AW.seq ?_
          | refine AW.region ?_
          | refine AOs.nil ?_
          | refine AW.ret ?_
          | refine andThen_normal ?_
          | refine andThen_ret ?_
          | refine AOs.guardF (by with_unfolding_all rfl) (by simp only [PT.get_set, Nat.reduceEqDiff, reduceIte]; rfl) (by first | rfl | decide | assumption) (by with_unfolding_all rfl) ?_
          | refine AW.condT (by simp only [aeval, PT.get_set, Nat.reduceEqDiff, reduceIte]; rfl) (by first | rfl | decide | assumption) ?_
          | ((first
              | refine AOs.op1E tOK (by with_unfolding_all rfl) ?_
              ); refine Step.mk (by simp only [evOp_move, evOp_assign, evOp_pick, evOp_binOp, evOp_extract, aeval, ofVal, PT.get_set, Nat.reduceEqDiff, reduceIte, Option.map_some, abin_neq, cond_true, decide_false, Bool.not_false, List.getElem?_cons_zero, List.getElem?_cons_succ, eq_self, Int.reduceEq]; rfl) ?_)
          | fail "stop")
        exact fnPost_ret2 (by first | (simp only [PT.get_set, Nat.reduceEqDiff, reduceIte]; rfl) | simp only [PT.get_set, Nat.reduceEqDiff, reduceIte]) (by first | (simp only [PT.get_set, Nat.reduceEqDiff, reduceIte]; rfl) | simp only [PT.get_set, Nat.reduceEqDiff, reduceIte]) ⟨rfl, rfl⟩
      have hfm : fileM s (v : Int) = (s ++ ([45] ++ Lib.decDigits v), 0) := by rw [fileM, if_pos ⟨hr, by omega, by omega⟩, Int.toNat_natCast]
      rw [hfm]
      by_cases hq : s ++ ([45] ++ Lib.decDigits v) = file
      · have q1 : decide (s ++ ([45] ++ Lib.decDigits v) = file) = true := decide_eq_true hq
        have hdd : Lib.decDigits v = t := by
          have e := behind hp
          rw [← ht, ← hq] at e
          simpa using e
        have hom : ofM s file = ((v : Int), true) := by
          unfold ofM
          rw [hvn, ← ht, if_pos ⟨hr, hp, h1, by omega, hdd⟩]
        rw [hom]
        with_reducible repeat' (first
          | refine AW.seq ?_
          | refine AW.region ?_
          | refine AOs.nil ?_
          | refine AW.skip ?_
          | refine AW.ret ?_
          | refine andThen_normal ?_
          | refine AOs.guardT (by with_unfolding_all rfl) (by simp only [PT.get_set, Nat.reduceEqDiff, reduceIte]; rfl) (by first | rfl | decide | assumption) ?_
          | refine AW.condF (by simp only [aeval, PT.get_set, Nat.reduceEqDiff, reduceIte]; rfl) (by first | rfl | decide | assumption) ?_
          | ((first
              | refine AOs.op1E tOK (by with_unfolding_all rfl) ?_
              ); refine Step.mk (by simp only [evOp_move, evOp_assign, evOp_pick, evOp_binOp, evOp_extract, aeval, ofVal, PT.get_set, Nat.reduceEqDiff, reduceIte, Option.map_some, abin_neq, abin_neqS, cond_false, decide_true, Bool.not_true, List.getElem?_cons_zero, List.getElem?_cons_succ, eq_self, g1, g6, q1]; rfl) ?_)
          | fail "stop")
        exact fnPost_ret2 (by first | (simp only [PT.get_set, Nat.reduceEqDiff, reduceIte]; rfl) | simp only [PT.get_set, Nat.reduceEqDiff, reduceIte]) (by first | (simp only [PT.get_set, Nat.reduceEqDiff, reduceIte]; rfl) | simp only [PT.get_set, Nat.reduceEqDiff, reduceIte]) ⟨rfl, rfl⟩
      · have q1 : decide (s ++ ([45] ++ Lib.decDigits v) = file) = false := decide_eq_false hq
        rw [ofM_no (fun ⟨_, _, _, _, hdd⟩ => hq (by rw [hvn, ← ht] at hdd; rw [hdd, ht]; exact (behind hp).symm))]
        with_reducible repeat' (first
          | refine AW.seq ?_
          | refine AW.region ?_
          | refine AOs.nil ?_
          | refine AW.ret ?_
          | refine andThen_normal ?_
          | refine andThen_ret ?_
          | refine AOs.guardT (by with_unfolding_all rfl) (by simp only [PT.get_set, Nat.reduceEqDiff, reduceIte]; rfl) (by first | rfl | decide | assumption) ?_
          | refine AW.condT (by simp only [aeval, PT.get_set, Nat.reduceEqDiff, reduceIte]; rfl) (by first | rfl | decide | assumption) ?_
          | ((first
              | refine AOs.op1E tOK (by with_unfolding_all rfl) ?_
              ); refine Step.mk (by simp only [evOp_move, evOp_assign, evOp_pick, evOp_binOp, evOp_extract, aeval, ofVal, PT.get_set, Nat.reduceEqDiff, reduceIte, Option.map_some, abin_neq, abin_neqS, cond_false, decide_true, Bool.not_true, Bool.not_false, List.getElem?_cons_zero, List.getElem?_cons_succ, eq_self, g1, q1]; rfl) ?_)
          | fail "stop")
        exact fnPost_ret2 (by first | (simp only [PT.get_set, Nat.reduceEqDiff, reduceIte]; rfl) | simp only [PT.get_set, Nat.reduceEqDiff, reduceIte]) (by first | (simp only [PT.get_set, Nat.reduceEqDiff, reduceIte]; rfl) | simp only [PT.get_set, Nat.reduceEqDiff, reduceIte]) ⟨rfl, rfl⟩
end Go.Proofs.YtgihociajfgohaaGreatDoor
