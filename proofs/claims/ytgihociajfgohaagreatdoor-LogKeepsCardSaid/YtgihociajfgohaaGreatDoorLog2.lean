/- Log: a generation is written; the other files are removed; no condition. -/
import Derived.Test.YtgihociajfgohaaGreatDoorLog1
set_option linter.unusedSimpArgs false
set_option linter.unusedVariables false
open Go Go.AB Go.Proofs
namespace Go.Proofs.YtgihociajfgohaaGreatDoor
set_option maxRecDepth 100000

/-- A log. -/
def logO (e : Int) (d : Nat) (g s n : Int) : AO := .cells false [.int .i64 e, .ptr d 0, .str nL, .int .i64 g, .int .i64 s, .int .i64 n]

/-- What is no disk's. -/
def Kp (K : AH) (A : Nat → Prop) (b : Nat) (x : AO) : Prop := K.get b = some x ∧ ¬ A b
theorem Kp.op {K L : AH} {A : Nat → Prop} {b : Nat} {x : AO} (hw : WF K) (h : Kp K A b x) (ap : Apart K L A) : Kp L (AddR A K.next L.next) b x :=
  ⟨ap.1 b x h.1 (.inl h.2), fun e => by
    rcases e with e | e
    · exact h.2 e
    · have := hw _ _ h.1; omega⟩
theorem Kp.more {K L : AH} {A : Nat → Prop} {b : Nat} {x : AO} (h : Kp K A b x) (hk : ∀ b x, K.get b = some x → L.get b = some x) : Kp L A b x := ⟨hk _ _ h.1, h.2⟩

def wstep (M : DM) (to b : Nm) : Nat → Int × DM
  | 0 => if M.size tmpL < 0 then (0, M) else M.remove tmpL
  | 1 => M.make tmpL
  | 2 => M.append tmpL b
  | 3 => M.sync tmpL
  | 4 => M.rename tmpL to
  | _ => M.syncNames
def writeFrom (to b : Nm) : Nat → DM → Int × DM
  | 0, M => (0, M)
  | k + 1, M => if (wstep M to b (5 - k)).1 ≠ 0 then wstep M to b (5 - k) else writeFrom to b k (wstep M to b (5 - k)).2
def DM.write (M : DM) (to b : Nm) : Int × DM := writeFrom to b 6 M

theorem MB.step {M : DM} {i : Nat} (h : MB M i) (to : Nm) {b : Nm} (hb : b.length ≤ 20000) (k : Nat) : MB (wstep M to b k).2 (i + 1) := by
  unfold wstep
  split
  · split
    · exact h.mono (by omega)
    · exact h.remove _
  · exact h.make _
  · exact h.append _ hb
  · exact h.sync _
  · exact h.rename _ _
  · exact h.syncNames
theorem MB.writeFrom {to b : Nm} (hb : b.length ≤ 20000) : ∀ (k : Nat) {M : DM} {i : Nat}, MB M i → MB (writeFrom to b k M).2 (i + k)
  | 0, M, i, h => h
  | k + 1, M, i, h => by
    have h1 := h.step to hb (5 - k)
    unfold YtgihociajfgohaaGreatDoor.writeFrom
    split
    · exact h1.mono (by omega)
    · exact (MB.writeFrom hb k h1).mono (by omega)
theorem MB.used' {M : DM} {i : Nat} (h : MB M i) (hi : i ≤ 1000) : M.used ≤ 20000000000 := by
  have h1 := h.used
  have h2 : 20000 * i ≤ 20000000 := by omega
  have h3 : i * (20000 * i) ≤ 1000 * 20000000 := Nat.mul_le_mul hi h2
  omega
theorem MB.file' {M : DM} {i : Nat} (h : MB M i) (hi : i ≤ 1000) (j : Nat) : (M.file j).1.length ≤ 20000000 := Nat.le_trans (files_le h.files j) (by omega)

section
variable (N : Nat) {K : AH} {d L : Nat} {M : DM} {A : Nat → Prop} {i : Nat} {e g s n : Int} {p4 p9 p6 p10 : Nat} {bv : AV} {b to : Nm}

theorem size_neg (M : DM) (n : Nm) : M.size n < 0 ↔ getN M.now n = none := by
  unfold DM.size
  cases getN M.now n with
  | none => simp
  | some i => simp

set_option maxHeartbeats 2000000 in
theorem w63 (hD : DiskAt K d M A) (hM : MB M i) (hi : i ≤ 1000) (hL : K.get L = some (logO e d g s n)) (h4 : K.get p4 = some (.cells false [.ptr L 0])) (h9 : K.get p9 = some (.cells false [.str tmpL])) :
    AC tC N 0 63 [.ptr p4 0, .ptr p9 0] K fun r K' => r = .int .i64 (wstep M to b 0).1 ∧ DiskAt K' d (wstep M to b 0).2 (AddR A K.next K'.next) ∧ Apart K K' A := by
  refine AC.by (n := 16) (rs := [.tmp 2]) tOK fn63 rfl rfl rfl rfl ?_
  have e0 : (PT.ofList .leaf 0 [AV.ptr p4 0, .ptr p9 0]).get 0 = some (.ptr p4 0) := rfl
  have e1 : (PT.ofList .leaf 0 [AV.ptr p4 0, .ptr p9 0]).get 1 = some (.ptr p9 0) := rfl
  have hL' : K.get L = some (.cells false [.int .i64 e, .ptr d 0, .str nL, .int .i64 g, .int .i64 s, .int .i64 n]) := hL
  with_reducible repeat' (first
 | refine AW.seq ?_
 | refine AW.region ?_
 | refine AOs.nil ?_
 | refine andThen_normal ?_
 | refine AW.drawT tOK (by with_unfolding_all rfl) (by simp only [pickAll, Nat.reduceAdd]; rfl) ?_
 | ((first
 | refine DN.fl1E (by with_unfolding_all rfl) (by with_unfolding_all rfl) ?_
 | refine DN.rd1E (by kernel_rfl) (by with_unfolding_all rfl) ?_
 ); refine Step.mk (by simp only [evOp_nilCheck, evOp_fieldAddr, evOp_load, aeval, PT.get_set, Nat.reduceEqDiff, reduceIte, cellAt, Option.map_some, List.getElem?_cons_zero, List.getElem?_cons_succ, Nat.zero_add, eq_self, ld9, ld27, ld42, fa65_1, e0, e1, hL', h4, h9]; rfl) ?_; refine Same.mk ?_)
 | ((first
 | refine AOs.op1E tOK (by with_unfolding_all rfl) ?_
 | refine DN.actE tOK (by kernel_rfl) (by with_unfolding_all rfl) (by with_unfolding_all rfl) ?_
 ); refine Step.mk (by simp only [evOp_assign, aeval, ofVal]; rfl) ?_)
 | fail "stop")
  refine DN.call tOK (fs := []) (cs := []) rfl fn64 ok64 rfl (by simp only [List.map_cons, List.map_nil, List.nil_append, List.append_nil, aeval, PT.get_set, Nat.reduceEqDiff, reduceIte] <;> rfl) (size16 N K (n := tmpL) hD hM.ok) (by with_unfolding_all rfl) ?_
  rintro r K1 ⟨rfl, rfl⟩
  by_cases hs : M.size tmpL < 0
  · have hd : decide (M.size tmpL < 0) = true := decide_eq_true hs
    have hw : wstep M to b 0 = (0, M) := if_pos hs
    rw [hw]
    with_reducible repeat' (first
 | refine AW.seq ?_
 | refine AW.region ?_
 | refine AOs.nil ?_
 | refine AW.ret ?_
 | refine andThen_normal ?_
 | refine andThen_ret ?_
 | refine AW.condT (by simp only [aeval, PT.get_set, Nat.reduceEqDiff, reduceIte]; rfl) (by first | rfl | decide | assumption) ?_
 | refine DN.nil tOK ?_
 | ((first
 | refine DN.fl1E (by with_unfolding_all rfl) (by with_unfolding_all rfl) ?_
 ); refine Step.mk (by simp only [evOp_binOp, aeval, ofVal, PT.get_set, Nat.reduceEqDiff, reduceIte, Option.map_some, abin_lss, eq_self, hd]; rfl) ?_; refine Same.mk ?_)
 | ((first
 | refine AOs.op1E tOK (by with_unfolding_all rfl) ?_
 ); refine Step.mk (by simp only [evOp_assign, aeval, ofVal]; rfl) ?_)
 | fail "stop")
    exact fnPost_ret1 (by first | (simp only [PT.get_set, Nat.reduceEqDiff, reduceIte]; rfl) | simp only [PT.get_set, Nat.reduceEqDiff, reduceIte]) ⟨rfl, hD.mono fun b hb => .inl hb, Apart.refl _ _⟩
  · have hd : decide (M.size tmpL < 0) = false := decide_eq_false hs
    have hw : wstep M to b 0 = M.remove tmpL := if_neg hs
    rw [hw]
    with_reducible repeat' (first
 | refine AW.seq ?_
 | refine AW.skip ?_
 | refine andThen_normal ?_
 | refine AW.condF (by simp only [aeval, PT.get_set, Nat.reduceEqDiff, reduceIte]; rfl) (by first | rfl | decide | assumption) ?_
 | refine AW.drawT tOK (by with_unfolding_all rfl) (by simp only [pickAll, Nat.reduceAdd]; rfl) ?_
 | refine DN.nil tOK ?_
 | ((first
 | refine DN.fl1E (by with_unfolding_all rfl) (by with_unfolding_all rfl) ?_
 | refine DN.rd1E (by kernel_rfl) (by with_unfolding_all rfl) ?_
 ); refine Step.mk (by simp only [evOp_nilCheck, evOp_binOp, evOp_fieldAddr, evOp_load, aeval, ofVal, PT.get_set, Nat.reduceEqDiff, reduceIte, cellAt, Option.map_some, abin_lss, List.getElem?_cons_zero, List.getElem?_cons_succ, Nat.zero_add, eq_self, ld9, ld27, ld42, fa65_1, e0, e1, hL', h4, h9, hd]; rfl) ?_; refine Same.mk ?_)
 | ((first
 | refine DN.actE tOK (by kernel_rfl) (by with_unfolding_all rfl) (by with_unfolding_all rfl) ?_
 ); refine Step.mk (by simp only [evOp_move, evOp_assign, evOp_pick, evOp_build, evOp_nilCheck, evOp_binOp, evOp_not, evOp_fieldAddr, evOp_field, evOp_indexAddr, evOp_index, evOp_extract, evOp_makeFunc, evOp_load, evOp_lookup, evOp_store, evOp_mapUpdate, evOp_insert, evOp_range, evOp_makeMap, evOp_len, evOp_append, evOp_copy, evOp_delete, evOp_slice, evOp_convert, evOp_entry, evOp_boxC, boxC_one, boxC_agg, evOp_cap, rangeMapAt, storeAt, one_bool, one_int, one_str, one_nilp, one_ptr, one_nils, one_slice, one_empty, one_nilm, one_map, one_func, one_nilf, one_iface, one_nili, aeval, ofVal, PT.get_set, Nat.reduceEqDiff, reduceIte, lenOfAV_slice, lenOfAV_nils, lenOfAV_empty, cellAt, cellsAt, mapLenAt, lookAt, mapSetAt, mapDelAt, List.map_cons, List.map_nil, Option.map_some, Option.map_none, List.nil_append, List.append_nil, abin_add, abin_sub, abin_mul, abin_lss, abin_leq, abin_gtr, abin_geq, abin_eql, abin_neq, abin_eqlS, abin_neqS, cond_true, cond_false, decide_true, decide_false, Bool.not_true, Bool.not_false, TI.agg, List.getElem?_cons_zero, List.getElem?_cons_succ, Nat.add_zero, Nat.zero_add, Nat.zero_mul, nbeq, nble, nblt, Nat.reduceLeDiff, Nat.reduceLT, Nat.reduceMul, Nat.reduceAdd, Nat.reduceSub, Bool.and_true, Bool.true_and, Bool.and_false, Bool.false_and, List.length_cons, List.length_nil, List.set_cons_zero, List.set_cons_succ, AH.get_set, AH.next_set, eq_self, Int.ofNat_eq_natCast, Int.cast_ofNat_Int, Int.natCast_zero, Int.reduceEq, Int.reduceLT, Int.reduceLE, Int.reduceNeg, ld3, st3, ld4, st4, ld5, st5, al9, ld9, st9, ld20, st20, ld21, st21, ld24, st24, ld27, ne27a, eq27a, ne27b, eq27b, st27, al28, ix28, bs28, ld28, ne28a, eq28a, ne28b, eq28b, ne28c, eq28c, st28, al32, ix32, bs32, ld32, ne32a, eq32a, ne32b, eq32b, ne32c, eq32c, st32, al37, ix37, bs37, ld37, ne37a, eq37a, ne37b, eq37b, ne37c, eq37c, st37, al40, ix40, bs40, ld40, ne40a, eq40a, ne40b, eq40b, ne40c, eq40c, st40, ld42, ne42a, eq42a, ne42b, eq42b, st42, ld47, st47, ld57, st57, ld60, st60, fa63_0, ld63, fa65_0, fa65_1, fa65_2, fa65_3, fa65_4, fa65_5, ld65, an72, am72, ld72, md72, ms72, lk72, ne72a, eq72a, ne72b, eq72b, st72, al73, ix73, bs73, ld73, ne73a, eq73a, ne73b, eq73b, ne73c, eq73c, st73, fa75_0, fa75_1, fa75_2, fa75_3, fa75_4, fa75_5, ld75, ld83, st83, ld85, ne85a, eq85a, ne85b, eq85b, st85, fa87_0, fa87_1, ld87, ld91, st91, ld96, st96, ld104, st104, al116, ix116, bs116, ld116, ne116a, eq116a, ne116b, eq116b, ne116c, eq116c, st116, ld118, st118, ld119, ix119, cv9_32, cv96_3, cv5_96, cv96_5, cv3_96, cv3_118, e0, e1, hL', h4, h9, hd]; rfl) ?_)
 | fail "stop")
    refine DN.call tOK (fs := []) (cs := []) rfl fn49 ok49 rfl (by simp only [List.map_cons, List.map_nil, List.nil_append, List.append_nil, aeval, PT.get_set, Nat.reduceEqDiff, reduceIte] <;> rfl) (remove39 N K1 (n := tmpL) hD hM.ok (Nat.le_trans hM.notes (by omega))) (by with_unfolding_all rfl) ?_
    rintro r K2 ⟨rfl, h2, a2⟩
    with_reducible repeat' (first
 | refine AW.ret ?_
 | refine andThen_normal ?_
 | refine DN.nil tOK ?_
 | ((first
 | refine DN.fl1E (by with_unfolding_all rfl) (by with_unfolding_all rfl) ?_
 ); refine Step.mk (by simp only [evOp_assign, aeval, PT.get_set, Nat.reduceEqDiff, reduceIte, eq_self]; rfl) ?_; refine Same.mk ?_)
 | fail "stop")
    exact fnPost_ret1 (by first | (simp only [PT.get_set, Nat.reduceEqDiff, reduceIte]; rfl) | simp only [PT.get_set, Nat.reduceEqDiff, reduceIte]) ⟨rfl, h2, a2⟩

set_option maxHeartbeats 1000000 in
theorem w65 (hA : ∀ b, A b → b < K.next) (hD : DiskAt K d M A) (hM : MB M i) (hi : i ≤ 1000) (hL : K.get L = some (logO e d g s n)) (h4 : K.get p4 = some (.cells false [.ptr L 0])) (h9 : K.get p9 = some (.cells false [.str tmpL])) :
    AC tC N 0 65 [.ptr p4 0, .ptr p9 0] K fun r K' => r = .int .i64 (wstep M to b 1).1 ∧ DiskAt K' d (wstep M to b 1).2 (AddR A K.next K'.next) ∧ Apart K K' A := by
  refine AC.by (n := 9) (rs := [.tmp 2]) tOK fn65 rfl rfl rfl rfl ?_
  have e0 : (PT.ofList .leaf 0 [AV.ptr p4 0, .ptr p9 0]).get 0 = some (.ptr p4 0) := rfl
  have e1 : (PT.ofList .leaf 0 [AV.ptr p4 0, .ptr p9 0]).get 1 = some (.ptr p9 0) := rfl
  have hL' : K.get L = some (.cells false [.int .i64 e, .ptr d 0, .str nL, .int .i64 g, .int .i64 s, .int .i64 n]) := hL
  with_reducible repeat' (first
 | refine AW.seq ?_
 | refine AW.region ?_
 | refine AOs.nil ?_
 | refine andThen_normal ?_
 | refine AW.drawT tOK (by with_unfolding_all rfl) (by simp only [pickAll, Nat.reduceAdd]; rfl) ?_
 | ((first
 | refine DN.fl1E (by with_unfolding_all rfl) (by with_unfolding_all rfl) ?_
 | refine DN.rd1E (by kernel_rfl) (by with_unfolding_all rfl) ?_
 ); refine Step.mk (by simp only [evOp_nilCheck, evOp_fieldAddr, evOp_load, aeval, PT.get_set, Nat.reduceEqDiff, reduceIte, cellAt, Option.map_some, List.getElem?_cons_zero, List.getElem?_cons_succ, Nat.zero_add, eq_self, ld9, ld27, ld42, fa65_1, e0, e1, hL', h4, h9]; rfl) ?_; refine Same.mk ?_)
 | ((first
 | refine AOs.op1E tOK (by with_unfolding_all rfl) ?_
 | refine DN.actE tOK (by kernel_rfl) (by with_unfolding_all rfl) (by with_unfolding_all rfl) ?_
 ); refine Step.mk (by simp only [evOp_assign, aeval, ofVal]; rfl) ?_)
 | fail "stop")
  refine DN.call tOK (fs := []) (cs := []) rfl fn66 ok66 rfl (by simp only [List.map_cons, List.map_nil, List.nil_append, List.append_nil, aeval, PT.get_set, Nat.reduceEqDiff, reduceIte] <;> rfl) (make8 N K (n := tmpL) hA hD hM.ok (Nat.le_trans hM.notes (by omega))) (by with_unfolding_all rfl) ?_
  rintro r K2 ⟨rfl, h2, a2⟩
  with_reducible repeat' (first
 | refine AW.ret ?_
 | refine andThen_normal ?_
 | refine DN.nil tOK ?_
 | ((first
 | refine DN.fl1E (by with_unfolding_all rfl) (by with_unfolding_all rfl) ?_
 ); refine Step.mk (by simp only [evOp_assign, aeval, PT.get_set, Nat.reduceEqDiff, reduceIte, eq_self]; rfl) ?_; refine Same.mk ?_)
 | fail "stop")
  exact fnPost_ret1 (by first | (simp only [PT.get_set, Nat.reduceEqDiff, reduceIte]; rfl) | simp only [PT.get_set, Nat.reduceEqDiff, reduceIte]) ⟨rfl, h2, a2⟩

set_option maxHeartbeats 1000000 in
theorem w67 (hD : DiskAt K d M A) (hM : MB M i) (hi : i ≤ 1000) (hL : K.get L = some (logO e d g s n)) (h4 : K.get p4 = some (.cells false [.ptr L 0])) (h9 : K.get p9 = some (.cells false [.str tmpL])) (h6 : K.get p6 = some (.cells false [bv])) (hb : FB K bv b) (hbl : b.length ≤ 20000) :
    AC tC N 0 67 [.ptr p4 0, .ptr p9 0, .ptr p6 0] K fun r K' => r = .int .i64 (wstep M to b 2).1 ∧ DiskAt K' d (wstep M to b 2).2 (AddR A K.next K'.next) ∧ Apart K K' A := by
  refine AC.by (n := 11) (rs := [.tmp 3]) tOK fn67 rfl rfl rfl rfl ?_
  have e0 : (PT.ofList .leaf 0 [AV.ptr p4 0, .ptr p9 0, .ptr p6 0]).get 0 = some (.ptr p4 0) := rfl
  have e1 : (PT.ofList .leaf 0 [AV.ptr p4 0, .ptr p9 0, .ptr p6 0]).get 1 = some (.ptr p9 0) := rfl
  have e2 : (PT.ofList .leaf 0 [AV.ptr p4 0, .ptr p9 0, .ptr p6 0]).get 2 = some (.ptr p6 0) := rfl
  have hL' : K.get L = some (.cells false [.int .i64 e, .ptr d 0, .str nL, .int .i64 g, .int .i64 s, .int .i64 n]) := hL
  with_reducible repeat' (first
 | refine AW.seq ?_
 | refine AW.region ?_
 | refine AOs.nil ?_
 | refine andThen_normal ?_
 | refine AW.drawT tOK (by with_unfolding_all rfl) (by simp only [pickAll, Nat.reduceAdd]; rfl) ?_
 | ((first
 | refine DN.fl1E (by with_unfolding_all rfl) (by with_unfolding_all rfl) ?_
 | refine DN.rd1E (by kernel_rfl) (by with_unfolding_all rfl) ?_
 ); refine Step.mk (by simp only [evOp_nilCheck, evOp_fieldAddr, evOp_load, aeval, PT.get_set, Nat.reduceEqDiff, reduceIte, cellAt, Option.map_some, List.getElem?_cons_zero, List.getElem?_cons_succ, Nat.zero_add, eq_self, ld9, ld27, ld32, ld42, fa65_1, e0, e1, e2, hL', h4, h9, h6]; rfl) ?_; refine Same.mk ?_)
 | ((first
 | refine AOs.op1E tOK (by with_unfolding_all rfl) ?_
 | refine DN.actE tOK (by kernel_rfl) (by with_unfolding_all rfl) (by with_unfolding_all rfl) ?_
 ); refine Step.mk (by simp only [evOp_assign, aeval, ofVal]; rfl) ?_)
 | fail "stop")
  have hu := hM.used' hi
  refine DN.call tOK (fs := []) (cs := []) rfl fn47 ok47 rfl (by simp only [List.map_cons, List.map_nil, List.nil_append, List.append_nil, aeval, PT.get_set, Nat.reduceEqDiff, reduceIte] <;> rfl) (append9 N K (n := tmpL) hD hM.ok hb (by omega) (by omega) (fun j => Nat.le_trans (Nat.add_le_add_right (hM.file' hi j) _) (by omega)) (by rw [hM.room]; omega) (by rw [hM.room]; omega)) (by with_unfolding_all rfl) ?_
  rintro r K2 ⟨rfl, h2, a2⟩
  with_reducible repeat' (first
 | refine AW.ret ?_
 | refine andThen_normal ?_
 | refine DN.nil tOK ?_
 | ((first
 | refine DN.fl1E (by with_unfolding_all rfl) (by with_unfolding_all rfl) ?_
 ); refine Step.mk (by simp only [evOp_assign, aeval, PT.get_set, Nat.reduceEqDiff, reduceIte, eq_self]; rfl) ?_; refine Same.mk ?_)
 | fail "stop")
  exact fnPost_ret1 (by first | (simp only [PT.get_set, Nat.reduceEqDiff, reduceIte]; rfl) | simp only [PT.get_set, Nat.reduceEqDiff, reduceIte]) ⟨rfl, h2, a2⟩

set_option maxHeartbeats 1000000 in
theorem w68 (hD : DiskAt K d M A) (hM : MB M i) (hi : i ≤ 1000) (hL : K.get L = some (logO e d g s n)) (h4 : K.get p4 = some (.cells false [.ptr L 0])) (h9 : K.get p9 = some (.cells false [.str tmpL])) :
    AC tC N 0 68 [.ptr p4 0, .ptr p9 0] K fun r K' => r = .int .i64 (wstep M to b 3).1 ∧ DiskAt K' d (wstep M to b 3).2 (AddR A K.next K'.next) ∧ Apart K K' A := by
  refine AC.by (n := 9) (rs := [.tmp 2]) tOK fn68 rfl rfl rfl rfl ?_
  have e0 : (PT.ofList .leaf 0 [AV.ptr p4 0, .ptr p9 0]).get 0 = some (.ptr p4 0) := rfl
  have e1 : (PT.ofList .leaf 0 [AV.ptr p4 0, .ptr p9 0]).get 1 = some (.ptr p9 0) := rfl
  have hL' : K.get L = some (.cells false [.int .i64 e, .ptr d 0, .str nL, .int .i64 g, .int .i64 s, .int .i64 n]) := hL
  with_reducible repeat' (first
 | refine AW.seq ?_
 | refine AW.region ?_
 | refine AOs.nil ?_
 | refine andThen_normal ?_
 | refine AW.drawT tOK (by with_unfolding_all rfl) (by simp only [pickAll, Nat.reduceAdd]; rfl) ?_
 | ((first
 | refine DN.fl1E (by with_unfolding_all rfl) (by with_unfolding_all rfl) ?_
 | refine DN.rd1E (by kernel_rfl) (by with_unfolding_all rfl) ?_
 ); refine Step.mk (by simp only [evOp_nilCheck, evOp_fieldAddr, evOp_load, aeval, PT.get_set, Nat.reduceEqDiff, reduceIte, cellAt, Option.map_some, List.getElem?_cons_zero, List.getElem?_cons_succ, Nat.zero_add, eq_self, ld9, ld27, ld42, fa65_1, e0, e1, hL', h4, h9]; rfl) ?_; refine Same.mk ?_)
 | ((first
 | refine AOs.op1E tOK (by with_unfolding_all rfl) ?_
 | refine DN.actE tOK (by kernel_rfl) (by with_unfolding_all rfl) (by with_unfolding_all rfl) ?_
 ); refine Step.mk (by simp only [evOp_assign, aeval, ofVal]; rfl) ?_)
 | fail "stop")
  refine DN.call tOK (fs := []) (cs := []) rfl fn48 ok48 rfl (by simp only [List.map_cons, List.map_nil, List.nil_append, List.append_nil, aeval, PT.get_set, Nat.reduceEqDiff, reduceIte] <;> rfl) (sync11 N K (n := tmpL) hD hM.ok) (by with_unfolding_all rfl) ?_
  rintro r K2 ⟨rfl, h2, a2⟩
  with_reducible repeat' (first
 | refine AW.ret ?_
 | refine andThen_normal ?_
 | refine DN.nil tOK ?_
 | ((first
 | refine DN.fl1E (by with_unfolding_all rfl) (by with_unfolding_all rfl) ?_
 ); refine Step.mk (by simp only [evOp_assign, aeval, PT.get_set, Nat.reduceEqDiff, reduceIte, eq_self]; rfl) ?_; refine Same.mk ?_)
 | fail "stop")
  exact fnPost_ret1 (by first | (simp only [PT.get_set, Nat.reduceEqDiff, reduceIte]; rfl) | simp only [PT.get_set, Nat.reduceEqDiff, reduceIte]) ⟨rfl, h2, a2⟩

set_option maxHeartbeats 1000000 in
theorem w69 (hD : DiskAt K d M A) (hM : MB M i) (hi : i ≤ 1000) (hL : K.get L = some (logO e d g s n)) (h4 : K.get p4 = some (.cells false [.ptr L 0])) (h9 : K.get p9 = some (.cells false [.str tmpL])) (h10 : K.get p10 = some (.cells false [.str to])) :
    AC tC N 0 69 [.ptr p4 0, .ptr p9 0, .ptr p10 0] K fun r K' => r = .int .i64 (wstep M to b 4).1 ∧ DiskAt K' d (wstep M to b 4).2 (AddR A K.next K'.next) ∧ Apart K K' A := by
  refine AC.by (n := 11) (rs := [.tmp 3]) tOK fn69 rfl rfl rfl rfl ?_
  have e0 : (PT.ofList .leaf 0 [AV.ptr p4 0, .ptr p9 0, .ptr p10 0]).get 0 = some (.ptr p4 0) := rfl
  have e1 : (PT.ofList .leaf 0 [AV.ptr p4 0, .ptr p9 0, .ptr p10 0]).get 1 = some (.ptr p9 0) := rfl
  have e2 : (PT.ofList .leaf 0 [AV.ptr p4 0, .ptr p9 0, .ptr p10 0]).get 2 = some (.ptr p10 0) := rfl
  have hL' : K.get L = some (.cells false [.int .i64 e, .ptr d 0, .str nL, .int .i64 g, .int .i64 s, .int .i64 n]) := hL
  with_reducible repeat' (first
 | refine AW.seq ?_
 | refine AW.region ?_
 | refine AOs.nil ?_
 | refine andThen_normal ?_
 | refine AW.drawT tOK (by with_unfolding_all rfl) (by simp only [pickAll, Nat.reduceAdd]; rfl) ?_
 | ((first
 | refine DN.fl1E (by with_unfolding_all rfl) (by with_unfolding_all rfl) ?_
 | refine DN.rd1E (by kernel_rfl) (by with_unfolding_all rfl) ?_
 ); refine Step.mk (by simp only [evOp_nilCheck, evOp_fieldAddr, evOp_load, aeval, PT.get_set, Nat.reduceEqDiff, reduceIte, cellAt, Option.map_some, List.getElem?_cons_zero, List.getElem?_cons_succ, Nat.zero_add, eq_self, ld9, ld27, ld42, fa65_1, e0, e1, e2, hL', h4, h9, h10]; rfl) ?_; refine Same.mk ?_)
 | ((first
 | refine AOs.op1E tOK (by with_unfolding_all rfl) ?_
 | refine DN.actE tOK (by kernel_rfl) (by with_unfolding_all rfl) (by with_unfolding_all rfl) ?_
 ); refine Step.mk (by simp only [evOp_assign, aeval, ofVal]; rfl) ?_)
 | fail "stop")
  refine DN.call tOK (fs := []) (cs := []) rfl fn70 ok70 rfl (by simp only [List.map_cons, List.map_nil, List.nil_append, List.append_nil, aeval, PT.get_set, Nat.reduceEqDiff, reduceIte] <;> rfl) (rename13 N K (n := tmpL) (n' := to) hD hM.ok (Nat.le_trans hM.notes (by omega))) (by with_unfolding_all rfl) ?_
  rintro r K2 ⟨rfl, h2, a2⟩
  with_reducible repeat' (first
 | refine AW.ret ?_
 | refine andThen_normal ?_
 | refine DN.nil tOK ?_
 | ((first
 | refine DN.fl1E (by with_unfolding_all rfl) (by with_unfolding_all rfl) ?_
 ); refine Step.mk (by simp only [evOp_assign, aeval, PT.get_set, Nat.reduceEqDiff, reduceIte, eq_self]; rfl) ?_; refine Same.mk ?_)
 | fail "stop")
  exact fnPost_ret1 (by first | (simp only [PT.get_set, Nat.reduceEqDiff, reduceIte]; rfl) | simp only [PT.get_set, Nat.reduceEqDiff, reduceIte]) ⟨rfl, h2, a2⟩
end
end Go.Proofs.YtgihociajfgohaaGreatDoor

open Go Go.AB Go.Proofs
namespace Go.Proofs.YtgihociajfgohaaGreatDoor
set_option maxRecDepth 100000

theorem writeFrom_ok {to b : Nm} {k : Nat} {M : DM} (h : (wstep M to b (5 - k)).1 = 0) : writeFrom to b (k + 1) M = writeFrom to b k (wstep M to b (5 - k)).2 := by
  rw [writeFrom, if_neg (by simp [h])]
theorem writeFrom_err {to b : Nm} {k : Nat} {M : DM} (h : (wstep M to b (5 - k)).1 ≠ 0) : writeFrom to b (k + 1) M = wstep M to b (5 - k) := by
  rw [writeFrom, if_pos h]

set_option maxHeartbeats 8000000 in
theorem steps62 (N : Nat) {K : AH} {d L : Nat} {M : DM} {A : Nat → Prop} {i0 : Nat} {e g s n : Int} {p4 p9 p6 p10 sb : Nat} {bv : AV} {b to : Nm} (hA : ∀ b, A b → b < K.next) (hD : DiskAt K d M A) (hM : MB M i0) (hi0 : i0 ≤ 990)
    (hL : Kp K A L (logO e d g s n)) (h4 : Kp K A p4 (.cells false [.ptr L 0])) (h9 : Kp K A p9 (.cells false [.str tmpL])) (h6 : Kp K A p6 (.cells false [bv])) (h10 : Kp K A p10 (.cells false [.str to])) (hb : FB K bv b) (hbl : b.length ≤ 20000)
    (hs : Kp K A sb (.cells false [.func 63 [] [.ptr p4 0, .ptr p9 0], .func 65 [] [.ptr p4 0, .ptr p9 0], .func 67 [] [.ptr p4 0, .ptr p9 0, .ptr p6 0], .func 68 [] [.ptr p4 0, .ptr p9 0], .func 69 [] [.ptr p4 0, .ptr p9 0, .ptr p10 0], .func 71 [.ptr d 0] []])) :
    AC tC N 0 62 [.slice sb 0 6 (.ex 6) 1] K fun r K' => r = .int .i64 (M.write to b).1 ∧ DiskAt K' d (M.write to b).2 (AddR A K.next K'.next) ∧ Apart K K' A := by
  refine AC.wf0 fun hwf => ?_
  refine AC.by (n := 17) (rs := [.tmp 2]) tOK fn62 rfl rfl rfl rfl ?_
  have e0 : (PT.ofList .leaf 0 [AV.slice sb 0 6 (.ex 6) 1]).get 0 = some (.slice sb 0 6 (.ex 6) 1) := rfl
  with_reducible repeat' (first
 | refine AW.seq ?_
 | refine AW.region ?_
 | refine AW.block ?_
 | refine AW.scope ?_
 | refine AOs.nil ?_
 | refine AW.label ?_
 | refine andThen_normal ?_
 | ((first
 | refine AOs.op1E tOK (by with_unfolding_all rfl) ?_
 ); refine Step.mk (by simp only [evOp_move, evOp_assign, evOp_len, aeval, ofVal, PT.get_set, Nat.reduceEqDiff, reduceIte, lenOfAV_slice, Option.map_some, eq_self, Int.cast_ofNat_Int, al116, e0]; rfl) ?_)
 | fail "stop")
  refine AW.loop (fun m T K' => ∃ (i : Nat) (Mi : DM), i ≤ 6 ∧ m = 6 - i ∧ T.get 5 = some (.slice sb 0 6 (.ex 6) 1) ∧ T.get 6 = some (.int .i64 6) ∧ T.get 7 = some (.int .i64 (i : Nat)) ∧ T.get 2 = some (.int .i64 0) ∧
      DiskAt K' d Mi (AddR A K.next K'.next) ∧ Apart K K' A ∧ MB Mi (i0 + i) ∧ M.write to b = writeFrom to b (6 - i) Mi) ?_ (6 - 0)
    ⟨0, M, by omega, rfl, by simp [PT.get_set, e0], by simp [PT.get_set], by simp [PT.get_set], by simp [PT.get_set], hD.mono fun b hb => .inl hb, Apart.refl _ _, hM, rfl⟩
  rintro m T K1 ⟨i, Mi, hi, rfl, g5, g6, g7, g2, hDi, ap, hMi, hw⟩
  refine AW.wf0 fun hwf1 => ?_
  have hA1 : ∀ b, AddR A K.next K1.next b → b < K1.next := fun b hb => by
    have := ap.2
    rcases hb with hb | hb
    · have := hA b hb; omega
    · exact hb.2
  have q4 := h4.op hwf ap
  have q9 := h9.op hwf ap
  have q6 := h6.op hwf ap
  have q10 := h10.op hwf ap
  have qL := hL.op hwf ap
  have qs := (hs.op hwf ap).1
  have qb : FB K1 bv b := hb.keep fun b x hb hx => ap.1 b x hb (.inr (.inr hx))
  have hx : ∀ (k : IntKind) (m : Nat), m < 6 → aindexAddr tC 116 (.slice sb 0 6 (.ex 6) 1) (.int k (m : Int)) = some (.ptr sb (0 + m * 1)) := fun k m hm => ix116 sb 0 6 1 m (.ex 6) k hm
  match i, hi with
  | 0, _ =>
    have x0 : ∀ k, aindexAddr tC 116 (.slice sb 0 6 (.ex 6) 1) (.int k 0) = some (.ptr sb 0) := fun k => hx k 0 (by omega)
    with_reducible repeat' (first
 | refine AW.seq ?_
 | refine AW.region ?_
 | refine AW.block ?_
 | refine AOs.nil ?_
 | refine AW.skip ?_
 | refine andThen_normal ?_
 | refine AW.condT (by simp only [aeval, PT.get_set, reduceIte]; rfl) (by first | rfl | decide | assumption) ?_
 | ((first
 | refine AOs.op1E tOK (by with_unfolding_all rfl) ?_
 ); refine Step.mk (by simp only [evOp_move, evOp_assign, evOp_binOp, evOp_indexAddr, evOp_load, aeval, PT.get_set, Nat.reduceEqDiff, reduceIte, cellAt, Option.map_some, abin_lss, decide_true, List.getElem?_cons_zero, eq_self, Int.cast_ofNat_Int, Int.reduceLT, ld47, g5, g6, g7, x0, qs]; rfl) ?_)
 | fail "stop")
    refine AOs.callQ tOK (fs := ([] : List AV)) (cs := [.ptr p4 0, .ptr p9 0]) (by simp only [aeval, PT.get_set, Nat.reduceEqDiff, reduceIte]) fn63 ok63 rfl (by simp only [List.map_nil, List.nil_append, List.append_nil] <;> rfl) (w63 N (b := b) (to := to) hDi hMi (by omega) qL.1 q4.1 q9.1).wf ?_
    rintro r K2 ⟨⟨rfl, h2, a2⟩, hwf2⟩
    have ap2 : Apart K K2 A := ap.trans hwf a2
    have hmono : ∀ x, AddR (AddR A K.next K1.next) K1.next K2.next x → AddR A K.next K2.next x := fun x hx => by
      have := a2.2; have := ap.2
      rcases hx with (hx | hx) | hx
      · exact .inl hx
      · exact .inr ⟨hx.1, by omega⟩
      · exact .inr ⟨by omega, hx.2⟩
    by_cases he : (wstep Mi to b 0).1 = 0
    · have hd2 : decide ((wstep Mi to b 0).1 = 0) = true := decide_eq_true he
      have hw' : M.write to b = writeFrom to b (6 - (0 + 1)) (wstep Mi to b 0).2 := by rw [hw]; exact writeFrom_ok (k := 5 - 0) he
      with_reducible repeat' (first
 | refine AW.seq ?_
 | refine AW.region ?_
 | refine AOs.nil ?_
 | refine AW.skip ?_
 | refine andThen_normal ?_
 | refine inBlock_normal ?_
 | refine AW.condF (by simp only [aeval, PT.get_set, Nat.reduceEqDiff, reduceIte, he]; rfl) (by first | rfl | decide | assumption) ?_
 | ((first
 | refine AOs.op1E tOK (by with_unfolding_all rfl) ?_
 ); refine Step.mk (by simp only [evOp_move, evOp_assign, evOp_binOp, aeval, ofVal, PT.get_set, Nat.reduceEqDiff, reduceIte, Option.map_some, abin_add, abin_neq, decide_true, Bool.not_true, eq_self, Int.cast_ofNat_Int, g7, g2, he]; rfl) ?_)
 | fail "stop")
      exact ⟨6 - (0 + 1), by omega, 0 + 1, _, by omega, rfl, by simp [PT.get_set, g5], by simp [PT.get_set, g6], by simp only [PT.get_set, Nat.reduceEqDiff, reduceIte]; rfl, by simp [PT.get_set, he], h2.mono hmono, ap2, (hMi.step to hbl 0).mono (by omega), hw'⟩
    · have hd2 : decide ((wstep Mi to b 0).1 = 0) = false := decide_eq_false he
      have hw' : M.write to b = wstep Mi to b 0 := by rw [hw]; exact writeFrom_err (k := 5 - 0) he
      rw [hw']
      with_reducible repeat' (first
 | refine AW.seq ?_
 | refine AW.region ?_
 | refine AOs.nil ?_
 | refine AW.exit ?_
 | refine AW.ret ?_
 | refine andThen_normal ?_
 | refine andThen_exit ?_
 | refine inBlock_hit ?_
 | refine inBlock_miss (by with_unfolding_all rfl) ?_
 | refine AW.condT (by simp only [aeval, PT.get_set, Nat.reduceEqDiff, reduceIte]; rfl) (by first | rfl | decide | assumption) ?_
 | ((first
 | refine AOs.op1E tOK (by with_unfolding_all rfl) ?_
 ); refine Step.mk (by simp only [evOp_move, evOp_assign, evOp_binOp, aeval, ofVal, PT.get_set, Nat.reduceEqDiff, reduceIte, Option.map_some, abin_neq, Bool.not_false, eq_self, g2, hd2]; rfl) ?_)
 | fail "stop")
      exact fnPost_ret1 (by first | (simp only [PT.get_set, Nat.reduceEqDiff, reduceIte]; rfl) | simp only [PT.get_set, Nat.reduceEqDiff, reduceIte]) ⟨rfl, h2.mono hmono, ap2⟩
  | 1, _ =>
    have x0 : ∀ k, aindexAddr tC 116 (.slice sb 0 6 (.ex 6) 1) (.int k 1) = some (.ptr sb 1) := fun k => hx k 1 (by omega)
    with_reducible repeat' (first
 | refine AW.seq ?_
 | refine AW.region ?_
 | refine AW.block ?_
 | refine AOs.nil ?_
 | refine AW.skip ?_
 | refine andThen_normal ?_
 | refine AW.condT (by simp only [aeval, PT.get_set, reduceIte]; rfl) (by first | rfl | decide | assumption) ?_
 | ((first
 | refine AOs.op1E tOK (by with_unfolding_all rfl) ?_
 ); refine Step.mk (by simp only [evOp_move, evOp_assign, evOp_binOp, evOp_indexAddr, evOp_load, aeval, PT.get_set, Nat.reduceEqDiff, reduceIte, cellAt, Option.map_some, abin_lss, decide_true, List.getElem?_cons_zero, List.getElem?_cons_succ, eq_self, Int.cast_ofNat_Int, Int.reduceLT, ld47, g5, g6, g7, x0, qs]; rfl) ?_)
 | fail "stop")
    refine AOs.callQ tOK (fs := ([] : List AV)) (cs := [.ptr p4 0, .ptr p9 0]) (by simp only [aeval, PT.get_set, Nat.reduceEqDiff, reduceIte]) fn65 ok65 rfl (by simp only [List.map_nil, List.nil_append, List.append_nil] <;> rfl) (w65 N (b := b) (to := to) hA1 hDi hMi (by omega) qL.1 q4.1 q9.1).wf ?_
    rintro r K2 ⟨⟨rfl, h2, a2⟩, hwf2⟩
    have ap2 : Apart K K2 A := ap.trans hwf a2
    have hmono : ∀ x, AddR (AddR A K.next K1.next) K1.next K2.next x → AddR A K.next K2.next x := fun x hx => by
      have := a2.2; have := ap.2
      rcases hx with (hx | hx) | hx
      · exact .inl hx
      · exact .inr ⟨hx.1, by omega⟩
      · exact .inr ⟨by omega, hx.2⟩
    by_cases he : (wstep Mi to b 1).1 = 0
    · have hd2 : decide ((wstep Mi to b 1).1 = 0) = true := decide_eq_true he
      have hw' : M.write to b = writeFrom to b (6 - (1 + 1)) (wstep Mi to b 1).2 := by rw [hw]; exact writeFrom_ok (k := 5 - 1) he
      with_reducible repeat' (first
 | refine AW.seq ?_
 | refine AW.region ?_
 | refine AOs.nil ?_
 | refine AW.skip ?_
 | refine andThen_normal ?_
 | refine inBlock_normal ?_
 | refine AW.condF (by simp only [aeval, PT.get_set, Nat.reduceEqDiff, reduceIte, he]; rfl) (by first | rfl | decide | assumption) ?_
 | ((first
 | refine AOs.op1E tOK (by with_unfolding_all rfl) ?_
 ); refine Step.mk (by simp only [evOp_move, evOp_assign, evOp_binOp, aeval, ofVal, PT.get_set, Nat.reduceEqDiff, reduceIte, Option.map_some, abin_add, abin_neq, decide_true, Bool.not_true, eq_self, Int.cast_ofNat_Int, g7, g2, he]; rfl) ?_)
 | fail "stop")
      exact ⟨6 - (1 + 1), by omega, 1 + 1, _, by omega, rfl, by simp [PT.get_set, g5], by simp [PT.get_set, g6], by simp only [PT.get_set, Nat.reduceEqDiff, reduceIte]; rfl, by simp [PT.get_set, he], h2.mono hmono, ap2, (hMi.step to hbl 1).mono (by omega), hw'⟩
    · have hd2 : decide ((wstep Mi to b 1).1 = 0) = false := decide_eq_false he
      have hw' : M.write to b = wstep Mi to b 1 := by rw [hw]; exact writeFrom_err (k := 5 - 1) he
      rw [hw']
      with_reducible repeat' (first
 | refine AW.seq ?_
 | refine AW.region ?_
 | refine AOs.nil ?_
 | refine AW.exit ?_
 | refine AW.ret ?_
 | refine andThen_normal ?_
 | refine andThen_exit ?_
 | refine inBlock_hit ?_
 | refine inBlock_miss (by with_unfolding_all rfl) ?_
 | refine AW.condT (by simp only [aeval, PT.get_set, Nat.reduceEqDiff, reduceIte]; rfl) (by first | rfl | decide | assumption) ?_
 | ((first
 | refine AOs.op1E tOK (by with_unfolding_all rfl) ?_
 ); refine Step.mk (by simp only [evOp_move, evOp_assign, evOp_binOp, aeval, ofVal, PT.get_set, Nat.reduceEqDiff, reduceIte, Option.map_some, abin_neq, Bool.not_false, eq_self, g2, hd2]; rfl) ?_)
 | fail "stop")
      exact fnPost_ret1 (by first | (simp only [PT.get_set, Nat.reduceEqDiff, reduceIte]; rfl) | simp only [PT.get_set, Nat.reduceEqDiff, reduceIte]) ⟨rfl, h2.mono hmono, ap2⟩
  | 2, _ =>
    have x0 : ∀ k, aindexAddr tC 116 (.slice sb 0 6 (.ex 6) 1) (.int k 2) = some (.ptr sb 2) := fun k => hx k 2 (by omega)
    with_reducible repeat' (first
 | refine AW.seq ?_
 | refine AW.region ?_
 | refine AW.block ?_
 | refine AOs.nil ?_
 | refine AW.skip ?_
 | refine andThen_normal ?_
 | refine AW.condT (by simp only [aeval, PT.get_set, reduceIte]; rfl) (by first | rfl | decide | assumption) ?_
 | ((first
 | refine AOs.op1E tOK (by with_unfolding_all rfl) ?_
 ); refine Step.mk (by simp only [evOp_move, evOp_assign, evOp_binOp, evOp_indexAddr, evOp_load, aeval, PT.get_set, Nat.reduceEqDiff, reduceIte, cellAt, Option.map_some, abin_lss, decide_true, List.getElem?_cons_zero, List.getElem?_cons_succ, eq_self, Int.cast_ofNat_Int, Int.reduceLT, ld47, g5, g6, g7, x0, qs]; rfl) ?_)
 | fail "stop")
    refine AOs.callQ tOK (fs := ([] : List AV)) (cs := [.ptr p4 0, .ptr p9 0, .ptr p6 0]) (by simp only [aeval, PT.get_set, Nat.reduceEqDiff, reduceIte]) fn67 ok67 rfl (by simp only [List.map_nil, List.nil_append, List.append_nil] <;> rfl) (w67 N (to := to) hDi hMi (by omega) qL.1 q4.1 q9.1 q6.1 qb hbl).wf ?_
    rintro r K2 ⟨⟨rfl, h2, a2⟩, hwf2⟩
    have ap2 : Apart K K2 A := ap.trans hwf a2
    have hmono : ∀ x, AddR (AddR A K.next K1.next) K1.next K2.next x → AddR A K.next K2.next x := fun x hx => by
      have := a2.2; have := ap.2
      rcases hx with (hx | hx) | hx
      · exact .inl hx
      · exact .inr ⟨hx.1, by omega⟩
      · exact .inr ⟨by omega, hx.2⟩
    by_cases he : (wstep Mi to b 2).1 = 0
    · have hd2 : decide ((wstep Mi to b 2).1 = 0) = true := decide_eq_true he
      have hw' : M.write to b = writeFrom to b (6 - (2 + 1)) (wstep Mi to b 2).2 := by rw [hw]; exact writeFrom_ok (k := 5 - 2) he
      with_reducible repeat' (first
 | refine AW.seq ?_
 | refine AW.region ?_
 | refine AOs.nil ?_
 | refine AW.skip ?_
 | refine andThen_normal ?_
 | refine inBlock_normal ?_
 | refine AW.condF (by simp only [aeval, PT.get_set, Nat.reduceEqDiff, reduceIte, he]; rfl) (by first | rfl | decide | assumption) ?_
 | ((first
 | refine AOs.op1E tOK (by with_unfolding_all rfl) ?_
 ); refine Step.mk (by simp only [evOp_move, evOp_assign, evOp_binOp, aeval, ofVal, PT.get_set, Nat.reduceEqDiff, reduceIte, Option.map_some, abin_add, abin_neq, decide_true, Bool.not_true, eq_self, Int.cast_ofNat_Int, g7, g2, he]; rfl) ?_)
 | fail "stop")
      exact ⟨6 - (2 + 1), by omega, 2 + 1, _, by omega, rfl, by simp [PT.get_set, g5], by simp [PT.get_set, g6], by simp only [PT.get_set, Nat.reduceEqDiff, reduceIte]; rfl, by simp [PT.get_set, he], h2.mono hmono, ap2, (hMi.step to hbl 2).mono (by omega), hw'⟩
    · have hd2 : decide ((wstep Mi to b 2).1 = 0) = false := decide_eq_false he
      have hw' : M.write to b = wstep Mi to b 2 := by rw [hw]; exact writeFrom_err (k := 5 - 2) he
      rw [hw']
      with_reducible repeat' (first
 | refine AW.seq ?_
 | refine AW.region ?_
 | refine AOs.nil ?_
 | refine AW.exit ?_
 | refine AW.ret ?_
 | refine andThen_normal ?_
 | refine andThen_exit ?_
 | refine inBlock_hit ?_
 | refine inBlock_miss (by with_unfolding_all rfl) ?_
 | refine AW.condT (by simp only [aeval, PT.get_set, Nat.reduceEqDiff, reduceIte]; rfl) (by first | rfl | decide | assumption) ?_
 | ((first
 | refine AOs.op1E tOK (by with_unfolding_all rfl) ?_
 ); refine Step.mk (by simp only [evOp_move, evOp_assign, evOp_binOp, aeval, ofVal, PT.get_set, Nat.reduceEqDiff, reduceIte, Option.map_some, abin_neq, Bool.not_false, eq_self, g2, hd2]; rfl) ?_)
 | fail "stop")
      exact fnPost_ret1 (by first | (simp only [PT.get_set, Nat.reduceEqDiff, reduceIte]; rfl) | simp only [PT.get_set, Nat.reduceEqDiff, reduceIte]) ⟨rfl, h2.mono hmono, ap2⟩
  | 3, _ =>
    have x0 : ∀ k, aindexAddr tC 116 (.slice sb 0 6 (.ex 6) 1) (.int k 3) = some (.ptr sb 3) := fun k => hx k 3 (by omega)
    with_reducible repeat' (first
 | refine AW.seq ?_
 | refine AW.region ?_
 | refine AW.block ?_
 | refine AOs.nil ?_
 | refine AW.skip ?_
 | refine andThen_normal ?_
 | refine AW.condT (by simp only [aeval, PT.get_set, reduceIte]; rfl) (by first | rfl | decide | assumption) ?_
 | ((first
 | refine AOs.op1E tOK (by with_unfolding_all rfl) ?_
 ); refine Step.mk (by simp only [evOp_move, evOp_assign, evOp_binOp, evOp_indexAddr, evOp_load, aeval, PT.get_set, Nat.reduceEqDiff, reduceIte, cellAt, Option.map_some, abin_lss, decide_true, List.getElem?_cons_zero, List.getElem?_cons_succ, eq_self, Int.cast_ofNat_Int, Int.reduceLT, ld47, g5, g6, g7, x0, qs]; rfl) ?_)
 | fail "stop")
    refine AOs.callQ tOK (fs := ([] : List AV)) (cs := [.ptr p4 0, .ptr p9 0]) (by simp only [aeval, PT.get_set, Nat.reduceEqDiff, reduceIte]) fn68 ok68 rfl (by simp only [List.map_nil, List.nil_append, List.append_nil] <;> rfl) (w68 N (b := b) (to := to) hDi hMi (by omega) qL.1 q4.1 q9.1).wf ?_
    rintro r K2 ⟨⟨rfl, h2, a2⟩, hwf2⟩
    have ap2 : Apart K K2 A := ap.trans hwf a2
    have hmono : ∀ x, AddR (AddR A K.next K1.next) K1.next K2.next x → AddR A K.next K2.next x := fun x hx => by
      have := a2.2; have := ap.2
      rcases hx with (hx | hx) | hx
      · exact .inl hx
      · exact .inr ⟨hx.1, by omega⟩
      · exact .inr ⟨by omega, hx.2⟩
    by_cases he : (wstep Mi to b 3).1 = 0
    · have hd2 : decide ((wstep Mi to b 3).1 = 0) = true := decide_eq_true he
      have hw' : M.write to b = writeFrom to b (6 - (3 + 1)) (wstep Mi to b 3).2 := by rw [hw]; exact writeFrom_ok (k := 5 - 3) he
      with_reducible repeat' (first
 | refine AW.seq ?_
 | refine AW.region ?_
 | refine AOs.nil ?_
 | refine AW.skip ?_
 | refine andThen_normal ?_
 | refine inBlock_normal ?_
 | refine AW.condF (by simp only [aeval, PT.get_set, Nat.reduceEqDiff, reduceIte, he]; rfl) (by first | rfl | decide | assumption) ?_
 | ((first
 | refine AOs.op1E tOK (by with_unfolding_all rfl) ?_
 ); refine Step.mk (by simp only [evOp_move, evOp_assign, evOp_binOp, aeval, ofVal, PT.get_set, Nat.reduceEqDiff, reduceIte, Option.map_some, abin_add, abin_neq, decide_true, Bool.not_true, eq_self, Int.cast_ofNat_Int, g7, g2, he]; rfl) ?_)
 | fail "stop")
      exact ⟨6 - (3 + 1), by omega, 3 + 1, _, by omega, rfl, by simp [PT.get_set, g5], by simp [PT.get_set, g6], by simp only [PT.get_set, Nat.reduceEqDiff, reduceIte]; rfl, by simp [PT.get_set, he], h2.mono hmono, ap2, (hMi.step to hbl 3).mono (by omega), hw'⟩
    · have hd2 : decide ((wstep Mi to b 3).1 = 0) = false := decide_eq_false he
      have hw' : M.write to b = wstep Mi to b 3 := by rw [hw]; exact writeFrom_err (k := 5 - 3) he
      rw [hw']
      with_reducible repeat' (first
 | refine AW.seq ?_
 | refine AW.region ?_
 | refine AOs.nil ?_
 | refine AW.exit ?_
 | refine AW.ret ?_
 | refine andThen_normal ?_
 | refine andThen_exit ?_
 | refine inBlock_hit ?_
 | refine inBlock_miss (by with_unfolding_all rfl) ?_
 | refine AW.condT (by simp only [aeval, PT.get_set, Nat.reduceEqDiff, reduceIte]; rfl) (by first | rfl | decide | assumption) ?_
 | ((first
 | refine AOs.op1E tOK (by with_unfolding_all rfl) ?_
 ); refine Step.mk (by simp only [evOp_move, evOp_assign, evOp_binOp, aeval, ofVal, PT.get_set, Nat.reduceEqDiff, reduceIte, Option.map_some, abin_neq, Bool.not_false, eq_self, g2, hd2]; rfl) ?_)
 | fail "stop")
      exact fnPost_ret1 (by first | (simp only [PT.get_set, Nat.reduceEqDiff, reduceIte]; rfl) | simp only [PT.get_set, Nat.reduceEqDiff, reduceIte]) ⟨rfl, h2.mono hmono, ap2⟩
  | 4, _ =>
    have x0 : ∀ k, aindexAddr tC 116 (.slice sb 0 6 (.ex 6) 1) (.int k 4) = some (.ptr sb 4) := fun k => hx k 4 (by omega)
    with_reducible repeat' (first
 | refine AW.seq ?_
 | refine AW.region ?_
 | refine AW.block ?_
 | refine AOs.nil ?_
 | refine AW.skip ?_
 | refine andThen_normal ?_
 | refine AW.condT (by simp only [aeval, PT.get_set, reduceIte]; rfl) (by first | rfl | decide | assumption) ?_
 | ((first
 | refine AOs.op1E tOK (by with_unfolding_all rfl) ?_
 ); refine Step.mk (by simp only [evOp_move, evOp_assign, evOp_binOp, evOp_indexAddr, evOp_load, aeval, PT.get_set, Nat.reduceEqDiff, reduceIte, cellAt, Option.map_some, abin_lss, decide_true, List.getElem?_cons_zero, List.getElem?_cons_succ, eq_self, Int.cast_ofNat_Int, Int.reduceLT, ld47, g5, g6, g7, x0, qs]; rfl) ?_)
 | fail "stop")
    refine AOs.callQ tOK (fs := ([] : List AV)) (cs := [.ptr p4 0, .ptr p9 0, .ptr p10 0]) (by simp only [aeval, PT.get_set, Nat.reduceEqDiff, reduceIte]) fn69 ok69 rfl (by simp only [List.map_nil, List.nil_append, List.append_nil] <;> rfl) (w69 N (b := b) hDi hMi (by omega) qL.1 q4.1 q9.1 q10.1).wf ?_
    rintro r K2 ⟨⟨rfl, h2, a2⟩, hwf2⟩
    have ap2 : Apart K K2 A := ap.trans hwf a2
    have hmono : ∀ x, AddR (AddR A K.next K1.next) K1.next K2.next x → AddR A K.next K2.next x := fun x hx => by
      have := a2.2; have := ap.2
      rcases hx with (hx | hx) | hx
      · exact .inl hx
      · exact .inr ⟨hx.1, by omega⟩
      · exact .inr ⟨by omega, hx.2⟩
    by_cases he : (wstep Mi to b 4).1 = 0
    · have hd2 : decide ((wstep Mi to b 4).1 = 0) = true := decide_eq_true he
      have hw' : M.write to b = writeFrom to b (6 - (4 + 1)) (wstep Mi to b 4).2 := by rw [hw]; exact writeFrom_ok (k := 5 - 4) he
      with_reducible repeat' (first
 | refine AW.seq ?_
 | refine AW.region ?_
 | refine AOs.nil ?_
 | refine AW.skip ?_
 | refine andThen_normal ?_
 | refine inBlock_normal ?_
 | refine AW.condF (by simp only [aeval, PT.get_set, Nat.reduceEqDiff, reduceIte, he]; rfl) (by first | rfl | decide | assumption) ?_
 | ((first
 | refine AOs.op1E tOK (by with_unfolding_all rfl) ?_
 ); refine Step.mk (by simp only [evOp_move, evOp_assign, evOp_binOp, aeval, ofVal, PT.get_set, Nat.reduceEqDiff, reduceIte, Option.map_some, abin_add, abin_neq, decide_true, Bool.not_true, eq_self, Int.cast_ofNat_Int, g7, g2, he]; rfl) ?_)
 | fail "stop")
      exact ⟨6 - (4 + 1), by omega, 4 + 1, _, by omega, rfl, by simp [PT.get_set, g5], by simp [PT.get_set, g6], by simp only [PT.get_set, Nat.reduceEqDiff, reduceIte]; rfl, by simp [PT.get_set, he], h2.mono hmono, ap2, (hMi.step to hbl 4).mono (by omega), hw'⟩
    · have hd2 : decide ((wstep Mi to b 4).1 = 0) = false := decide_eq_false he
      have hw' : M.write to b = wstep Mi to b 4 := by rw [hw]; exact writeFrom_err (k := 5 - 4) he
      rw [hw']
      with_reducible repeat' (first
 | refine AW.seq ?_
 | refine AW.region ?_
 | refine AOs.nil ?_
 | refine AW.exit ?_
 | refine AW.ret ?_
 | refine andThen_normal ?_
 | refine andThen_exit ?_
 | refine inBlock_hit ?_
 | refine inBlock_miss (by with_unfolding_all rfl) ?_
 | refine AW.condT (by simp only [aeval, PT.get_set, Nat.reduceEqDiff, reduceIte]; rfl) (by first | rfl | decide | assumption) ?_
 | ((first
 | refine AOs.op1E tOK (by with_unfolding_all rfl) ?_
 ); refine Step.mk (by simp only [evOp_move, evOp_assign, evOp_binOp, aeval, ofVal, PT.get_set, Nat.reduceEqDiff, reduceIte, Option.map_some, abin_neq, Bool.not_false, eq_self, g2, hd2]; rfl) ?_)
 | fail "stop")
      exact fnPost_ret1 (by first | (simp only [PT.get_set, Nat.reduceEqDiff, reduceIte]; rfl) | simp only [PT.get_set, Nat.reduceEqDiff, reduceIte]) ⟨rfl, h2.mono hmono, ap2⟩
  | 5, _ =>
    have x0 : ∀ k, aindexAddr tC 116 (.slice sb 0 6 (.ex 6) 1) (.int k 5) = some (.ptr sb 5) := fun k => hx k 5 (by omega)
    with_reducible repeat' (first
 | refine AW.seq ?_
 | refine AW.region ?_
 | refine AW.block ?_
 | refine AOs.nil ?_
 | refine AW.skip ?_
 | refine andThen_normal ?_
 | refine AW.condT (by simp only [aeval, PT.get_set, reduceIte]; rfl) (by first | rfl | decide | assumption) ?_
 | ((first
 | refine AOs.op1E tOK (by with_unfolding_all rfl) ?_
 ); refine Step.mk (by simp only [evOp_move, evOp_assign, evOp_binOp, evOp_indexAddr, evOp_load, aeval, PT.get_set, Nat.reduceEqDiff, reduceIte, cellAt, Option.map_some, abin_lss, decide_true, List.getElem?_cons_zero, List.getElem?_cons_succ, eq_self, Int.cast_ofNat_Int, Int.reduceLT, ld47, g5, g6, g7, x0, qs]; rfl) ?_)
 | fail "stop")
    have q5 : AC tC N 0 71 [.ptr d 0] K1 fun r K' => r = .int .i64 (wstep Mi to b 5).1 ∧ DiskAt K' d (wstep Mi to b 5).2 (AddR (AddR A K.next K1.next) K1.next K'.next) ∧ Apart K1 K' (AddR A K.next K1.next) := syncNames12 N K1 hDi hMi.ok (Nat.le_trans hMi.notes (by omega))
    refine AOs.callQ tOK (fs := [.ptr d 0]) (cs := ([] : List AV)) (by simp only [aeval, PT.get_set, Nat.reduceEqDiff, reduceIte]) fn71 ok71 rfl (by simp only [List.map_nil, List.append_nil] <;> rfl) (q5).wf ?_
    rintro r K2 ⟨⟨rfl, h2, a2⟩, hwf2⟩
    have ap2 : Apart K K2 A := ap.trans hwf a2
    have hmono : ∀ x, AddR (AddR A K.next K1.next) K1.next K2.next x → AddR A K.next K2.next x := fun x hx => by
      have := a2.2; have := ap.2
      rcases hx with (hx | hx) | hx
      · exact .inl hx
      · exact .inr ⟨hx.1, by omega⟩
      · exact .inr ⟨by omega, hx.2⟩
    by_cases he : (wstep Mi to b 5).1 = 0
    · have hd2 : decide ((wstep Mi to b 5).1 = 0) = true := decide_eq_true he
      have hw' : M.write to b = writeFrom to b (6 - (5 + 1)) (wstep Mi to b 5).2 := by rw [hw]; exact writeFrom_ok (k := 5 - 5) he
      with_reducible repeat' (first
 | refine AW.seq ?_
 | refine AW.region ?_
 | refine AOs.nil ?_
 | refine AW.skip ?_
 | refine andThen_normal ?_
 | refine inBlock_normal ?_
 | refine AW.condF (by simp only [aeval, PT.get_set, Nat.reduceEqDiff, reduceIte, he]; rfl) (by first | rfl | decide | assumption) ?_
 | ((first
 | refine AOs.op1E tOK (by with_unfolding_all rfl) ?_
 ); refine Step.mk (by simp only [evOp_move, evOp_assign, evOp_binOp, aeval, ofVal, PT.get_set, Nat.reduceEqDiff, reduceIte, Option.map_some, abin_add, abin_neq, decide_true, Bool.not_true, eq_self, Int.cast_ofNat_Int, g7, g2, he]; rfl) ?_)
 | fail "stop")
      exact ⟨6 - (5 + 1), by omega, 5 + 1, _, by omega, rfl, by simp [PT.get_set, g5], by simp [PT.get_set, g6], by simp only [PT.get_set, Nat.reduceEqDiff, reduceIte]; rfl, by simp [PT.get_set, he], h2.mono hmono, ap2, (hMi.step to hbl 5).mono (by omega), hw'⟩
    · have hd2 : decide ((wstep Mi to b 5).1 = 0) = false := decide_eq_false he
      have hw' : M.write to b = wstep Mi to b 5 := by rw [hw]; exact writeFrom_err (k := 5 - 5) he
      rw [hw']
      with_reducible repeat' (first
 | refine AW.seq ?_
 | refine AW.region ?_
 | refine AOs.nil ?_
 | refine AW.exit ?_
 | refine AW.ret ?_
 | refine andThen_normal ?_
 | refine andThen_exit ?_
 | refine inBlock_hit ?_
 | refine inBlock_miss (by with_unfolding_all rfl) ?_
 | refine AW.condT (by simp only [aeval, PT.get_set, Nat.reduceEqDiff, reduceIte]; rfl) (by first | rfl | decide | assumption) ?_
 | ((first
 | refine AOs.op1E tOK (by with_unfolding_all rfl) ?_
 ); refine Step.mk (by simp only [evOp_move, evOp_assign, evOp_binOp, aeval, ofVal, PT.get_set, Nat.reduceEqDiff, reduceIte, Option.map_some, abin_neq, Bool.not_false, eq_self, g2, hd2]; rfl) ?_)
 | fail "stop")
      exact fnPost_ret1 (by first | (simp only [PT.get_set, Nat.reduceEqDiff, reduceIte]; rfl) | simp only [PT.get_set, Nat.reduceEqDiff, reduceIte]) ⟨rfl, h2.mono hmono, ap2⟩
  | 6, _ =>
    have hw' : M.write to b = (0, Mi) := hw
    rw [hw']
    with_reducible repeat' (first
 | refine AW.seq ?_
 | refine AW.region ?_
 | refine AOs.nil ?_
 | refine AW.exit ?_
 | refine AW.ret ?_
 | refine andThen_normal ?_
 | refine andThen_exit ?_
 | refine inBlock_hit ?_
 | refine AW.condF (by simp only [aeval, PT.get_set, reduceIte]; rfl) (by first | rfl | decide | assumption) ?_
 | ((first
 | refine AOs.op1E tOK (by with_unfolding_all rfl) ?_
 ); refine Step.mk (by simp only [evOp_move, evOp_assign, evOp_binOp, aeval, PT.get_set, Nat.reduceEqDiff, reduceIte, Option.map_some, abin_lss, decide_false, eq_self, Int.cast_ofNat_Int, Int.reduceLT, g6, g7, g2]; rfl) ?_)
 | fail "stop")
    exact fnPost_ret1 (by first | (simp only [PT.get_set, Nat.reduceEqDiff, reduceIte]; rfl) | simp only [PT.get_set, Nat.reduceEqDiff, reduceIte]) ⟨rfl, hDi, ap⟩
end Go.Proofs.YtgihociajfgohaaGreatDoor

open Go Go.AB Go.Proofs
namespace Go.Proofs.YtgihociajfgohaaGreatDoor
set_option maxRecDepth 100000

/-- What is neither the disk's nor the log stays. -/
def ApartL (H K : AH) (A : Nat → Prop) (L : Nat) : Prop := (∀ b x, H.get b = some x → b ≠ L → (¬ A b ∨ kind x = 3 ∨ kind x = 4) → K.get b = some x) ∧ H.next ≤ K.next

theorem al9' (F : Fns) (H : AH) (ev : Operand → AV) (dst : Option Tmp) (ty : TypeId) (pos : String) (after : Array Edge) (guard : Option (Nat × Bool)) : evOp tC F H ev { dst, op := .alloc 9, type := ty, pos, after, guard } = some (.ptr H.next 0, H.alloc (.cells false [.str []])) := evOp_alloc1 ti9 rfl rfl

theorem bs116_6 (F : Fns) (H : AH) (ev : Operand → AV) (dst : Option Tmp) (ty : TypeId) (pos : String) (after : Array Edge) (guard : Option (Nat × Bool)) (x0 x1 x2 x3 x4 x5 : Operand) (h0 : (ev x0).one = true) (h1 : (ev x1).one = true) (h2 : (ev x2).one = true) (h3 : (ev x3).one = true) (h4 : (ev x4).one = true) (h5 : (ev x5).one = true) :
    evOp tC F H ev { dst, op := .buildSlice 116 6 ⟨[(0, x0), (1, x1), (2, x2), (3, x3), (4, x4), (5, x5)]⟩, type := ty, pos, after, guard } = some (.slice H.next 0 6 (.ex 6) 1, H.alloc (.cells false [ev x0, ev x1, ev x2, ev x3, ev x4, ev x5])) := evOp_buildSlice6 ti116 rfl ti47 rfl rfl rfl h0 h1 h2 h3 h4 h5

set_option maxHeartbeats 8000000 in
theorem write38 (N : Nat) {H : AH} {d L : Nat} {M : DM} {A : Nat → Prop} {i0 : Nat} {e g s n : Int} {gen cnt : Nat} {bv : AV} {b : Nm} (hA : ∀ b, A b → b < H.next) (hD : DiskAt H d M A) (hM : MB M i0) (hi0 : i0 ≤ 990)
    (hL : Kp H A L (logO e d g s n)) (hg : Gen gen) (hb : FB H bv b) (hbl : b.length ≤ 20000) :
    AC tC N 0 38 [.ptr L 0, .int .i64 (gen : Nat), bv, .int .i64 (cnt : Nat)] H fun r K => r = .int .i64 (M.write (fileN gen) b).1 ∧ DiskAt K d (M.write (fileN gen) b).2 (AddR A H.next K.next) ∧ ApartL H K A L ∧
      K.get L = some (if (M.write (fileN gen) b).1 = 0 then logO e d gen b.length cnt else logO e d g s n) := by
  refine AC.wf0 fun hwf => ?_
  refine AC.by (n := 55) (rs := [.tmp 8]) tOK fn38 rfl rfl rfl rfl ?_
  have e0 : (PT.ofList .leaf 0 [AV.ptr L 0, .int .i64 (gen : Nat), bv, .int .i64 (cnt : Nat)]).get 0 = some (.ptr L 0) := rfl
  have e1 : (PT.ofList .leaf 0 [AV.ptr L 0, .int .i64 (gen : Nat), bv, .int .i64 (cnt : Nat)]).get 1 = some (.int .i64 (gen : Nat)) := rfl
  have e2 : (PT.ofList .leaf 0 [AV.ptr L 0, .int .i64 (gen : Nat), bv, .int .i64 (cnt : Nat)]).get 2 = some bv := rfl
  have e3 : (PT.ofList .leaf 0 [AV.ptr L 0, .int .i64 (gen : Nat), bv, .int .i64 (cnt : Nat)]).get 3 = some (.int .i64 (cnt : Nat)) := rfl
  have hbo := hb.bytes.one
  have hbx : boxC bv = some [bv] := boxC_one hbo
  generalize hH1 : (H.alloc (.cells false [.ptr L 0])).alloc (.cells false [bv]) = H1
  have n1 : H1.next = H.next + 2 := by rw [← hH1]; rfl
  have sy1 : ∀ b x, H.get b = some x → H1.get b = some x := fun b x hb => by
    rw [← hH1]; exact stay_alloc (wf_alloc hwf _) _ b x (stay_alloc hwf _ b x hb)
  have wf1 : WF H1 := by rw [← hH1]; exact wf_alloc (wf_alloc hwf _) _
  have g4 : H1.get H.next = some (.cells false [.ptr L 0]) := by rw [← hH1, AH.get_alloc, if_neg (by simp), AH.get_alloc, if_pos rfl]
  have g6 : H1.get (H.next + 1) = some (.cells false [bv]) := by rw [← hH1, AH.get_alloc, if_pos (by simp)]
  have gL : H1.get L = some (.cells false [.int .i64 e, .ptr d 0, .str nL, .int .i64 g, .int .i64 s, .int .i64 n]) := sy1 _ _ hL.1
  with_reducible repeat' (first
 | refine AW.seq ?_
 | refine AW.region ?_
 | refine AOs.nil ?_
 | refine andThen_normal ?_
 | ((first
 | refine AOs.op1E tOK (by with_unfolding_all rfl) ?_
 ); refine Step.mk (by simp only [evOp_assign, evOp_nilCheck, evOp_binOp, evOp_fieldAddr, evOp_load, evOp_boxC, boxC_one, one_ptr, aeval, ofVal, PT.get_set, Nat.reduceEqDiff, reduceIte, cellAt, Option.map_some, List.getElem?_cons_zero, List.getElem?_cons_succ, Nat.zero_add, eq_self, ld9, ld27, fa65_2, e0, e2, hbx, hH1, AH.next_alloc, g4, gL]; rfl) ?_)
 | fail "stop")
  refine AOs.op1 tOK (v := .str tmpL) (H' := H1) (by simp only [evOp_binOp, aeval, PT.get_set, Nat.reduceEqDiff, reduceIte]; rfl) rfl ?_
  have hLl := wf1 _ _ gL
  have d1 : ¬ H.next = H1.next := by omega
  have d2 : ¬ H.next + 1 = H1.next := by omega
  have d3 : ¬ L = H1.next := by omega
  with_reducible repeat' (first
 | refine AW.seq ?_
 | refine AW.region ?_
 | refine AOs.nil ?_
 | refine andThen_normal ?_
 | ((first
 | refine AOs.op1E tOK (by with_unfolding_all rfl) ?_
 | refine AOs.op0E tOK ?_
 ); refine Step.mk (by simp only [evOp_move, evOp_nilCheck, evOp_fieldAddr, evOp_load, evOp_store, storeAt, one_str, aeval, PT.get_set, Nat.reduceEqDiff, reduceIte, cellAt, Option.map_some, List.getElem?_cons_zero, List.getElem?_cons_succ, Nat.zero_add, Nat.reduceLT, List.length_cons, List.length_nil, List.set_cons_zero, AH.get_set, eq_self, ld9, st9, ld27, fa65_2, e1, al9', AH.get_alloc, d1, d3, g4, gL]; rfl) ?_)
 | fail "stop")
  generalize hH2 : (H1.alloc (.cells false [.str []])).set H1.next (.cells false [.str tmpL]) = H2
  have n2 : H2.next = H1.next + 1 := by rw [← hH2]; rfl
  have sy2 : ∀ b x, H1.get b = some x → H2.get b = some x := fun b x hb => by
    rw [← hH2, AH.get_set, if_neg (by have := wf1 b x hb; omega)]; exact stay_alloc wf1 _ b x hb
  have wf2 : WF H2 := fun b x hb => by
    rw [← hH2, AH.get_set] at hb
    split at hb
    · omega
    · have := wf_alloc wf1 _ b x hb; rw [AH.next_alloc] at this; omega
  have g9 : H2.get H1.next = some (.cells false [.str tmpL]) := by rw [← hH2, AH.get_set, if_pos rfl]
  refine AOs.callQ tOK (fs := []) (cs := []) rfl fn9 ok9 rfl (by simp only [List.map_cons, List.map_nil, List.nil_append, List.append_nil, aeval, PT.get_set, Nat.reduceEqDiff, reduceIte] <;> rfl) (file9 N H2 hg) ?_
  rintro r K ⟨rfl, rfl⟩
  have k4 := sy2 _ _ g4
  have k6 := sy2 _ _ g6
  have kL := sy2 _ _ gL
  have d4 : ¬ H.next = K.next := by omega
  have d5 : ¬ H.next + 1 = K.next := by omega
  have d6 : ¬ L = K.next := by have := wf2 _ _ kL; omega
  have d7 : ¬ H1.next = K.next := by omega
  with_reducible repeat' (first
 | refine AW.seq ?_
 | refine AW.region ?_
 | refine AOs.nil ?_
 | refine andThen_normal ?_
 | ((first
 | refine AOs.op1E tOK (by with_unfolding_all rfl) ?_
 | refine AOs.op0E tOK ?_
 ); refine Step.mk (by simp only [evOp_move, evOp_assign, evOp_nilCheck, evOp_fieldAddr, evOp_extract, evOp_makeFunc, evOp_load, evOp_store, storeAt, one_str, aeval, PT.get_set, Nat.reduceEqDiff, reduceIte, cellAt, List.map_cons, List.map_nil, Option.map_some, List.getElem?_cons_zero, List.getElem?_cons_succ, Nat.zero_add, Nat.reduceLT, List.length_cons, List.length_nil, List.set_cons_zero, AH.get_set, eq_self, st9, ld27, ld42, fa65_1, al9', AH.get_alloc, d4, d6, k4, kL]; rfl) ?_)
 | fail "stop")
  generalize hH3 : (K.alloc (.cells false [.str []])).set K.next (.cells false [.str (fileN gen)]) = H3
  have n3 : H3.next = K.next + 1 := by rw [← hH3]; rfl
  have sy3 : ∀ b x, K.get b = some x → H3.get b = some x := fun b x hb => by
    rw [← hH3, AH.get_set, if_neg (by have := wf2 b x hb; omega)]; exact stay_alloc wf2 _ b x hb
  have wf3 : WF H3 := fun b x hb => by
    rw [← hH3, AH.get_set] at hb
    split at hb
    · omega
    · have := wf_alloc wf2 _ b x hb; rw [AH.next_alloc] at this; omega
  have g10 : H3.get K.next = some (.cells false [.str (fileN gen)]) := by rw [← hH3, AH.get_set, if_pos rfl]
  obtain ⟨fs, hfs⟩ : ∃ fs : List AV, fs = [.func 63 [] [.ptr H.next 0, .ptr H1.next 0], .func 65 [] [.ptr H.next 0, .ptr H1.next 0], .func 67 [] [.ptr H.next 0, .ptr H1.next 0, .ptr (H.next + 1) 0], .func 68 [] [.ptr H.next 0, .ptr H1.next 0], .func 69 [] [.ptr H.next 0, .ptr H1.next 0, .ptr K.next 0], .func 71 [.ptr d 0] []] := ⟨_, rfl⟩
  with_reducible repeat' (first
 | ((first
 | refine AOs.op1E tOK (by with_unfolding_all rfl) ?_
 ); refine Step.mk (by simp only [one_func, aeval, PT.get_set, Nat.reduceEqDiff, reduceIte, eq_self, bs116_6]; rfl) ?_)
 | fail "stop")
  rw [← hfs]
  generalize hH4 : H3.alloc (.cells false fs) = H4
  have n4 : H4.next = H3.next + 1 := by rw [← hH4]; rfl
  have sy4 : ∀ b x, H3.get b = some x → H4.get b = some x := fun b x hb => by rw [← hH4]; exact stay_alloc wf3 _ b x hb
  have wf4 : WF H4 := by rw [← hH4]; exact wf_alloc wf3 _
  have gs : H4.get H3.next = some (.cells false fs) := by rw [← hH4, AH.get_alloc, if_pos rfl]
  have stA : ∀ b x, H.get b = some x → H4.get b = some x := fun b x hb => sy4 b x (sy3 b x (sy2 b x (sy1 b x hb)))
  have hna : ∀ b, H.next ≤ b → ¬ A b := fun b hb e => by have := hA b e; omega
  have kp4 : Kp H4 A H.next (.cells false [.ptr L 0]) := ⟨sy4 _ _ (sy3 _ _ k4), hna _ (by omega)⟩
  have kp6 : Kp H4 A (H.next + 1) (.cells false [bv]) := ⟨sy4 _ _ (sy3 _ _ k6), hna _ (by omega)⟩
  have kp9 : Kp H4 A H1.next (.cells false [.str tmpL]) := ⟨sy4 _ _ (sy3 _ _ g9), hna _ (by omega)⟩
  have kp10 : Kp H4 A K.next (.cells false [.str (fileN gen)]) := ⟨sy4 _ _ g10, hna _ (by omega)⟩
  have kps : Kp H4 A H3.next (.cells false fs) := ⟨gs, hna _ (by omega)⟩
  have kpL : Kp H4 A L (logO e d g s n) := hL.more stA
  rw [hfs] at kps
  refine AOs.callQ tOK (fs := []) (cs := []) rfl fn62 ok62 rfl (by simp only [List.map_cons, List.map_nil, List.nil_append, List.append_nil, aeval, PT.get_set, Nat.reduceEqDiff, reduceIte] <;> rfl) (steps62 N (K := H4) (fun b hb => by have := hA b hb; omega) (hD.keep ⟨fun b x hb _ => stA b x hb, by omega⟩ fun _ => id) hM hi0 kpL kp4 kp9 kp6 kp10 (hb.keep fun b x hb _ => stA b x hb) hbl kps).wf ?_
  rintro r K5 ⟨⟨rfl, h5, ap⟩, wf5⟩
  have c4 := (kp4.op wf4 ap).1
  have c6 := (kp6.op wf4 ap).1
  have cL : K5.get L = some (.cells false [.int .i64 e, .ptr d 0, .str nL, .int .i64 g, .int .i64 s, .int .i64 n]) := (kpL.op wf4 ap).1
  have hn5 : H.next ≤ K5.next := by have := ap.2; omega
  have h5' : DiskAt K5 d (M.write (fileN gen) b).2 (AddR A H.next K5.next) := h5.mono fun x hx => hx.imp id fun hx => ⟨by omega, hx.2⟩
  have hlL := hwf _ _ hL.1
  have stK : ∀ b x, H.get b = some x → (¬ A b ∨ kind x = 3 ∨ kind x = 4) → K5.get b = some x := fun b x hb hx => ap.1 b x (stA b x hb) hx
  by_cases he : (M.write (fileN gen) b).1 = 0
  · have hd : decide ((M.write (fileN gen) b).1 = 0) = true := decide_eq_true he
    have hlen := hb.bytes.len
    with_reducible repeat' (first
 | refine AW.seq ?_
 | refine AW.region ?_
 | refine AOs.nil ?_
 | refine andThen_normal ?_
 | refine AW.condT (by simp only [aeval, PT.get_set, Nat.reduceEqDiff, reduceIte]; rfl) (by first | rfl | decide | assumption) ?_
 | refine AW.drawT tOK (by with_unfolding_all rfl) (by simp only [pickAll, Nat.reduceAdd]; rfl) ?_
 | ((first
 | refine DN.fl1E (by with_unfolding_all rfl) (by with_unfolding_all rfl) ?_
 | refine DN.rd1E (by kernel_rfl) (by with_unfolding_all rfl) ?_
 ); refine Step.mk (by simp only [evOp_move, evOp_nilCheck, evOp_fieldAddr, evOp_load, evOp_len, aeval, PT.get_set, Nat.reduceEqDiff, reduceIte, cellAt, Option.map_some, List.getElem?_cons_zero, Nat.zero_add, eq_self, ld27, al32, ld32, fa65_3, e1, e3, c4, c6, hlen]; rfl) ?_; refine Same.mk ?_)
 | ((first
 | refine AOs.op1E tOK (by with_unfolding_all rfl) ?_
 ); refine Step.mk (by simp only [evOp_move, evOp_assign, evOp_binOp, aeval, ofVal, PT.get_set, Nat.reduceEqDiff, reduceIte, Option.map_some, abin_eql, eq_self, hd]; rfl) ?_)
 | fail "stop")
    have f1 : ¬ H.next = L := by omega
    have f2 : ¬ H.next + 1 = L := by omega
    refine DN.act0P tOK (by kernel_rfl) (by simp only [evOp_store, storeAt, one_int, aeval, PT.get_set, Nat.reduceEqDiff, reduceIte, Option.map_some, Nat.zero_add, Nat.reduceLT, Nat.reduceAdd, List.length_cons, List.length_nil, List.set_cons_zero, List.set_cons_succ, eq_self, st3, cL]; rfl) ?_ ?_
    · repeat' (first | exact good_nil | refine good_cons ?_ ?_ | exact good_of (by kernel_rfl) rfl (by simp only [evOp_load, evOp_len, aeval, PT.get_set, Nat.reduceEqDiff, reduceIte, cellAt, Option.map_some, List.getElem?_cons_zero, AH.get_set, eq_self, ld27, al32, ld32, c4, c6, AH.get_set, f1, f2, hlen] <;> rfl) 1 | fail "stop")
    with_reducible repeat' (first
 | ((first
 | refine DN.fl1E (by with_unfolding_all rfl) (by with_unfolding_all rfl) ?_
 ); refine Step.mk (by simp only [evOp_nilCheck, evOp_fieldAddr, aeval, PT.get_set, Nat.reduceEqDiff, reduceIte, Option.map_some, Nat.zero_add, eq_self, fa65_4]; rfl) ?_; refine Same.mk ?_)
 | fail "stop")
    refine DN.act0P tOK (by kernel_rfl) (by simp only [evOp_store, storeAt, one_int, aeval, PT.get_set, Nat.reduceEqDiff, reduceIte, Option.map_some, Nat.zero_add, Nat.reduceLT, Nat.reduceAdd, List.length_cons, List.length_nil, List.set_cons_zero, List.set_cons_succ, AH.get_set, eq_self, st3, cL, AH.get_set, if_true]; rfl) ?_ ?_
    · repeat' (first | exact good_nil | refine good_cons ?_ ?_ | exact good_of (by kernel_rfl) rfl (by simp only [evOp_load, evOp_len, aeval, PT.get_set, Nat.reduceEqDiff, reduceIte, cellAt, Option.map_some, List.getElem?_cons_zero, AH.get_set, eq_self, ld27, al32, ld32, c4, c6, AH.get_set, f1, f2, hlen] <;> rfl) 1 | fail "stop")
    with_reducible repeat' (first
 | refine AW.seq ?_
 | refine AW.region ?_
 | refine AOs.nil ?_
 | refine AW.ret ?_
 | refine andThen_normal ?_
 | refine DN.nil tOK ?_
 | ((first
 | refine DN.fl1E (by with_unfolding_all rfl) (by with_unfolding_all rfl) ?_
 ); refine Step.mk (by simp only [evOp_nilCheck, evOp_fieldAddr, aeval, PT.get_set, Nat.reduceEqDiff, reduceIte, Option.map_some, Nat.zero_add, eq_self, fa65_5]; rfl) ?_; refine Same.mk ?_)
 | ((first
 | refine AOs.op1E tOK (by with_unfolding_all rfl) ?_
 | refine DN.act0E tOK (by kernel_rfl) (by with_unfolding_all rfl) ?_
 ); refine Step.mk (by simp only [evOp_move, evOp_assign, evOp_store, storeAt, one_int, aeval, PT.get_set, Nat.reduceEqDiff, reduceIte, Option.map_some, Nat.zero_add, Nat.reduceLT, Nat.reduceAdd, List.length_cons, List.length_nil, List.set_cons_zero, List.set_cons_succ, AH.get_set, eq_self, st3, cL, AH.get_set]; rfl) ?_)
 | fail "stop")
    have key : ∀ K6 : AH, (∀ b, b ≠ L → K6.get b = K5.get b) → K6.get L = some (logO e d gen b.length cnt) → K6.next = K5.next → DiskAt K6 d (M.write (fileN gen) b).2 (AddR A H.next K6.next) ∧ ApartL H K6 A L ∧
        K6.get L = some (if (M.write (fileN gen) b).1 = 0 then logO e d gen b.length cnt else logO e d g s n) := fun K6 hg6 hl6 hn6 => by
      refine ⟨?_, ⟨fun b x hb hne hx => by rw [hg6 b hne]; exact stK b x hb hx, by omega⟩, by rw [if_pos he]; exact hl6⟩
      rw [hn6]
      refine h5'.keep ⟨fun b x hb hx => ?_, by omega⟩ fun _ => id
      have hne : b ≠ L := fun e' => by
        subst e'
        rw [cL] at hb
        cases hb
        rcases hx with hx | hx | hx
        · rcases hx with hx | hx
          · exact hL.2 hx
          · omega
        · simp [kind, kindV, isU8] at hx
        · simp [kind, kindV, isU8] at hx
      rw [hg6 b hne]; exact hb
    exact fnPost_ret1 (by first | (simp only [PT.get_set, Nat.reduceEqDiff, reduceIte]; rfl) | simp only [PT.get_set, Nat.reduceEqDiff, reduceIte]) ⟨rfl, key _ (fun b hb => by simp only [AH.get_set, if_neg hb]) (by rw [AH.get_set, if_pos rfl]; rfl) rfl⟩
  · have hd : decide ((M.write (fileN gen) b).1 = 0) = false := decide_eq_false he
    with_reducible repeat' (first
 | refine AW.seq ?_
 | refine AW.region ?_
 | refine AOs.nil ?_
 | refine AW.skip ?_
 | refine AW.ret ?_
 | refine andThen_normal ?_
 | refine AW.condF (by simp only [aeval, PT.get_set, Nat.reduceEqDiff, reduceIte]; rfl) (by first | rfl | decide | assumption) ?_
 | ((first
 | refine AOs.op1E tOK (by with_unfolding_all rfl) ?_
 ); refine Step.mk (by simp only [evOp_move, evOp_assign, evOp_binOp, aeval, ofVal, PT.get_set, Nat.reduceEqDiff, reduceIte, Option.map_some, abin_eql, eq_self, hd]; rfl) ?_)
 | fail "stop")
    exact fnPost_ret1 (by first | (simp only [PT.get_set, Nat.reduceEqDiff, reduceIte]; rfl) | simp only [PT.get_set, Nat.reduceEqDiff, reduceIte]) ⟨rfl, h5', ⟨fun b x hb _ hx => stK b x hb hx, hn5⟩, by rw [if_neg he]; exact cL⟩
end Go.Proofs.YtgihociajfgohaaGreatDoor

open Go Go.AB Go.Proofs
namespace Go.Proofs.YtgihociajfgohaaGreatDoor
set_option maxRecDepth 100000

def removeGo : List Nm → DM → Int × DM
  | [], M => (0, M)
  | s :: l, M => if (M.remove s).1 ≠ 0 then M.remove s else removeGo l (M.remove s).2
def goneF (g : Nat) (s : Nm) : Bool := decide (genOf s ≠ 0) && !decide (s = fileN g)
def DM.gone (M : DM) (g : Nat) : List Nm := M.names.filter (goneF g) ++ (if M.size tmpL < 0 then [] else [tmpL])
def DM.clean (M : DM) (g : Nat) : Int × DM := if M.gone g = [] then (0, M) else if (removeGo (M.gone g) M).1 ≠ 0 then removeGo (M.gone g) M else (removeGo (M.gone g) M).2.syncNames

theorem MB.removeGo : ∀ (l : List Nm) {M : DM} {i : Nat}, MB M i → MB (removeGo l M).2 (i + l.length)
  | [], M, i, h => h
  | s :: l, M, i, h => by
    have h1 := h.remove s
    unfold YtgihociajfgohaaGreatDoor.removeGo
    split
    · exact h1.mono (by simp)
    · exact (MB.removeGo l h1).mono (by simp; omega)
theorem MB.names_len {M : DM} {i : Nat} (h : MB M i) : M.names.length ≤ i := by
  unfold DM.names; rw [(isortK_perm _).length_eq, List.length_map]; exact h.ents
theorem MB.gone_len {M : DM} {i : Nat} (h : MB M i) (g : Nat) : (M.gone g).length ≤ i + 1 := by
  have h1 := h.names_len
  have h2 := List.length_filter_le (goneF g) M.names
  unfold DM.gone
  rw [List.length_append]
  split <;> simp <;> omega
theorem MB.clean {M : DM} {i : Nat} (h : MB M i) (g : Nat) : MB (M.clean g).2 (i + i + 2) := by
  have h1 := h.gone_len g
  have h2 := MB.removeGo (M.gone g) h
  unfold DM.clean
  split
  · exact h.mono (by omega)
  · split
    · exact h2.mono (by omega)
    · exact h2.syncNames.mono (by omega)
theorem removeGo_ok {s : Nm} {l : List Nm} {M : DM} (h : (M.remove s).1 = 0) : removeGo (s :: l) M = removeGo l (M.remove s).2 := by rw [removeGo, if_neg (by simp [h])]
theorem removeGo_err {s : Nm} {l : List Nm} {M : DM} (h : (M.remove s).1 ≠ 0) : removeGo (s :: l) M = M.remove s := by rw [removeGo, if_pos h]

theorem filter1 {f : Nm → Bool} {x : Nm} (h : f x = false) : [x].filter f = [] := by simp [h]
theorem filter2 {f : Nm → Bool} {x : Nm} (h : f x = true) : [x].filter f = [x] := by simp [h]

/-- A text more. -/
theorem acc_str {H : AH} (hw : WF H) {v : AV} {vs : List AV} (h : Acc H v vs) (s : Nm) (hN : vs.length ≤ 1000000) :
    ∃ v' H', aappend tC (H.alloc (.cells false [.str s])) [37, 37] [v, .slice H.next 0 1 (.ex 1) 1] = some (v', H') ∧ Acc H' v' (vs ++ [.str s]) ∧ H.next ≤ H'.next ∧ (∀ b y, H.get b = some y → (∀ o n c z, v ≠ .slice b o n c z) → H'.get b = some y) ∧ (∀ b o n c z, v' = .slice b o n c z → H.next ≤ b) := by
  have hacc : Acc (H.alloc (.cells false [.str s])) v vs := h.keep fun b _ _ _ _ _ x hx => stay_alloc hw _ b x hx
  have hap : aappended tC (H.alloc (.cells false [.str s])) ⟨.string, 1, 16, some (.str []), true⟩ 37 (.slice H.next 0 1 (.ex 1) 1) = some ([AV.str s].length, [.str s]) := aappended_one ti37 rfl rfl (by rw [AH.get_alloc, if_pos rfl]) rfl
  obtain ⟨v', H', h1, h2, h3, h4, h5⟩ := acc_append (C := tC) ti37 rfl ti9 rfl rfl rfl (by decide) (wf_alloc hw _) hacc hap rfl (by simp; omega)
  rw [AH.next_alloc] at h3 h5
  refine ⟨v', H', h1, h2, by omega, fun b y hb hx => h4 b y (stay_alloc hw _ b y hb) hx, fun b o n c z e => ?_⟩
  rcases h5 b o n c z e with h | h
  · exfalso
    rcases h2 with ⟨q1, _⟩ | ⟨b1, q1, _, _⟩
    · rw [q1] at e; cases e
    · rw [q1] at h
      rcases hacc with ⟨q2, _⟩ | ⟨b2, q2, _, _⟩
      · rw [q2] at h; cases h
      · rw [q2] at h
        have := congrArg (fun x => lenOfAV x) h
        simp [lenOfAV] at this
  · omega

set_option maxHeartbeats 8000000 in
theorem clean40 (N : Nat) {H : AH} {d L : Nat} {M : DM} {A : Nat → Prop} {i0 : Nat} {e s n : Int} {g : Nat} (hA : ∀ b, A b → b < H.next) (hD : DiskAt H d M A) (hM : MB M i0) (hi0 : i0 ≤ 400)
    (hL : Kp H A L (logO e d g s n)) (hg : Gen g) (hnm : ∀ s ∈ M.names, LName s) :
    AC tC N 0 40 [.ptr L 0] H fun r K => r = .int .i64 (M.clean g).1 ∧ DiskAt K d (M.clean g).2 (AddR A H.next K.next) ∧ Apart H K A := by
  refine AC.wf0 fun hwf => ?_
  refine AC.by (n := 95) (rs := [.tmp 2]) tOK fn40 rfl rfl rfl rfl ?_
  have e0 : (PT.ofList .leaf 0 [AV.ptr L 0]).get 0 = some (.ptr L 0) := rfl
  have gL : H.get L = some (.cells false [.int .i64 e, .ptr d 0, .str nL, .int .i64 (g : Nat), .int .i64 s, .int .i64 n]) := hL.1
  with_reducible repeat' (first
 | refine AW.seq ?_
 | refine AW.region ?_
 | refine AOs.nil ?_
 | refine andThen_normal ?_
 | refine AW.drawT tOK (by with_unfolding_all rfl) (by simp only [pickAll, Nat.reduceAdd]; rfl) ?_
 | ((first
 | refine DN.fl1E (by with_unfolding_all rfl) (by with_unfolding_all rfl) ?_
 | refine DN.rd1E (by kernel_rfl) (by with_unfolding_all rfl) ?_
 ); refine Step.mk (by simp only [evOp_move, evOp_nilCheck, evOp_fieldAddr, evOp_load, aeval, PT.get_set, Nat.reduceEqDiff, reduceIte, cellAt, Option.map_some, List.getElem?_cons_zero, List.getElem?_cons_succ, Nat.zero_add, eq_self, ld3, ld9, fa65_2, fa65_3, e0, gL]; rfl) ?_; refine Same.mk ?_)
 | ((first
 | refine AOs.op1E tOK (by with_unfolding_all rfl) ?_
 | refine DN.actE tOK (by kernel_rfl) (by with_unfolding_all rfl) (by with_unfolding_all rfl) ?_
 ); refine Step.mk (by simp only [evOp_assign, aeval, ofVal]; rfl) ?_)
 | fail "stop")
  refine DN.call tOK (fs := []) (cs := []) rfl fn9 ok9 rfl (by simp only [List.map_cons, List.map_nil, List.nil_append, List.append_nil, aeval, PT.get_set, Nat.reduceEqDiff, reduceIte] <;> rfl) (file9 N H hg) (by with_unfolding_all rfl) ?_
  rintro r H0' ⟨rfl, rfl⟩
  with_reducible repeat' (first
 | refine AW.seq ?_
 | refine AW.region ?_
 | refine AOs.nil ?_
 | refine andThen_normal ?_
 | refine DN.nil tOK ?_
 | ((first
 | refine DN.fl1E (by with_unfolding_all rfl) (by with_unfolding_all rfl) ?_
 ); refine Step.mk (by simp only [evOp_move, evOp_assign, evOp_extract, aeval, PT.get_set, Nat.reduceEqDiff, reduceIte, Option.map_some, List.getElem?_cons_zero, List.getElem?_cons_succ, eq_self]; rfl) ?_; refine Same.mk ?_)
 | ((first
 | refine AOs.op1E tOK (by with_unfolding_all rfl) ?_
 ); refine Step.mk (by simp only [evOp_move, evOp_assign, evOp_nilCheck, evOp_fieldAddr, evOp_load, aeval, ofVal, PT.get_set, Nat.reduceEqDiff, reduceIte, cellAt, Option.map_some, List.getElem?_cons_zero, List.getElem?_cons_succ, Nat.zero_add, eq_self, ld42, fa65_1, e0, gL]; rfl) ?_)
 | fail "stop")
  refine AOs.callQ tOK (fs := []) (cs := []) rfl fn32 ok32 rfl (by simp only [List.map_cons, List.map_nil, List.nil_append, List.append_nil, aeval, PT.get_set, Nat.reduceEqDiff, reduceIte] <;> rfl) (names24 N H0' hD (fun p hp => Nat.le_trans (hM.keys p hp) (by omega)) (Nat.le_trans hM.ents (by omega))).wf ?_
  rintro nv K1 ⟨⟨hnv, st1', hn1⟩, wf1⟩
  have hnl := hnv.len
  have hN1 := hM.names_len
  have cL := st1' _ _ gL
  with_reducible repeat' (first
 | refine AW.block ?_
 | refine AOs.nil ?_
 | refine andThen_normal ?_
 | ((first
 | refine AOs.op1E tOK (by with_unfolding_all rfl) ?_
 ); refine Step.mk (by simp only [evOp_move, evOp_len, aeval, ofVal, PT.get_set, Nat.reduceEqDiff, reduceIte, Option.map_some, eq_self, al37, hnl]; rfl) ?_)
 | fail "stop")
  refine AW.loop (fun m T K => (∀ b x, K1.get b = some x → K.get b = some x) ∧ K1.next ≤ K.next ∧ T.get 0 = some (.ptr L 0) ∧ T.get 31 = some nv ∧ T.get 32 = some (.int .i64 (M.names.length : Nat)) ∧ T.get 4 = some (.str (fileN g)) ∧ T.get 3 = some (.bool false) ∧
      ∃ (i : Nat) (gv : AV), i ≤ M.names.length ∧ m = M.names.length - i ∧ T.get 33 = some (.int .i64 (i : Nat)) ∧ T.get 6 = some gv ∧ Acc K gv (((M.names.take i).filter (goneF g)).map .str) ∧ ∀ b o n c z, gv = .slice b o n c z → K1.next ≤ b) ?_ (M.names.length - 0)
    ⟨fun b x h => h, Nat.le_refl _, by simp [PT.get_set, e0], by simp [PT.get_set], by simp [PT.get_set], by simp [PT.get_set], by simp [PT.get_set], 0, .nils, by omega, rfl, by simp [PT.get_set], by simp [PT.get_set], .inl ⟨rfl, rfl⟩, fun _ _ _ _ _ e => by cases e⟩
  rintro m T K ⟨hst, hnx, g0, g31, g32, g4, g3, i, gv, hi, rfl, g33, g6, hacc, hgb⟩
  refine AW.wf0 fun hwfK => ?_
  have cLK := hst _ _ cL
  have hflen : ((M.names.take i).filter (goneF g)).length ≤ i0 := by
    have := List.length_filter_le (goneF g) (M.names.take i)
    rw [List.length_take] at this; omega
  by_cases hil : i < M.names.length
  · have hd := lt_int hil
    obtain ⟨x, hx⟩ : ∃ x, M.names[i]? = some x := ⟨_, List.getElem?_eq_getElem hil⟩
    have hxl := hnm x (List.mem_of_getElem? hx)
    rcases hnv with ⟨_, hnv⟩ | ⟨b, c, ro, ws, rfl, hbg, hw⟩
    · rw [hnv] at hil; simp at hil
    have hbK := hst _ _ hbg
    have hwx : ws[i * 1]? = some (.str x) := by rw [Nat.mul_one]; exact hw i x hx
    with_reducible repeat' (first
 | refine AW.seq ?_
 | refine AW.region ?_
 | refine AW.block ?_
 | refine AOs.nil ?_
 | refine AW.skip ?_
 | refine andThen_normal ?_
 | refine AW.condT (by simp only [aeval, PT.get_set, reduceIte]; rfl) (by first | rfl | decide | assumption) ?_
 | ((first
 | refine AOs.op1E tOK (by with_unfolding_all rfl) ?_
 ); refine Step.mk (by simp only [evOp_move, evOp_assign, evOp_nilCheck, evOp_binOp, evOp_fieldAddr, evOp_indexAddr, evOp_load, aeval, PT.get_set, Nat.reduceEqDiff, reduceIte, cellAt, Option.map_some, abin_lss, List.getElem?_cons_zero, List.getElem?_cons_succ, Nat.zero_add, eq_self, ld9, ix37, fa65_2, g0, g31, g32, g33, hd, hil, hbK, hwx, cLK]; rfl) ?_)
 | fail "stop")
    refine AOs.callQ tOK (fs := []) (cs := []) rfl fn8 ok8 rfl (by simp only [List.map_cons, List.map_nil, List.nil_append, List.append_nil, aeval, PT.get_set, Nat.reduceEqDiff, reduceIte] <;> rfl) (of8 N K hxl) ?_
    rintro r K' ⟨rfl, rfl⟩
    have htk : M.names.take (i + 1) = M.names.take i ++ [x] := by rw [List.take_add_one, hx]; rfl
    by_cases hgn : genOf x = 0
    · have hd2 : decide (genOf x ≠ 0) = false := decide_eq_false (by simp [hgn])
      have hf : goneF g x = false := by simp [goneF, hgn]
      with_reducible repeat' (first
 | refine AW.seq ?_
 | refine AW.region ?_
 | refine AOs.nil ?_
 | refine AW.skip ?_
 | refine andThen_normal ?_
 | refine inBlock_normal ?_
 | refine AOs.guardF (by with_unfolding_all rfl) (by simp only [PT.get_set, Nat.reduceEqDiff, reduceIte, hd2]; rfl) (by first | rfl | decide | assumption) (by with_unfolding_all rfl) ?_
 | refine AW.condF (by simp only [aeval, PT.get_set, Nat.reduceEqDiff, reduceIte, hd2]; rfl) (by first | rfl | decide | assumption) ?_
 | ((first
 | refine AOs.op1E tOK (by with_unfolding_all rfl) ?_
 ); refine Step.mk (by simp only [evOp_move, evOp_assign, evOp_pick, evOp_binOp, evOp_extract, aeval, ofVal, PT.get_set, Nat.reduceEqDiff, reduceIte, Option.map_some, abin_add, cond_false, List.getElem?_cons_zero, List.getElem?_cons_succ, eq_self, g33, hd2]; rfl) ?_)
 | fail "stop")
      refine ⟨M.names.length - (i + 1), by omega, fun b y hb => hst b y hb, hnx, by simp [PT.get_set, g0], by simp [PT.get_set, g31], by simp [PT.get_set, g32], by simp [PT.get_set, g4], by simp [PT.get_set, g3], i + 1, gv, by omega, rfl, ?_, by simp [PT.get_set, g6], (by rw [htk, List.filter_append, filter1 hf, List.append_nil]; exact hacc), hgb⟩
      simp only [PT.get_set, Nat.reduceEqDiff, reduceIte, wrap64_succ (show i < 9223372036854775807 by omega)]
    · have hd2 : decide (genOf x ≠ 0) = true := decide_eq_true hgn
      by_cases hxo : x = fileN g
      · have hd3 : decide (x = fileN g) = true := decide_eq_true hxo
        have hf : goneF g x = false := by simp [goneF, hxo]
        with_reducible repeat' (first
 | refine AW.seq ?_
 | refine AW.region ?_
 | refine AOs.nil ?_
 | refine AW.skip ?_
 | refine andThen_normal ?_
 | refine inBlock_normal ?_
 | refine AOs.guardT (by with_unfolding_all rfl) (by simp only [PT.get_set, Nat.reduceEqDiff, reduceIte, hd2]; rfl) (by first | rfl | decide | assumption) ?_
 | refine AW.condF (by simp only [aeval, PT.get_set, Nat.reduceEqDiff, reduceIte, hd2]; rfl) (by first | rfl | decide | assumption) ?_
 | ((first
 | refine AOs.op1E tOK (by with_unfolding_all rfl) ?_
 ); refine Step.mk (by simp only [evOp_move, evOp_assign, evOp_pick, evOp_binOp, evOp_extract, aeval, ofVal, PT.get_set, Nat.reduceEqDiff, reduceIte, Option.map_some, abin_add, abin_neqS, cond_true, Bool.not_true, List.getElem?_cons_zero, List.getElem?_cons_succ, eq_self, g33, g4, hd2, hd3]; rfl) ?_)
 | fail "stop")
        refine ⟨M.names.length - (i + 1), by omega, fun b y hb => hst b y hb, hnx, by simp [PT.get_set, g0], by simp [PT.get_set, g31], by simp [PT.get_set, g32], by simp [PT.get_set, g4], by simp [PT.get_set, g3], i + 1, gv, by omega, rfl, ?_, by simp [PT.get_set, g6], (by rw [htk, List.filter_append, filter1 hf, List.append_nil]; exact hacc), hgb⟩
        simp only [PT.get_set, Nat.reduceEqDiff, reduceIte, wrap64_succ (show i < 9223372036854775807 by omega)]
      · have hd3 : decide (x = fileN g) = false := decide_eq_false hxo
        have hf : goneF g x = true := by simp [goneF, hgn, hxo]
        obtain ⟨gv', K2, ha, hacc2, hn2, hk2, hb2⟩ := acc_str hwfK hacc x (by rw [List.length_map]; omega)
        with_reducible repeat' (first
 | refine AW.seq ?_
 | refine AW.region ?_
 | refine AOs.nil ?_
 | refine andThen_normal ?_
 | refine inBlock_normal ?_
 | refine AOs.guardT (by with_unfolding_all rfl) (by simp only [PT.get_set, Nat.reduceEqDiff, reduceIte, hd2]; rfl) (by first | rfl | decide | assumption) ?_
 | refine AW.condT (by simp only [aeval, PT.get_set, Nat.reduceEqDiff, reduceIte, hd2]; rfl) (by first | rfl | decide | assumption) ?_
 | ((first
 | refine AOs.op1E tOK (by with_unfolding_all rfl) ?_
 ); refine Step.mk (by simp only [evOp_move, evOp_assign, evOp_pick, evOp_binOp, evOp_extract, evOp_append, one_str, aeval, ofVal, PT.get_set, Nat.reduceEqDiff, reduceIte, List.map_cons, List.map_nil, Option.map_some, abin_add, abin_neqS, cond_true, Bool.not_false, List.getElem?_cons_zero, List.getElem?_cons_succ, eq_self, g33, g4, g6, hd2, hd3, bs37_1, ha]; rfl) ?_)
 | fail "stop")
        refine ⟨M.names.length - (i + 1), by omega, fun b y hb => hk2 b y (hst b y hb) (fun o n c z e => by have := hgb _ _ _ _ _ e; have := wf1 b y hb; omega), by omega, by simp [PT.get_set, g0], by simp [PT.get_set, g31], by simp [PT.get_set, g32], by simp [PT.get_set, g4], by simp [PT.get_set, g3], i + 1, gv', by omega, rfl, ?_, by simp [PT.get_set, g6], (by rw [htk, List.filter_append, filter2 hf, List.map_append]; exact hacc2), (fun b o n c z e => by have := hb2 b o n c z e; omega)⟩
        simp only [PT.get_set, Nat.reduceEqDiff, reduceIte, wrap64_succ (show i < 9223372036854775807 by omega)]
  · have hd := nlt_int hil
    obtain rfl : i = M.names.length := by omega
    rw [List.take_length] at hacc hflen
    have hDK : DiskAt K d M A := hD.keep ⟨fun b x hb _ => hst b x (st1' b x hb), by omega⟩ fun _ => id
    with_reducible repeat' (first
 | refine AW.seq ?_
 | refine AW.region ?_
 | refine AOs.nil ?_
 | refine AW.exit ?_
 | refine andThen_normal ?_
 | refine andThen_exit ?_
 | refine inBlock_hit ?_
 | refine AW.condF (by simp only [aeval, PT.get_set, reduceIte]; rfl) (by first | rfl | decide | assumption) ?_
 | ((first
 | refine AOs.op1E tOK (by with_unfolding_all rfl) ?_
 ); refine Step.mk (by simp only [evOp_move, evOp_nilCheck, evOp_binOp, evOp_fieldAddr, evOp_load, aeval, ofVal, PT.get_set, Nat.reduceEqDiff, reduceIte, cellAt, Option.map_some, abin_lss, List.getElem?_cons_zero, List.getElem?_cons_succ, Nat.zero_add, eq_self, ld9, fa65_2, g0, g32, g33, hd, cLK]; rfl) ?_)
 | fail "stop")
    refine AOs.op1 tOK (v := .str tmpL) (H' := K) (by simp only [evOp_binOp, aeval, PT.get_set, Nat.reduceEqDiff, reduceIte]; rfl) rfl ?_
    with_reducible repeat' (first
 | refine AW.seq ?_
 | refine AW.region ?_
 | refine AOs.nil ?_
 | refine andThen_normal ?_
 | ((first
 | refine AOs.op1E tOK (by with_unfolding_all rfl) ?_
 ); refine Step.mk (by simp only [evOp_move, evOp_assign, evOp_nilCheck, evOp_fieldAddr, evOp_load, aeval, PT.get_set, Nat.reduceEqDiff, reduceIte, cellAt, Option.map_some, List.getElem?_cons_zero, List.getElem?_cons_succ, Nat.zero_add, eq_self, ld42, fa65_1, g0, cLK]; rfl) ?_)
 | fail "stop")
    refine AOs.callQ tOK (fs := []) (cs := []) rfl fn64 ok64 rfl (by simp only [List.map_cons, List.map_nil, List.nil_append, List.append_nil, aeval, PT.get_set, Nat.reduceEqDiff, reduceIte] <;> rfl) (size16 N K (n := tmpL) hDK hM.ok) ?_
    rintro r K' ⟨rfl, rfl⟩
    obtain ⟨fl, hfl⟩ : ∃ fl, fl = M.names.filter (goneF g) := ⟨_, rfl⟩
    rw [← hfl] at hacc hflen
    by_cases hs : M.size tmpL < 0
    · have hd2 : decide ((0 : Int) ≤ M.size tmpL) = false := decide_eq_false (by omega)
      have hgo : M.gone g = fl := by unfold DM.gone; rw [if_pos hs, List.append_nil, hfl]
      have hfll : lenOfAV gv = some (M.gone g).length := by rw [hacc.len, List.length_map, hgo]
      have hacc' : Acc K' gv ((M.gone g).map .str) := by rw [hgo]; exact hacc
      with_reducible repeat' (first
 | refine AW.seq ?_
 | refine AW.region ?_
 | refine AW.block ?_
 | refine AOs.nil ?_
 | refine AW.skip ?_
 | refine andThen_normal ?_
 | refine AW.condF (by simp only [aeval, PT.get_set, Nat.reduceEqDiff, reduceIte]; rfl) (by first | rfl | decide | assumption) ?_
 | ((first
 | refine AOs.op1E tOK (by with_unfolding_all rfl) ?_
 ); refine Step.mk (by simp only [evOp_move, evOp_binOp, evOp_len, aeval, ofVal, PT.get_set, Nat.reduceEqDiff, reduceIte, Option.map_some, abin_geq, eq_self, al37, g6, hd2, hfll]; rfl) ?_)
 | fail "stop")
      have hglen : (M.gone g).length ≤ i0 + 1 := hM.gone_len g
      refine AW.loop (fun m T K2 => ∃ (i : Nat) (Mi : DM), i ≤ (M.gone g).length ∧ m = (M.gone g).length - i ∧ T.get 0 = some (.ptr L 0) ∧ T.get 73 = some gv ∧ T.get 74 = some (.int .i64 ((M.gone g).length : Nat)) ∧ T.get 75 = some (.int .i64 (i : Nat)) ∧ T.get 3 = some (.bool (decide (i ≠ 0))) ∧
          DiskAt K2 d Mi (AddR A K'.next K2.next) ∧ Apart K' K2 A ∧ MB Mi (i0 + i) ∧ removeGo (M.gone g) M = removeGo ((M.gone g).drop i) Mi ∧ (i = 0 → Mi = M)) ?_ ((M.gone g).length - 0)
        ⟨0, M, by omega, rfl, by simp [PT.get_set, g0], by simp [PT.get_set, g6], by simp [PT.get_set], by simp [PT.get_set], by simp [PT.get_set, g3], hDK.mono fun b hb => .inl hb, Apart.refl _ _, hM, rfl, fun _ => rfl⟩
      rintro m T K2 ⟨j, Mi, hj, rfl, g0, g73, g74, g75, g3, hDi, ap, hMi, hre, hMi0⟩
      refine AW.wf0 fun hwf2 => ?_
      have hApK : Apart H0' K2 A := ⟨fun b x hb hx => ap.1 b x ((hst b x (st1' b x hb))) hx, by have := ap.2; omega⟩
      have cL2 := ap.1 _ _ cLK (.inl hL.2)
      by_cases hjl : j < (M.gone g).length
      · have hd4 := lt_int hjl
        obtain ⟨x, hx⟩ : ∃ x, (M.gone g)[j]? = some x := ⟨_, List.getElem?_eq_getElem hjl⟩
        obtain ⟨gb, rfl, hgg⟩ : ∃ gb, gv = .slice gb 0 (M.gone g).length (.lo (M.gone g).length) 1 ∧ K'.get gb = some (.cells false ((M.gone g).map .str)) := by
          rcases hacc' with ⟨_, h2⟩ | ⟨gb, h1, h2, _⟩
          · rw [List.map_eq_nil_iff] at h2
            rw [h2] at hjl; simp at hjl
          · exact ⟨gb, by rw [h1, List.length_map], h2⟩
        have hgbA : ¬ A gb := fun e => by have := hgb _ _ _ _ _ rfl; have := hA gb e; omega
        have hgg2 := ap.1 _ _ hgg (.inl hgbA)
        have hgx : ((M.gone g).map AV.str)[j * 1]? = some (.str x) := by rw [Nat.mul_one, List.getElem?_map, hx]; rfl
        have hdr : (M.gone g).drop j = x :: (M.gone g).drop (j + 1) := by
          rw [List.drop_eq_getElem_cons hjl]
          rw [List.getElem?_eq_getElem hjl] at hx
          rw [Option.some.inj hx]
        rw [hdr] at hre
        with_reducible repeat' (first
 | refine AW.seq ?_
 | refine AW.region ?_
 | refine AW.block ?_
 | refine AOs.nil ?_
 | refine AW.skip ?_
 | refine andThen_normal ?_
 | refine AW.condT (by simp only [aeval, PT.get_set, reduceIte]; rfl) (by first | rfl | decide | assumption) ?_
 | ((first
 | refine AOs.op1E tOK (by with_unfolding_all rfl) ?_
 ); refine Step.mk (by simp only [evOp_move, evOp_assign, evOp_nilCheck, evOp_binOp, evOp_fieldAddr, evOp_indexAddr, evOp_load, aeval, ofVal, PT.get_set, Nat.reduceEqDiff, reduceIte, cellAt, Option.map_some, abin_lss, List.getElem?_cons_zero, List.getElem?_cons_succ, Nat.zero_add, eq_self, ld9, ix37, ld42, fa65_1, g0, g73, g74, g75, hd4, hjl, hgg2, hgx, cL2]; rfl) ?_)
 | fail "stop")
        refine AOs.callQ tOK (fs := []) (cs := []) rfl fn49 ok49 rfl (by simp only [List.map_cons, List.map_nil, List.nil_append, List.append_nil, aeval, PT.get_set, Nat.reduceEqDiff, reduceIte] <;> rfl) (remove39 N K2 (n := x) hDi hMi.ok (Nat.le_trans hMi.notes (by omega))) ?_
        rintro r K3 ⟨rfl, h3, a3⟩
        have hmono : ∀ y, AddR (AddR A K'.next K2.next) K2.next K3.next y → AddR A K'.next K3.next y := fun y hy => by
          have := a3.2; have := ap.2
          rcases hy with (hy | hy) | hy
          · exact .inl hy
          · exact .inr ⟨hy.1, by omega⟩
          · exact .inr ⟨by omega, hy.2⟩
        have ap3 : Apart K' K3 A := ap.trans hwfK a3
        by_cases he : (Mi.remove x).1 = 0
        · have hd5 : decide ((Mi.remove x).1 = 0) = true := decide_eq_true he
          with_reducible repeat' (first
 | refine AW.seq ?_
 | refine AW.region ?_
 | refine AOs.nil ?_
 | refine AW.skip ?_
 | refine andThen_normal ?_
 | refine inBlock_normal ?_
 | refine AW.condF (by simp only [aeval, PT.get_set, Nat.reduceEqDiff, reduceIte]; rfl) (by first | rfl | decide | assumption) ?_
 | ((first
 | refine AOs.op1E tOK (by with_unfolding_all rfl) ?_
 ); refine Step.mk (by simp only [evOp_move, evOp_assign, evOp_binOp, aeval, ofVal, PT.get_set, Nat.reduceEqDiff, reduceIte, Option.map_some, abin_add, abin_neq, Bool.not_true, eq_self, g75, hd5]; rfl) ?_)
 | fail "stop")
          refine ⟨(M.gone g).length - (j + 1), by omega, j + 1, _, by omega, rfl, by simp [PT.get_set, g0], by simp [PT.get_set, g73], by simp [PT.get_set, g74], ?_, by simp [PT.get_set], h3.mono hmono, ap3, (hMi.remove x).mono (by omega), by rw [hre, removeGo_ok he], fun h => by omega⟩
          simp only [PT.get_set, Nat.reduceEqDiff, reduceIte, wrap64_succ (show j < 9223372036854775807 by omega)]
        · have hd5 : decide ((Mi.remove x).1 = 0) = false := decide_eq_false he
          have hre' := hre.trans (removeGo_err he)
          have hcl : M.clean g = Mi.remove x := by
            unfold DM.clean
            rw [if_neg (fun e => by rw [e] at hjl; simp at hjl), hre', if_pos he]
          rw [hcl]
          with_reducible repeat' (first
 | refine AW.seq ?_
 | refine AW.region ?_
 | refine AOs.nil ?_
 | refine AW.ret ?_
 | refine andThen_normal ?_
 | refine andThen_ret ?_
 | refine inBlock_ret ?_
 | refine AW.condT (by simp only [aeval, PT.get_set, Nat.reduceEqDiff, reduceIte]; rfl) (by first | rfl | decide | assumption) ?_
 | ((first
 | refine AOs.op1E tOK (by with_unfolding_all rfl) ?_
 ); refine Step.mk (by simp only [evOp_move, evOp_assign, evOp_binOp, aeval, ofVal, PT.get_set, Nat.reduceEqDiff, reduceIte, Option.map_some, abin_neq, Bool.not_false, eq_self, hd5]; rfl) ?_)
 | fail "stop")
          refine fnPost_ret1 (by first | (simp only [PT.get_set, Nat.reduceEqDiff, reduceIte]; rfl) | simp only [PT.get_set, Nat.reduceEqDiff, reduceIte]) ⟨rfl, (h3.mono hmono).mono fun y hy => hy.imp id fun hy => ⟨by omega, hy.2⟩, ⟨fun b x hb hx => ap3.1 b x ((hst b x (st1' b x hb))) hx, by have := ap3.2; omega⟩⟩
      · have hd4 := nlt_int hjl
        obtain rfl : j = (M.gone g).length := by omega
        rw [List.drop_length] at hre
        have hre' : removeGo (M.gone g) M = (0, Mi) := hre
        by_cases hz : (M.gone g).length = 0
        · have hz' : M.gone g = [] := List.eq_nil_of_length_eq_zero hz
          have hcl : M.clean g = (0, M) := by unfold DM.clean; rw [if_pos hz']
          have hd6 : decide ((M.gone g).length ≠ 0) = false := decide_eq_false (by simp [hz])
          rw [hMi0 hz] at hDi
          rw [hcl]
          with_reducible repeat' (first
 | refine AW.seq ?_
 | refine AW.region ?_
 | refine AOs.nil ?_
 | refine AW.skip ?_
 | refine AW.exit ?_
 | refine AW.ret ?_
 | refine andThen_normal ?_
 | refine andThen_exit ?_
 | refine inBlock_hit ?_
 | refine AW.condF (by simp only [aeval, PT.get_set, Nat.reduceEqDiff, reduceIte]; rfl) (by first | rfl | decide | assumption) ?_
 | ((first
 | refine AOs.op1E tOK (by with_unfolding_all rfl) ?_
 ); refine Step.mk (by simp only [evOp_move, evOp_assign, evOp_binOp, aeval, ofVal, PT.get_set, Nat.reduceEqDiff, reduceIte, Option.map_some, abin_lss, g74, g75, g3, hd4, hd6]; rfl) ?_)
 | fail "stop")
          refine fnPost_ret1 (by first | (simp only [PT.get_set, Nat.reduceEqDiff, reduceIte]; rfl) | simp only [PT.get_set, Nat.reduceEqDiff, reduceIte]) ⟨rfl, hDi.mono fun y hy => hy.imp id fun hy => ⟨by omega, hy.2⟩, hApK⟩
        · have hz' : M.gone g ≠ [] := fun e => hz (by rw [e]; rfl)
          have hcl : M.clean g = Mi.syncNames := by
            unfold DM.clean; rw [if_neg hz', hre', if_neg (by simp)]
          have hd6 : decide ((M.gone g).length ≠ 0) = true := decide_eq_true hz
          rw [hcl]
          with_reducible repeat' (first
 | refine AW.seq ?_
 | refine AW.region ?_
 | refine AOs.nil ?_
 | refine AW.exit ?_
 | refine andThen_normal ?_
 | refine andThen_exit ?_
 | refine inBlock_hit ?_
 | refine AW.condT (by simp only [aeval, PT.get_set, Nat.reduceEqDiff, reduceIte]; rfl) (by first | rfl | decide | assumption) ?_
 | refine AW.condF (by simp only [aeval, PT.get_set, reduceIte]; rfl) (by first | rfl | decide | assumption) ?_
 | ((first
 | refine AOs.op1E tOK (by with_unfolding_all rfl) ?_
 ); refine Step.mk (by simp only [evOp_move, evOp_nilCheck, evOp_binOp, evOp_fieldAddr, evOp_load, aeval, PT.get_set, Nat.reduceEqDiff, reduceIte, cellAt, Option.map_some, abin_lss, List.getElem?_cons_zero, List.getElem?_cons_succ, Nat.zero_add, eq_self, ld42, fa65_1, g0, g74, g75, g3, hd4, hd6, cL2]; rfl) ?_)
 | fail "stop")
          refine AOs.callQ tOK (fs := []) (cs := []) rfl fn71 ok71 rfl (by simp only [List.map_cons, List.map_nil, List.nil_append, List.append_nil, aeval, PT.get_set, Nat.reduceEqDiff, reduceIte] <;> rfl) (syncNames12 N K2 hDi hMi.ok (Nat.le_trans hMi.notes (by omega))) ?_
          rintro r K3 ⟨rfl, h3, a3⟩
          have ap3 : Apart K' K3 A := ap.trans hwfK a3
          with_reducible repeat' (first
 | refine AOs.nil ?_
 | refine AW.ret ?_
 | refine andThen_normal ?_
 | refine andThen_ret ?_
 | ((first
 | refine AOs.op1E tOK (by with_unfolding_all rfl) ?_
 ); refine Step.mk (by simp only [evOp_assign, aeval, PT.get_set, Nat.reduceEqDiff, reduceIte, eq_self]; rfl) ?_)
 | fail "stop")
          refine fnPost_ret1 (by first | (simp only [PT.get_set, Nat.reduceEqDiff, reduceIte]; rfl) | simp only [PT.get_set, Nat.reduceEqDiff, reduceIte]) ⟨rfl, h3.mono fun y hy => ?_, ⟨fun b x hb hx => ap3.1 b x ((hst b x (st1' b x hb))) hx, by have := ap3.2; omega⟩⟩
          have := a3.2; have := ap.2
          rcases hy with (hy | hy) | hy
          · exact .inl hy
          · exact .inr ⟨by omega, by omega⟩
          · exact .inr ⟨by omega, hy.2⟩
    · have hd2 : decide ((0 : Int) ≤ M.size tmpL) = true := decide_eq_true (by omega)
      have hgo : M.gone g = fl ++ [tmpL] := by unfold DM.gone; rw [if_neg hs, hfl]
      obtain ⟨gv', K4, ha, hacc2, hn4, hk4, hb4⟩ := acc_str hwfK hacc tmpL (by rw [List.length_map]; omega)
      have hacc' : Acc K4 gv' ((M.gone g).map .str) := by rw [hgo, List.map_append]; exact hacc2
      have hfll : lenOfAV gv' = some (M.gone g).length := by rw [hacc'.len, List.length_map]
      have hsH : ∀ b x, H0'.get b = some x → K4.get b = some x := fun b x hb => hk4 b x (hst b x (st1' b x hb)) fun o n c z e => by have := hgb _ _ _ _ _ e; have := hwf b x hb; omega
      have hD4 : DiskAt K4 d M A := hD.keep ⟨fun b x hb _ => hsH b x hb, by omega⟩ fun _ => id
      have cL4 := hsH _ _ gL
      with_reducible repeat' (first
 | refine AW.seq ?_
 | refine AW.region ?_
 | refine AW.block ?_
 | refine AOs.nil ?_
 | refine andThen_normal ?_
 | refine AW.condT (by simp only [aeval, PT.get_set, Nat.reduceEqDiff, reduceIte]; rfl) (by first | rfl | decide | assumption) ?_
 | ((first
 | refine AOs.op1E tOK (by with_unfolding_all rfl) ?_
 ); refine Step.mk (by simp only [evOp_move, evOp_assign, evOp_binOp, evOp_len, evOp_append, one_str, aeval, ofVal, PT.get_set, Nat.reduceEqDiff, reduceIte, List.map_cons, List.map_nil, Option.map_some, abin_geq, eq_self, al37, g6, hd2, bs37_1, ha, hfll]; rfl) ?_)
 | fail "stop")
      refine AW.wf0 fun hwf4 => ?_
      have hglen : (M.gone g).length ≤ i0 + 1 := hM.gone_len g
      refine AW.loop (fun m T K2 => ∃ (i : Nat) (Mi : DM), i ≤ (M.gone g).length ∧ m = (M.gone g).length - i ∧ T.get 0 = some (.ptr L 0) ∧ T.get 73 = some gv' ∧ T.get 74 = some (.int .i64 ((M.gone g).length : Nat)) ∧ T.get 75 = some (.int .i64 (i : Nat)) ∧ T.get 3 = some (.bool (decide (i ≠ 0))) ∧
          DiskAt K2 d Mi (AddR A K4.next K2.next) ∧ Apart K4 K2 A ∧ MB Mi (i0 + i) ∧ removeGo (M.gone g) M = removeGo ((M.gone g).drop i) Mi ∧ (i = 0 → Mi = M)) ?_ ((M.gone g).length - 0)
        ⟨0, M, by omega, rfl, by simp [PT.get_set, g0], by simp [PT.get_set, g6], by simp [PT.get_set], by simp [PT.get_set], by simp [PT.get_set, g3], hD4.mono fun b hb => .inl hb, Apart.refl _ _, hM, rfl, fun _ => rfl⟩
      rintro m T K2 ⟨j, Mi, hj, rfl, g0, g73, g74, g75, g3, hDi, ap, hMi, hre, hMi0⟩
      refine AW.wf0 fun hwf2 => ?_
      have hApK : Apart H0' K2 A := ⟨fun b x hb hx => ap.1 b x ((hsH b x hb)) hx, by have := ap.2; omega⟩
      have cL2 := ap.1 _ _ cL4 (.inl hL.2)
      by_cases hjl : j < (M.gone g).length
      · have hd4 := lt_int hjl
        obtain ⟨x, hx⟩ : ∃ x, (M.gone g)[j]? = some x := ⟨_, List.getElem?_eq_getElem hjl⟩
        obtain ⟨gb, rfl, hgg⟩ : ∃ gb, gv' = .slice gb 0 (M.gone g).length (.lo (M.gone g).length) 1 ∧ K4.get gb = some (.cells false ((M.gone g).map .str)) := by
          rcases hacc' with ⟨_, h2⟩ | ⟨gb, h1, h2, _⟩
          · rw [List.map_eq_nil_iff] at h2
            rw [h2] at hjl; simp at hjl
          · exact ⟨gb, by rw [h1, List.length_map], h2⟩
        have hgbA : ¬ A gb := fun e => by have := hb4 _ _ _ _ _ rfl; have := hA gb e; omega
        have hgg2 := ap.1 _ _ hgg (.inl hgbA)
        have hgx : ((M.gone g).map AV.str)[j * 1]? = some (.str x) := by rw [Nat.mul_one, List.getElem?_map, hx]; rfl
        have hdr : (M.gone g).drop j = x :: (M.gone g).drop (j + 1) := by
          rw [List.drop_eq_getElem_cons hjl]
          rw [List.getElem?_eq_getElem hjl] at hx
          rw [Option.some.inj hx]
        rw [hdr] at hre
        with_reducible repeat' (first
 | refine AW.seq ?_
 | refine AW.region ?_
 | refine AW.block ?_
 | refine AOs.nil ?_
 | refine AW.skip ?_
 | refine andThen_normal ?_
 | refine AW.condT (by simp only [aeval, PT.get_set, reduceIte]; rfl) (by first | rfl | decide | assumption) ?_
 | ((first
 | refine AOs.op1E tOK (by with_unfolding_all rfl) ?_
 ); refine Step.mk (by simp only [evOp_move, evOp_assign, evOp_nilCheck, evOp_binOp, evOp_fieldAddr, evOp_indexAddr, evOp_load, aeval, ofVal, PT.get_set, Nat.reduceEqDiff, reduceIte, cellAt, Option.map_some, abin_lss, List.getElem?_cons_zero, List.getElem?_cons_succ, Nat.zero_add, eq_self, ld9, ix37, ld42, fa65_1, g0, g73, g74, g75, hd4, hjl, hgg2, hgx, cL2]; rfl) ?_)
 | fail "stop")
        refine AOs.callQ tOK (fs := []) (cs := []) rfl fn49 ok49 rfl (by simp only [List.map_cons, List.map_nil, List.nil_append, List.append_nil, aeval, PT.get_set, Nat.reduceEqDiff, reduceIte] <;> rfl) (remove39 N K2 (n := x) hDi hMi.ok (Nat.le_trans hMi.notes (by omega))) ?_
        rintro r K3 ⟨rfl, h3, a3⟩
        have hmono : ∀ y, AddR (AddR A K4.next K2.next) K2.next K3.next y → AddR A K4.next K3.next y := fun y hy => by
          have := a3.2; have := ap.2
          rcases hy with (hy | hy) | hy
          · exact .inl hy
          · exact .inr ⟨hy.1, by omega⟩
          · exact .inr ⟨by omega, hy.2⟩
        have ap3 : Apart K4 K3 A := ap.trans hwf4 a3
        by_cases he : (Mi.remove x).1 = 0
        · have hd5 : decide ((Mi.remove x).1 = 0) = true := decide_eq_true he
          with_reducible repeat' (first
 | refine AW.seq ?_
 | refine AW.region ?_
 | refine AOs.nil ?_
 | refine AW.skip ?_
 | refine andThen_normal ?_
 | refine inBlock_normal ?_
 | refine AW.condF (by simp only [aeval, PT.get_set, Nat.reduceEqDiff, reduceIte]; rfl) (by first | rfl | decide | assumption) ?_
 | ((first
 | refine AOs.op1E tOK (by with_unfolding_all rfl) ?_
 ); refine Step.mk (by simp only [evOp_move, evOp_assign, evOp_binOp, aeval, ofVal, PT.get_set, Nat.reduceEqDiff, reduceIte, Option.map_some, abin_add, abin_neq, Bool.not_true, eq_self, g75, hd5]; rfl) ?_)
 | fail "stop")
          refine ⟨(M.gone g).length - (j + 1), by omega, j + 1, _, by omega, rfl, by simp [PT.get_set, g0], by simp [PT.get_set, g73], by simp [PT.get_set, g74], ?_, by simp [PT.get_set], h3.mono hmono, ap3, (hMi.remove x).mono (by omega), by rw [hre, removeGo_ok he], fun h => by omega⟩
          simp only [PT.get_set, Nat.reduceEqDiff, reduceIte, wrap64_succ (show j < 9223372036854775807 by omega)]
        · have hd5 : decide ((Mi.remove x).1 = 0) = false := decide_eq_false he
          have hre' := hre.trans (removeGo_err he)
          have hcl : M.clean g = Mi.remove x := by
            unfold DM.clean
            rw [if_neg (fun e => by rw [e] at hjl; simp at hjl), hre', if_pos he]
          rw [hcl]
          with_reducible repeat' (first
 | refine AW.seq ?_
 | refine AW.region ?_
 | refine AOs.nil ?_
 | refine AW.ret ?_
 | refine andThen_normal ?_
 | refine andThen_ret ?_
 | refine inBlock_ret ?_
 | refine AW.condT (by simp only [aeval, PT.get_set, Nat.reduceEqDiff, reduceIte]; rfl) (by first | rfl | decide | assumption) ?_
 | ((first
 | refine AOs.op1E tOK (by with_unfolding_all rfl) ?_
 ); refine Step.mk (by simp only [evOp_move, evOp_assign, evOp_binOp, aeval, ofVal, PT.get_set, Nat.reduceEqDiff, reduceIte, Option.map_some, abin_neq, Bool.not_false, eq_self, hd5]; rfl) ?_)
 | fail "stop")
          refine fnPost_ret1 (by first | (simp only [PT.get_set, Nat.reduceEqDiff, reduceIte]; rfl) | simp only [PT.get_set, Nat.reduceEqDiff, reduceIte]) ⟨rfl, (h3.mono hmono).mono fun y hy => hy.imp id fun hy => ⟨by omega, hy.2⟩, ⟨fun b x hb hx => ap3.1 b x ((hsH b x hb)) hx, by have := ap3.2; omega⟩⟩
      · have hd4 := nlt_int hjl
        obtain rfl : j = (M.gone g).length := by omega
        rw [List.drop_length] at hre
        have hre' : removeGo (M.gone g) M = (0, Mi) := hre
        by_cases hz : (M.gone g).length = 0
        · have hz' : M.gone g = [] := List.eq_nil_of_length_eq_zero hz
          have hcl : M.clean g = (0, M) := by unfold DM.clean; rw [if_pos hz']
          have hd6 : decide ((M.gone g).length ≠ 0) = false := decide_eq_false (by simp [hz])
          rw [hMi0 hz] at hDi
          rw [hcl]
          with_reducible repeat' (first
 | refine AW.seq ?_
 | refine AW.region ?_
 | refine AOs.nil ?_
 | refine AW.skip ?_
 | refine AW.exit ?_
 | refine AW.ret ?_
 | refine andThen_normal ?_
 | refine andThen_exit ?_
 | refine inBlock_hit ?_
 | refine AW.condF (by simp only [aeval, PT.get_set, Nat.reduceEqDiff, reduceIte]; rfl) (by first | rfl | decide | assumption) ?_
 | ((first
 | refine AOs.op1E tOK (by with_unfolding_all rfl) ?_
 ); refine Step.mk (by simp only [evOp_move, evOp_assign, evOp_binOp, aeval, ofVal, PT.get_set, Nat.reduceEqDiff, reduceIte, Option.map_some, abin_lss, g74, g75, g3, hd4, hd6]; rfl) ?_)
 | fail "stop")
          refine fnPost_ret1 (by first | (simp only [PT.get_set, Nat.reduceEqDiff, reduceIte]; rfl) | simp only [PT.get_set, Nat.reduceEqDiff, reduceIte]) ⟨rfl, hDi.mono fun y hy => hy.imp id fun hy => ⟨by omega, hy.2⟩, hApK⟩
        · have hz' : M.gone g ≠ [] := fun e => hz (by rw [e]; rfl)
          have hcl : M.clean g = Mi.syncNames := by
            unfold DM.clean; rw [if_neg hz', hre', if_neg (by simp)]
          have hd6 : decide ((M.gone g).length ≠ 0) = true := decide_eq_true hz
          rw [hcl]
          with_reducible repeat' (first
 | refine AW.seq ?_
 | refine AW.region ?_
 | refine AOs.nil ?_
 | refine AW.exit ?_
 | refine andThen_normal ?_
 | refine andThen_exit ?_
 | refine inBlock_hit ?_
 | refine AW.condT (by simp only [aeval, PT.get_set, Nat.reduceEqDiff, reduceIte]; rfl) (by first | rfl | decide | assumption) ?_
 | refine AW.condF (by simp only [aeval, PT.get_set, reduceIte]; rfl) (by first | rfl | decide | assumption) ?_
 | ((first
 | refine AOs.op1E tOK (by with_unfolding_all rfl) ?_
 ); refine Step.mk (by simp only [evOp_move, evOp_nilCheck, evOp_binOp, evOp_fieldAddr, evOp_load, aeval, PT.get_set, Nat.reduceEqDiff, reduceIte, cellAt, Option.map_some, abin_lss, List.getElem?_cons_zero, List.getElem?_cons_succ, Nat.zero_add, eq_self, ld42, fa65_1, g0, g74, g75, g3, hd4, hd6, cL2]; rfl) ?_)
 | fail "stop")
          refine AOs.callQ tOK (fs := []) (cs := []) rfl fn71 ok71 rfl (by simp only [List.map_cons, List.map_nil, List.nil_append, List.append_nil, aeval, PT.get_set, Nat.reduceEqDiff, reduceIte] <;> rfl) (syncNames12 N K2 hDi hMi.ok (Nat.le_trans hMi.notes (by omega))) ?_
          rintro r K3 ⟨rfl, h3, a3⟩
          have ap3 : Apart K4 K3 A := ap.trans hwf4 a3
          with_reducible repeat' (first
 | refine AOs.nil ?_
 | refine AW.ret ?_
 | refine andThen_normal ?_
 | refine andThen_ret ?_
 | ((first
 | refine AOs.op1E tOK (by with_unfolding_all rfl) ?_
 ); refine Step.mk (by simp only [evOp_assign, aeval, PT.get_set, Nat.reduceEqDiff, reduceIte, eq_self]; rfl) ?_)
 | fail "stop")
          refine fnPost_ret1 (by first | (simp only [PT.get_set, Nat.reduceEqDiff, reduceIte]; rfl) | simp only [PT.get_set, Nat.reduceEqDiff, reduceIte]) ⟨rfl, h3.mono fun y hy => ?_, ⟨fun b x hb hx => ap3.1 b x ((hsH b x hb)) hx, by have := ap3.2; omega⟩⟩
          have := a3.2; have := ap.2
          rcases hy with (hy | hy) | hy
          · exact .inl hy
          · exact .inr ⟨by omega, by omega⟩
          · exact .inr ⟨by omega, hy.2⟩
end Go.Proofs.YtgihociajfgohaaGreatDoor
