/- Log: two parts of a log, walked; a spoilt log; no condition. -/
import Derived.Test.YtgihociajfgohaaGreatDoorPartsPlain
import Derived.Test.YtgihociajfgohaaGreatDoorLog3
set_option linter.unusedSimpArgs false
set_option linter.unusedVariables false
open Go Go.AB Go.Proofs
namespace Go.Proofs.YtgihociajfgohaaGreatDoor
set_option maxRecDepth 100000

theorem fn11 : tC.fn 11 = some Tryz.f11 := by kernel_rfl
theorem ok11 : fnOk Tryz.f11 = true := by kernel_rfl

theorem TextsAt.keep {H K : AH} {v : AV} {l : List Nm} (h : TextsAt H v l) (hk : ∀ b x, H.get b = some x → K.get b = some x) : TextsAt K v l := by
  rcases h with h | ⟨b, c, vs, rfl, h1, h2⟩
  · exact .inl h
  · exact .inr ⟨b, c, vs, rfl, hk _ _ h1, h2⟩

theorem new_MB : MB (DM.new 1048576) 0 := ⟨DM.new_ok _, rfl, fun p h => by simp [DM.new] at h, Nat.le_refl _, Nat.le_refl _, fun j p h => by simp [DM.new] at h⟩
theorem get1 {α : Type} {x y : α} {j : Nat} (h : [x][j]? = some y) : y = x := by
  have := List.mem_of_getElem? h; simpa using this
theorem P1_MB {c : Nm} (h : c.length ≤ 20000) : MB (P1 c) 1 where
  ok := ⟨fun p hp => by simp [P1] at hp ⊢; simp [hp], fun p hp => by simp [P1] at hp ⊢; simp [hp], fun n i hi => by simp [P1] at hi, by simp [P1], by simp [P1], fun i p hi => by rw [get1 hi]; simp⟩
  room := rfl
  keys := fun p hp => by simp [P1] at hp; rw [hp]; decide
  ents := Nat.le_refl _
  notes := by simp [P1]
  files := fun j p hp => by rw [get1 hp]; simpa using h
theorem appendP (N : Nat) {H : AH} {d L : Nat} {c : Nm} {A : Nat → Prop} {sz cnt : Nat} {v : AV} {ls : List Nm} (hA : ∀ b, A b → b < H.next) (hD : DiskAt H d (P1 c) A) (hL : Kp H A L (logO 0 d 1 sz cnt)) (hv : RowsAt H v ls) (hn : ls.length ≤ 60) (hl : ∀ l ∈ ls, l.length ≤ 300) (hc : c.length ≤ 20000)
    (hsz : sz ≤ 1000000000) (hcnt : cnt ≤ 1000000000) :
    AC tC N 0 21 [.ptr L 0, v] H fun r K => r = .int .i64 0 ∧ Left H K A d (P1 (c ++ framesM ls)) L 0 1 (sz + (framesM ls).length) (cnt + ls.length) := by
  by_cases h0 : ls = []
  · subst h0
    have e : framesM [] = [] := rfl
    rw [e, List.append_nil]
    exact append21z N hA hD hL hv
  · have hfl := framesM_le hl
    have hfl2 : ls.length * (300 + 8) ≤ 60 * 308 := Nat.mul_le_mul_right _ hn
    have q := append21 N (g := 1) hA hD (P1_MB hc) (by omega) hL (.inl rfl) hv hn hl h0 hsz hcnt
    rw [P1_append (by omega)] at q
    simp only [if_true] at q
    exact q

theorem Left.sub {H K : AH} {A : Nat → Prop} {d : Nat} {M : DM} {L : Nat} {e : Int} {g sz cnt : Nat} (h : Left H K A d M L e g sz cnt) : ∀ y, AddR A H.next K.next y → A y ∨ (H.next ≤ y ∧ y < K.next) := fun _ h => h

end Go.Proofs.YtgihociajfgohaaGreatDoor

open Go Go.AB Go.Proofs
namespace Go.Proofs.YtgihociajfgohaaGreatDoor
set_option maxRecDepth 100000


set_option maxHeartbeats 4000000 in
theorem sync23 (N : Nat) {H : AH} {d L : Nat} {M : DM} {A : Nat → Prop} {i0 g sz cnt : Nat} (hA : ∀ b, A b → b < H.next) (hD : DiskAt H d M A) (hM : MB M i0) (hi0 : i0 ≤ 990) (hL : Kp H A L (logO 0 d g sz cnt)) (hg : Gen g) :
    AC tC N 0 23 [.ptr L 0] H fun r K => r = .int .i64 (M.sync (fileN g)).1 ∧ Left H K A d (M.sync (fileN g)).2 L (M.sync (fileN g)).1 g sz cnt := by
  refine AC.wf0 fun hwf => ?_
  refine AC.by (n := 47) (rs := [.tmp 2]) tOK fn23 rfl rfl rfl rfl ?_
  have e0 : (PT.ofList .leaf 0 [AV.ptr L 0]).get 0 = some (.ptr L 0) := rfl
  have gL : H.get L = some (.cells false [.int .i64 0, .ptr d 0, .str nL, .int .i64 (g : Nat), .int .i64 (sz : Nat), .int .i64 (cnt : Nat)]) := hL.1
  with_reducible repeat' (first
 | refine AW.seq ?_
 | refine AW.region ?_
 | refine AOs.nil ?_
 | refine AW.skip ?_
 | refine andThen_normal ?_
 | refine AOs.guardT (by with_unfolding_all rfl) (by simp only [PT.get_set, Nat.reduceEqDiff, reduceIte]; rfl) (by first | rfl | decide | assumption) ?_
 | refine AW.condF (by simp only [aeval, PT.get_set, Nat.reduceEqDiff, reduceIte]; rfl) (by first | rfl | decide | assumption) ?_
 | refine AW.drawT tOK (by with_unfolding_all rfl) (by simp only [pickAll, Nat.reduceAdd]; rfl) ?_
 | ((first
 | refine DN.fl1E (by with_unfolding_all rfl) (by with_unfolding_all rfl) ?_
 | refine DN.rd1E (by kernel_rfl) (by with_unfolding_all rfl) ?_
 ); refine Step.mk (by simp only [evOp_move, evOp_nilCheck, evOp_fieldAddr, evOp_load, aeval, PT.get_set, Nat.reduceEqDiff, reduceIte, cellAt, Option.map_some, List.getElem?_cons_zero, List.getElem?_cons_succ, Nat.zero_add, eq_self, ld3, ld9, fa65_2, fa65_3, e0, gL]; rfl) ?_; refine Same.mk ?_)
 | ((first
 | refine AOs.op1E tOK (by with_unfolding_all rfl) ?_
 | refine DN.actE tOK (by kernel_rfl) (by with_unfolding_all rfl) (by with_unfolding_all rfl) ?_
 ); refine Step.mk (by simp only [evOp_move, evOp_assign, evOp_pick, evOp_nilCheck, evOp_binOp, evOp_fieldAddr, evOp_load, aeval, ofVal, PT.get_set, Nat.reduceEqDiff, reduceIte, cellAt, Option.map_some, abin_neq, cond_false, decide_true, Bool.not_true, List.getElem?_cons_zero, List.getElem?_cons_succ, Nat.add_zero, Nat.zero_add, eq_self, ld24, eq27a, ld42, eq42a, fa63_0, fa65_0, fa65_1, e0, gL]; rfl) ?_)
 | fail "stop")
  refine DN.call tOK (fs := []) (cs := []) rfl fn9 ok9 rfl (by simp only [List.map_cons, List.map_nil, List.nil_append, List.append_nil, aeval, PT.get_set, Nat.reduceEqDiff, reduceIte] <;> rfl) (file9 N H hg) (by with_unfolding_all rfl) ?_
  rintro r H' ⟨rfl, rfl⟩
  with_reducible repeat' (first
 | refine AW.seq ?_
 | refine andThen_normal ?_
 | refine AW.drawT tOK (by with_unfolding_all rfl) (by simp only [pickAll, Nat.reduceAdd]; rfl) ?_
 | refine DN.nil tOK ?_
 | ((first
 | refine DN.fl1E (by with_unfolding_all rfl) (by with_unfolding_all rfl) ?_
 | refine DN.rd1E (by kernel_rfl) (by with_unfolding_all rfl) ?_
 ); refine Step.mk (by simp only [evOp_move, evOp_assign, evOp_nilCheck, evOp_fieldAddr, evOp_extract, evOp_load, aeval, PT.get_set, Nat.reduceEqDiff, reduceIte, cellAt, Option.map_some, List.getElem?_cons_zero, List.getElem?_cons_succ, Nat.add_zero, Nat.zero_add, eq_self, ld42, fa65_0, fa65_1, e0, gL]; rfl) ?_; refine Same.mk ?_)
 | ((first
 | refine DN.actE tOK (by kernel_rfl) (by with_unfolding_all rfl) (by with_unfolding_all rfl) ?_
 ); refine Step.mk (by simp only [evOp_move, evOp_assign, evOp_pick, evOp_build, evOp_nilCheck, evOp_binOp, evOp_not, evOp_fieldAddr, evOp_field, evOp_indexAddr, evOp_index, evOp_extract, evOp_makeFunc, evOp_load, evOp_lookup, evOp_store, evOp_mapUpdate, evOp_insert, evOp_range, evOp_makeMap, evOp_len, evOp_append, evOp_copy, evOp_delete, evOp_slice, evOp_convert, evOp_entry, evOp_boxC, boxC_one, boxC_agg, evOp_cap, rangeMapAt, storeAt, one_bool, one_int, one_str, one_nilp, one_ptr, one_nils, one_slice, one_empty, one_nilm, one_map, one_func, one_nilf, one_iface, one_nili, aeval, ofVal, PT.get_set, Nat.reduceEqDiff, reduceIte, lenOfAV_slice, lenOfAV_nils, lenOfAV_empty, cellAt, cellsAt, mapLenAt, lookAt, mapSetAt, mapDelAt, List.map_cons, List.map_nil, Option.map_some, Option.map_none, List.nil_append, List.append_nil, abin_add, abin_sub, abin_mul, abin_lss, abin_leq, abin_gtr, abin_geq, abin_eql, abin_neq, abin_eqlS, abin_neqS, cond_true, cond_false, decide_true, decide_false, Bool.not_true, Bool.not_false, TI.agg, List.getElem?_cons_zero, List.getElem?_cons_succ, Nat.add_zero, Nat.zero_add, Nat.zero_mul, nbeq, nble, nblt, Nat.reduceLeDiff, Nat.reduceLT, Nat.reduceMul, Nat.reduceAdd, Nat.reduceSub, Bool.and_true, Bool.true_and, Bool.and_false, Bool.false_and, List.length_cons, List.length_nil, List.set_cons_zero, List.set_cons_succ, AH.get_set, AH.next_set, eq_self, Int.ofNat_eq_natCast, Int.cast_ofNat_Int, Int.natCast_zero, Int.reduceEq, Int.reduceLT, Int.reduceLE, Int.reduceNeg, ld3, st3, ld4, st4, ld5, st5, al9, ld9, st9, ld20, st20, ld21, st21, ld24, st24, ld27, ne27a, eq27a, ne27b, eq27b, st27, al28, ix28, bs28, ld28, ne28a, eq28a, ne28b, eq28b, ne28c, eq28c, st28, al32, ix32, bs32, ld32, ne32a, eq32a, ne32b, eq32b, ne32c, eq32c, st32, al37, ix37, bs37, ld37, ne37a, eq37a, ne37b, eq37b, ne37c, eq37c, st37, al40, ix40, bs40, ld40, ne40a, eq40a, ne40b, eq40b, ne40c, eq40c, st40, ld42, ne42a, eq42a, ne42b, eq42b, st42, ld47, st47, ld57, st57, ld60, st60, fa63_0, ld63, fa65_0, fa65_1, fa65_2, fa65_3, fa65_4, fa65_5, ld65, an72, am72, ld72, md72, ms72, lk72, ne72a, eq72a, ne72b, eq72b, st72, al73, ix73, bs73, ld73, ne73a, eq73a, ne73b, eq73b, ne73c, eq73c, st73, fa75_0, fa75_1, fa75_2, fa75_3, fa75_4, fa75_5, ld75, ld83, st83, ld85, ne85a, eq85a, ne85b, eq85b, st85, fa87_0, fa87_1, ld87, ld91, st91, ld96, st96, ld104, st104, al116, ix116, bs116, ld116, ne116a, eq116a, ne116b, eq116b, ne116c, eq116c, st116, ld118, st118, ld119, ix119, cv9_32, cv96_3, cv5_96, cv96_5, cv3_96, cv3_118, e0, gL]; rfl) ?_)
 | fail "stop")
  refine DN.call tOK (fs := []) (cs := []) rfl fn48 ok48 rfl (by simp only [List.map_cons, List.map_nil, List.nil_append, List.append_nil, aeval, PT.get_set, Nat.reduceEqDiff, reduceIte] <;> rfl) (sync11 N H' (n := fileN g) hD hM.ok).wf (by with_unfolding_all rfl) ?_
  rintro r K2 ⟨⟨rfl, hD2, a2⟩, wf2⟩
  have kL2 := hL.op hwf a2
  generalize hR : M.sync (fileN g) = R at *
  obtain ⟨er, M'⟩ := R
  simp only at hD2 ⊢
  refine DN.call tOK (fs := []) (cs := []) rfl fn46 ok46 rfl (by simp only [List.map_cons, List.map_nil, List.nil_append, List.append_nil, aeval, PT.get_set, Nat.reduceEqDiff, reduceIte] <;> rfl) (note46 N kL2.1 (x := er)) (by with_unfolding_all rfl) ?_
  rintro r K3 ⟨rfl, l3, g3, n3⟩
  have hD3 : DiskAt K3 d M' (AddR A H'.next K2.next) := DiskAt.setL hD2 kL2 (kind_log _ _ _ _ _) g3 (by omega)
  with_reducible repeat' (first
 | refine AW.ret ?_
 | refine andThen_normal ?_
 | refine DN.nil tOK ?_
 | ((first
 | refine DN.fl1E (by with_unfolding_all rfl) (by with_unfolding_all rfl) ?_
 ); refine Step.mk (by simp only [evOp_assign, aeval, PT.get_set, Nat.reduceEqDiff, reduceIte, eq_self]; rfl) ?_; refine Same.mk ?_)
 | fail "stop")
  exact fnPost_ret1 (by first | (simp only [PT.get_set, Nat.reduceEqDiff, reduceIte]; rfl) | simp only [PT.get_set, Nat.reduceEqDiff, reduceIte]) ⟨rfl, hD3.mono fun x hx => hx.imp id fun hx => ⟨by omega, by omega⟩, l3, ⟨fun b x hb hne hx => by rw [g3 b hne]; exact a2.1 b x hb hx, by have := a2.2; omega⟩⟩

set_option maxHeartbeats 4000000 in
theorem append21e (N : Nat) {H : AH} {d L : Nat} {M : DM} {A : Nat → Prop} {e : Int} {g sz cnt : Nat} {v : AV} {ls : List Nm} (he : e ≠ 0) (hD : DiskAt H d M A) (hL : Kp H A L (logO e d g sz cnt)) (hv : RowsAt H v ls) (hn : ls.length ≤ 60) (hl : ∀ l ∈ ls, l.length ≤ 300) :
    AC tC N 0 21 [.ptr L 0, v] H fun r K => r = .int .i64 e ∧ Left H K A d M L e g sz cnt := by
  refine AC.wf0 fun hwf => ?_
  refine AC.by (n := 85) (rs := [.tmp 4]) tOK fn21 rfl rfl rfl rfl ?_
  have e0 : (PT.ofList .leaf 0 [AV.ptr L 0, v]).get 0 = some (.ptr L 0) := rfl
  have e1 : (PT.ofList .leaf 0 [AV.ptr L 0, v]).get 1 = some v := rfl
  have gL : H.get L = some (.cells false [.int .i64 e, .ptr d 0, .str nL, .int .i64 (g : Nat), .int .i64 (sz : Nat), .int .i64 (cnt : Nat)]) := hL.1
  with_reducible repeat' (first
 | refine AW.seq ?_
 | refine AW.region ?_
 | refine AOs.nil ?_
 | refine AW.skip ?_
 | refine andThen_normal ?_
 | refine AOs.guardT (by with_unfolding_all rfl) (by simp only [PT.get_set, Nat.reduceEqDiff, reduceIte]; rfl) (by first | rfl | decide | assumption) ?_
 | refine AW.condF (by simp only [aeval, PT.get_set, Nat.reduceEqDiff, reduceIte]; rfl) (by first | rfl | decide | assumption) ?_
 | ((first
 | refine AOs.op1E tOK (by with_unfolding_all rfl) ?_
 ); refine Step.mk (by simp only [evOp_move, evOp_assign, evOp_pick, evOp_nilCheck, evOp_binOp, evOp_fieldAddr, evOp_load, aeval, ofVal, PT.get_set, Nat.reduceEqDiff, reduceIte, cellAt, Option.map_some, cond_false, List.getElem?_cons_zero, List.getElem?_cons_succ, Nat.zero_add, eq_self, eq27a, ld42, eq42a, fa65_1, e0, e1, gL]; rfl) ?_)
 | fail "stop")
  have hde : decide (e = 0) = false := decide_eq_false he
  refine AOs.callQ tOK (fs := []) (cs := []) rfl fn45 ok45 rfl (by simp only [List.map_cons, List.map_nil, List.nil_append, List.append_nil, aeval, PT.get_set, Nat.reduceEqDiff, reduceIte] <;> rfl) (frames45 N H hv (by omega) (fun l h => Nat.le_trans (hl l h) (by omega))) ?_
  rintro r K1 ⟨f, rfl, hf, sy1, hn1⟩
  have gL1 := sy1 _ _ gL
  with_reducible repeat' (first
 | refine AW.seq ?_
 | refine AW.region ?_
 | refine AOs.nil ?_
 | refine AW.skip ?_
 | refine AW.ret ?_
 | refine andThen_normal ?_
 | refine andThen_ret ?_
 | refine AW.condT (by simp only [aeval, PT.get_set, Nat.reduceEqDiff, reduceIte]; rfl) (by first | rfl | decide | assumption) ?_
 | refine AW.condF (by simp only [aeval, PT.get_set, Nat.reduceEqDiff, reduceIte]; rfl) (by first | rfl | decide | assumption) ?_
 | ((first
 | refine AOs.op1E tOK (by with_unfolding_all rfl) ?_
 ); refine Step.mk (by simp only [evOp_move, evOp_assign, evOp_nilCheck, evOp_binOp, evOp_fieldAddr, evOp_extract, evOp_load, aeval, ofVal, PT.get_set, Nat.reduceEqDiff, reduceIte, cellAt, Option.map_some, abin_neq, decide_true, Bool.not_true, Bool.not_false, List.getElem?_cons_zero, List.getElem?_cons_succ, Nat.add_zero, eq_self, ld24, fa63_0, fa65_0, e0, gL1, hde]; rfl) ?_)
 | fail "stop")
  exact fnPost_ret1 (by first | (simp only [PT.get_set, Nat.reduceEqDiff, reduceIte]; rfl) | simp only [PT.get_set, Nat.reduceEqDiff, reduceIte]) ⟨rfl, hD.keep ⟨fun b x hb _ => sy1 b x hb, hn1⟩ fun b hb => .inl hb, gL1, ⟨fun b x hb _ _ => sy1 b x hb, hn1⟩⟩

set_option maxHeartbeats 4000000 in
theorem next25e (N : Nat) {H : AH} {d L : Nat} {M : DM} {A : Nat → Prop} {e : Int} {g sz cnt : Nat} {v : AV} {ls : List Nm} (he : e ≠ 0) (hD : DiskAt H d M A) (hL : Kp H A L (logO e d g sz cnt)) (hg : Gen g) (hv : RowsAt H v ls) (hn : ls.length ≤ 60) (hl : ∀ l ∈ ls, l.length ≤ 300) :
    AC tC N 0 25 [.ptr L 0, v] H fun r K => r = .int .i64 e ∧ Left H K A d M L e g sz cnt := by
  refine AC.wf0 fun hwf => ?_
  refine AC.by (n := 85) (rs := [.tmp 4]) tOK fn25 rfl rfl rfl rfl ?_
  have e0 : (PT.ofList .leaf 0 [AV.ptr L 0, v]).get 0 = some (.ptr L 0) := rfl
  have e1 : (PT.ofList .leaf 0 [AV.ptr L 0, v]).get 1 = some v := rfl
  have gL : H.get L = some (.cells false [.int .i64 e, .ptr d 0, .str nL, .int .i64 (g : Nat), .int .i64 (sz : Nat), .int .i64 (cnt : Nat)]) := hL.1
  with_reducible repeat' (first
 | refine AW.seq ?_
 | refine AW.region ?_
 | refine AOs.nil ?_
 | refine AW.skip ?_
 | refine andThen_normal ?_
 | refine AOs.guardT (by with_unfolding_all rfl) (by simp only [PT.get_set, Nat.reduceEqDiff, reduceIte]; rfl) (by first | rfl | decide | assumption) ?_
 | refine AW.condF (by simp only [aeval, PT.get_set, Nat.reduceEqDiff, reduceIte]; rfl) (by first | rfl | decide | assumption) ?_
 | ((first
 | refine AOs.op1E tOK (by with_unfolding_all rfl) ?_
 ); refine Step.mk (by simp only [evOp_move, evOp_assign, evOp_pick, evOp_nilCheck, evOp_binOp, evOp_fieldAddr, evOp_load, aeval, ofVal, PT.get_set, Nat.reduceEqDiff, reduceIte, cellAt, Option.map_some, cond_false, List.getElem?_cons_zero, List.getElem?_cons_succ, Nat.zero_add, eq_self, eq27a, ld42, eq42a, fa65_1, e0, e1, gL]; rfl) ?_)
 | fail "stop")
  have hde : decide (e = 0) = false := decide_eq_false he
  refine AOs.callQ tOK (fs := []) (cs := []) rfl fn45 ok45 rfl (by simp only [List.map_cons, List.map_nil, List.nil_append, List.append_nil, aeval, PT.get_set, Nat.reduceEqDiff, reduceIte] <;> rfl) (frames45 N H hv (by omega) (fun l h => Nat.le_trans (hl l h) (by omega))) ?_
  rintro r K1 ⟨f, rfl, hf, sy1, hn1⟩
  have gL1 := sy1 _ _ gL
  have hg3 : g ≤ 3 := by rcases hg with h | h | h <;> omega
  have hd1 : decide (((g : Nat) : Int) = 999999) = false := decide_eq_false (by omega)
  with_reducible repeat' (first
 | refine AW.seq ?_
 | refine AW.region ?_
 | refine AW.block ?_
 | refine AOs.nil ?_
 | refine AW.ret ?_
 | refine andThen_normal ?_
 | refine andThen_ret ?_
 | refine inBlock_ret ?_
 | refine AW.condT (by simp only [aeval, PT.get_set, Nat.reduceEqDiff, reduceIte]; rfl) (by first | rfl | decide | assumption) ?_
 | refine AW.condF (by simp only [aeval, PT.get_set, Nat.reduceEqDiff, reduceIte]; rfl) (by first | rfl | decide | assumption) ?_
 | ((first
 | refine AOs.op1E tOK (by with_unfolding_all rfl) ?_
 ); refine Step.mk (by simp only [evOp_move, evOp_assign, evOp_nilCheck, evOp_binOp, evOp_fieldAddr, evOp_extract, evOp_load, aeval, ofVal, PT.get_set, Nat.reduceEqDiff, reduceIte, cellAt, Option.map_some, abin_eql, abin_neq, decide_true, Bool.not_true, Bool.not_false, List.getElem?_cons_zero, List.getElem?_cons_succ, Nat.add_zero, Nat.zero_add, eq_self, ld3, ld24, fa63_0, fa65_0, fa65_3, e0, gL1, hd1, hde]; rfl) ?_)
 | fail "stop")
  exact fnPost_ret1 (by first | (simp only [PT.get_set, Nat.reduceEqDiff, reduceIte]; rfl) | simp only [PT.get_set, Nat.reduceEqDiff, reduceIte]) ⟨rfl, hD.keep ⟨fun b x hb _ => sy1 b x hb, hn1⟩ fun b hb => .inl hb, gL1, ⟨fun b x hb _ _ => sy1 b x hb, hn1⟩⟩
end Go.Proofs.YtgihociajfgohaaGreatDoor
