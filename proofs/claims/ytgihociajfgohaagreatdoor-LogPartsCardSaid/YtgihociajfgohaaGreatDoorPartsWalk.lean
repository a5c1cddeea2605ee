/- Log: LogParts walked from whatever abstract heap; no condition. -/
import Derived.Test.YtgihociajfgohaaGreatDoorPartsPlain
import Derived.Test.YtgihociajfgohaaGreatDoorHeap5
set_option linter.unusedSimpArgs false
set_option linter.unusedVariables false
open Go Go.AB Go.Proofs
namespace Go.Proofs.YtgihociajfgohaaGreatDoor
set_option maxRecDepth 100000

theorem fn11 : tC.fn 11 = some Tryz.f11 := by kernel_rfl
theorem ok11 : fnOk Tryz.f11 = true := by kernel_rfl

theorem TextsAt.keep {H K : AH} {v : AV} {l : List Nm} (h : TextsAt H v l) (hk : ∀ b x, H.get b = some x → K.get b = some x) : TextsAt K v l := by
  rcases h with h | ⟨b, c, vs, rfl, h1, h2⟩
  · exact .inl h
  · exact .inr ⟨b, c, vs, rfl, hk _ _ h1, h2⟩

theorem new_MB : MB (DM.new 1048576) 0 := ⟨DM.new_ok _, rfl, fun p h => by simp [DM.new] at h, Nat.le_refl _, Nat.le_refl _, fun j p h => by simp [DM.new] at h⟩
theorem get1 {α : Type} {x y : α} {j : Nat} (h : [x][j]? = some y) : y = x := by
  have := List.mem_of_getElem? h; simpa using this
theorem P1_MB {c : Nm} (h : c.length ≤ 20000) : MB (P1 c) 1 where
  ok := ⟨fun p hp => by simp [P1] at hp ⊢; simp [hp], fun p hp => by simp [P1] at hp ⊢; simp [hp], fun n i hi => by simp [P1] at hi, by simp [P1], by simp [P1], fun i p hi => by rw [get1 hi]; simp⟩
  room := rfl
  keys := fun p hp => by simp [P1] at hp; rw [hp]; decide
  ents := Nat.le_refl _
  notes := by simp [P1]
  files := fun j p hp => by rw [get1 hp]; simpa using h
theorem P2_MB {c b : Nm} (h : c.length ≤ 20000) (hb : b.length ≤ 20000) : MB (P2 c b) 2 where
  ok := ⟨fun p hp => by simp [P2] at hp ⊢; simp [hp], fun p hp => by simp [P2] at hp ⊢; rcases hp with rfl | rfl <;> simp, fun n i hi => by simp [P2] at hi, by simp [P2], by simp [P2], fun i p hi => by
    have := List.mem_of_getElem? hi
    simp [P2] at this
    rcases this with rfl | rfl <;> simp⟩
  room := rfl
  keys := fun p hp => by simp [P2] at hp; rw [hp]; decide
  ents := by simp [P2]
  notes := by simp [P2]
  files := fun j p hp => by
    have := List.mem_of_getElem? hp
    simp [P2] at this
    rcases this with rfl | rfl <;> simp <;> omega

theorem appendP (N : Nat) {H : AH} {d L : Nat} {c : Nm} {A : Nat → Prop} {sz cnt : Nat} {v : AV} {ls : List Nm} (hA : ∀ b, A b → b < H.next) (hD : DiskAt H d (P1 c) A) (hL : Kp H A L (logO 0 d 1 sz cnt)) (hv : RowsAt H v ls) (hn : ls.length ≤ 60) (hl : ∀ l ∈ ls, l.length ≤ 300) (hc : c.length ≤ 20000)
    (hsz : sz ≤ 1000000000) (hcnt : cnt ≤ 1000000000) :
    AC tC N 0 21 [.ptr L 0, v] H fun r K => r = .int .i64 0 ∧ Left H K A d (P1 (c ++ framesM ls)) L 0 1 (sz + (framesM ls).length) (cnt + ls.length) := by
  by_cases h0 : ls = []
  · subst h0
    have e : framesM [] = [] := rfl
    rw [e, List.append_nil]
    exact append21z N hA hD hL hv
  · have hfl := framesM_le hl
    have hfl2 : ls.length * (300 + 8) ≤ 60 * 308 := Nat.mul_le_mul_right _ hn
    have q := append21 N (g := 1) hA hD (P1_MB hc) (by omega) hL (.inl rfl) hv hn hl h0 hsz hcnt
    rw [P1_append (by omega)] at q
    simp only [if_true] at q
    exact q

theorem Left.sub {H K : AH} {A : Nat → Prop} {d : Nat} {M : DM} {L : Nat} {e : Int} {g sz cnt : Nat} (h : Left H K A d M L e g sz cnt) : ∀ y, AddR A H.next K.next y → A y ∨ (H.next ≤ y ∧ y < K.next) := fun _ h => h

set_option maxHeartbeats 32000000 in
theorem parts7 (N : Nat) (H : AH) {va vb : AV} {a b : List Nm} (ha : TextsAt H va a) (hb : TextsAt H vb b) : AC tC N 0 7 [va, vb] H fun r _ => r = .bool true := by
  refine AC.wf0 fun hwf => ?_
  refine AC.by (n := 182) (rs := [.tmp 4]) tOK fn7 rfl rfl rfl rfl ?_
  have e0 : (PT.ofList .leaf 0 [va, vb]).get 0 = some va := rfl
  have e1 : (PT.ofList .leaf 0 [va, vb]).get 1 = some vb := rfl
  with_reducible repeat' (first
    | refine AW.seq ?_
    | refine AW.region ?_
    | refine AOs.nil ?_
    | refine andThen_normal ?_
    | ((first
        | refine AOs.op1E tOK (by with_unfolding_all rfl) ?_
        ); refine Step.mk (by simp only [evOp_assign, aeval, ofVal]; rfl) ?_)
    | fail "stop")
  refine AOs.callQ tOK (fs := []) (cs := []) rfl fn11 ok11 rfl (by simp only [List.map_nil, List.append_nil] <;> rfl) (lives11 N H) ?_
  rintro r K ⟨rfl, rfl⟩
  with_reducible repeat' (first
    | refine AW.seq ?_
    | refine AW.region ?_
    | refine AOs.nil ?_
    | refine AW.skip ?_
    | refine andThen_normal ?_
    | refine AW.condF (by simp only [aeval, PT.get_set, Nat.reduceEqDiff, reduceIte]; rfl) (by first | rfl | decide | assumption) ?_
    | ((first
        | refine AOs.op1E tOK (by with_unfolding_all rfl) ?_
        ); refine Step.mk (by simp only [evOp_move, evOp_not, aeval, PT.get_set, Nat.reduceEqDiff, reduceIte, Bool.not_true, eq_self, e0]; rfl) ?_)
    | fail "stop")
  refine AOs.callQ tOK (fs := []) (cs := []) rfl fn19 ok19 rfl (by simp only [List.map_cons, List.map_nil, List.nil_append, List.append_nil, aeval, ofVal, PT.get_set, Nat.reduceEqDiff, reduceIte] <;> rfl) (light19 N K va a ha) ?_
  rintro r H ⟨rfl, x, rfl, hxa⟩
  cases x with
  | false =>
    with_reducible repeat' (first
      | refine AW.seq ?_
      | refine AW.region ?_
      | refine AOs.nil ?_
      | refine AW.ret ?_
      | refine andThen_normal ?_
      | refine andThen_ret ?_
      | refine AOs.guardF (by with_unfolding_all rfl) (by simp only [PT.get_set, Nat.reduceEqDiff, reduceIte]; rfl) (by first | rfl | decide | assumption) (by with_unfolding_all rfl) ?_
      | refine AW.condT (by simp only [aeval, PT.get_set, Nat.reduceEqDiff, reduceIte]; rfl) (by first | rfl | decide | assumption) ?_
      | ((first
          | refine AOs.op1E tOK (by with_unfolding_all rfl) ?_
          ); refine Step.mk (by simp only [evOp_move, evOp_assign, evOp_pick, evOp_not, aeval, ofVal, PT.get_set, Nat.reduceEqDiff, reduceIte, cond_true, Bool.not_false, eq_self]; rfl) ?_)
      | fail "stop")
    exact fnPost_ret1 (by first | (simp only [PT.get_set, Nat.reduceEqDiff, reduceIte]; rfl) | simp only [PT.get_set, Nat.reduceEqDiff, reduceIte]) rfl
  | true =>
  obtain ⟨hal, has⟩ := hxa rfl
  with_reducible repeat' (first
    | refine AOs.guardT (by with_unfolding_all rfl) (by simp only [PT.get_set, Nat.reduceEqDiff, reduceIte]; rfl) (by first | rfl | decide | assumption) ?_
    | ((first
        | refine AOs.op1E tOK (by with_unfolding_all rfl) ?_
        ); refine Step.mk (by simp only [evOp_move, evOp_not, aeval, PT.get_set, Nat.reduceEqDiff, reduceIte, Bool.not_true, eq_self, e1]; rfl) ?_)
    | fail "stop")
  refine AOs.callQ tOK (fs := []) (cs := []) rfl fn19 ok19 rfl (by simp only [List.map_cons, List.map_nil, List.nil_append, List.append_nil, aeval, ofVal, PT.get_set, Nat.reduceEqDiff, reduceIte] <;> rfl) (light19 N H vb b hb) ?_
  rintro r K ⟨rfl, x, rfl, hxb⟩
  cases x with
  | false =>
    with_reducible repeat' (first
      | refine AW.seq ?_
      | refine AW.region ?_
      | refine AOs.nil ?_
      | refine AW.ret ?_
      | refine andThen_normal ?_
      | refine andThen_ret ?_
      | refine AOs.guardT (by with_unfolding_all rfl) (by simp only [PT.get_set, Nat.reduceEqDiff, reduceIte]; rfl) (by first | rfl | decide | assumption) ?_
      | refine AW.condT (by simp only [aeval, PT.get_set, Nat.reduceEqDiff, reduceIte]; rfl) (by first | rfl | decide | assumption) ?_
      | ((first
          | refine AOs.op1E tOK (by with_unfolding_all rfl) ?_
          ); refine Step.mk (by simp only [evOp_assign, evOp_pick, evOp_not, aeval, ofVal, PT.get_set, Nat.reduceEqDiff, reduceIte, cond_false, Bool.not_false, eq_self]; rfl) ?_)
      | fail "stop")
    exact fnPost_ret1 (by first | (simp only [PT.get_set, Nat.reduceEqDiff, reduceIte]; rfl) | simp only [PT.get_set, Nat.reduceEqDiff, reduceIte]) rfl
  | true =>
  obtain ⟨hbl, hbs⟩ := hxb rfl
  have hfa := framesM_le has
  have hfa2 : a.length * (300 + 8) ≤ 30 * 308 := Nat.mul_le_mul_right _ hal
  have hfb := framesM_le hbs
  have hfb2 : b.length * (300 + 8) ≤ 30 * 308 := Nat.mul_le_mul_right _ hbl
  with_reducible repeat' (first
    | refine AW.seq ?_
    | refine AW.region ?_
    | refine AOs.nil ?_
    | refine AW.skip ?_
    | refine andThen_normal ?_
    | refine AOs.guardT (by with_unfolding_all rfl) (by simp only [PT.get_set, Nat.reduceEqDiff, reduceIte]; rfl) (by first | rfl | decide | assumption) ?_
    | refine AW.condF (by simp only [aeval, PT.get_set, Nat.reduceEqDiff, reduceIte]; rfl) (by first | rfl | decide | assumption) ?_
    | ((first
        | refine AOs.op1E tOK (by with_unfolding_all rfl) ?_
        ); refine Step.mk (by simp only [evOp_pick, evOp_not, aeval, ofVal, PT.get_set, Nat.reduceEqDiff, reduceIte, cond_false, Bool.not_true, eq_self]; rfl) ?_)
    | fail "stop")
  refine AOs.callQ tOK (fs := []) (cs := []) rfl fn20 ok20 rfl (by simp only [List.map_cons, List.map_nil, List.nil_append, List.append_nil, aeval, ofVal] <;> rfl) (new7 N K (room := 1048576) (by omega) (by omega)).wf ?_
  rintro r K0 ⟨⟨d, rfl, h0, h0k, h0n⟩, wf0⟩
  with_reducible repeat' (first
    | refine AW.seq ?_
    | refine AW.region ?_
    | refine AOs.nil ?_
    | refine andThen_normal ?_
    | ((first
        | refine AOs.op1E tOK (by with_unfolding_all rfl) ?_
        ); refine Step.mk (by simp only [evOp_move, evOp_assign, evOp_extract, aeval, PT.get_set, Nat.reduceEqDiff, reduceIte, Option.map_some, List.getElem?_cons_zero, List.getElem?_cons_succ, eq_self]; rfl) ?_)
    | fail "stop")
  refine AOs.callQ tOK (fs := []) (cs := []) rfl fn20 ok20 rfl (by simp only [List.map_cons, List.map_nil, List.nil_append, List.append_nil, aeval, ofVal] <;> rfl) (new7 N K0 (room := 1048576) (by omega) (by omega)).wf ?_
  rintro r K1 ⟨⟨f, rfl, h1, h1k, h1n⟩, wf1⟩
  have t1 : Two K K1 d f (DM.new 1048576) (DM.new 1048576) (AddR (fun _ => False) K.next K0.next) (AddR (fun _ => False) K0.next K1.next) := {
    a := h0.keep ⟨fun b x hb _ => h1k b x hb, h1n⟩ fun _ => id
    b := h1
    dis := fun x hx e => by
      rcases hx with hx | hx
      · exact hx
      · rcases e with e | e
        · exact e
        · omega
    ra := fun x hx => by
      rcases hx with hx | hx
      · exact hx.elim
      · omega
    rb := fun x hx => by
      rcases hx with hx | hx
      · exact hx.elim
      · omega
    keep := fun b x hb => h1k b x (h0k b x hb)
    next := by omega }
  with_reducible repeat' (first
    | refine AW.seq ?_
    | refine AW.region ?_
    | refine AOs.nil ?_
    | refine AW.skip ?_
    | refine andThen_normal ?_
    | refine AOs.guardT (by with_unfolding_all rfl) (by simp only [PT.get_set, Nat.reduceEqDiff, reduceIte]; rfl) (by first | rfl | decide | assumption) ?_
    | refine AW.condF (by simp only [aeval, PT.get_set, Nat.reduceEqDiff, reduceIte]; rfl) (by first | rfl | decide | assumption) ?_
    | ((first
        | refine AOs.op1E tOK (by with_unfolding_all rfl) ?_
        ); refine Step.mk (by simp only [evOp_move, evOp_assign, evOp_pick, evOp_binOp, evOp_extract, aeval, ofVal, PT.get_set, Nat.reduceEqDiff, reduceIte, Option.map_some, abin_neq, cond_false, decide_true, Bool.not_true, List.getElem?_cons_zero, List.getElem?_cons_succ, eq_self]; rfl) ?_)
    | fail "stop")
  have hnm0 : ∀ s ∈ (DM.new 1048576).names, LName s := fun s hs => by
    have e : (DM.new 1048576).names = [] := rfl
    rw [e] at hs; simp at hs
  have qo := open10a N (fun b hb => (t1.ra b hb).2) t1.a new_MB (by omega) hnm0 rfl (by rw [new_write])
  rw [new_write] at qo
  refine AOs.callQ tOK (fs := []) (cs := []) rfl fn10 ok10 rfl (by simp only [List.map_cons, List.map_nil, List.nil_append, List.append_nil, aeval, ofVal, PT.get_set, Nat.reduceEqDiff, reduceIte] <;> rfl) qo.wf ?_
  rintro r K2 ⟨⟨X, A2, rfl, o2⟩, wf2⟩
  have t2 := t1.setA0 hwf o2.disk o2.sub o2.ap
  have hn12 := o2.ap.2
  have hXn := o2.new
  have x2 : Lo K K2 A2 _ X (logO 0 d 1 (0 : Nat) (0 : Nat)) := ⟨o2.log.1, o2.log.2, fun e => by have := (t1.rb _ e).2; omega, by have := t1.next; omega⟩
  with_reducible repeat' (first
    | refine AW.seq ?_
    | refine AW.region ?_
    | refine AOs.nil ?_
    | refine andThen_normal ?_
    | ((first
        | refine AOs.op1E tOK (by with_unfolding_all rfl) ?_
        ); refine Step.mk (by simp only [evOp_move, evOp_assign, evOp_extract, aeval, PT.get_set, Nat.reduceEqDiff, reduceIte, Option.map_some, List.getElem?_cons_zero, List.getElem?_cons_succ, eq_self]; rfl) ?_)
    | fail "stop")
  have qo2 := open10a N (fun b hb => (t2.rb b hb).2) t2.b new_MB (by omega) hnm0 rfl (by rw [new_write])
  rw [new_write] at qo2
  refine AOs.callQ tOK (fs := []) (cs := []) rfl fn10 ok10 rfl (by simp only [List.map_cons, List.map_nil, List.nil_append, List.append_nil, aeval, ofVal, PT.get_set, Nat.reduceEqDiff, reduceIte] <;> rfl) qo2.wf ?_
  rintro r K3 ⟨⟨Y, B3, rfl, o3⟩, wf3⟩
  have t3 := (t2.swap.setA0 hwf o3.disk o3.sub o3.ap).swap
  have hn23 := o3.ap.2
  have hYn := o3.new
  have y3 : Lo K K3 A2 B3 Y (logO 0 f 1 (0 : Nat) (0 : Nat)) := ⟨o3.log.1, fun e => by have := (t2.ra _ e).2; omega, o3.log.2, by have := t2.next; omega⟩
  have x3 := (x2.swap.ap0 wf2 o3.ap o3.sub).swap
  have hXY : X ≠ Y := by have := wf2 _ _ x2.get; omega
  with_reducible repeat' (first
    | refine AW.seq ?_
    | refine AW.region ?_
    | refine AOs.nil ?_
    | refine andThen_normal ?_
    | refine AOs.guardT (by with_unfolding_all rfl) (by simp only [PT.get_set, Nat.reduceEqDiff, reduceIte]; rfl) (by first | rfl | decide | assumption) ?_
    | ((first
        | refine AOs.op1E tOK (by with_unfolding_all rfl) ?_
        ); refine Step.mk (by simp only [evOp_move, evOp_assign, evOp_pick, evOp_binOp, evOp_extract, aeval, ofVal, PT.get_set, Nat.reduceEqDiff, reduceIte, Option.map_some, abin_neq, cond_false, decide_true, Bool.not_true, List.getElem?_cons_zero, List.getElem?_cons_succ, eq_self, e0]; rfl) ?_)
    | fail "stop")
  have haK3 := ha.keep t3.keep
  refine AOs.callQ tOK (fs := []) (cs := []) rfl fn22 ok22 rfl (by simp only [List.map_cons, List.map_nil, List.nil_append, List.append_nil, aeval, PT.get_set, Nat.reduceEqDiff, reduceIte] <;> rfl) (recs22 N K3 va a haK3 wf3 (by omega)).wf ?_
  rintro rv K4 ⟨⟨sy4, hrv⟩, wf4⟩
  have sy4' : ∀ b x, K3.get b = some x → K4.get b = some x := fun b x hb => sy4.get b x (wf3 b x hb) hb
  have t4 := t3.more sy4' sy4.next
  have x4 := x3.more sy4'
  have y4 := y3.more sy4'
  with_reducible repeat' (first
    | refine AOs.guardT (by with_unfolding_all rfl) (by simp only [PT.get_set, Nat.reduceEqDiff, reduceIte]; rfl) (by first | rfl | decide | assumption) ?_
    | ((first
        | refine AOs.op1E tOK (by with_unfolding_all rfl) ?_
        ); refine Step.mk (by simp only [evOp_move, evOp_assign, evOp_pick, evOp_build, evOp_nilCheck, evOp_binOp, evOp_not, evOp_fieldAddr, evOp_field, evOp_indexAddr, evOp_index, evOp_extract, evOp_makeFunc, evOp_load, evOp_lookup, evOp_store, evOp_mapUpdate, evOp_insert, evOp_range, evOp_makeMap, evOp_len, evOp_append, evOp_copy, evOp_delete, evOp_slice, evOp_convert, evOp_entry, evOp_boxC, boxC_one, boxC_agg, evOp_cap, rangeMapAt, storeAt, one_bool, one_int, one_str, one_nilp, one_ptr, one_nils, one_slice, one_empty, one_nilm, one_map, one_func, one_nilf, one_iface, one_nili, aeval, ofVal, PT.get_set, Nat.reduceEqDiff, reduceIte, lenOfAV_slice, lenOfAV_nils, lenOfAV_empty, cellAt, cellsAt, mapLenAt, lookAt, mapSetAt, mapDelAt, List.map_cons, List.map_nil, Option.map_some, Option.map_none, List.nil_append, List.append_nil, abin_add, abin_sub, abin_mul, abin_lss, abin_leq, abin_gtr, abin_geq, abin_eql, abin_neq, abin_eqlS, abin_neqS, cond_true, cond_false, decide_true, decide_false, Bool.not_true, Bool.not_false, TI.agg, List.getElem?_cons_zero, List.getElem?_cons_succ, Nat.add_zero, Nat.zero_add, Nat.zero_mul, nbeq, nble, nblt, Nat.reduceLeDiff, Nat.reduceLT, Nat.reduceMul, Nat.reduceAdd, Nat.reduceSub, Bool.and_true, Bool.true_and, Bool.and_false, Bool.false_and, List.length_cons, List.length_nil, List.set_cons_zero, List.set_cons_succ, AH.get_set, AH.next_set, eq_self, Int.ofNat_eq_natCast, Int.cast_ofNat_Int, Int.natCast_zero, Int.reduceEq, Int.reduceLT, Int.reduceLE, Int.reduceNeg, ld3, st3, ld4, st4, ld5, st5, al9, ld9, st9, ld20, st20, ld21, st21, ld24, st24, ld27, ne27a, eq27a, ne27b, eq27b, st27, al28, ix28, bs28, ld28, ne28a, eq28a, ne28b, eq28b, ne28c, eq28c, st28, al32, ix32, bs32, ld32, ne32a, eq32a, ne32b, eq32b, ne32c, eq32c, st32, al37, ix37, bs37, ld37, ne37a, eq37a, ne37b, eq37b, ne37c, eq37c, st37, al40, ix40, bs40, ld40, ne40a, eq40a, ne40b, eq40b, ne40c, eq40c, st40, ld42, ne42a, eq42a, ne42b, eq42b, st42, ld47, st47, ld57, st57, ld60, st60, fa63_0, ld63, fa65_0, fa65_1, fa65_2, fa65_3, fa65_4, fa65_5, ld65, an72, am72, ld72, md72, ms72, lk72, ne72a, eq72a, ne72b, eq72b, st72, al73, ix73, bs73, ld73, ne73a, eq73a, ne73b, eq73b, ne73c, eq73c, st73, fa75_0, fa75_1, fa75_2, fa75_3, fa75_4, fa75_5, ld75, ld83, st83, ld85, ne85a, eq85a, ne85b, eq85b, st85, fa87_0, fa87_1, ld87, ld91, st91, ld96, st96, ld104, st104, al116, ix116, bs116, ld116, ne116a, eq116a, ne116b, eq116b, ne116c, eq116c, st116, ld118, st118, ld119, ix119, cv9_32, cv96_3, cv5_96, cv96_5, cv3_96, cv3_118, e0, e1]; rfl) ?_)
    | fail "stop")
  refine AOs.callQ tOK (fs := []) (cs := []) rfl fn21 ok21 rfl (by simp only [List.map_cons, List.map_nil, List.nil_append, List.append_nil, aeval, PT.get_set, Nat.reduceEqDiff, reduceIte] <;> rfl) (appendP N (c := []) (sz := 0) (cnt := 0) (fun b hb => (t4.ra b hb).2) t4.a x4.kp hrv.rows (by omega) has (by simp) (by omega) (by omega)).wf ?_
  rintro r K5 ⟨⟨rfl, o5⟩, wf5⟩
  rw [List.nil_append, Nat.zero_add, Nat.zero_add] at o5
  have t5 := t4.setA hwf x4 (kind_log _ _ _ _ _) o5.disk o5.sub o5.ap
  have x5 := x4.own wf4 o5.log o5.sub
  have y5 := y4.ap wf4 o5.ap (fun e => hXY e.symm) o5.sub
  with_reducible repeat' (first
    | refine AW.seq ?_
    | refine AW.region ?_
    | refine AW.block ?_
    | refine AOs.nil ?_
    | refine AW.skip ?_
    | refine andThen_normal ?_
    | refine AOs.guardT (by with_unfolding_all rfl) (by simp only [PT.get_set, Nat.reduceEqDiff, reduceIte]; rfl) (by first | rfl | decide | assumption) ?_
    | refine AW.condF (by simp only [aeval, PT.get_set, Nat.reduceEqDiff, reduceIte]; rfl) (by first | rfl | decide | assumption) ?_
    | ((first
        | refine AOs.op1E tOK (by with_unfolding_all rfl) ?_
        ); refine Step.mk (by simp only [evOp_assign, evOp_pick, evOp_binOp, aeval, ofVal, PT.get_set, Nat.reduceEqDiff, reduceIte, Option.map_some, abin_neq, cond_false, decide_true, Bool.not_true, eq_self]; rfl) ?_)
    | fail "stop")
  have hla := ha.len
  refine AW.loop (fun m T K' => T.get 0 = some va ∧ T.get 1 = some vb ∧ T.get 5 = some (.ptr d 0) ∧ T.get 7 = some (.ptr f 0) ∧ T.get 9 = some (.ptr X 0) ∧ T.get 11 = some (.ptr Y 0) ∧
      ∃ (i : Nat) (A B : Nat → Prop), i ≤ a.length ∧ m = a.length - i ∧ T.get 13 = some (.int .i64 (i : Nat)) ∧ Two K K' d f (P1 (framesM a)) (P1 (framesM (a.take i))) A B ∧ Lo K K' A B X (logO 0 d 1 ((framesM a).length : Nat) (a.length : Nat)) ∧ Lo K K' A B Y (logO 0 f 1 ((framesM (a.take i)).length : Nat) (i : Nat))) ?_ (a.length - 0)
    ⟨by simp [PT.get_set, e0], by simp [PT.get_set, e1], by simp [PT.get_set], by simp [PT.get_set], by simp [PT.get_set], by simp [PT.get_set], 0, _, _, by omega, rfl, by simp [PT.get_set], t5, x5, y5⟩
  rintro m T K6 ⟨g0, g1, g5, g7, g9, g11, i, A, B, hi, rfl, g13, t6, x6, y6⟩
  refine AW.wf0 fun wf6 => ?_
  by_cases hil : i < a.length
  · have hd := lt_int hil
    obtain ⟨s, hs⟩ : ∃ s, a[i]? = some s := ⟨_, List.getElem?_eq_getElem hil⟩
    have hsl := has s (List.mem_of_getElem? hs)
    rcases ha with ⟨_, ha⟩ | ⟨ab, ac, avs, rfl, hab, haw⟩
    · rw [ha] at hil; simp at hil
    have hab6 := t6.keep _ _ hab
    have hw : avs[i * 1]? = some (.str s) := by rw [Nat.mul_one]; exact haw i s hs
    generalize hK7 : (K6.alloc (.cells false (bytesAV s))).alloc (.cells false [.slice K6.next 0 s.length (.lo s.length) 1]) = K7
    have hcv : ∀ L : AH, convOp tC L 9 32 (.str s) = some (.slice L.next 0 s.length (.lo s.length) 1, L.alloc (.cells false (bytesAV s))) := fun L => cv9_32 L s
    have sy7 : ∀ b x, K6.get b = some x → K7.get b = some x := fun b x hb => by rw [← hK7]; exact stay_alloc (wf_alloc wf6 _) _ b x (stay_alloc wf6 _ b x hb)
    have wf7 : WF K7 := by rw [← hK7]; exact wf_alloc (wf_alloc wf6 _) _
    have n7 : K7.next = K6.next + 2 := by rw [← hK7]; rfl
    have gb7 : K7.get K6.next = some (.cells false (bytesAV s)) := by rw [← hK7, AH.get_alloc, if_neg (by simp), AH.get_alloc, if_pos rfl]
    have gs7 : K7.get (K6.next + 1) = some (.cells false [.slice K6.next 0 s.length (.lo s.length) 1]) := by rw [← hK7, AH.get_alloc, if_pos (by simp)]
    have t7 := t6.more sy7 (by omega)
    have x7 := x6.more sy7
    have y7 := y6.more sy7
    have hr7 : RowsAt K7 (.slice (K6.next + 1) 0 1 (.ex 1) 1) [s] := rows_of (ls := [s]) gs7 rfl fun j u l hu hl => by
      match j with
      | 0 =>
        simp at hu hl; subst hu hl
        exact .inr ⟨K6.next, 0, _, false, _, rfl, gb7, by rw [List.drop_zero, List.take_of_length_le (by rw [bytesAV_length]; omega)]⟩
      | j + 1 => simp at hu
    with_reducible repeat' (first
      | refine AW.seq ?_
      | refine AW.region ?_
      | refine AW.block ?_
      | refine AOs.nil ?_
      | refine AW.skip ?_
      | refine andThen_normal ?_
      | refine AW.condT (by simp only [aeval, PT.get_set, Nat.reduceEqDiff, reduceIte]; rfl) (by first | rfl | decide | assumption) ?_
      | ((first
          | refine AOs.op1E tOK (by with_unfolding_all rfl) ?_
          ); refine Step.mk (by simp only [evOp_move, evOp_binOp, evOp_indexAddr, evOp_load, evOp_len, evOp_convert, one_slice, aeval, PT.get_set, Nat.reduceEqDiff, reduceIte, cellAt, Option.map_some, abin_lss, Nat.zero_add, eq_self, ld9, al37, ix37, g0, g11, g13, hla, hd, hil, hab6, hw, hcv, bs28_1, AH.next_alloc, hK7]; rfl) ?_)
      | fail "stop")
    have hti := framesM_le (ls := a.take i) (B := 300) fun l hl => has l (List.mem_of_mem_take hl)
    have hti2 : (a.take i).length ≤ 30 := by rw [List.length_take]; omega
    have hti3 : (a.take i).length * (300 + 8) ≤ 30 * 308 := Nat.mul_le_mul_right _ hti2
    refine AOs.callQ tOK (fs := []) (cs := []) rfl fn21 ok21 rfl (by simp only [List.map_cons, List.map_nil, List.nil_append, List.append_nil, aeval, PT.get_set, Nat.reduceEqDiff, reduceIte] <;> rfl) (appendP N (sz := (framesM (a.take i)).length) (cnt := i) (fun b hb => (t7.rb b hb).2) t7.b y7.swap.kp hr7 (by simp) (fun l hl => by simp at hl; rw [hl]; exact hsl) (by omega) (by omega) (by omega)).wf ?_
    rintro r K8 ⟨⟨rfl, o8⟩, wf8⟩
    have ef : framesM [s] = frameM s := by simp [framesM]
    rw [ef, ← framesM_take hs, ← List.length_append, ← framesM_take hs] at o8
    have t8 := (t7.swap.setA hwf y7.swap (kind_log _ _ _ _ _) o8.disk o8.sub o8.ap).swap
    have x8 := (x7.swap.ap wf7 o8.ap hXY o8.sub).swap
    have y8 := (y7.swap.own wf7 o8.log o8.sub).swap
    with_reducible repeat' (first
      | refine AW.region ?_
      | refine AOs.nil ?_
      | refine AW.skip ?_
      | refine andThen_normal ?_
      | refine inBlock_normal ?_
      | refine AW.condF (by simp only [aeval, PT.get_set, Nat.reduceEqDiff, reduceIte]; rfl) (by first | rfl | decide | assumption) ?_
      | ((first
          | refine AOs.op1E tOK (by with_unfolding_all rfl) ?_
          ); refine Step.mk (by simp only [evOp_move, evOp_assign, evOp_binOp, aeval, ofVal, PT.get_set, Nat.reduceEqDiff, reduceIte, Option.map_some, abin_add, abin_neq, decide_true, Bool.not_true, eq_self, g13]; rfl) ?_)
      | fail "stop")
    refine ⟨a.length - (i + 1), by omega, by simp [PT.get_set, g0], by simp [PT.get_set, g1], by simp [PT.get_set, g5], by simp [PT.get_set, g7], by simp [PT.get_set, g9], by simp [PT.get_set, g11], i + 1, _, _, by omega, rfl, ?_, t8, x8, y8⟩
    simp only [PT.get_set, Nat.reduceEqDiff, reduceIte, wrap64_succ (show i < 9223372036854775807 by omega)]
  have hd := nlt_int hil
  obtain rfl : i = a.length := by omega
  rw [List.take_length] at t6 y6
  with_reducible repeat' (first
    | refine AW.seq ?_
    | refine AW.region ?_
    | refine AOs.nil ?_
    | refine AW.exit ?_
    | refine andThen_normal ?_
    | refine andThen_exit ?_
    | refine inBlock_hit ?_
    | refine AW.condF (by simp only [aeval, PT.get_set, Nat.reduceEqDiff, reduceIte]; rfl) (by first | rfl | decide | assumption) ?_
    | ((first
        | refine AOs.op1E tOK (by with_unfolding_all rfl) ?_
        ); refine Step.mk (by simp only [evOp_move, evOp_binOp, evOp_len, aeval, PT.get_set, Nat.reduceEqDiff, reduceIte, Option.map_some, abin_lss, eq_self, al37, g0, g9, g13, hla, hd]; rfl) ?_)
    | fail "stop")
  refine AOs.callQ tOK (fs := []) (cs := []) rfl fn28 ok28 rfl (by simp only [List.map_cons, List.map_nil, List.nil_append, List.append_nil, aeval, PT.get_set, Nat.reduceEqDiff, reduceIte] <;> rfl) (size28 N x6.get) ?_
  rintro r Ka ⟨rfl, rfl⟩
  with_reducible repeat' (first
    | ((first
        | refine AOs.op1E tOK (by with_unfolding_all rfl) ?_
        ); refine Step.mk (by simp only [evOp_move, aeval, PT.get_set, Nat.reduceEqDiff, reduceIte, g11]; rfl) ?_)
    | fail "stop")
  refine AOs.callQ tOK (fs := []) (cs := []) rfl fn28 ok28 rfl (by simp only [List.map_cons, List.map_nil, List.nil_append, List.append_nil, aeval, PT.get_set, Nat.reduceEqDiff, reduceIte] <;> rfl) (size28 N y6.get) ?_
  rintro r Kb ⟨rfl, rfl⟩
  with_reducible repeat' (first
    | refine AOs.guardT (by with_unfolding_all rfl) (by simp only [PT.get_set, Nat.reduceEqDiff, reduceIte]; rfl) (by first | rfl | decide | assumption) ?_
    | ((first
        | refine AOs.op1E tOK (by with_unfolding_all rfl) ?_
        ); refine Step.mk (by simp only [evOp_move, evOp_binOp, aeval, PT.get_set, Nat.reduceEqDiff, reduceIte, Option.map_some, abin_neq, decide_true, Bool.not_true, eq_self, g9]; rfl) ?_)
    | fail "stop")
  refine AOs.callQ tOK (fs := []) (cs := []) rfl fn29 ok29 rfl (by simp only [List.map_cons, List.map_nil, List.nil_append, List.append_nil, aeval, PT.get_set, Nat.reduceEqDiff, reduceIte] <;> rfl) (count29 N x6.get) ?_
  rintro r Kc ⟨rfl, rfl⟩
  with_reducible repeat' (first
    | refine AOs.guardT (by with_unfolding_all rfl) (by simp only [PT.get_set, Nat.reduceEqDiff, reduceIte]; rfl) (by first | rfl | decide | assumption) ?_
    | ((first
        | refine AOs.op1E tOK (by with_unfolding_all rfl) ?_
        ); refine Step.mk (by simp only [evOp_move, aeval, PT.get_set, Nat.reduceEqDiff, reduceIte, g11]; rfl) ?_)
    | fail "stop")
  refine AOs.callQ tOK (fs := []) (cs := []) rfl fn29 ok29 rfl (by simp only [List.map_cons, List.map_nil, List.nil_append, List.append_nil, aeval, PT.get_set, Nat.reduceEqDiff, reduceIte] <;> rfl) (count29 N y6.get) ?_
  rintro r Kd ⟨rfl, rfl⟩
  with_reducible repeat' (first
    | refine AOs.guardT (by with_unfolding_all rfl) (by simp only [PT.get_set, Nat.reduceEqDiff, reduceIte]; rfl) (by first | rfl | decide | assumption) ?_
    | ((first
        | refine AOs.op1E tOK (by with_unfolding_all rfl) ?_
        ); refine Step.mk (by simp only [evOp_move, evOp_pick, evOp_binOp, aeval, ofVal, PT.get_set, Nat.reduceEqDiff, reduceIte, Option.map_some, abin_neq, cond_false, decide_true, Bool.not_true, eq_self, g9]; rfl) ?_)
    | fail "stop")
  refine AOs.callQ tOK (fs := []) (cs := []) rfl fn29 ok29 rfl (by simp only [List.map_cons, List.map_nil, List.nil_append, List.append_nil, aeval, PT.get_set, Nat.reduceEqDiff, reduceIte] <;> rfl) (count29 N x6.get) ?_
  rintro r Ke ⟨rfl, rfl⟩
  with_reducible repeat' (first
    | refine AOs.guardT (by with_unfolding_all rfl) (by simp only [PT.get_set, Nat.reduceEqDiff, reduceIte]; rfl) (by first | rfl | decide | assumption) ?_
    | ((first
        | refine AOs.op1E tOK (by with_unfolding_all rfl) ?_
        ); refine Step.mk (by simp only [evOp_move, evOp_pick, evOp_binOp, evOp_len, aeval, ofVal, PT.get_set, Nat.reduceEqDiff, reduceIte, Option.map_some, abin_neq, cond_false, decide_true, Bool.not_true, eq_self, al37, g0, g5, hla]; rfl) ?_)
    | fail "stop")
  have mP := P1_MB (c := framesM a) (by omega)
  have hu := P1_used (framesM a)
  refine AOs.callQ tOK (fs := []) (cs := []) rfl fn31 ok31 rfl (by simp only [List.map_cons, List.map_nil, List.nil_append, List.append_nil, aeval, PT.get_set, Nat.reduceEqDiff, reduceIte] <;> rfl) (left17 N Ke t6.a mP.ok (by omega) (by rw [mP.room]; omega) (by rw [mP.room]; omega)) ?_
  rintro r Kf ⟨rfl, rfl⟩
  with_reducible repeat' (first
    | refine AOs.guardT (by with_unfolding_all rfl) (by simp only [PT.get_set, Nat.reduceEqDiff, reduceIte]; rfl) (by first | rfl | decide | assumption) ?_
    | ((first
        | refine AOs.op1E tOK (by with_unfolding_all rfl) ?_
        ); refine Step.mk (by simp only [evOp_move, aeval, PT.get_set, Nat.reduceEqDiff, reduceIte, g7]; rfl) ?_)
    | fail "stop")
  refine AOs.callQ tOK (fs := []) (cs := []) rfl fn31 ok31 rfl (by simp only [List.map_cons, List.map_nil, List.nil_append, List.append_nil, aeval, PT.get_set, Nat.reduceEqDiff, reduceIte] <;> rfl) (left17 N Kf t6.b mP.ok (by omega) (by rw [mP.room]; omega) (by rw [mP.room]; omega)) ?_
  rintro r K7 ⟨rfl, rfl⟩
  with_reducible repeat' (first
    | refine AW.seq ?_
    | refine AW.region ?_
    | refine AOs.nil ?_
    | refine AW.skip ?_
    | refine andThen_normal ?_
    | refine AOs.guardT (by with_unfolding_all rfl) (by simp only [PT.get_set, Nat.reduceEqDiff, reduceIte]; rfl) (by first | rfl | decide | assumption) ?_
    | refine AW.condF (by simp only [aeval, PT.get_set, Nat.reduceEqDiff, reduceIte]; rfl) (by first | rfl | decide | assumption) ?_
    | ((first
        | refine AOs.op1E tOK (by with_unfolding_all rfl) ?_
        ); refine Step.mk (by simp only [evOp_move, evOp_pick, evOp_binOp, aeval, ofVal, PT.get_set, Nat.reduceEqDiff, reduceIte, Option.map_some, abin_neq, cond_false, decide_true, Bool.not_true, eq_self, g5]; rfl) ?_)
    | fail "stop")
  have hnm1 : ∀ c, ∀ s ∈ (P1 c).names, LName s := fun c s hs => by rw [P1_names] at hs; simp at hs; rw [hs]; exact lname1
  have hnm2 : ∀ c e, ∀ s ∈ (P2 c e).names, LName s := fun c e s hs => by rw [P2_names] at hs; simp at hs; rw [hs]; exact lname2
  have qd := open10b N (fun b hb => (t6.ra b hb).2) t6.a mP (by omega) (hnm1 _) (g := 1) rfl (.inl rfl) (P1_read _).1 (P1_read _).2 rfl (by omega) (scan_all has) (by omega) (by rw [P1_clean])
  rw [P1_clean] at qd
  refine AOs.callQ tOK (fs := []) (cs := []) rfl fn10 ok10 rfl (by simp only [List.map_cons, List.map_nil, List.nil_append, List.append_nil, aeval, ofVal, PT.get_set, Nat.reduceEqDiff, reduceIte] <;> rfl) qd.wf ?_
  rintro r K8 ⟨⟨X8, A8, sv, rfl, o8, hsv⟩, wf8⟩
  have t8 := t6.setA0 hwf o8.disk o8.sub o8.ap
  have hn8 := o8.ap.2
  with_reducible repeat' (first
    | refine AW.seq ?_
    | refine AW.region ?_
    | refine AOs.nil ?_
    | refine andThen_normal ?_
    | ((first
        | refine AOs.op1E tOK (by with_unfolding_all rfl) ?_
        ); refine Step.mk (by simp only [evOp_move, evOp_assign, evOp_extract, aeval, PT.get_set, Nat.reduceEqDiff, reduceIte, Option.map_some, List.getElem?_cons_zero, List.getElem?_cons_succ, eq_self, g7]; rfl) ?_)
    | fail "stop")
  have qf := open10b N (fun b hb => (t8.rb b hb).2) t8.b mP (by omega) (hnm1 _) (g := 1) rfl (.inl rfl) (P1_read _).1 (P1_read _).2 rfl (by omega) (scan_all has) (by omega) (by rw [P1_clean])
  rw [P1_clean] at qf
  refine AOs.callQ tOK (fs := []) (cs := []) rfl fn10 ok10 rfl (by simp only [List.map_cons, List.map_nil, List.nil_append, List.append_nil, aeval, ofVal, PT.get_set, Nat.reduceEqDiff, reduceIte] <;> rfl) qf.wf ?_
  rintro r K9 ⟨⟨Z, B9, tv, rfl, o9, htv⟩, wf9⟩
  have t9 := (t8.swap.setA0 hwf o9.disk o9.sub o9.ap).swap
  have hn9 := o9.ap.2
  have hZn := o9.new
  have z9 : Lo K K9 A8 B9 Z (logO 0 f (1 : Nat) ((framesM a).length : Nat) (a.length : Nat)) := ⟨o9.log.1, fun e => by have := (t8.ra _ e).2; omega, o9.log.2, by have := t8.next; omega⟩
  have hsv9 : RowsAt K9 sv a := (hsv.keep fun b x hb hx => o9.ap.1 b x hx (.inl fun e => by have := (t6.rb b e).2; omega)).rows
  have htv9 := htv.rows
  with_reducible repeat' (first
    | refine AW.seq ?_
    | refine AW.region ?_
    | refine AOs.nil ?_
    | refine andThen_normal ?_
    | refine AOs.guardT (by with_unfolding_all rfl) (by simp only [PT.get_set, Nat.reduceEqDiff, reduceIte]; rfl) (by first | rfl | decide | assumption) ?_
    | ((first
        | refine AOs.op1E tOK (by with_unfolding_all rfl) ?_
        ); refine Step.mk (by simp only [evOp_move, evOp_assign, evOp_pick, evOp_binOp, evOp_extract, aeval, ofVal, PT.get_set, Nat.reduceEqDiff, reduceIte, Option.map_some, abin_neq, cond_false, decide_true, Bool.not_true, List.getElem?_cons_zero, List.getElem?_cons_succ, eq_self]; rfl) ?_)
    | fail "stop")
  refine AOs.callQ tOK (fs := []) (cs := []) rfl fn18 ok18 rfl (by simp only [List.map_cons, List.map_nil, List.nil_append, List.append_nil, aeval, PT.get_set, Nat.reduceEqDiff, reduceIte] <;> rfl) (texts18 N K9 hsv9 (by omega)).wf ?_
  rintro r Kx ⟨⟨stx, kx, nx⟩, wfx⟩
  with_reducible repeat' (first
    | refine AOs.guardT (by with_unfolding_all rfl) (by simp only [PT.get_set, Nat.reduceEqDiff, reduceIte]; rfl) (by first | rfl | decide | assumption) ?_
    | ((first
        | refine AOs.op1E tOK (by with_unfolding_all rfl) ?_
        ); refine Step.mk (by simp only [evOp_move, aeval, PT.get_set, Nat.reduceEqDiff, reduceIte, g0]; rfl) ?_)
    | fail "stop")
  refine AOs.callQ tOK (fs := []) (cs := []) rfl fn17 ok17 rfl (by simp only [List.map_cons, List.map_nil, List.nil_append, List.append_nil, aeval, PT.get_set, Nat.reduceEqDiff, reduceIte] <;> rfl) (texts17 N Kx stx (ha.keep fun b x hb => kx b x (t9.keep b x hb)) (by omega)) ?_
  rintro r K10 ⟨rfl, rfl⟩
  with_reducible repeat' (first
    | refine AOs.guardT (by with_unfolding_all rfl) (by simp only [PT.get_set, Nat.reduceEqDiff, reduceIte]; rfl) (by first | rfl | decide | assumption) ?_
    | ((first
        | refine AOs.op1E tOK (by with_unfolding_all rfl) ?_
        ); refine Step.mk (by simp only [evOp_move, evOp_pick, evOp_not, aeval, ofVal, PT.get_set, Nat.reduceEqDiff, reduceIte, cond_false, Bool.not_true, eq_self]; rfl) ?_)
    | fail "stop")
  have t10 := t9.more kx nx
  have z10 := z9.more kx
  refine AOs.callQ tOK (fs := []) (cs := []) rfl fn18 ok18 rfl (by simp only [List.map_cons, List.map_nil, List.nil_append, List.append_nil, aeval, PT.get_set, Nat.reduceEqDiff, reduceIte] <;> rfl) (texts18 N K10 (htv9.keep kx) (by omega)).wf ?_
  rintro r Kz ⟨⟨stz, kz, nz⟩, wfz⟩
  with_reducible repeat' (first
    | refine AOs.guardT (by with_unfolding_all rfl) (by simp only [PT.get_set, Nat.reduceEqDiff, reduceIte]; rfl) (by first | rfl | decide | assumption) ?_
    | ((first
        | refine AOs.op1E tOK (by with_unfolding_all rfl) ?_
        ); refine Step.mk (by simp only [evOp_move, aeval, PT.get_set, Nat.reduceEqDiff, reduceIte, g0]; rfl) ?_)
    | fail "stop")
  refine AOs.callQ tOK (fs := []) (cs := []) rfl fn17 ok17 rfl (by simp only [List.map_cons, List.map_nil, List.nil_append, List.append_nil, aeval, PT.get_set, Nat.reduceEqDiff, reduceIte] <;> rfl) (texts17 N Kz stz (ha.keep fun b x hb => kz b x (t10.keep b x hb)) (by omega)) ?_
  rintro r K11 ⟨rfl, rfl⟩
  have t11 := t10.more kz nz
  have z11 := z10.more kz
  have hlb := hb.len
  with_reducible repeat' (first
    | refine AW.seq ?_
    | refine AW.region ?_
    | refine AOs.nil ?_
    | refine AW.skip ?_
    | refine andThen_normal ?_
    | refine AOs.guardT (by with_unfolding_all rfl) (by simp only [PT.get_set, Nat.reduceEqDiff, reduceIte]; rfl) (by first | rfl | decide | assumption) ?_
    | refine AW.condF (by simp only [aeval, PT.get_set, Nat.reduceEqDiff, reduceIte]; rfl) (by first | rfl | decide | assumption) ?_
    | ((first
        | refine AOs.op1E tOK (by with_unfolding_all rfl) ?_
        ); refine Step.mk (by simp only [evOp_move, evOp_pick, evOp_not, aeval, ofVal, PT.get_set, Nat.reduceEqDiff, reduceIte, cond_false, Bool.not_true, eq_self]; rfl) ?_)
    | fail "stop")
  refine AOs.callQ tOK (fs := []) (cs := []) rfl fn27 ok27 rfl (by simp only [List.map_cons, List.map_nil, List.nil_append, List.append_nil, aeval, PT.get_set, Nat.reduceEqDiff, reduceIte] <;> rfl) (gen27 N z11.get) ?_
  rintro r K12 ⟨rfl, rfl⟩
  with_reducible repeat' (first
    | refine AW.seq ?_
    | refine AW.region ?_
    | refine AOs.nil ?_
    | refine andThen_normal ?_
    | ((first
        | refine AOs.op1E tOK (by with_unfolding_all rfl) ?_
        ); refine Step.mk (by simp only [evOp_move, evOp_assign, aeval, PT.get_set, Nat.reduceEqDiff, reduceIte, eq_self, Int.cast_ofNat_Int, g1]; rfl) ?_)
    | fail "stop")
  refine AOs.callQ tOK (fs := []) (cs := []) rfl fn22 ok22 rfl (by simp only [List.map_cons, List.map_nil, List.nil_append, List.append_nil, aeval, PT.get_set, Nat.reduceEqDiff, reduceIte] <;> rfl) (recs22 N K12 vb b (hb.keep t11.keep) wfz (by omega)).wf ?_
  rintro rw K13 ⟨⟨sy13, hrw⟩, wf13⟩
  have sy13' : ∀ b x, K12.get b = some x → K13.get b = some x := fun b x hb => sy13.get b x (wfz b x hb) hb
  have t13 := t11.more sy13' sy13.next
  have z13 := z11.more sy13'
  with_reducible repeat' (first
    | ((first
        | refine AOs.op1E tOK (by with_unfolding_all rfl) ?_
        ); refine Step.mk (by simp only [Int.cast_ofNat_Int]; rfl) ?_)
    | fail "stop")
  have qn := next25 N (fun b hb => (t13.rb b hb).2) t13.b mP (by omega) z13.swap.kp (.inl rfl) (.inr (.inl rfl)) hrw.rows (by omega) hbs
  rw [P1_write (by omega)] at qn
  simp only [if_true] at qn
  rw [P1w_remove] at qn
  refine AOs.callQ tOK (fs := []) (cs := []) rfl fn25 ok25 rfl (by simp only [List.map_cons, List.map_nil, List.nil_append, List.append_nil, aeval, PT.get_set, Nat.reduceEqDiff, reduceIte] <;> rfl) qn.wf ?_
  rintro r K14 ⟨⟨rfl, o14⟩, wf14⟩
  have t14 := (t13.swap.setA hwf z13.swap (kind_log _ _ _ _ _) o14.disk o14.sub o14.ap).swap
  have z14 := (z13.swap.own wf13 o14.log o14.sub).swap
  with_reducible repeat' (first
    | refine AOs.guardT (by with_unfolding_all rfl) (by simp only [PT.get_set, Nat.reduceEqDiff, reduceIte]; rfl) (by first | rfl | decide | assumption) ?_
    | ((first
        | refine AOs.op1E tOK (by with_unfolding_all rfl) ?_
        ); refine Step.mk (by simp only [evOp_move, evOp_binOp, aeval, ofVal, PT.get_set, Nat.reduceEqDiff, reduceIte, Option.map_some, abin_neq, decide_true, Bool.not_true, eq_self, Int.cast_ofNat_Int]; rfl) ?_)
    | fail "stop")
  refine AOs.callQ tOK (fs := []) (cs := []) rfl fn27 ok27 rfl (by simp only [List.map_cons, List.map_nil, List.nil_append, List.append_nil, aeval, PT.get_set, Nat.reduceEqDiff, reduceIte] <;> rfl) (gen27 N z14.get) ?_
  rintro r K15 ⟨rfl, rfl⟩
  have hw2 : IntKind.i64.wrap (((1 : Nat) : Int) + 1) = ((1 + 1 : Nat) : Int) := by decide
  have hw2' : IntKind.i64.wrap ((1 : Int) + 1) = 2 := by decide
  with_reducible repeat' (first
    | refine AOs.guardT (by with_unfolding_all rfl) (by simp only [PT.get_set, Nat.reduceEqDiff, reduceIte]; rfl) (by first | rfl | decide | assumption) ?_
    | ((first
        | refine AOs.op1E tOK (by with_unfolding_all rfl) ?_
        ); refine Step.mk (by simp only [evOp_move, evOp_pick, evOp_binOp, aeval, ofVal, PT.get_set, Nat.reduceEqDiff, reduceIte, Option.map_some, abin_add, abin_neq, cond_false, decide_true, Bool.not_true, Nat.reduceAdd, eq_self, Int.cast_ofNat_Int, hw2']; rfl) ?_)
    | fail "stop")
  refine AOs.callQ tOK (fs := []) (cs := []) rfl fn29 ok29 rfl (by simp only [List.map_cons, List.map_nil, List.nil_append, List.append_nil, aeval, PT.get_set, Nat.reduceEqDiff, reduceIte] <;> rfl) (count29 N z14.get) ?_
  rintro r K16 ⟨rfl, rfl⟩
  with_reducible repeat' (first
    | refine AW.seq ?_
    | refine AW.region ?_
    | refine AOs.nil ?_
    | refine AW.skip ?_
    | refine andThen_normal ?_
    | refine AOs.guardT (by with_unfolding_all rfl) (by simp only [PT.get_set, Nat.reduceEqDiff, reduceIte]; rfl) (by first | rfl | decide | assumption) ?_
    | refine AW.condF (by simp only [aeval, PT.get_set, Nat.reduceEqDiff, reduceIte]; rfl) (by first | rfl | decide | assumption) ?_
    | ((first
        | refine AOs.op1E tOK (by with_unfolding_all rfl) ?_
        ); refine Step.mk (by simp only [evOp_move, evOp_pick, evOp_binOp, evOp_len, aeval, ofVal, PT.get_set, Nat.reduceEqDiff, reduceIte, Option.map_some, abin_neq, cond_false, decide_true, Bool.not_true, Nat.reduceAdd, eq_self, Int.cast_ofNat_Int, al37, g1, g7, hlb]; rfl) ?_)
    | fail "stop")
  have mQ := P2_MB (c := framesM a) (b := framesM b) (by omega) (by omega)
  have q2 := open10b N (fun b hb => (t14.rb b hb).2) t14.b mQ (by omega) (hnm2 _ _) (g := 2) rfl (.inr (.inl rfl)) (P2_read _ _).1 (P2_read _ _).2 rfl (by omega) (scan_all hbs) (by omega) (by rw [P2_clean])
  rw [P2_clean] at q2
  refine AOs.callQ tOK (fs := []) (cs := []) rfl fn10 ok10 rfl (by simp only [List.map_cons, List.map_nil, List.nil_append, List.append_nil, aeval, ofVal, PT.get_set, Nat.reduceEqDiff, reduceIte] <;> rfl) q2.wf ?_
  rintro r K17 ⟨⟨W, B17, uv, rfl, o17, huv⟩, wf17⟩
  have t17 := (t14.swap.setA0 hwf o17.disk o17.sub o17.ap).swap
  with_reducible repeat' (first
    | refine AW.seq ?_
    | refine AW.region ?_
    | refine AOs.nil ?_
    | refine andThen_normal ?_
    | refine AOs.guardT (by with_unfolding_all rfl) (by simp only [PT.get_set, Nat.reduceEqDiff, reduceIte]; rfl) (by first | rfl | decide | assumption) ?_
    | ((first
        | refine AOs.op1E tOK (by with_unfolding_all rfl) ?_
        ); refine Step.mk (by simp only [evOp_move, evOp_assign, evOp_binOp, evOp_extract, aeval, ofVal, PT.get_set, Nat.reduceEqDiff, reduceIte, Option.map_some, abin_eql, decide_true, List.getElem?_cons_zero, List.getElem?_cons_succ, Nat.reduceAdd, eq_self, Int.cast_ofNat_Int]; rfl) ?_)
    | fail "stop")
  refine AOs.callQ tOK (fs := []) (cs := []) rfl fn18 ok18 rfl (by simp only [List.map_cons, List.map_nil, List.nil_append, List.append_nil, aeval, PT.get_set, Nat.reduceEqDiff, reduceIte] <;> rfl) (texts18 N K17 huv.rows (by omega)).wf ?_
  rintro r Ku ⟨⟨stu, ku, nu⟩, wfu⟩
  with_reducible repeat' (first
    | refine AOs.guardT (by with_unfolding_all rfl) (by simp only [PT.get_set, Nat.reduceEqDiff, reduceIte]; rfl) (by first | rfl | decide | assumption) ?_
    | ((first
        | refine AOs.op1E tOK (by with_unfolding_all rfl) ?_
        ); refine Step.mk (by simp only [evOp_move, aeval, PT.get_set, Nat.reduceEqDiff, reduceIte, Nat.reduceAdd, Int.cast_ofNat_Int, g1]; rfl) ?_)
    | fail "stop")
  refine AOs.callQ tOK (fs := []) (cs := []) rfl fn17 ok17 rfl (by simp only [List.map_cons, List.map_nil, List.nil_append, List.append_nil, aeval, PT.get_set, Nat.reduceEqDiff, reduceIte] <;> rfl) (texts17 N Ku stu (hb.keep fun b x hb => ku b x (t17.keep b x hb)) (by omega)) ?_
  rintro r K18 ⟨rfl, rfl⟩
  have t18 := t17.more ku nu
  with_reducible repeat' (first
    | refine AOs.guardT (by with_unfolding_all rfl) (by simp only [PT.get_set, Nat.reduceEqDiff, reduceIte]; rfl) (by first | rfl | decide | assumption) ?_
    | ((first
        | refine AOs.op1E tOK (by with_unfolding_all rfl) ?_
        ); refine Step.mk (by simp only [evOp_move, evOp_pick, aeval, ofVal, PT.get_set, Nat.reduceEqDiff, reduceIte, cond_true, Nat.reduceAdd, eq_self, Int.cast_ofNat_Int, g7]; rfl) ?_)
    | fail "stop")
  refine AOs.callQ tOK (fs := []) (cs := []) rfl fn32 ok32 rfl (by simp only [List.map_cons, List.map_nil, List.nil_append, List.append_nil, aeval, PT.get_set, Nat.reduceEqDiff, reduceIte] <;> rfl) (names24 N K18 t18.b (fun p hp => Nat.le_trans (mQ.keys p hp) (by omega)) (Nat.le_trans mQ.ents (by omega))) ?_
  rintro nv K19 ⟨hnv, _, _⟩
  have hnl := hnv.len
  rw [P2_names] at hnl
  with_reducible repeat' (first
    | refine AOs.nil ?_
    | refine AW.ret ?_
    | refine andThen_normal ?_
    | refine AOs.guardT (by with_unfolding_all rfl) (by simp only [PT.get_set, Nat.reduceEqDiff, reduceIte]; rfl) (by first | rfl | decide | assumption) ?_
    | ((first
        | refine AOs.op1E tOK (by with_unfolding_all rfl) ?_
        ); refine Step.mk (by simp only [evOp_assign, evOp_pick, evOp_binOp, evOp_len, aeval, ofVal, PT.get_set, Nat.reduceEqDiff, reduceIte, Option.map_some, abin_eql, cond_true, decide_true, Nat.zero_add, Nat.reduceAdd, List.length_cons, List.length_nil, eq_self, Int.cast_ofNat_Int, al37, hnl]; rfl) ?_)
    | fail "stop")
  exact fnPost_ret1 (by first | (simp only [PT.get_set, Nat.reduceEqDiff, reduceIte]; rfl) | simp only [PT.get_set, Nat.reduceEqDiff, reduceIte]) rfl
end Go.Proofs.YtgihociajfgohaaGreatDoor

open Go Go.AB Go.Proofs
namespace Go.Proofs.YtgihociajfgohaaGreatDoor
set_option maxRecDepth 100000

theorem hasAll_cons {X : Type} {P : Program} {H : AH} {k : Nat} {t : TypeId} {ts : List TypeId} {ds : List (DataW X)} {xs : List AV} (h : HasAll P H k (t :: ts) ds xs) : ∃ (d : DataW X) (ds' : List (DataW X)) (a : AV) (xs' : List AV), xs = a :: xs' ∧ Has P H k t d [a] ∧ HasAll P H k ts ds' xs' := by
  cases ds with
  | nil => exact h.elim
  | cons d ds =>
    obtain ⟨a, xs', h1, h2, h3⟩ := h
    exact ⟨d, ds, a, xs', h1, h2, h3⟩
theorem hasAll_nil {X : Type} {P : Program} {H : AH} {k : Nat} {ds : List (DataW X)} {xs : List AV} (h : HasAll P H k [] ds xs) : xs = [] := by
  cases ds with
  | nil => exact h
  | cons d ds => exact h.elim

section
variable {X : Type} {H : AH}
theorem u37 : Tryz.prog.underlying 37 = some (.slice 9) := by kernel_rfl
theorem u9 : Tryz.prog.underlying 9 = some .string := by kernel_rfl
theorem c9 : Tryz.prog.cellsOf 9 = 1 := by kernel_rfl

theorem has_texts {k : Nat} {d : DataW X} {v : AV} (h : Has Tryz.prog H (k + 2) 37 d [v]) : ∃ l, TextsAt H v l := by
  unfold Has at h
  rw [u37] at h
  rcases h with ⟨_, e⟩ | ⟨_, e⟩ | ⟨b, es, sp, vs, rfl, _, e, hb, hl, hx⟩
  · cases e; exact ⟨[], .inl ⟨.inl rfl, rfl⟩⟩
  · cases e; exact ⟨[], .inl ⟨.inr rfl, rfl⟩⟩
  · cases e
    rw [c9] at hl hx
    have key : ∀ i, i < es.length → ∃ s, vs[i]? = some (AV.str s) := by
      intro i hi
      obtain ⟨x, hxi⟩ : ∃ x, (es ++ sp)[i]? = some x := ⟨_, List.getElem?_eq_getElem (by rw [List.length_append]; omega)⟩
      have h1 := hx i x hxi
      unfold Has at h1
      rw [u9] at h1
      obtain ⟨s, _, _, e⟩ := h1
      have e0 := congrArg (fun l : List AV => l[0]?) e
      simp only [List.getElem?_take, List.getElem?_drop] at e0
      exact ⟨s, by simpa using e0⟩
    refine ⟨(List.range es.length).map fun i => (match vs[i]? with | some (AV.str s) => s | _ => []), .inr ⟨b, _, vs, by simp [c9]; rfl, hb, fun i s hs => ?_⟩⟩
    have hi : i < es.length := by
      have := (List.getElem?_eq_some_iff.1 hs).1
      simpa using this
    obtain ⟨t, ht⟩ := key i hi
    rw [List.getElem?_map, List.getElem?_range hi] at hs
    simp only [Option.map_some, Option.some.injEq, ht] at hs
    subst hs
    exact ht
end

/-- The law, of whatever texts. -/
theorem law7_all {X : Type} {ds : List (DataW X)} (N : Nat) (H : AH) (xs : List AV) (hlt : ∀ b o, H.get b = some o → b < H.next) (h : HasAll Tryz.prog H 8 [37, 37] ds xs) : AC tC N 0 7 xs H fun r _ => r = .bool true := by
  obtain ⟨d1, _, a1, _, rfl, h1, h⟩ := hasAll_cons h
  obtain ⟨d2, _, a2, _, rfl, h2, h⟩ := hasAll_cons h
  obtain rfl := hasAll_nil h
  obtain ⟨l1, b1⟩ := has_texts h1
  obtain ⟨l2, b2⟩ := has_texts h2
  exact parts7 N H b1 b2
end Go.Proofs.YtgihociajfgohaaGreatDoor
