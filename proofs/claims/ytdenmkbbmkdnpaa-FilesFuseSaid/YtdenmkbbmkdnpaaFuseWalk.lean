/- Files: FilesFuse walked from whatever abstract heap; no condition. -/
import Derived.Test.YtdenmkbbmkdnpaaFuseCall
import Derived.Test.YtdenmkbbmkdnpaaHeap5
set_option linter.unusedSimpArgs false
set_option linter.unusedVariables false
open Go Go.AB Go.Proofs
namespace Go.Proofs.Ytdenmkbbmkdnpaa
set_option maxRecDepth 100000

theorem fn6f : tC.fn 6 = some Try.f6 := by kernel_rfl
theorem ok6f : fnOk Try.f6 = true := by kernel_rfl

theorem MB.used' {M : DM} {i : Nat} (h : MB M i) (hi : i ≤ 200) : M.used ≤ 120000000 := by
  have h1 := h.used
  have h2 : 3000 * i ≤ 600000 := by omega
  have h3 : i * (3000 * i) ≤ 200 * 600000 := Nat.mul_le_mul hi h2
  omega
theorem MB.file' {M : DM} {i : Nat} (h : MB M i) (hi : i ≤ 200) (j : Nat) : (M.file j).1.length ≤ 600000 := Nat.le_trans (files_le h.files j) (by omega)

set_option maxHeartbeats 16000000 in
theorem fuse5 (N : Nat) (H : AH) {v : AV} {l : List ActM} (hv : ActsAt H v l) (hll : l.length ≤ 9223372036854775807) {fz : Int} : AC tC N 0 5 [v, .int .i64 fz] H fun r _ => r = .bool true := by
  refine AC.wf0 fun hwf => ?_
  refine AC.by (n := 132) (rs := [.tmp 4]) tOK fn5 rfl rfl rfl rfl ?_
  have e0 : (PT.ofList .leaf 0 [v, AV.int .i64 fz]).get 0 = some v := rfl
  have e1 : (PT.ofList .leaf 0 [v, AV.int .i64 fz]).get 1 = some (.int .i64 fz) := rfl
  have hl := hv.len
  with_reducible repeat' (first
    | refine AW.seq ?_
    | refine AW.region ?_
    | refine AOs.nil ?_
    | refine andThen_normal ?_
    | ((first
        | refine AOs.op1E tOK (by with_unfolding_all rfl) ?_
        ); refine Step.mk (by simp only [evOp_assign, aeval, ofVal]; rfl) ?_)
    | fail "stop")
  refine AOs.callQ tOK (fs := []) (cs := []) rfl fn6f ok6f rfl (by simp only [List.map_nil, List.append_nil] <;> rfl) (lives6 N H) ?_
  rintro r K ⟨rfl, rfl⟩
  with_reducible repeat' (first
    | refine AW.seq ?_
    | refine AW.region ?_
    | refine AOs.nil ?_
    | refine AW.skip ?_
    | refine andThen_normal ?_
    | refine AW.condF (by simp only [aeval, PT.get_set, Nat.reduceEqDiff, reduceIte]; rfl) (by first | rfl | decide | assumption) ?_
    | ((first
        | refine AOs.op1E tOK (by with_unfolding_all rfl) ?_
        ); refine Step.mk (by simp only [evOp_move, evOp_not, aeval, PT.get_set, Nat.reduceEqDiff, reduceIte, Bool.not_true, eq_self, e0]; rfl) ?_)
    | fail "stop")
  refine AOs.callQ tOK (fs := []) (cs := []) rfl fn22 ok22 rfl (by simp only [List.map_cons, List.map_nil, List.nil_append, List.append_nil, aeval, PT.get_set, Nat.reduceEqDiff, reduceIte] <;> rfl) (small22 N K hv hll) ?_
  rintro r K' ⟨rfl, b, rfl, hsm⟩
  cases b with
  | false =>
    with_reducible repeat' (first
      | refine AW.seq ?_
      | refine AW.region ?_
      | refine AOs.nil ?_
      | refine AW.ret ?_
      | refine andThen_normal ?_
      | refine andThen_ret ?_
      | refine AW.condT (by simp only [aeval, PT.get_set, Nat.reduceEqDiff, reduceIte]; rfl) (by first | rfl | decide | assumption) ?_
      | ((first
          | refine AOs.op1E tOK (by with_unfolding_all rfl) ?_
          ); refine Step.mk (by simp only [evOp_assign, evOp_not, aeval, ofVal, PT.get_set, Nat.reduceEqDiff, reduceIte, Bool.not_false, eq_self]; rfl) ?_)
      | fail "stop")
    exact fnPost_ret1 (by first | (simp only [PT.get_set, Nat.reduceEqDiff, reduceIte]; rfl) | simp only [PT.get_set, Nat.reduceEqDiff, reduceIte]) rfl
  | true =>
    obtain ⟨hl200, hfew⟩ := hsm rfl
    with_reducible repeat' (first
      | refine AW.seq ?_
      | refine AW.region ?_
      | refine AOs.nil ?_
      | refine AW.skip ?_
      | refine andThen_normal ?_
      | refine AW.condF (by simp only [aeval, PT.get_set, Nat.reduceEqDiff, reduceIte]; rfl) (by first | rfl | decide | assumption) ?_
      | ((first
          | refine AOs.op1E tOK (by with_unfolding_all rfl) ?_
          ); refine Step.mk (by simp only [evOp_not, aeval, PT.get_set, Nat.reduceEqDiff, reduceIte, Bool.not_true, eq_self]; rfl) ?_)
      | fail "stop")
    refine AOs.callQ tOK (fs := []) (cs := []) rfl fn7 ok7 rfl (by simp only [List.map_cons, List.map_nil, List.nil_append, List.append_nil, aeval, ofVal] <;> rfl) (new7 N K' (room := 1048576) (by omega) (by omega)).wf ?_
    rintro r K0 ⟨⟨da, rfl, h0, h0k, h0n⟩, hwf0⟩
    with_reducible repeat' (first
      | refine AW.seq ?_
      | refine AW.region ?_
      | refine AOs.nil ?_
      | refine andThen_normal ?_
      | ((first
          | refine AOs.op1E tOK (by with_unfolding_all rfl) ?_
          ); refine Step.mk (by simp only [evOp_move, evOp_assign, evOp_extract, aeval, PT.get_set, Nat.reduceEqDiff, reduceIte, Option.map_some, List.getElem?_cons_zero, List.getElem?_cons_succ, eq_self]; rfl) ?_)
      | fail "stop")
    refine AOs.callQ tOK (fs := []) (cs := []) rfl fn7 ok7 rfl (by simp only [List.map_cons, List.map_nil, List.nil_append, List.append_nil, aeval, ofVal] <;> rfl) (new7 N K0 (room := 1048576) (by omega) (by omega)) ?_
    rintro r K1 ⟨db, rfl, h1, h1k, h1n⟩
    have t0 : Two K' K1 da db (DM.new 1048576) (DM.new 1048576) (AddR (fun _ => False) K'.next K0.next) (AddR (fun _ => False) K0.next K1.next) := {
      a := h0.keep ⟨fun b x hb _ => h1k b x hb, h1n⟩ fun _ => id
      b := h1
      dis := fun x hx e => by
        rcases hx with hx | hx
        · exact hx
        · rcases e with e | e
          · exact e
          · omega
      ra := fun x hx => by
        rcases hx with hx | hx
        · exact hx.elim
        · omega
      rb := fun x hx => by
        rcases hx with hx | hx
        · exact hx.elim
        · omega
      keep := fun b x hb => h1k b x (h0k b x hb)
      next := by omega }
    with_reducible repeat' (first
      | refine AW.seq ?_
      | refine AW.region ?_
      | refine AOs.nil ?_
      | refine andThen_normal ?_
      | refine AOs.guardT (by with_unfolding_all rfl) (by simp only [PT.get_set, Nat.reduceEqDiff, reduceIte]; rfl) (by first | rfl | decide | assumption) ?_
      | ((first
          | refine AOs.op1E tOK (by with_unfolding_all rfl) ?_
          ); refine Step.mk (by simp only [evOp_move, evOp_assign, evOp_pick, evOp_binOp, evOp_extract, aeval, ofVal, PT.get_set, Nat.reduceEqDiff, reduceIte, Option.map_some, abin_neq, cond_false, decide_true, Bool.not_true, List.getElem?_cons_zero, List.getElem?_cons_succ, eq_self, e1]; rfl) ?_)
      | fail "stop")
    refine AOs.callQ tOK (fs := []) (cs := []) rfl fn23 ok23 rfl (by simp only [List.map_cons, List.map_nil, List.nil_append, List.append_nil, aeval, ofVal, PT.get_set, Nat.reduceEqDiff, reduceIte] <;> rfl) (pick23 N K1 (x := fz) (m := 60) (by omega) (by omega)) ?_
    rintro r K2 ⟨rfl, rfl⟩
    have hpk := pickM_lt (x := fz) (m := 60) (by omega)
    with_reducible repeat' (first
      | refine AOs.guardT (by with_unfolding_all rfl) (by simp only [PT.get_set, Nat.reduceEqDiff, reduceIte]; rfl) (by first | rfl | decide | assumption) ?_
      | ((first
          | refine AOs.op1E tOK (by with_unfolding_all rfl) ?_
          ); refine Step.mk (by simp only [evOp_move, evOp_assign, evOp_pick, evOp_build, evOp_nilCheck, evOp_binOp, evOp_not, evOp_fieldAddr, evOp_field, evOp_indexAddr, evOp_index, evOp_extract, evOp_makeFunc, evOp_load, evOp_lookup, evOp_store, evOp_mapUpdate, evOp_insert, evOp_range, evOp_makeMap, evOp_len, evOp_append, evOp_copy, evOp_delete, evOp_slice, evOp_convert, evOp_entry, evOp_boxC, boxC_one, boxC_agg, evOp_cap, rangeMapAt, storeAt, one_bool, one_int, one_str, one_nilp, one_ptr, one_nils, one_slice, one_empty, one_nilm, one_map, one_func, one_nilf, one_iface, one_nili, aeval, ofVal, PT.get_set, Nat.reduceEqDiff, reduceIte, lenOfAV_slice, lenOfAV_nils, lenOfAV_empty, cellAt, cellsAt, mapLenAt, lookAt, mapSetAt, mapDelAt, List.map_cons, List.map_nil, Option.map_some, Option.map_none, List.nil_append, List.append_nil, abin_add, abin_sub, abin_mul, abin_lss, abin_leq, abin_gtr, abin_geq, abin_eql, abin_neq, abin_eqlS, abin_neqS, cond_true, cond_false, decide_true, decide_false, Bool.not_true, Bool.not_false, TI.agg, List.getElem?_cons_zero, List.getElem?_cons_succ, Nat.add_zero, Nat.zero_add, Nat.zero_mul, nbeq, nble, nblt, Nat.reduceLeDiff, Nat.reduceLT, Nat.reduceMul, Nat.reduceAdd, Nat.reduceSub, Bool.and_true, Bool.true_and, Bool.and_false, Bool.false_and, List.length_cons, List.length_nil, List.set_cons_zero, List.set_cons_succ, AH.get_set, AH.next_set, eq_self, Int.ofNat_eq_natCast, Int.cast_ofNat_Int, Int.natCast_zero, Int.reduceEq, Int.reduceLT, Int.reduceLE, Int.reduceNeg, ld3, st3, ld4, st4, ld5, st5, al9, ld9, st9, ld20, st20, al22, ix22, bs22, ld22, ne22a, eq22a, ne22b, eq22b, ne22c, eq22c, st22, al23, ix23, bs23, ld23, ne23a, eq23a, ne23b, eq23b, ne23c, eq23c, st23, ld25, ne25a, eq25a, ne25b, eq25b, st25, ld26, st26, ld39, st39, al43, ix43, bs43, ld43, ne43a, eq43a, ne43b, eq43b, ne43c, eq43c, st43, fa47_0, fa47_1, fa47_2, fa47_3, fa47_4, fa47_5, ld47, al48, ix48, bs48, ld48, ne48a, eq48a, ne48b, eq48b, ne48c, eq48c, st48, fa51_0, fa51_1, ld51, an56, am56, ld56, md56, ms56, lk56, ne56a, eq56a, ne56b, eq56b, st56, al57, ix57, bs57, ld57, ne57a, eq57a, ne57b, eq57b, ne57c, eq57c, st57, fa59_0, fa59_1, fa59_2, fa59_3, fa59_4, fa59_5, ld59, ld61, ne61a, eq61a, ne61b, eq61b, st61, fa63_0, fa63_1, ld63, ld65, st65, ld70, st70, al74, ix74, bs74, ld74, ne74a, eq74a, ne74b, eq74b, ne74c, eq74c, st74, e0, e1]; rfl) ?_)
      | fail "stop")
    refine AOs.callQ tOK (fs := []) (cs := []) rfl fn19 ok19 rfl (by simp only [List.map_cons, List.map_nil, List.nil_append, List.append_nil, aeval, PT.get_set, Nat.reduceEqDiff, reduceIte] <;> rfl) (fuse19 N K2 (n := (pickM fz 60 : Nat)) t0.b) ?_
    rintro r K3 ⟨rfl, h3, a3⟩
    have t3 := t0.opB hwf h3 a3
    with_reducible repeat' (first
      | refine AW.seq ?_
      | refine AW.region ?_
      | refine AW.block ?_
      | refine AOs.nil ?_
      | refine AW.skip ?_
      | refine andThen_normal ?_
      | refine AOs.guardT (by with_unfolding_all rfl) (by simp only [PT.get_set, Nat.reduceEqDiff, reduceIte]; rfl) (by first | rfl | decide | assumption) ?_
      | refine AW.condF (by simp only [aeval, PT.get_set, Nat.reduceEqDiff, reduceIte]; rfl) (by first | rfl | decide | assumption) ?_
      | ((first
          | refine AOs.op1E tOK (by with_unfolding_all rfl) ?_
          ); refine Step.mk (by simp only [evOp_assign, evOp_pick, evOp_binOp, aeval, ofVal, PT.get_set, Nat.reduceEqDiff, reduceIte, Option.map_some, abin_neq, cond_false, decide_true, Bool.not_true, eq_self]; rfl) ?_)
      | fail "stop")
    have rel0 : Rel (DM.new 1048576) ((DM.new 1048576).setFuse (pickM fz 60 : Nat)) := ⟨rfl, rfl, rfl, rfl, rfl, rfl, rfl, rfl⟩
    have mb0 : MB (DM.new 1048576) 0 := ⟨DM.new_ok _, rfl, fun p h => by simp [DM.new] at h, Nat.le_refl _, Nat.le_refl _, fun j p h => by simp [DM.new] at h⟩
    have mb1 : MB ((DM.new 1048576).setFuse (pickM fz 60 : Nat)) 0 := ⟨⟨mb0.ok.now, mb0.ok.sf, mb0.ok.notes, by show (-1 : Int) ≤ max (-1) _; omega, by show max (-1 : Int) _ < _; omega, mb0.ok.safe⟩, rfl, mb0.keys, Nat.le_refl _, Nat.le_refl _, mb0.files⟩
    refine AW.loop (fun m T K => ∃ (i : Nat) (off : Bool) (Ma Mb : DM) (A B : Nat → Prop), i ≤ l.length ∧ m = l.length - i ∧ T.get 0 = some v ∧ T.get 5 = some (.ptr da 0) ∧ T.get 7 = some (.ptr db 0) ∧ T.get 9 = some (.bool off) ∧ T.get 10 = some (.int .i64 (i : Nat)) ∧
        Two K' K da db Ma Mb A B ∧ MB Ma i ∧ MB Mb i ∧ (off = false → Rel Ma Mb) ∧ (off = true → Mb.off = true)) ?_ (l.length - 0)
      ⟨0, false, _, _, _, _, by omega, rfl, by simp [PT.get_set, e0], by simp [PT.get_set], by simp [PT.get_set], by simp [PT.get_set], by simp [PT.get_set], t3, mb0, mb1, fun _ => rel0, fun h => by cases h⟩
    rintro m T K ⟨i, off, Ma, Mb, A, B, hi, rfl, g0, g5, g7, g9, g10, two, ma, mb, hrel, hoff⟩
    by_cases hlt : i < l.length
    · have hd := lt_int hlt
      have hi200 : i ≤ 200 := by omega
      obtain ⟨a, ha⟩ : ∃ a, l[i]? = some a := ⟨_, List.getElem?_eq_getElem hlt⟩
      have hfa := hfew a (List.mem_of_getElem? ha)
      rcases hv with ⟨_, hv0⟩ | ⟨vb, vc, vs, rfl, hvb, hvx⟩
      · rw [hv0] at hlt; simp at hlt
      obtain ⟨bv, bp, hact⟩ := hvx i a ha
      have hcs := hact.1
      obtain ⟨c0, -, -, -, -, -⟩ := cells6 hcs
      have hvK := two.keep _ _ hvb
      with_reducible repeat' (first
        | refine AW.seq ?_
        | refine AW.region ?_
        | refine AW.block ?_
        | refine AOs.nil ?_
        | refine AW.skip ?_
        | refine andThen_normal ?_
        | refine AW.condT (by simp only [aeval, PT.get_set, Nat.reduceEqDiff, reduceIte]; rfl) (by first | rfl | decide | assumption) ?_
        | ((first
            | refine AOs.op1E tOK (by with_unfolding_all rfl) ?_
            ); refine Step.mk (by simp only [evOp_move, evOp_binOp, evOp_fieldAddr, evOp_indexAddr, evOp_load, evOp_len, aeval, PT.get_set, Nat.reduceEqDiff, reduceIte, cellAt, Option.map_some, abin_lss, Nat.add_zero, Nat.zero_add, eq_self, ld3, al43, ix43, fa47_0, g0, g10, hd, hl, hlt, hvK, c0]; rfl) ?_)
        | fail "stop")
      refine AOs.callQ tOK (fs := []) (cs := []) rfl fn23 ok23 rfl (by simp only [List.map_cons, List.map_nil, List.nil_append, List.append_nil, aeval, ofVal, PT.get_set, Nat.reduceEqDiff, reduceIte] <;> rfl) (pick23 N K (x := a.kind) (m := 9) (by omega) (by omega)) ?_
      rintro r Kk ⟨rfl, rfl⟩
      obtain ⟨k, hk⟩ : ∃ k, pickM a.kind 9 = k := ⟨_, rfl⟩
      rw [hk]
      by_cases h6 : k = 6
      · have d6 : decide ((k : Int) = 6) = true := decide_eq_true (by omega)
        with_reducible repeat' (first
          | refine AW.seq ?_
          | refine AW.region ?_
          | refine AOs.nil ?_
          | refine AW.exit ?_
          | refine andThen_normal ?_
          | refine andThen_exit ?_
          | refine inBlock_hit ?_
          | refine AOs.guardF (by with_unfolding_all rfl) (by simp only [PT.get_set, Nat.reduceEqDiff, reduceIte]; rfl) (by first | rfl | decide | assumption) (by with_unfolding_all rfl) ?_
          | refine AW.condT (by simp only [aeval, PT.get_set, Nat.reduceEqDiff, reduceIte]; rfl) (by first | rfl | decide | assumption) ?_
          | ((first
              | refine AOs.op1E tOK (by with_unfolding_all rfl) ?_
              ); refine Step.mk (by simp only [evOp_move, evOp_assign, evOp_pick, evOp_binOp, aeval, ofVal, PT.get_set, Nat.reduceEqDiff, reduceIte, Option.map_some, abin_add, abin_eql, cond_true, eq_self, g10, d6]; rfl) ?_)
          | fail "stop")
        exact ⟨l.length - (i + 1), by omega, i + 1, off, Ma, Mb, A, B, by omega, rfl, by simp only [PT.get_set, Nat.reduceEqDiff, reduceIte, g0], by simp only [PT.get_set, Nat.reduceEqDiff, reduceIte, g5], by simp only [PT.get_set, Nat.reduceEqDiff, reduceIte, g7], by simp only [PT.get_set, Nat.reduceEqDiff, reduceIte, g9], by simp only [PT.get_set, Nat.reduceEqDiff, reduceIte, wrap64_succ (show i < 9223372036854775807 by omega)], two, ma.mono (by omega), mb.mono (by omega), hrel, hoff⟩
      have d6 : decide ((k : Int) = 6) = false := decide_eq_false (by omega)
      by_cases h7 : k = 7
      · have d7 : decide ((k : Int) = 7) = true := decide_eq_true (by omega)
        with_reducible repeat' (first
          | refine AW.seq ?_
          | refine AW.region ?_
          | refine AOs.nil ?_
          | refine AW.exit ?_
          | refine andThen_normal ?_
          | refine andThen_exit ?_
          | refine inBlock_hit ?_
          | refine AOs.guardT (by with_unfolding_all rfl) (by simp only [PT.get_set, Nat.reduceEqDiff, reduceIte]; rfl) (by first | rfl | decide | assumption) ?_
          | refine AW.condT (by simp only [aeval, PT.get_set, Nat.reduceEqDiff, reduceIte]; rfl) (by first | rfl | decide | assumption) ?_
          | ((first
              | refine AOs.op1E tOK (by with_unfolding_all rfl) ?_
              ); refine Step.mk (by simp only [evOp_move, evOp_assign, evOp_pick, evOp_binOp, aeval, ofVal, PT.get_set, Nat.reduceEqDiff, reduceIte, Option.map_some, abin_add, abin_eql, cond_false, eq_self, g10, d6, d7]; rfl) ?_)
          | fail "stop")
        exact ⟨l.length - (i + 1), by omega, i + 1, off, Ma, Mb, A, B, by omega, rfl, by simp only [PT.get_set, Nat.reduceEqDiff, reduceIte, g0], by simp only [PT.get_set, Nat.reduceEqDiff, reduceIte, g5], by simp only [PT.get_set, Nat.reduceEqDiff, reduceIte, g7], by simp only [PT.get_set, Nat.reduceEqDiff, reduceIte, g9], by simp only [PT.get_set, Nat.reduceEqDiff, reduceIte, wrap64_succ (show i < 9223372036854775807 by omega)], two, ma.mono (by omega), mb.mono (by omega), hrel, hoff⟩
      have d7 : decide ((k : Int) = 7) = false := decide_eq_false (by omega)
      have hu1 : Mb.used < 1000000000 := by have := mb.used' hi200; omega
      have hu2 : Ma.used < 1000000000 := by have := ma.used' hi200; omega
      cases off with
      | true =>
        have hof := hoff rfl
        with_reducible repeat' (first
          | refine AW.seq ?_
          | refine AW.region ?_
          | refine AOs.nil ?_
          | refine AW.skip ?_
          | refine andThen_normal ?_
          | refine AOs.guardT (by with_unfolding_all rfl) (by simp only [PT.get_set, Nat.reduceEqDiff, reduceIte]; rfl) (by first | rfl | decide | assumption) ?_
          | refine AW.condT (by simp only [aeval, PT.get_set, Nat.reduceEqDiff, reduceIte]; rfl) (by first | rfl | decide | assumption) ?_
          | refine AW.condF (by simp only [aeval, PT.get_set, Nat.reduceEqDiff, reduceIte]; rfl) (by first | rfl | decide | assumption) ?_
          | ((first
              | refine AOs.op1E tOK (by with_unfolding_all rfl) ?_
              ); refine Step.mk (by simp only [evOp_move, evOp_assign, evOp_pick, evOp_binOp, aeval, ofVal, PT.get_set, Nat.reduceEqDiff, reduceIte, Option.map_some, abin_eql, cond_false, eq_self, g7, g9, d6, d7]; rfl) ?_)
          | fail "stop")
        refine AOs.callQ tOK (fs := []) (cs := []) rfl fn24 ok24 rfl (by simp only [List.map_cons, List.map_nil, List.nil_append, List.append_nil, aeval, PT.get_set, Nat.reduceEqDiff, reduceIte] <;> rfl) (names24f N Kk two.b (fun p hp => Nat.le_trans (mb.keys p hp) (by omega)) (Nat.le_trans mb.ents (by omega))).wf ?_
        rintro was Ka ⟨⟨w1, w2, w3, w4⟩, hwfa⟩
        have twoa := two.more w2 w3
        with_reducible repeat' (first
          | ((first
              | refine AOs.op1E tOK (by with_unfolding_all rfl) ?_
              ); refine Step.mk (by simp only [evOp_move, aeval, PT.get_set, Nat.reduceEqDiff, reduceIte, g7]; rfl) ?_)
          | fail "stop")
        refine AOs.callQ tOK (fs := []) (cs := []) rfl fn17 ok17 rfl (by simp only [List.map_cons, List.map_nil, List.nil_append, List.append_nil, aeval, PT.get_set, Nat.reduceEqDiff, reduceIte] <;> rfl) (left17 N Ka twoa.b mb.ok (by omega) (by rw [mb.room]; omega) (by rw [mb.room]; omega)) ?_
        rintro r Kb ⟨rfl, rfl⟩
        have hvK := twoa.keep _ _ hvb
        with_reducible repeat' (first
          | refine AW.seq ?_
          | refine AW.region ?_
          | refine AOs.nil ?_
          | refine andThen_normal ?_
          | ((first
              | refine AOs.op1E tOK (by with_unfolding_all rfl) ?_
              ); refine Step.mk (by simp only [evOp_move, evOp_assign, evOp_indexAddr, evOp_load, aeval, PT.get_set, Nat.reduceEqDiff, reduceIte, cellsAt, Option.map_some, cond_true, decide_true, Nat.zero_add, nbeq, Nat.reduceAdd, List.length_cons, List.length_nil, eq_self, ix43, ld47, g0, g7, g10, hvK, hcs, hlt]; rfl) ?_)
          | fail "stop")
        have q := call25 N Kb (k := k) (fun b hb => (twoa.rb b hb).2) twoa.b mb.ok (Nat.le_trans mb.notes (by omega)) hu1 (fun j => Nat.le_trans (mb.file' hi200 j) (by omega)) (by rw [mb.room]; omega) (by rw [mb.room]; omega) (hact.keep twoa.keep) hfa.2.2.1 hk h6 h7
        obtain ⟨ho1, ho2⟩ := off_call hof k a
        rw [ho1] at q
        generalize (callM Mb k a).1 = y at q ho2
        obtain ⟨s, e⟩ := y
        simp only at q ho2
        rw [hcs] at q
        refine AOs.callQ tOK (fs := []) (cs := []) rfl fn25 ok25 rfl (by simp only [List.map_cons, List.map_nil, List.nil_append, List.append_nil, aeval, PT.get_set, Nat.reduceEqDiff, reduceIte] <;> rfl) q.wf ?_
        rintro r Kc ⟨⟨rfl, hc, ac⟩, hwfc⟩
        have twoc := twoa.opB hwf hc ac
        obtain ⟨Kd, hKd⟩ : ∃ Kd, Kd = (Kc.alloc (ansO [] 0)).set Kc.next (ansO s e) := ⟨_, rfl⟩
        have hst : astore tC (Kc.alloc (ansO [] 0)) 51 (.ptr Kc.next 0) (.agg [.str s, .int .i64 e]) = some Kd := by rw [hKd]; exact st51 (by rw [AH.get_alloc, if_pos rfl])
        have twod := twoc.ans hwfc hwf s e
        rw [← hKd] at twod
        have hgd : Kd.get Kc.next = some (.cells false [.str s, .int .i64 e]) := by rw [hKd, AH.get_set, if_pos rfl]; rfl
        have hcd : ∀ b x, Kc.get b = some x → Kd.get b = some x := fun b x hb => by
          have := hwfc b x hb
          rw [hKd, AH.get_set, if_neg (by omega), AH.get_alloc, if_neg (by omega)]; exact hb
        have hwas : StrsAt Kd was Mb.names := StrsAt.keep w1 fun b o n c z e x hx => by
          have hb := w4 b o n c z e
          exact hcd b x (ac.1 b x hx (.inl fun hB => by have := (two.rb b hB).2; omega))
        rcases ho2 with rfl | rfl
        · with_reducible repeat' (first
            | refine AW.seq ?_
            | refine AW.region ?_
            | refine AOs.nil ?_
            | refine andThen_normal ?_
            | refine AOs.guardT (by with_unfolding_all rfl) (by simp only [PT.get_set, Nat.reduceEqDiff, reduceIte]; rfl) (by first | rfl | decide | assumption) ?_
            | refine AOs.guardF (by with_unfolding_all rfl) (by simp only [PT.get_set, Nat.reduceEqDiff, reduceIte]; rfl) (by first | rfl | decide | assumption) (by with_unfolding_all rfl) ?_
            | ((first
                | refine AOs.op1E tOK (by with_unfolding_all rfl) ?_
                | refine AOs.op0E tOK ?_
                ); refine Step.mk (by simp only [evOp_move, evOp_pick, evOp_binOp, evOp_fieldAddr, evOp_load, evOp_store, aeval, ofVal, PT.get_set, Nat.reduceEqDiff, reduceIte, cellAt, Option.map_some, abin_neq, cond_false, decide_true, Bool.not_true, List.getElem?_cons_zero, List.getElem?_cons_succ, Nat.zero_add, eq_self, ld26, fa51_1, g7, al51, hst, hgd]; rfl) ?_)
            | fail "stop")
          refine AOs.callQ tOK (fs := []) (cs := []) rfl fn21 ok21 rfl (by simp only [List.map_cons, List.map_nil, List.nil_append, List.append_nil, aeval, PT.get_set, Nat.reduceEqDiff, reduceIte] <;> rfl) (on21 N Kd twod.b) ?_
          rintro r Ke ⟨rfl, rfl⟩
          rw [hof]
          with_reducible repeat' (first
            | refine AOs.guardT (by with_unfolding_all rfl) (by simp only [PT.get_set, Nat.reduceEqDiff, reduceIte]; rfl) (by first | rfl | decide | assumption) ?_
            | ((first
                | refine AOs.op1E tOK (by with_unfolding_all rfl) ?_
                ); refine Step.mk (by simp only [evOp_move, evOp_pick, aeval, ofVal, PT.get_set, Nat.reduceEqDiff, reduceIte, cond_false, Bool.not_true, eq_self, g7]; rfl) ?_)
            | fail "stop")
          refine AOs.callQ tOK (fs := []) (cs := []) rfl fn17 ok17 rfl (by simp only [List.map_cons, List.map_nil, List.nil_append, List.append_nil, aeval, PT.get_set, Nat.reduceEqDiff, reduceIte] <;> rfl) (left17 N Ke twod.b mb.ok (by omega) (by rw [mb.room]; omega) (by rw [mb.room]; omega)) ?_
          rintro r Kf ⟨rfl, rfl⟩
          with_reducible repeat' (first
            | refine AOs.guardT (by with_unfolding_all rfl) (by simp only [PT.get_set, Nat.reduceEqDiff, reduceIte]; rfl) (by first | rfl | decide | assumption) ?_
            | ((first
                | refine AOs.op1E tOK (by with_unfolding_all rfl) ?_
                ); refine Step.mk (by simp only [evOp_move, evOp_pick, evOp_binOp, aeval, ofVal, PT.get_set, Nat.reduceEqDiff, reduceIte, Option.map_some, abin_neq, cond_false, decide_true, Bool.not_true, eq_self, g7]; rfl) ?_)
            | fail "stop")
          refine AOs.callQ tOK (fs := []) (cs := []) rfl fn24 ok24 rfl (by simp only [List.map_cons, List.map_nil, List.nil_append, List.append_nil, aeval, PT.get_set, Nat.reduceEqDiff, reduceIte] <;> rfl) (names24f N Kf twod.b (fun p hp => Nat.le_trans (mb.keys p hp) (by omega)) (Nat.le_trans mb.ents (by omega))) ?_
          rintro r Kg ⟨z1, z2, z3, z4⟩
          with_reducible repeat' (first
            | refine AOs.guardT (by with_unfolding_all rfl) (by simp only [PT.get_set, Nat.reduceEqDiff, reduceIte]; rfl) (by first | rfl | decide | assumption) ?_
            | ((first
                | refine AOs.op1E tOK (by with_unfolding_all rfl) ?_
                ); refine Step.mk (by simp only [evOp_move, aeval, PT.get_set, Nat.reduceEqDiff, reduceIte, Bool.not_true, eq_self]; rfl) ?_)
            | fail "stop")
          refine AOs.callQ tOK (fs := []) (cs := []) rfl fn26 ok26 rfl (by simp only [List.map_cons, List.map_nil, List.nil_append, List.append_nil, aeval, PT.get_set, Nat.reduceEqDiff, reduceIte] <;> rfl) (texts26 N Kg z1 (StrsAt.keep hwas fun b o n c z _ x hx => z2 b x hx) (by unfold DM.names; rw [(isortK_perm _).length_eq, List.length_map]; exact Nat.le_trans mb.ents (by omega))) ?_
          rintro r Kh ⟨rfl, rfl⟩
          with_reducible repeat' (first
            | refine AW.region ?_
            | refine AOs.nil ?_
            | refine AW.skip ?_
            | refine AW.exit ?_
            | refine andThen_normal ?_
            | refine andThen_exit ?_
            | refine inBlock_hit ?_
            | refine AOs.guardT (by with_unfolding_all rfl) (by simp only [PT.get_set, Nat.reduceEqDiff, reduceIte]; rfl) (by first | rfl | decide | assumption) ?_
            | refine AW.condF (by simp only [aeval, PT.get_set, Nat.reduceEqDiff, reduceIte]; rfl) (by first | rfl | decide | assumption) ?_
            | ((first
                | refine AOs.op1E tOK (by with_unfolding_all rfl) ?_
                ); refine Step.mk (by simp only [evOp_move, evOp_assign, evOp_pick, evOp_binOp, evOp_not, aeval, ofVal, PT.get_set, Nat.reduceEqDiff, reduceIte, Option.map_some, abin_add, cond_false, Bool.not_true, eq_self, g10]; rfl) ?_)
            | fail "stop")
          exact ⟨l.length - (i + 1), by omega, i + 1, true, Ma, Mb, _, _, by omega, rfl, by simp only [PT.get_set, Nat.reduceEqDiff, reduceIte, g0], by simp only [PT.get_set, Nat.reduceEqDiff, reduceIte, g5], by simp only [PT.get_set, Nat.reduceEqDiff, reduceIte, g7], by simp only [PT.get_set, Nat.reduceEqDiff, reduceIte, g9], by simp only [PT.get_set, Nat.reduceEqDiff, reduceIte, wrap64_succ (show i < 9223372036854775807 by omega)], twod.more z2 z3, ma.mono (by omega), mb.mono (by omega), (fun h => by cases h), fun _ => hof⟩
        · with_reducible repeat' (first
            | refine AW.seq ?_
            | refine AW.region ?_
            | refine AOs.nil ?_
            | refine andThen_normal ?_
            | refine AOs.guardT (by with_unfolding_all rfl) (by simp only [PT.get_set, Nat.reduceEqDiff, reduceIte]; rfl) (by first | rfl | decide | assumption) ?_
            | ((first
                | refine AOs.op1E tOK (by with_unfolding_all rfl) ?_
                | refine AOs.op0E tOK ?_
                ); refine Step.mk (by simp only [evOp_move, evOp_pick, evOp_binOp, evOp_fieldAddr, evOp_load, evOp_store, aeval, ofVal, PT.get_set, Nat.reduceEqDiff, reduceIte, cellAt, Option.map_some, abin_neq, cond_true, decide_true, decide_false, Bool.not_true, Bool.not_false, List.getElem?_cons_zero, List.getElem?_cons_succ, Nat.zero_add, eq_self, Int.reduceEq, ld26, fa51_1, g7, al51, hst, hgd]; rfl) ?_)
            | fail "stop")
          refine AOs.callQ tOK (fs := []) (cs := []) rfl fn21 ok21 rfl (by simp only [List.map_cons, List.map_nil, List.nil_append, List.append_nil, aeval, PT.get_set, Nat.reduceEqDiff, reduceIte] <;> rfl) (on21 N Kd twod.b) ?_
          rintro r Ke ⟨rfl, rfl⟩
          rw [hof]
          with_reducible repeat' (first
            | refine AOs.guardT (by with_unfolding_all rfl) (by simp only [PT.get_set, Nat.reduceEqDiff, reduceIte]; rfl) (by first | rfl | decide | assumption) ?_
            | ((first
                | refine AOs.op1E tOK (by with_unfolding_all rfl) ?_
                ); refine Step.mk (by simp only [evOp_move, evOp_pick, aeval, ofVal, PT.get_set, Nat.reduceEqDiff, reduceIte, cond_false, Bool.not_true, eq_self, g7]; rfl) ?_)
            | fail "stop")
          refine AOs.callQ tOK (fs := []) (cs := []) rfl fn17 ok17 rfl (by simp only [List.map_cons, List.map_nil, List.nil_append, List.append_nil, aeval, PT.get_set, Nat.reduceEqDiff, reduceIte] <;> rfl) (left17 N Ke twod.b mb.ok (by omega) (by rw [mb.room]; omega) (by rw [mb.room]; omega)) ?_
          rintro r Kf ⟨rfl, rfl⟩
          with_reducible repeat' (first
            | refine AOs.guardT (by with_unfolding_all rfl) (by simp only [PT.get_set, Nat.reduceEqDiff, reduceIte]; rfl) (by first | rfl | decide | assumption) ?_
            | ((first
                | refine AOs.op1E tOK (by with_unfolding_all rfl) ?_
                ); refine Step.mk (by simp only [evOp_move, evOp_pick, evOp_binOp, aeval, ofVal, PT.get_set, Nat.reduceEqDiff, reduceIte, Option.map_some, abin_neq, cond_false, decide_true, Bool.not_true, eq_self, g7]; rfl) ?_)
            | fail "stop")
          refine AOs.callQ tOK (fs := []) (cs := []) rfl fn24 ok24 rfl (by simp only [List.map_cons, List.map_nil, List.nil_append, List.append_nil, aeval, PT.get_set, Nat.reduceEqDiff, reduceIte] <;> rfl) (names24f N Kf twod.b (fun p hp => Nat.le_trans (mb.keys p hp) (by omega)) (Nat.le_trans mb.ents (by omega))) ?_
          rintro r Kg ⟨z1, z2, z3, z4⟩
          with_reducible repeat' (first
            | refine AOs.guardT (by with_unfolding_all rfl) (by simp only [PT.get_set, Nat.reduceEqDiff, reduceIte]; rfl) (by first | rfl | decide | assumption) ?_
            | ((first
                | refine AOs.op1E tOK (by with_unfolding_all rfl) ?_
                ); refine Step.mk (by simp only [evOp_move, aeval, PT.get_set, Nat.reduceEqDiff, reduceIte, Bool.not_true, eq_self]; rfl) ?_)
            | fail "stop")
          refine AOs.callQ tOK (fs := []) (cs := []) rfl fn26 ok26 rfl (by simp only [List.map_cons, List.map_nil, List.nil_append, List.append_nil, aeval, PT.get_set, Nat.reduceEqDiff, reduceIte] <;> rfl) (texts26 N Kg z1 (StrsAt.keep hwas fun b o n c z _ x hx => z2 b x hx) (by unfold DM.names; rw [(isortK_perm _).length_eq, List.length_map]; exact Nat.le_trans mb.ents (by omega))) ?_
          rintro r Kh ⟨rfl, rfl⟩
          with_reducible repeat' (first
            | refine AW.region ?_
            | refine AOs.nil ?_
            | refine AW.skip ?_
            | refine AW.exit ?_
            | refine andThen_normal ?_
            | refine andThen_exit ?_
            | refine inBlock_hit ?_
            | refine AOs.guardT (by with_unfolding_all rfl) (by simp only [PT.get_set, Nat.reduceEqDiff, reduceIte]; rfl) (by first | rfl | decide | assumption) ?_
            | refine AW.condF (by simp only [aeval, PT.get_set, Nat.reduceEqDiff, reduceIte]; rfl) (by first | rfl | decide | assumption) ?_
            | ((first
                | refine AOs.op1E tOK (by with_unfolding_all rfl) ?_
                ); refine Step.mk (by simp only [evOp_move, evOp_assign, evOp_pick, evOp_binOp, evOp_not, aeval, ofVal, PT.get_set, Nat.reduceEqDiff, reduceIte, Option.map_some, abin_add, cond_false, Bool.not_true, eq_self, g10]; rfl) ?_)
            | fail "stop")
          exact ⟨l.length - (i + 1), by omega, i + 1, true, Ma, Mb, _, _, by omega, rfl, by simp only [PT.get_set, Nat.reduceEqDiff, reduceIte, g0], by simp only [PT.get_set, Nat.reduceEqDiff, reduceIte, g5], by simp only [PT.get_set, Nat.reduceEqDiff, reduceIte, g7], by simp only [PT.get_set, Nat.reduceEqDiff, reduceIte, g9], by simp only [PT.get_set, Nat.reduceEqDiff, reduceIte, wrap64_succ (show i < 9223372036854775807 by omega)], twod.more z2 z3, ma.mono (by omega), mb.mono (by omega), (fun h => by cases h), fun _ => hof⟩
      | false =>
        have rel := hrel rfl
        with_reducible repeat' (first
          | refine AW.seq ?_
          | refine AW.region ?_
          | refine AOs.nil ?_
          | refine AW.skip ?_
          | refine andThen_normal ?_
          | refine AOs.guardT (by with_unfolding_all rfl) (by simp only [PT.get_set, Nat.reduceEqDiff, reduceIte]; rfl) (by first | rfl | decide | assumption) ?_
          | refine AW.condF (by simp only [aeval, PT.get_set, Nat.reduceEqDiff, reduceIte]; rfl) (by first | rfl | decide | assumption) ?_
          | ((first
              | refine AOs.op1E tOK (by with_unfolding_all rfl) ?_
              ); refine Step.mk (by simp only [evOp_move, evOp_assign, evOp_pick, evOp_binOp, evOp_indexAddr, evOp_load, aeval, ofVal, PT.get_set, Nat.reduceEqDiff, reduceIte, cellsAt, Option.map_some, abin_eql, cond_true, cond_false, decide_true, Nat.zero_add, nbeq, Nat.reduceAdd, List.length_cons, List.length_nil, eq_self, ix43, ld47, g0, g7, g9, g10, d6, d7, hvK, hcs, hlt]; rfl) ?_)
          | fail "stop")
        have q := call25 N Kk (k := k) (fun b hb => (two.rb b hb).2) two.b mb.ok (Nat.le_trans mb.notes (by omega)) hu1 (fun j => Nat.le_trans (mb.file' hi200 j) (by omega)) (by rw [mb.room]; omega) (by rw [mb.room]; omega) (hact.keep two.keep) hfa.2.2.1 hk h6 h7
        have come := rel.call k a
        have mbn := mb.call (k := k) hfa
        unfold Come at come
        generalize (callM Mb k a).1 = y at q come
        generalize (callM Mb k a).2 = Mb' at q come mbn
        obtain ⟨s, e⟩ := y
        simp only at q come
        rw [hcs] at q
        refine AOs.callQ tOK (fs := []) (cs := []) rfl fn25 ok25 rfl (by simp only [List.map_cons, List.map_nil, List.nil_append, List.append_nil, aeval, PT.get_set, Nat.reduceEqDiff, reduceIte] <;> rfl) q.wf ?_
        rintro r Kc ⟨⟨rfl, hc, ac⟩, hwfc⟩
        have twoc := two.opB hwf hc ac
        obtain ⟨Kd, hKd⟩ : ∃ Kd, Kd = (Kc.alloc (ansO [] 0)).set Kc.next (ansO s e) := ⟨_, rfl⟩
        have hst : astore tC (Kc.alloc (ansO [] 0)) 51 (.ptr Kc.next 0) (.agg [.str s, .int .i64 e]) = some Kd := by rw [hKd]; exact st51 (by rw [AH.get_alloc, if_pos rfl])
        have twod := twoc.ans hwfc hwf s e
        rw [← hKd] at twod
        have hgd : Kd.get Kc.next = some (.cells false [.str s, .int .i64 e]) := by rw [hKd, AH.get_set, if_pos rfl]; rfl
        have hcd : ∀ b x, Kc.get b = some x → Kd.get b = some x := fun b x hb => by
          have := hwfc b x hb
          rw [hKd, AH.get_set, if_neg (by omega), AH.get_alloc, if_neg (by omega)]; exact hb
        have hub : Mb'.used < 1000000000 := by
          have h1 := mbn.used
          have h2 : 3000 * (i + 1) ≤ 603000 := by omega
          have h3 : (i + 1) * (3000 * (i + 1)) ≤ 201 * 603000 := Nat.mul_le_mul (by omega) h2
          omega
        rcases come with ⟨rfl, rfl⟩ | ⟨hne, heq, hrl⟩
        · have hnm : Mb.out.names = Ma.names := rel.names
          have hus : Mb.out.room - (Mb.out.used : Int) = Ma.room - (Ma.used : Int) := by
            show Mb.room - (Mb.used : Int) = _
            rw [rel.room, rel.used]
          have hon : Mb.out.off = true := rfl
          have heq4 := fun cst => eq4 cst false true
          with_reducible repeat' (first
            | refine AW.seq ?_
            | refine AW.region ?_
            | refine AOs.nil ?_
            | refine andThen_normal ?_
            | refine AW.condT (by simp only [aeval, PT.get_set, Nat.reduceEqDiff, reduceIte]; rfl) (by first | rfl | decide | assumption) ?_
            | ((first
                | refine AOs.op1E tOK (by with_unfolding_all rfl) ?_
                | refine AOs.op0E tOK ?_
                ); refine Step.mk (by simp only [evOp_move, evOp_assign, evOp_binOp, evOp_fieldAddr, evOp_load, evOp_store, aeval, ofVal, PT.get_set, Nat.reduceEqDiff, reduceIte, cellAt, Option.map_some, abin_eql, decide_true, List.getElem?_cons_zero, List.getElem?_cons_succ, Nat.zero_add, eq_self, ld26, fa51_1, g5, al51, hst, hgd]; rfl) ?_)
            | fail "stop")
          refine AOs.callQ tOK (fs := []) (cs := []) rfl fn24 ok24 rfl (by simp only [List.map_cons, List.map_nil, List.nil_append, List.append_nil, aeval, PT.get_set, Nat.reduceEqDiff, reduceIte] <;> rfl) (names24f N Kd twod.a (fun p hp => Nat.le_trans (ma.keys p hp) (by omega)) (Nat.le_trans ma.ents (by omega))) ?_
          rintro r Kg ⟨z1, z2, z3, z4⟩
          with_reducible repeat' (first
            | ((first
                | refine AOs.op1E tOK (by with_unfolding_all rfl) ?_
                ); refine Step.mk (by simp only [evOp_move, aeval, PT.get_set, Nat.reduceEqDiff, reduceIte, g7]; rfl) ?_)
            | fail "stop")
          have twog := twod.more z2 z3
          refine AOs.callQ tOK (fs := []) (cs := []) rfl fn24 ok24 rfl (by simp only [List.map_cons, List.map_nil, List.nil_append, List.append_nil, aeval, PT.get_set, Nat.reduceEqDiff, reduceIte] <;> rfl) (names24f N Kg twog.b (fun p hp => Nat.le_trans (mbn.keys p hp) (by omega)) (Nat.le_trans mbn.ents (by omega))) ?_
          rintro r' Kh ⟨y1, y2, y3, y4⟩
          rw [hnm] at y1
          with_reducible repeat' (first
            | ((first
                | refine AOs.op1E tOK (by with_unfolding_all rfl) ?_
                ); refine Step.mk (by simp only [evOp_move, evOp_assign, evOp_pick, evOp_build, evOp_nilCheck, evOp_binOp, evOp_not, evOp_fieldAddr, evOp_field, evOp_indexAddr, evOp_index, evOp_extract, evOp_makeFunc, evOp_load, evOp_lookup, evOp_store, evOp_mapUpdate, evOp_insert, evOp_range, evOp_makeMap, evOp_len, evOp_append, evOp_copy, evOp_delete, evOp_slice, evOp_convert, evOp_entry, evOp_boxC, boxC_one, boxC_agg, evOp_cap, rangeMapAt, storeAt, one_bool, one_int, one_str, one_nilp, one_ptr, one_nils, one_slice, one_empty, one_nilm, one_map, one_func, one_nilf, one_iface, one_nili, aeval, ofVal, PT.get_set, Nat.reduceEqDiff, reduceIte, lenOfAV_slice, lenOfAV_nils, lenOfAV_empty, cellAt, cellsAt, mapLenAt, lookAt, mapSetAt, mapDelAt, List.map_cons, List.map_nil, Option.map_some, Option.map_none, List.nil_append, List.append_nil, abin_add, abin_sub, abin_mul, abin_lss, abin_leq, abin_gtr, abin_geq, abin_eql, abin_neq, abin_eqlS, abin_neqS, cond_true, cond_false, decide_true, decide_false, Bool.not_true, Bool.not_false, TI.agg, List.getElem?_cons_zero, List.getElem?_cons_succ, Nat.add_zero, Nat.zero_add, Nat.zero_mul, nbeq, nble, nblt, Nat.reduceLeDiff, Nat.reduceLT, Nat.reduceMul, Nat.reduceAdd, Nat.reduceSub, Bool.and_true, Bool.true_and, Bool.and_false, Bool.false_and, List.length_cons, List.length_nil, List.set_cons_zero, List.set_cons_succ, AH.get_set, AH.next_set, eq_self, Int.ofNat_eq_natCast, Int.cast_ofNat_Int, Int.natCast_zero, Int.reduceEq, Int.reduceLT, Int.reduceLE, Int.reduceNeg, ld3, st3, ld4, st4, ld5, st5, al9, ld9, st9, ld20, st20, al22, ix22, bs22, ld22, ne22a, eq22a, ne22b, eq22b, ne22c, eq22c, st22, al23, ix23, bs23, ld23, ne23a, eq23a, ne23b, eq23b, ne23c, eq23c, st23, ld25, ne25a, eq25a, ne25b, eq25b, st25, ld26, st26, ld39, st39, al43, ix43, bs43, ld43, ne43a, eq43a, ne43b, eq43b, ne43c, eq43c, st43, fa47_0, fa47_1, fa47_2, fa47_3, fa47_4, fa47_5, ld47, al48, ix48, bs48, ld48, ne48a, eq48a, ne48b, eq48b, ne48c, eq48c, st48, fa51_0, fa51_1, ld51, an56, am56, ld56, md56, ms56, lk56, ne56a, eq56a, ne56b, eq56b, st56, al57, ix57, bs57, ld57, ne57a, eq57a, ne57b, eq57b, ne57c, eq57c, st57, fa59_0, fa59_1, fa59_2, fa59_3, fa59_4, fa59_5, ld59, ld61, ne61a, eq61a, ne61b, eq61b, st61, fa63_0, fa63_1, ld63, ld65, st65, ld70, st70, al74, ix74, bs74, ld74, ne74a, eq74a, ne74b, eq74b, ne74c, eq74c, st74, g0, g5, g7, g9, g10]; rfl) ?_)
            | fail "stop")
          have twoh := twog.more y2 y3
          refine AOs.callQ tOK (fs := []) (cs := []) rfl fn26 ok26 rfl (by simp only [List.map_cons, List.map_nil, List.nil_append, List.append_nil, aeval, PT.get_set, Nat.reduceEqDiff, reduceIte] <;> rfl) (texts26 N Kh (StrsAt.keep z1 fun b o n c z _ x hx => y2 b x hx) y1 (by unfold DM.names; rw [(isortK_perm _).length_eq, List.length_map]; exact Nat.le_trans ma.ents (by omega))) ?_
          rintro r Kj ⟨rfl, rfl⟩
          with_reducible repeat' (first
            | refine AOs.guardT (by with_unfolding_all rfl) (by simp only [PT.get_set, Nat.reduceEqDiff, reduceIte]; rfl) (by first | rfl | decide | assumption) ?_
            | ((first
                | refine AOs.op1E tOK (by with_unfolding_all rfl) ?_
                ); refine Step.mk (by simp only [evOp_move, evOp_not, aeval, PT.get_set, Nat.reduceEqDiff, reduceIte, Bool.not_true, eq_self, g5]; rfl) ?_)
            | fail "stop")
          have q1 := left17 N Kj twoh.a ma.ok (by omega) (by rw [ma.room]; omega) (by rw [ma.room]; omega)
          have q2 := left17 N Kj twoh.b mbn.ok (by omega) (by rw [mbn.room]; omega) (by rw [mbn.room]; omega)
          rw [hus] at q2
          refine AOs.callQ tOK (fs := []) (cs := []) rfl fn17 ok17 rfl (by simp only [List.map_cons, List.map_nil, List.nil_append, List.append_nil, aeval, PT.get_set, Nat.reduceEqDiff, reduceIte] <;> rfl) q1 ?_
          rintro r Kl ⟨rfl, rfl⟩
          with_reducible repeat' (first
            | refine AOs.guardT (by with_unfolding_all rfl) (by simp only [PT.get_set, Nat.reduceEqDiff, reduceIte]; rfl) (by first | rfl | decide | assumption) ?_
            | ((first
                | refine AOs.op1E tOK (by with_unfolding_all rfl) ?_
                ); refine Step.mk (by simp only [evOp_move, aeval, PT.get_set, Nat.reduceEqDiff, reduceIte, g7]; rfl) ?_)
            | fail "stop")
          refine AOs.callQ tOK (fs := []) (cs := []) rfl fn17 ok17 rfl (by simp only [List.map_cons, List.map_nil, List.nil_append, List.append_nil, aeval, PT.get_set, Nat.reduceEqDiff, reduceIte] <;> rfl) q2 ?_
          rintro r Km ⟨rfl, rfl⟩
          with_reducible repeat' (first
            | refine AOs.guardT (by with_unfolding_all rfl) (by simp only [PT.get_set, Nat.reduceEqDiff, reduceIte]; rfl) (by first | rfl | decide | assumption) ?_
            | ((first
                | refine AOs.op1E tOK (by with_unfolding_all rfl) ?_
                ); refine Step.mk (by simp only [evOp_move, evOp_pick, evOp_binOp, aeval, ofVal, PT.get_set, Nat.reduceEqDiff, reduceIte, Option.map_some, abin_neq, cond_false, decide_true, Bool.not_true, eq_self, g7]; rfl) ?_)
            | fail "stop")
          refine AOs.callQ tOK (fs := []) (cs := []) rfl fn21 ok21 rfl (by simp only [List.map_cons, List.map_nil, List.nil_append, List.append_nil, aeval, PT.get_set, Nat.reduceEqDiff, reduceIte] <;> rfl) (on21 N Km twoh.b) ?_
          rintro r Kn ⟨rfl, rfl⟩
          rw [hon]
          with_reducible repeat' (first
            | refine AW.region ?_
            | refine AOs.nil ?_
            | refine AW.skip ?_
            | refine andThen_normal ?_
            | refine inBlock_normal ?_
            | refine AOs.guardT (by with_unfolding_all rfl) (by simp only [PT.get_set, Nat.reduceEqDiff, reduceIte]; rfl) (by first | rfl | decide | assumption) ?_
            | refine AW.condF (by simp only [aeval, PT.get_set, Nat.reduceEqDiff, reduceIte]; rfl) (by first | rfl | decide | assumption) ?_
            | ((first
                | refine AOs.op1E tOK (by with_unfolding_all rfl) ?_
                ); refine Step.mk (by simp only [evOp_move, evOp_assign, evOp_pick, evOp_binOp, aeval, ofVal, PT.get_set, Nat.reduceEqDiff, reduceIte, Option.map_some, abin_add, cond_false, Bool.not_true, eq_self, g9, g10, heq4]; rfl) ?_)
            | fail "stop")
          exact ⟨l.length - (i + 1), by omega, i + 1, true, _, _, _, _, by omega, rfl, by simp only [PT.get_set, Nat.reduceEqDiff, reduceIte, g0], by simp only [PT.get_set, Nat.reduceEqDiff, reduceIte, g5], by simp only [PT.get_set, Nat.reduceEqDiff, reduceIte, g7], by simp only [PT.get_set, Nat.reduceEqDiff, reduceIte, g9], by simp only [PT.get_set, Nat.reduceEqDiff, reduceIte, wrap64_succ (show i < 9223372036854775807 by omega)], twoh, ma.mono (by omega), mbn.mono (by omega), (fun h => by cases h), (fun _ => rfl)⟩
        · have d12 : decide (e = 12) = false := decide_eq_false hne
          have hvD := twod.keep _ _ hvb
          with_reducible repeat' (first
            | refine AW.seq ?_
            | refine AW.region ?_
            | refine AOs.nil ?_
            | refine andThen_normal ?_
            | refine AW.condF (by simp only [aeval, PT.get_set, Nat.reduceEqDiff, reduceIte]; rfl) (by first | rfl | decide | assumption) ?_
            | refine AW.drawT tOK (by with_unfolding_all rfl) (by simp only [pickAll, Nat.reduceAdd]; rfl) ?_
            | ((first
                | refine DN.fl1E (by with_unfolding_all rfl) (by with_unfolding_all rfl) ?_
                | refine DN.rd1E (by kernel_rfl) (by with_unfolding_all rfl) ?_
                ); refine Step.mk (by simp only [evOp_move, evOp_indexAddr, evOp_load, aeval, PT.get_set, Nat.reduceEqDiff, reduceIte, cellsAt, Option.map_some, cond_true, decide_true, Nat.zero_add, nbeq, Nat.reduceAdd, List.length_cons, List.length_nil, eq_self, ix43, ld47, ld51, g0, g5, g10, hgd, hvD, hcs, hlt, List.drop_zero, List.take_succ_cons, List.take_zero]; rfl) ?_; refine Same.mk ?_)
            | ((first
                | refine AOs.op1E tOK (by with_unfolding_all rfl) ?_
                | refine AOs.op0E tOK ?_
                ); refine Step.mk (by simp only [evOp_binOp, evOp_fieldAddr, evOp_load, evOp_store, aeval, ofVal, PT.get_set, Nat.reduceEqDiff, reduceIte, cellAt, Option.map_some, abin_eql, List.getElem?_cons_zero, List.getElem?_cons_succ, Nat.zero_add, eq_self, ld26, fa51_1, al51, hst, hgd, d12]; rfl) ?_)
            | fail "stop")
          have qa := call25 N Kd (k := k) (fun b hb => (twod.ra b hb).2) twod.a ma.ok (Nat.le_trans ma.notes (by omega)) hu2 (fun j => Nat.le_trans (ma.file' hi200 j) (by omega)) (by rw [ma.room]; omega) (by rw [ma.room]; omega) (hact.keep twod.keep) hfa.2.2.1 hk h6 h7
          have man := ma.call (k := k) hfa
          rw [hcs] at qa
          generalize (callM Ma k a).2 = Ma' at qa hrl man
          generalize (callM Ma k a).1 = x at qa heq
          subst heq
          simp only at qa
          have hua : Ma'.used < 1000000000 := by
            have h1 := man.used
            have h2 : 3000 * (i + 1) ≤ 603000 := by omega
            have h3 : (i + 1) * (3000 * (i + 1)) ≤ 201 * 603000 := Nat.mul_le_mul (by omega) h2
            omega
          refine DN.callP tOK (fs := []) (cs := []) rfl fn25 ok25 rfl (by simp only [List.map_cons, List.map_nil, List.nil_append, List.append_nil, aeval, PT.get_set, Nat.reduceEqDiff, reduceIte] <;> rfl) qa.wf ?_
          rintro r Ke ⟨⟨rfl, he, ae⟩, hwfe⟩
          have twoe := twod.opA hwf he ae
          have hge := ae.1 _ _ hgd (.inl fun e => by
            have h1 := (twoc.ra _ e).2
            omega)
          have hvE := twoe.keep _ _ hvb
          constructor
          · repeat' (first | exact good_nil | refine good_cons ?_ ?_ | exact good_of (by kernel_rfl) rfl (by simp only [evOp_load, aeval, PT.get_set, Nat.reduceEqDiff, reduceIte, cellsAt, Option.map_some, cond_true, decide_true, Nat.zero_add, nbeq, Nat.reduceAdd, List.length_cons, List.length_nil, eq_self, ld47, ld51, hge, hvE, hcs, List.drop_zero, List.take_succ_cons, List.take_zero] <;> rfl) 1)
          have hne51 := fun cst => ne51 cst s e
          with_reducible repeat' (first
            | refine AW.seq ?_
            | refine AW.region ?_
            | refine AW.skip ?_
            | refine andThen_normal ?_
            | refine AW.condF (by simp only [aeval, PT.get_set, Nat.reduceEqDiff, reduceIte]; rfl) (by first | rfl | decide | assumption) ?_
            | refine DN.nil tOK ?_
            | ((first
                | refine DN.fl1E (by with_unfolding_all rfl) (by with_unfolding_all rfl) ?_
                ); refine Step.mk (by simp only [evOp_binOp, aeval, PT.get_set, Nat.reduceEqDiff, reduceIte, Option.map_some, eq_self, hne51]; rfl) ?_; refine Same.mk ?_)
            | ((first
                | refine AOs.op1E tOK (by with_unfolding_all rfl) ?_
                ); refine Step.mk (by simp only [evOp_move, aeval, PT.get_set, Nat.reduceEqDiff, reduceIte, g5]; rfl) ?_)
            | fail "stop")
          have hnm : Mb'.names = Ma'.names := hrl.names
          have hus : Mb'.room - (Mb'.used : Int) = Ma'.room - (Ma'.used : Int) := by rw [hrl.room, hrl.used]
          have heq4 := fun cst => eq4 cst true false
          refine AOs.callQ tOK (fs := []) (cs := []) rfl fn24 ok24 rfl (by simp only [List.map_cons, List.map_nil, List.nil_append, List.append_nil, aeval, PT.get_set, Nat.reduceEqDiff, reduceIte] <;> rfl) (names24f N Ke twoe.a (fun p hp => Nat.le_trans (man.keys p hp) (by omega)) (Nat.le_trans man.ents (by omega))) ?_
          rintro r Kg ⟨z1, z2, z3, z4⟩
          with_reducible repeat' (first
            | ((first
                | refine AOs.op1E tOK (by with_unfolding_all rfl) ?_
                ); refine Step.mk (by simp only [evOp_move, aeval, PT.get_set, Nat.reduceEqDiff, reduceIte, g7]; rfl) ?_)
            | fail "stop")
          have twog := twoe.more z2 z3
          refine AOs.callQ tOK (fs := []) (cs := []) rfl fn24 ok24 rfl (by simp only [List.map_cons, List.map_nil, List.nil_append, List.append_nil, aeval, PT.get_set, Nat.reduceEqDiff, reduceIte] <;> rfl) (names24f N Kg twog.b (fun p hp => Nat.le_trans (mbn.keys p hp) (by omega)) (Nat.le_trans mbn.ents (by omega))) ?_
          rintro r' Kh ⟨y1, y2, y3, y4⟩
          rw [hnm] at y1
          with_reducible repeat' (first
            | ((first
                | refine AOs.op1E tOK (by with_unfolding_all rfl) ?_
                ); refine Step.mk (by simp only [evOp_move, evOp_assign, evOp_pick, evOp_build, evOp_nilCheck, evOp_binOp, evOp_not, evOp_fieldAddr, evOp_field, evOp_indexAddr, evOp_index, evOp_extract, evOp_makeFunc, evOp_load, evOp_lookup, evOp_store, evOp_mapUpdate, evOp_insert, evOp_range, evOp_makeMap, evOp_len, evOp_append, evOp_copy, evOp_delete, evOp_slice, evOp_convert, evOp_entry, evOp_boxC, boxC_one, boxC_agg, evOp_cap, rangeMapAt, storeAt, one_bool, one_int, one_str, one_nilp, one_ptr, one_nils, one_slice, one_empty, one_nilm, one_map, one_func, one_nilf, one_iface, one_nili, aeval, ofVal, PT.get_set, Nat.reduceEqDiff, reduceIte, lenOfAV_slice, lenOfAV_nils, lenOfAV_empty, cellAt, cellsAt, mapLenAt, lookAt, mapSetAt, mapDelAt, List.map_cons, List.map_nil, Option.map_some, Option.map_none, List.nil_append, List.append_nil, abin_add, abin_sub, abin_mul, abin_lss, abin_leq, abin_gtr, abin_geq, abin_eql, abin_neq, abin_eqlS, abin_neqS, cond_true, cond_false, decide_true, decide_false, Bool.not_true, Bool.not_false, TI.agg, List.getElem?_cons_zero, List.getElem?_cons_succ, Nat.add_zero, Nat.zero_add, Nat.zero_mul, nbeq, nble, nblt, Nat.reduceLeDiff, Nat.reduceLT, Nat.reduceMul, Nat.reduceAdd, Nat.reduceSub, Bool.and_true, Bool.true_and, Bool.and_false, Bool.false_and, List.length_cons, List.length_nil, List.set_cons_zero, List.set_cons_succ, AH.get_set, AH.next_set, eq_self, Int.ofNat_eq_natCast, Int.cast_ofNat_Int, Int.natCast_zero, Int.reduceEq, Int.reduceLT, Int.reduceLE, Int.reduceNeg, ld3, st3, ld4, st4, ld5, st5, al9, ld9, st9, ld20, st20, al22, ix22, bs22, ld22, ne22a, eq22a, ne22b, eq22b, ne22c, eq22c, st22, al23, ix23, bs23, ld23, ne23a, eq23a, ne23b, eq23b, ne23c, eq23c, st23, ld25, ne25a, eq25a, ne25b, eq25b, st25, ld26, st26, ld39, st39, al43, ix43, bs43, ld43, ne43a, eq43a, ne43b, eq43b, ne43c, eq43c, st43, fa47_0, fa47_1, fa47_2, fa47_3, fa47_4, fa47_5, ld47, al48, ix48, bs48, ld48, ne48a, eq48a, ne48b, eq48b, ne48c, eq48c, st48, fa51_0, fa51_1, ld51, an56, am56, ld56, md56, ms56, lk56, ne56a, eq56a, ne56b, eq56b, st56, al57, ix57, bs57, ld57, ne57a, eq57a, ne57b, eq57b, ne57c, eq57c, st57, fa59_0, fa59_1, fa59_2, fa59_3, fa59_4, fa59_5, ld59, ld61, ne61a, eq61a, ne61b, eq61b, st61, fa63_0, fa63_1, ld63, ld65, st65, ld70, st70, al74, ix74, bs74, ld74, ne74a, eq74a, ne74b, eq74b, ne74c, eq74c, st74, g0, g5, g7, g9, g10]; rfl) ?_)
            | fail "stop")
          have twoh := twog.more y2 y3
          refine AOs.callQ tOK (fs := []) (cs := []) rfl fn26 ok26 rfl (by simp only [List.map_cons, List.map_nil, List.nil_append, List.append_nil, aeval, PT.get_set, Nat.reduceEqDiff, reduceIte] <;> rfl) (texts26 N Kh (StrsAt.keep z1 fun b o n c z _ x hx => y2 b x hx) y1 (by unfold DM.names; rw [(isortK_perm _).length_eq, List.length_map]; exact Nat.le_trans man.ents (by omega))) ?_
          rintro r Kj ⟨rfl, rfl⟩
          with_reducible repeat' (first
            | refine AOs.guardT (by with_unfolding_all rfl) (by simp only [PT.get_set, Nat.reduceEqDiff, reduceIte]; rfl) (by first | rfl | decide | assumption) ?_
            | ((first
                | refine AOs.op1E tOK (by with_unfolding_all rfl) ?_
                ); refine Step.mk (by simp only [evOp_move, evOp_not, aeval, PT.get_set, Nat.reduceEqDiff, reduceIte, Bool.not_true, eq_self, g5]; rfl) ?_)
            | fail "stop")
          have q1 := left17 N Kj twoh.a man.ok (by omega) (by rw [man.room]; omega) (by rw [man.room]; omega)
          have q2 := left17 N Kj twoh.b mbn.ok (by omega) (by rw [mbn.room]; omega) (by rw [mbn.room]; omega)
          rw [hus] at q2
          refine AOs.callQ tOK (fs := []) (cs := []) rfl fn17 ok17 rfl (by simp only [List.map_cons, List.map_nil, List.nil_append, List.append_nil, aeval, PT.get_set, Nat.reduceEqDiff, reduceIte] <;> rfl) q1 ?_
          rintro r Kl ⟨rfl, rfl⟩
          with_reducible repeat' (first
            | refine AOs.guardT (by with_unfolding_all rfl) (by simp only [PT.get_set, Nat.reduceEqDiff, reduceIte]; rfl) (by first | rfl | decide | assumption) ?_
            | ((first
                | refine AOs.op1E tOK (by with_unfolding_all rfl) ?_
                ); refine Step.mk (by simp only [evOp_move, aeval, PT.get_set, Nat.reduceEqDiff, reduceIte, g7]; rfl) ?_)
            | fail "stop")
          refine AOs.callQ tOK (fs := []) (cs := []) rfl fn17 ok17 rfl (by simp only [List.map_cons, List.map_nil, List.nil_append, List.append_nil, aeval, PT.get_set, Nat.reduceEqDiff, reduceIte] <;> rfl) q2 ?_
          rintro r Km ⟨rfl, rfl⟩
          with_reducible repeat' (first
            | refine AOs.guardT (by with_unfolding_all rfl) (by simp only [PT.get_set, Nat.reduceEqDiff, reduceIte]; rfl) (by first | rfl | decide | assumption) ?_
            | ((first
                | refine AOs.op1E tOK (by with_unfolding_all rfl) ?_
                ); refine Step.mk (by simp only [evOp_move, evOp_pick, evOp_binOp, aeval, ofVal, PT.get_set, Nat.reduceEqDiff, reduceIte, Option.map_some, abin_neq, cond_false, decide_true, Bool.not_true, eq_self, g7]; rfl) ?_)
            | fail "stop")
          refine AOs.callQ tOK (fs := []) (cs := []) rfl fn21 ok21 rfl (by simp only [List.map_cons, List.map_nil, List.nil_append, List.append_nil, aeval, PT.get_set, Nat.reduceEqDiff, reduceIte] <;> rfl) (on21 N Km twoh.b) ?_
          rintro r Kn ⟨rfl, rfl⟩
          rw [hrl.ob]
          with_reducible repeat' (first
            | refine AW.region ?_
            | refine AOs.nil ?_
            | refine AW.skip ?_
            | refine andThen_normal ?_
            | refine inBlock_normal ?_
            | refine AOs.guardT (by with_unfolding_all rfl) (by simp only [PT.get_set, Nat.reduceEqDiff, reduceIte]; rfl) (by first | rfl | decide | assumption) ?_
            | refine AW.condF (by simp only [aeval, PT.get_set, Nat.reduceEqDiff, reduceIte]; rfl) (by first | rfl | decide | assumption) ?_
            | ((first
                | refine AOs.op1E tOK (by with_unfolding_all rfl) ?_
                ); refine Step.mk (by simp only [evOp_move, evOp_assign, evOp_pick, evOp_binOp, aeval, ofVal, PT.get_set, Nat.reduceEqDiff, reduceIte, Option.map_some, abin_add, cond_false, Bool.not_false, eq_self, g9, g10, heq4]; rfl) ?_)
            | fail "stop")
          exact ⟨l.length - (i + 1), by omega, i + 1, false, _, _, _, _, by omega, rfl, by simp only [PT.get_set, Nat.reduceEqDiff, reduceIte, g0], by simp only [PT.get_set, Nat.reduceEqDiff, reduceIte, g5], by simp only [PT.get_set, Nat.reduceEqDiff, reduceIte, g7], by simp only [PT.get_set, Nat.reduceEqDiff, reduceIte, g9], by simp only [PT.get_set, Nat.reduceEqDiff, reduceIte, wrap64_succ (show i < 9223372036854775807 by omega)], twoh, man.mono (by omega), mbn.mono (by omega), (fun _ => hrl), (fun h => by cases h)⟩
    · have hd := nlt_int hlt
      with_reducible repeat' (first
        | refine AW.seq ?_
        | refine AW.region ?_
        | refine AOs.nil ?_
        | refine AW.exit ?_
        | refine AW.ret ?_
        | refine andThen_normal ?_
        | refine andThen_exit ?_
        | refine inBlock_hit ?_
        | refine AW.condF (by simp only [aeval, PT.get_set, Nat.reduceEqDiff, reduceIte]; rfl) (by first | rfl | decide | assumption) ?_
        | ((first
            | refine AOs.op1E tOK (by with_unfolding_all rfl) ?_
            ); refine Step.mk (by simp only [evOp_move, evOp_assign, evOp_binOp, evOp_len, aeval, ofVal, PT.get_set, Nat.reduceEqDiff, reduceIte, Option.map_some, abin_lss, eq_self, al43, g0, g10, hd, hl]; rfl) ?_)
        | fail "stop")
      exact fnPost_ret1 (by first | (simp only [PT.get_set, Nat.reduceEqDiff, reduceIte]; rfl) | simp only [PT.get_set, Nat.reduceEqDiff, reduceIte]) rfl
end Go.Proofs.Ytdenmkbbmkdnpaa

open Go Go.AB Go.Proofs
namespace Go.Proofs.Ytdenmkbbmkdnpaa

theorem hasAll_cons' {X : Type} {P : Program} {H : AH} {k : Nat} {t : TypeId} {ts : List TypeId} {ds : List (DataW X)} {xs : List AV} (h : HasAll P H k (t :: ts) ds xs) : ∃ (d : DataW X) (ds' : List (DataW X)) (a : AV) (xs' : List AV), xs = a :: xs' ∧ Has P H k t d [a] ∧ HasAll P H k ts ds' xs' := by
  cases ds with
  | nil => exact h.elim
  | cons d ds =>
    obtain ⟨a, xs', h1, h2, h3⟩ := h
    exact ⟨d, ds, a, xs', h1, h2, h3⟩
theorem hasAll_nil' {X : Type} {P : Program} {H : AH} {k : Nat} {ds : List (DataW X)} {xs : List AV} (h : HasAll P H k [] ds xs) : xs = [] := by
  cases ds with
  | nil => exact h
  | cons d ds => exact h.elim

theorem has_acts2 {X : Type} {H : AH} {k : Nat} {d : DataW X} {xs : List AV} (h : Has Try.prog H (k + 4) 43 d xs) : ∃ v l, xs = [v] ∧ ActsAt H v l ∧ l.length ≤ 9223372036854775807 := by
  obtain ⟨v, l, h1, h2⟩ := has_acts h
  refine ⟨v, l, h1, h2, ?_⟩
  unfold Has at h
  rw [u43] at h
  rcases h with ⟨_, h⟩ | ⟨_, h⟩ | ⟨b, es, sp, vs, _, hm, h, _⟩
  · rw [h1] at h
    obtain rfl := List.cons.inj h |>.1
    have := h2.len
    simp [lenOfAV] at this
    omega
  · rw [h1] at h
    obtain rfl := List.cons.inj h |>.1
    have := h2.len
    simp [lenOfAV] at this
    omega
  · rw [h1] at h
    obtain rfl := List.cons.inj h |>.1
    have := h2.len
    simp [lenOfAV] at this
    unfold maxLen at hm
    omega

theorem law5_all {X : Type} {ds : List (DataW X)} (N : Nat) (H : AH) (xs : List AV) (hlt : ∀ b o, H.get b = some o → b < H.next) (h : HasAll Try.prog H 8 [43, 3] ds xs) :
    AC tC N 0 5 xs H fun r _ => r = .bool true := by
  obtain ⟨d1, _, a1, _, rfl, h1, h⟩ := hasAll_cons' h
  obtain ⟨d2, _, a2, _, rfl, h2, h⟩ := hasAll_cons' h
  obtain rfl := hasAll_nil' h
  obtain ⟨v1, l1, e1, b1, hl⟩ := has_acts2 h1
  obtain ⟨n, e2⟩ := has_int h2
  simp only [List.cons.injEq, and_true] at e1 e2
  subst e1 e2
  exact fuse5 N H b1 hl
end Go.Proofs.Ytdenmkbbmkdnpaa
