/- Files: FilesKeeps walked from whatever abstract heap; no condition. -/
import Derived.Test.YtdenmkbbmkdnpaaKeepsArgs
import Derived.Test.YtdenmkbbmkdnpaaHeap5
set_option linter.unusedSimpArgs false
set_option linter.unusedVariables false
open Go Go.AB Go.Proofs
namespace Go.Proofs.Ytdenmkbbmkdnpaa
set_option maxRecDepth 100000

theorem fn6 : tC.fn 6 = some Try.f6 := by kernel_rfl
theorem ok6 : fnOk Try.f6 = true := by kernel_rfl

/-- A disk that was made since. -/
def St (H K : AH) (d : Nat) (M : DM) : Prop := (∃ A, DiskAt K d M A ∧ ∀ b, A b → H.next ≤ b ∧ b < K.next) ∧ (∀ b x, H.get b = some x → K.get b = some x) ∧ H.next ≤ K.next

theorem St.more {H K L : AH} {d : Nat} {M : DM} (h : St H K d M) (hk : ∀ b x, K.get b = some x → L.get b = some x) (hn : K.next ≤ L.next) : St H L d M := by
  obtain ⟨⟨A, hA, hr⟩, h1, h2⟩ := h
  exact ⟨⟨A, hA.keep ⟨fun b x hb _ => hk b x hb, hn⟩ fun _ => id, fun b hb => by have := hr b hb; omega⟩, fun b x hb => hk b x (h1 b x hb), by omega⟩

theorem St.op {H K L : AH} {d : Nat} {M' : DM} {A : Nat → Prop} (hw : WF H) (hr : ∀ b, A b → H.next ≤ b ∧ b < K.next) (h1 : ∀ b x, H.get b = some x → K.get b = some x) (h2 : H.next ≤ K.next) (hd : DiskAt L d M' (AddR A K.next L.next)) (ha : Apart K L A) : St H L d M' :=
  ⟨⟨_, hd, fun b hb => by
    have := ha.2
    rcases hb with hb | hb
    · have := hr b hb; omega
    · omega⟩, fun b x hb => ha.1 b x (h1 b x hb) (.inl fun e => by have := hr b e; have := hw b x hb; omega), by have := ha.2; omega⟩

theorem cv22s {H : AH} {v : AV} {l : List UInt8} (h : BX H v l) : convOp tC H 22 9 v = some (.str l, H) := by
  have := cv22_9 H v (by
    rcases h with ⟨rfl, _⟩ | ⟨rfl, _⟩ | ⟨b, o, c, ro, vs, rfl, _⟩
    · exact fun s h => by cases h
    · exact fun s h => by cases h
    · exact fun s h => by cases h)
  rw [h.bytes.str] at this
  exact this

theorem abin_addS {t : TypeId} {cst : Bool} {a b : List UInt8} (h : a.length + b.length ≤ 1000000) : abin tC .add t cst (.str a) (.str b) = some (.str (a ++ b)) := by
  simp only [abin, astr]
  rw [Nat.ble_eq_true_of_le (by omega)]; rfl

theorem mod_le (a : Nat) (l : List UInt8) : a % (l.length + 1) ≤ l.length := by
  have := Nat.mod_lt a (show 0 < l.length + 1 by omega); omega

theorem ints_copy {K : AH} {l : List Int} {b : Nat} {v : AV} (hb : K.get b = some (.cells false [])) (hv : IX K v l) (hl : l.length ≤ 1000000) :
    ∃ u L, aappend tC K [23, 23] [.slice b 0 0 (.ex 0) 1, v] = some (u, L) ∧ IntsAt L u l ∧ (∀ c x, K.get c = some x → c < K.next → L.get c = some x) ∧ K.next ≤ L.next ∧ (∀ c o n z w, u = .slice c o n z w → c = b ∨ K.next ≤ c) := by
  rw [aappend_ints hv hl]
  by_cases h : l = []
  · subst h
    rw [if_pos rfl]
    exact ⟨_, _, rfl, .inl ⟨rfl, rfl⟩, fun c x hx _ => hx, Nat.le_refl _, fun c o n z w e => by cases e; exact .inl rfl⟩
  · rw [if_neg h]
    refine ⟨_, _, rfl, .inr ⟨K.next, 0, l.length, false, _, rfl, h, Nat.le_refl _, by rw [AH.get_alloc, if_pos rfl], fun i x hx => by rw [Nat.zero_add, List.getElem?_map, hx]; rfl⟩, fun c x hx hc => by rw [AH.get_alloc, if_neg (by omega)]; exact hx, by rw [AH.next_alloc]; omega, fun c o n z w e => by cases e; exact .inr (Nat.le_refl _)⟩

theorem SD_fl {now sf : Ents} {notes : List Note} {files : List (Nm × Nat)} {L : Nat} (h : ∀ p ∈ files, p.1.length ≤ L) : ∀ (i : Nat) p, (SD now sf notes files).files[i]? = some p → p.1.length ≤ L := fun i p hp => h p (List.mem_of_getElem? hp)

theorem BX.len {H : AH} {v : AV} {l : List UInt8} (h : BX H v l) : lenOfAV v = some l.length := h.bytes.len

theorem IX.ne {H : AH} {v : AV} {x : Int} {l : List Int} (h : IX H v (x :: l)) : ∃ b c ro vs, v = .slice b 0 (l.length + 1) c 1 ∧ H.get b = some (.cells ro vs) ∧ vs[0]? = some (.int .i64 x) := by
  rcases h with ⟨_, h⟩ | ⟨b, c, ro, vs, rfl, h1, h2⟩
  · cases h
  · refine ⟨b, c, ro, vs, rfl, h1, ?_⟩
    have := congrArg (·[0]?) h2
    simpa using this

set_option maxHeartbeats 16000000 in
theorem keeps3 (N : Nat) (H : AH) {va vb vc vp : AV} {a b c : List UInt8} {ren : Bool} {ch : Int} {parts : List Int} (ha : BX H va a) (hb : BX H vb b) (hc : BX H vc c) (hp : IX H vp parts) :
    AC tC N 0 3 [va, vb, vc, .bool ren, .int .i64 ch, vp] H fun r _ => r = .bool true := by
  refine AC.wf0 fun hwf => ?_
  refine AC.by (n := 142) (rs := [.tmp 12]) tOK fn3 rfl rfl rfl rfl ?_
  have e0 : (PT.ofList .leaf 0 [va, vb, vc, .bool ren, .int .i64 ch, vp]).get 0 = some va := rfl
  have e1 : (PT.ofList .leaf 0 [va, vb, vc, .bool ren, .int .i64 ch, vp]).get 1 = some vb := rfl
  have e2 : (PT.ofList .leaf 0 [va, vb, vc, .bool ren, .int .i64 ch, vp]).get 2 = some vc := rfl
  have e3 : (PT.ofList .leaf 0 [va, vb, vc, .bool ren, .int .i64 ch, vp]).get 3 = some (.bool ren) := rfl
  have e4 : (PT.ofList .leaf 0 [va, vb, vc, .bool ren, .int .i64 ch, vp]).get 4 = some (.int .i64 ch) := rfl
  have e5 : (PT.ofList .leaf 0 [va, vb, vc, .bool ren, .int .i64 ch, vp]).get 5 = some vp := rfl
  have la := ha.len
  have lb := hb.len
  have lc := hc.len
  have lp := hp.len
  with_reducible repeat' (first
    | refine AW.seq ?_
    | refine AW.region ?_
    | refine AOs.nil ?_
    | refine andThen_normal ?_
    | ((first
        | refine AOs.op1E tOK (by with_unfolding_all rfl) ?_
        ); refine Step.mk (by simp only [evOp_assign, aeval, ofVal]; rfl) ?_)
    | fail "stop")
  refine AOs.callQ tOK (fs := []) (cs := []) rfl fn6 ok6 rfl (by simp only [List.map_nil, List.append_nil] <;> rfl) (lives6 N H) ?_
  rintro r K ⟨rfl, rfl⟩
  by_cases g1 : 300 < a.length
  · have d1 : decide ((300 : Int) < (a.length : Nat)) = true := by simp; omega
    with_reducible repeat' (first
      | refine AW.seq ?_
      | refine AW.region ?_
      | refine AOs.nil ?_
      | refine AW.skip ?_
      | refine AW.ret ?_
      | refine andThen_normal ?_
      | refine andThen_ret ?_
      | refine AOs.guardF (by with_unfolding_all rfl) (by simp only [PT.get_set, Nat.reduceEqDiff, reduceIte]; rfl) (by first | rfl | decide | assumption) (by with_unfolding_all rfl) ?_
      | refine AW.condT (by simp only [aeval, PT.get_set, Nat.reduceEqDiff, reduceIte]; rfl) (by first | rfl | decide | assumption) ?_
      | refine AW.condF (by simp only [aeval, PT.get_set, Nat.reduceEqDiff, reduceIte]; rfl) (by first | rfl | decide | assumption) ?_
      | ((first
          | refine AOs.op1E tOK (by with_unfolding_all rfl) ?_
          ); refine Step.mk (by simp only [evOp_move, evOp_assign, evOp_pick, evOp_binOp, evOp_not, evOp_len, aeval, ofVal, PT.get_set, Nat.reduceEqDiff, reduceIte, Option.map_some, abin_gtr, cond_true, Bool.not_true, eq_self, al22, e0, la, d1]; rfl) ?_)
      | fail "stop")
    exact fnPost_ret1 (by first | (simp only [PT.get_set, Nat.reduceEqDiff, reduceIte]; rfl) | simp only [PT.get_set, Nat.reduceEqDiff, reduceIte]) rfl
  have d1 : decide ((300 : Int) < (a.length : Nat)) = false := by simp; omega
  by_cases g2 : 300 < b.length
  · have d2 : decide ((300 : Int) < (b.length : Nat)) = true := by simp; omega
    with_reducible repeat' (first
      | refine AW.seq ?_
      | refine AW.region ?_
      | refine AOs.nil ?_
      | refine AW.skip ?_
      | refine AW.ret ?_
      | refine andThen_normal ?_
      | refine andThen_ret ?_
      | refine AOs.guardT (by with_unfolding_all rfl) (by simp only [PT.get_set, Nat.reduceEqDiff, reduceIte]; rfl) (by first | rfl | decide | assumption) ?_
      | refine AOs.guardF (by with_unfolding_all rfl) (by simp only [PT.get_set, Nat.reduceEqDiff, reduceIte]; rfl) (by first | rfl | decide | assumption) (by with_unfolding_all rfl) ?_
      | refine AW.condT (by simp only [aeval, PT.get_set, Nat.reduceEqDiff, reduceIte]; rfl) (by first | rfl | decide | assumption) ?_
      | refine AW.condF (by simp only [aeval, PT.get_set, Nat.reduceEqDiff, reduceIte]; rfl) (by first | rfl | decide | assumption) ?_
      | ((first
          | refine AOs.op1E tOK (by with_unfolding_all rfl) ?_
          ); refine Step.mk (by simp only [evOp_move, evOp_assign, evOp_pick, evOp_binOp, evOp_not, evOp_len, aeval, ofVal, PT.get_set, Nat.reduceEqDiff, reduceIte, Option.map_some, abin_gtr, cond_true, cond_false, Bool.not_true, eq_self, al22, e0, e1, la, lb, d1, d2]; rfl) ?_)
      | fail "stop")
    exact fnPost_ret1 (by first | (simp only [PT.get_set, Nat.reduceEqDiff, reduceIte]; rfl) | simp only [PT.get_set, Nat.reduceEqDiff, reduceIte]) rfl
  have d2 : decide ((300 : Int) < (b.length : Nat)) = false := by simp; omega
  by_cases g3 : 300 < c.length
  · have d3 : decide ((300 : Int) < (c.length : Nat)) = true := by simp; omega
    with_reducible repeat' (first
      | refine AW.seq ?_
      | refine AW.region ?_
      | refine AOs.nil ?_
      | refine AW.skip ?_
      | refine AW.ret ?_
      | refine andThen_normal ?_
      | refine andThen_ret ?_
      | refine AOs.guardT (by with_unfolding_all rfl) (by simp only [PT.get_set, Nat.reduceEqDiff, reduceIte]; rfl) (by first | rfl | decide | assumption) ?_
      | refine AOs.guardF (by with_unfolding_all rfl) (by simp only [PT.get_set, Nat.reduceEqDiff, reduceIte]; rfl) (by first | rfl | decide | assumption) (by with_unfolding_all rfl) ?_
      | refine AW.condT (by simp only [aeval, PT.get_set, Nat.reduceEqDiff, reduceIte]; rfl) (by first | rfl | decide | assumption) ?_
      | refine AW.condF (by simp only [aeval, PT.get_set, Nat.reduceEqDiff, reduceIte]; rfl) (by first | rfl | decide | assumption) ?_
      | ((first
          | refine AOs.op1E tOK (by with_unfolding_all rfl) ?_
          ); refine Step.mk (by simp only [evOp_move, evOp_assign, evOp_pick, evOp_binOp, evOp_not, evOp_len, aeval, ofVal, PT.get_set, Nat.reduceEqDiff, reduceIte, Option.map_some, abin_gtr, cond_true, cond_false, Bool.not_true, eq_self, al22, e0, e1, e2, la, lb, lc, d1, d2, d3]; rfl) ?_)
      | fail "stop")
    exact fnPost_ret1 (by first | (simp only [PT.get_set, Nat.reduceEqDiff, reduceIte]; rfl) | simp only [PT.get_set, Nat.reduceEqDiff, reduceIte]) rfl
  have d3 : decide ((300 : Int) < (c.length : Nat)) = false := by simp; omega
  by_cases g4 : 100 < parts.length
  · have d4 : decide ((100 : Int) < (parts.length : Nat)) = true := by simp; omega
    with_reducible repeat' (first
      | refine AW.seq ?_
      | refine AW.region ?_
      | refine AOs.nil ?_
      | refine AW.skip ?_
      | refine AW.ret ?_
      | refine andThen_normal ?_
      | refine andThen_ret ?_
      | refine AOs.guardT (by with_unfolding_all rfl) (by simp only [PT.get_set, Nat.reduceEqDiff, reduceIte]; rfl) (by first | rfl | decide | assumption) ?_
      | refine AW.condT (by simp only [aeval, PT.get_set, Nat.reduceEqDiff, reduceIte]; rfl) (by first | rfl | decide | assumption) ?_
      | refine AW.condF (by simp only [aeval, PT.get_set, Nat.reduceEqDiff, reduceIte]; rfl) (by first | rfl | decide | assumption) ?_
      | ((first
          | refine AOs.op1E tOK (by with_unfolding_all rfl) ?_
          ); refine Step.mk (by simp only [evOp_move, evOp_assign, evOp_pick, evOp_binOp, evOp_not, evOp_len, aeval, ofVal, PT.get_set, Nat.reduceEqDiff, reduceIte, Option.map_some, abin_gtr, cond_false, Bool.not_true, eq_self, al22, al23, e0, e1, e2, e5, la, lb, lc, lp, d1, d2, d3, d4]; rfl) ?_)
      | fail "stop")
    exact fnPost_ret1 (by first | (simp only [PT.get_set, Nat.reduceEqDiff, reduceIte]; rfl) | simp only [PT.get_set, Nat.reduceEqDiff, reduceIte]) rfl
  have d4 : decide ((100 : Int) < (parts.length : Nat)) = false := by simp; omega
  with_reducible repeat' (first
    | refine AW.seq ?_
    | refine AW.region ?_
    | refine AOs.nil ?_
    | refine AW.skip ?_
    | refine andThen_normal ?_
    | refine AOs.guardT (by with_unfolding_all rfl) (by simp only [PT.get_set, Nat.reduceEqDiff, reduceIte]; rfl) (by first | rfl | decide | assumption) ?_
    | refine AW.condF (by simp only [aeval, PT.get_set, Nat.reduceEqDiff, reduceIte]; rfl) (by first | rfl | decide | assumption) ?_
    | ((first
        | refine AOs.op1E tOK (by with_unfolding_all rfl) ?_
        ); refine Step.mk (by simp only [evOp_move, evOp_pick, evOp_binOp, evOp_not, evOp_len, aeval, ofVal, PT.get_set, Nat.reduceEqDiff, reduceIte, Option.map_some, abin_gtr, cond_false, Bool.not_true, eq_self, al22, al23, e0, e1, e2, e5, la, lb, lc, lp, d1, d2, d3, d4]; rfl) ?_)
    | fail "stop")
  refine AOs.callQ tOK (fs := []) (cs := []) rfl fn7 ok7 rfl (by simp only [List.map_cons, List.map_nil, List.nil_append, List.append_nil, aeval, ofVal] <;> rfl) (new7 N K (room := 10000) (by omega) (by omega)) ?_
  rintro r K0 ⟨d, rfl, h0, h0k, h0n⟩
  have s0 : St K K0 d (DM.new 10000) := ⟨⟨_, h0, fun b hb => hb.elim False.elim id⟩, h0k, h0n⟩
  with_reducible repeat' (first
    | refine AW.seq ?_
    | refine AW.region ?_
    | refine AOs.nil ?_
    | refine andThen_normal ?_
    | refine AOs.guardT (by with_unfolding_all rfl) (by simp only [PT.get_set, Nat.reduceEqDiff, reduceIte]; rfl) (by first | rfl | decide | assumption) ?_
    | ((first
        | refine AOs.op1E tOK (by with_unfolding_all rfl) ?_
        ); refine Step.mk (by simp only [evOp_move, evOp_assign, evOp_binOp, evOp_extract, aeval, ofVal, PT.get_set, Nat.reduceEqDiff, reduceIte, Option.map_some, abin_neq, decide_true, Bool.not_true, List.getElem?_cons_zero, List.getElem?_cons_succ, eq_self]; rfl) ?_)
    | fail "stop")
  obtain ⟨⟨A1, hA1, hr1⟩, hg1, hn1⟩ := s0
  have q1 := (make8 N K0 (n := nf) (fun b hb => (hr1 b hb).2) hA1 (DM.new_ok _) (by simp [DM.new]))
  simp only [k1_eq] at q1
  refine AOs.callQ tOK (fs := []) (cs := []) rfl fn8 ok8 rfl (by simp only [List.map_cons, List.map_nil, List.nil_append, List.append_nil, aeval, ofVal, PT.get_set, Nat.reduceEqDiff, reduceIte] <;> rfl) q1 ?_
  rintro r K1 ⟨rfl, h1, a1⟩
  have s1 := St.op hwf hr1 hg1 hn1 h1 a1
  with_reducible repeat' (first
    | refine AOs.guardT (by with_unfolding_all rfl) (by simp only [PT.get_set, Nat.reduceEqDiff, reduceIte]; rfl) (by first | rfl | decide | assumption) ?_
    | ((first
        | refine AOs.op1E tOK (by with_unfolding_all rfl) ?_
        ); refine Step.mk (by simp only [evOp_move, evOp_pick, evOp_binOp, aeval, ofVal, PT.get_set, Nat.reduceEqDiff, reduceIte, Option.map_some, abin_neq, cond_false, decide_true, Bool.not_true, eq_self, e0]; rfl) ?_)
    | fail "stop")
  refine AOs.callQ tOK (fs := []) (cs := []) rfl fn10 ok10 rfl (by simp only [List.map_cons, List.map_nil, List.nil_append, List.append_nil, aeval, PT.get_set, Nat.reduceEqDiff, reduceIte] <;> rfl) (own10 N K1 (ha.keep fun b x hb _ => s1.2.1 b x hb).bytes (by omega)) ?_
  rintro r K2 ⟨o2, kk2, n2⟩
  have s2 := St.more s1 kk2 n2
  with_reducible repeat' (first
    | refine AOs.guardT (by with_unfolding_all rfl) (by simp only [PT.get_set, Nat.reduceEqDiff, reduceIte]; rfl) (by first | rfl | decide | assumption) ?_
    | ((first
        | refine AOs.op1E tOK (by with_unfolding_all rfl) ?_
        ); refine Step.mk (by simp only [evOp_move, evOp_assign, evOp_pick, evOp_build, evOp_nilCheck, evOp_binOp, evOp_not, evOp_fieldAddr, evOp_field, evOp_indexAddr, evOp_index, evOp_extract, evOp_makeFunc, evOp_load, evOp_lookup, evOp_store, evOp_mapUpdate, evOp_insert, evOp_range, evOp_makeMap, evOp_len, evOp_append, evOp_copy, evOp_delete, evOp_slice, evOp_convert, evOp_entry, evOp_boxC, boxC_one, boxC_agg, evOp_cap, rangeMapAt, storeAt, one_bool, one_int, one_str, one_nilp, one_ptr, one_nils, one_slice, one_empty, one_nilm, one_map, one_func, one_nilf, one_iface, one_nili, aeval, ofVal, PT.get_set, Nat.reduceEqDiff, reduceIte, lenOfAV_slice, lenOfAV_nils, lenOfAV_empty, cellAt, cellsAt, mapLenAt, lookAt, mapSetAt, mapDelAt, List.map_cons, List.map_nil, Option.map_some, Option.map_none, List.nil_append, List.append_nil, abin_add, abin_sub, abin_mul, abin_lss, abin_leq, abin_gtr, abin_geq, abin_eql, abin_neq, abin_eqlS, abin_neqS, cond_true, cond_false, decide_true, decide_false, Bool.not_true, Bool.not_false, TI.agg, List.getElem?_cons_zero, List.getElem?_cons_succ, Nat.add_zero, Nat.zero_add, Nat.zero_mul, nbeq, nble, nblt, Nat.reduceLeDiff, Nat.reduceLT, Nat.reduceMul, Nat.reduceAdd, Nat.reduceSub, Bool.and_true, Bool.true_and, Bool.and_false, Bool.false_and, List.length_cons, List.length_nil, List.set_cons_zero, List.set_cons_succ, AH.get_set, AH.next_set, eq_self, Int.ofNat_eq_natCast, Int.cast_ofNat_Int, Int.natCast_zero, Int.reduceEq, Int.reduceLT, Int.reduceLE, Int.reduceNeg, ld3, st3, ld4, st4, ld5, st5, al9, ld9, st9, ld20, st20, al22, ix22, bs22, ld22, ne22a, eq22a, ne22b, eq22b, ne22c, eq22c, st22, al23, ix23, bs23, ld23, ne23a, eq23a, ne23b, eq23b, ne23c, eq23c, st23, ld25, ne25a, eq25a, ne25b, eq25b, st25, ld26, st26, ld39, st39, al43, ix43, bs43, ld43, ne43a, eq43a, ne43b, eq43b, ne43c, eq43c, st43, fa47_0, fa47_1, fa47_2, fa47_3, fa47_4, fa47_5, ld47, al48, ix48, bs48, ld48, ne48a, eq48a, ne48b, eq48b, ne48c, eq48c, st48, fa51_0, fa51_1, ld51, an56, am56, ld56, md56, ms56, lk56, ne56a, eq56a, ne56b, eq56b, st56, al57, ix57, bs57, ld57, ne57a, eq57a, ne57b, eq57b, ne57c, eq57c, st57, fa59_0, fa59_1, fa59_2, fa59_3, fa59_4, fa59_5, ld59, ld61, ne61a, eq61a, ne61b, eq61b, st61, fa63_0, fa63_1, ld63, ld65, st65, ld70, st70, al74, ix74, bs74, ld74, ne74a, eq74a, ne74b, eq74b, ne74c, eq74c, st74, e0, e1]; rfl) ?_)
    | fail "stop")
  obtain ⟨⟨A3, hA3, hr3⟩, hg3, hn3⟩ := s2
  have q3 := (append9 N K2 (n := nf) hA3 (SD_ok rfl (by simp)) o2 (by decide) (by omega) (fun i => Nat.le_trans (Nat.add_le_add_right (files_le (L := 0) (SD_fl (by simp)) i) _) (by omega)) (by decide) (by decide))
  simp only [k2_eq (a := a) (by omega)] at q3
  refine AOs.callQ tOK (fs := []) (cs := []) rfl fn9 ok9 rfl (by simp only [List.map_cons, List.map_nil, List.nil_append, List.append_nil, aeval, ofVal, PT.get_set, Nat.reduceEqDiff, reduceIte] <;> rfl) q3 ?_
  rintro r K3 ⟨rfl, h3, a3⟩
  have s3 := St.op hwf hr3 hg3 hn3 h3 a3
  with_reducible repeat' (first
    | refine AOs.guardT (by with_unfolding_all rfl) (by simp only [PT.get_set, Nat.reduceEqDiff, reduceIte]; rfl) (by first | rfl | decide | assumption) ?_
    | ((first
        | refine AOs.op1E tOK (by with_unfolding_all rfl) ?_
        ); refine Step.mk (by simp only [evOp_move, evOp_pick, evOp_binOp, aeval, ofVal, PT.get_set, Nat.reduceEqDiff, reduceIte, Option.map_some, abin_neq, cond_false, decide_true, Bool.not_true, eq_self]; rfl) ?_)
    | fail "stop")
  obtain ⟨⟨A4, hA4, hr4⟩, hg4, hn4⟩ := s3
  have q4 := (sync11 N K3 (n := nf) hA4 (SD_ok rfl (by simp)))
  simp only [k3_eq] at q4
  refine AOs.callQ tOK (fs := []) (cs := []) rfl fn11 ok11 rfl (by simp only [List.map_cons, List.map_nil, List.nil_append, List.append_nil, aeval, ofVal, PT.get_set, Nat.reduceEqDiff, reduceIte] <;> rfl) q4 ?_
  rintro r K4 ⟨rfl, h4, a4⟩
  have s4 := St.op hwf hr4 hg4 hn4 h4 a4
  with_reducible repeat' (first
    | refine AOs.guardT (by with_unfolding_all rfl) (by simp only [PT.get_set, Nat.reduceEqDiff, reduceIte]; rfl) (by first | rfl | decide | assumption) ?_
    | ((first
        | refine AOs.op1E tOK (by with_unfolding_all rfl) ?_
        ); refine Step.mk (by simp only [evOp_move, evOp_pick, evOp_binOp, aeval, ofVal, PT.get_set, Nat.reduceEqDiff, reduceIte, Option.map_some, abin_neq, cond_false, decide_true, Bool.not_true, eq_self]; rfl) ?_)
    | fail "stop")
  obtain ⟨⟨A5, hA5, hr5⟩, hg5, hn5⟩ := s4
  have q5 := (syncNames12 N K4 hA5 (SD_ok rfl (by simp)) (by simp [k3, SD]))
  simp only [k4_eq] at q5
  refine AOs.callQ tOK (fs := []) (cs := []) rfl fn12 ok12 rfl (by simp only [List.map_cons, List.map_nil, List.nil_append, List.append_nil, aeval, PT.get_set, Nat.reduceEqDiff, reduceIte] <;> rfl) q5 ?_
  rintro r K5 ⟨rfl, h5, a5⟩
  have s5 := St.op hwf hr5 hg5 hn5 h5 a5
  with_reducible repeat' (first
    | refine AOs.guardT (by with_unfolding_all rfl) (by simp only [PT.get_set, Nat.reduceEqDiff, reduceIte]; rfl) (by first | rfl | decide | assumption) ?_
    | ((first
        | refine AOs.op1E tOK (by with_unfolding_all rfl) ?_
        ); refine Step.mk (by simp only [evOp_move, evOp_pick, evOp_binOp, aeval, ofVal, PT.get_set, Nat.reduceEqDiff, reduceIte, Option.map_some, abin_neq, cond_false, decide_true, Bool.not_true, eq_self, e1]; rfl) ?_)
    | fail "stop")
  refine AOs.callQ tOK (fs := []) (cs := []) rfl fn10 ok10 rfl (by simp only [List.map_cons, List.map_nil, List.nil_append, List.append_nil, aeval, PT.get_set, Nat.reduceEqDiff, reduceIte] <;> rfl) (own10 N K5 (hb.keep fun b x hb _ => s5.2.1 b x hb).bytes (by omega)) ?_
  rintro r K6 ⟨o6, kk6, n6⟩
  have s6 := St.more s5 kk6 n6
  with_reducible repeat' (first
    | refine AOs.guardT (by with_unfolding_all rfl) (by simp only [PT.get_set, Nat.reduceEqDiff, reduceIte]; rfl) (by first | rfl | decide | assumption) ?_
    | ((first
        | refine AOs.op1E tOK (by with_unfolding_all rfl) ?_
        ); refine Step.mk (by simp only [evOp_move, evOp_assign, evOp_pick, evOp_build, evOp_nilCheck, evOp_binOp, evOp_not, evOp_fieldAddr, evOp_field, evOp_indexAddr, evOp_index, evOp_extract, evOp_makeFunc, evOp_load, evOp_lookup, evOp_store, evOp_mapUpdate, evOp_insert, evOp_range, evOp_makeMap, evOp_len, evOp_append, evOp_copy, evOp_delete, evOp_slice, evOp_convert, evOp_entry, evOp_boxC, boxC_one, boxC_agg, evOp_cap, rangeMapAt, storeAt, one_bool, one_int, one_str, one_nilp, one_ptr, one_nils, one_slice, one_empty, one_nilm, one_map, one_func, one_nilf, one_iface, one_nili, aeval, ofVal, PT.get_set, Nat.reduceEqDiff, reduceIte, lenOfAV_slice, lenOfAV_nils, lenOfAV_empty, cellAt, cellsAt, mapLenAt, lookAt, mapSetAt, mapDelAt, List.map_cons, List.map_nil, Option.map_some, Option.map_none, List.nil_append, List.append_nil, abin_add, abin_sub, abin_mul, abin_lss, abin_leq, abin_gtr, abin_geq, abin_eql, abin_neq, abin_eqlS, abin_neqS, cond_true, cond_false, decide_true, decide_false, Bool.not_true, Bool.not_false, TI.agg, List.getElem?_cons_zero, List.getElem?_cons_succ, Nat.add_zero, Nat.zero_add, Nat.zero_mul, nbeq, nble, nblt, Nat.reduceLeDiff, Nat.reduceLT, Nat.reduceMul, Nat.reduceAdd, Nat.reduceSub, Bool.and_true, Bool.true_and, Bool.and_false, Bool.false_and, List.length_cons, List.length_nil, List.set_cons_zero, List.set_cons_succ, AH.get_set, AH.next_set, eq_self, Int.ofNat_eq_natCast, Int.cast_ofNat_Int, Int.natCast_zero, Int.reduceEq, Int.reduceLT, Int.reduceLE, Int.reduceNeg, ld3, st3, ld4, st4, ld5, st5, al9, ld9, st9, ld20, st20, al22, ix22, bs22, ld22, ne22a, eq22a, ne22b, eq22b, ne22c, eq22c, st22, al23, ix23, bs23, ld23, ne23a, eq23a, ne23b, eq23b, ne23c, eq23c, st23, ld25, ne25a, eq25a, ne25b, eq25b, st25, ld26, st26, ld39, st39, al43, ix43, bs43, ld43, ne43a, eq43a, ne43b, eq43b, ne43c, eq43c, st43, fa47_0, fa47_1, fa47_2, fa47_3, fa47_4, fa47_5, ld47, al48, ix48, bs48, ld48, ne48a, eq48a, ne48b, eq48b, ne48c, eq48c, st48, fa51_0, fa51_1, ld51, an56, am56, ld56, md56, ms56, lk56, ne56a, eq56a, ne56b, eq56b, st56, al57, ix57, bs57, ld57, ne57a, eq57a, ne57b, eq57b, ne57c, eq57c, st57, fa59_0, fa59_1, fa59_2, fa59_3, fa59_4, fa59_5, ld59, ld61, ne61a, eq61a, ne61b, eq61b, st61, fa63_0, fa63_1, ld63, ld65, st65, ld70, st70, al74, ix74, bs74, ld74, ne74a, eq74a, ne74b, eq74b, ne74c, eq74c, st74, e0, e1]; rfl) ?_)
    | fail "stop")
  obtain ⟨⟨A7, hA7, hr7⟩, hg7, hn7⟩ := s6
  have q7 := (append9 N K6 (n := nf) hA7 (SD_ok rfl (by simp)) o6 (by rw [k4_used]; omega) (by omega) (fun i => Nat.le_trans (Nat.add_le_add_right (files_le (L := 300) (SD_fl (by simp; omega)) i) _) (by omega)) (by simp [k4, SD]) (by simp [k4, SD]))
  simp only [k5_eq (a := a) (b := b) (by omega) (by omega)] at q7
  refine AOs.callQ tOK (fs := []) (cs := []) rfl fn9 ok9 rfl (by simp only [List.map_cons, List.map_nil, List.nil_append, List.append_nil, aeval, ofVal, PT.get_set, Nat.reduceEqDiff, reduceIte] <;> rfl) q7 ?_
  rintro r K7 ⟨rfl, h7, a7⟩
  have s7 := St.op hwf hr7 hg7 hn7 h7 a7
  with_reducible repeat' (first
    | refine AW.seq ?_
    | refine AW.region ?_
    | refine AOs.nil ?_
    | refine AW.skip ?_
    | refine andThen_normal ?_
    | refine AOs.guardT (by with_unfolding_all rfl) (by simp only [PT.get_set, Nat.reduceEqDiff, reduceIte]; rfl) (by first | rfl | decide | assumption) ?_
    | refine AW.condF (by simp only [aeval, PT.get_set, Nat.reduceEqDiff, reduceIte]; rfl) (by first | rfl | decide | assumption) ?_
    | ((first
        | refine AOs.op1E tOK (by with_unfolding_all rfl) ?_
        ); refine Step.mk (by simp only [evOp_move, evOp_pick, evOp_binOp, aeval, ofVal, PT.get_set, Nat.reduceEqDiff, reduceIte, Option.map_some, abin_neq, cond_false, decide_true, Bool.not_true, eq_self]; rfl) ?_)
    | fail "stop")
  have hrem3 : ∀ cst t, abin tC .rem t cst (.int .i64 (max 0 ch)) (.int .i64 3) = some (.int .i64 (((max 0 ch).toNat % 3 : Nat) : Int)) := fun cst t => tmodN cst t ch 3 (by omega)
  have hw1 := wrap64_succ (show b.length < 9223372036854775807 by omega)
  cases ren with
  | false =>
    refine AOs.wf0 fun hwfJ => ?_
    obtain ⟨⟨A, hA, hr⟩, hg, hn⟩ := s7
    have okM : ((k5 a b)).OK := SD_ok rfl (by simp)
    have flM : ∀ (i : Nat) p, ((k5 a b)).files[i]? = some p → p.1.length ≤ 600 := SD_fl (by simp; omega)
    have shM : ((k5 a b)).Short 24 := ⟨by simp [k5, SD, nf, nt], by simp [k5, SD, nf, nt, Note.short]⟩
    have ckM := DM.kept_len ((k5 a b)) ch
    have slM : ((k5 a b)).sf.length ≤ 1 := by simp [k5, SD]
    have nlM : ((k5 a b)).notes.length ≤ 2 := by simp [k5, SD]
    have hcA := DM.crash_file okM flM ch parts
    have okC := DM.crash_ok okM flM ch parts
    obtain ⟨u, L, hcp, hi, hk, hnL, hne⟩ := ints_copy (K := K7.alloc (.cells false [])) (b := K7.next) (by rw [AH.get_alloc, if_pos rfl]) (hp.keep fun b x hb => by
      have h1 := hg b x hb
      have := hwfJ b x h1
      rw [AH.get_alloc, if_neg (by omega)]; exact h1) (by omega)
    rw [AH.next_alloc] at hnL
    have hkJ : ∀ b x, K7.get b = some x → L.get b = some x := fun b x hb => by
      have := hwfJ b x hb
      exact hk b x (by rw [AH.get_alloc, if_neg (by omega)]; exact hb) (by rw [AH.next_alloc]; omega)
    have hA' := hA.keep (K := L) (A' := A) ⟨fun b x hb _ => hkJ b x hb, by omega⟩ fun _ => id
    with_reducible repeat' (first
      | refine AW.seq ?_
      | refine AW.region ?_
      | refine AOs.nil ?_
      | refine AW.skip ?_
      | refine andThen_normal ?_
      | refine AOs.guardU (by with_unfolding_all rfl) (by simp only [PT.get_set, Nat.reduceEqDiff, reduceIte, e3]; rfl) (by with_unfolding_all rfl) (by with_unfolding_all rfl) ?_
      | refine AOs.guardF (by with_unfolding_all rfl) (by simp only [PT.get_set, Nat.reduceEqDiff, reduceIte, e3]; rfl) (by first | rfl | decide | assumption) (by with_unfolding_all rfl) ?_
      | refine AW.condF (by simp only [aeval, PT.get_set, Nat.reduceEqDiff, reduceIte, e3]; rfl) (by first | rfl | decide | assumption) ?_
      | ((first
          | refine AOs.op1E tOK (by with_unfolding_all rfl) ?_
          ); refine Step.mk (by simp only [evOp_move, evOp_pick, evOp_append, aeval, ofVal, PT.get_set, Nat.reduceEqDiff, reduceIte, List.map_cons, List.map_nil, cond_false, eq_self, bs23, e3, e4, e5, hcp]; rfl) ?_)
      | fail "stop")
    refine AOs.callQ tOK (fs := []) (cs := []) rfl fn14 ok14 rfl (by simp only [List.map_cons, List.map_nil, List.nil_append, List.append_nil, aeval, PT.get_set, Nat.reduceEqDiff, reduceIte] <;> rfl) (crash14 N L (ch := ch) (parts := parts) hA' okM (by omega) (fun i p h => Nat.le_trans (flM i p h) (by omega)) (fun p hp => Nat.le_trans (DM.kept_short shM ch p hp) (by omega)) (by omega) (DM.kept_refs okM ch) hi (fun b o n c z e hb => by
      have h1 := hr b hb
      rw [AH.next_alloc] at hne
      rcases hne b o n c z e with h2 | h2 <;> omega)) ?_
    rintro r KC ⟨rfl, hC, aC⟩
    have sC : St K KC d (((k5 a b)).crash ch parts) := St.op hwf (fun b hb => by have := hr b hb; omega) (fun b x hb => hkJ b x (hg b x hb)) (by omega) hC aC
    with_reducible repeat' (first
      | refine AW.seq ?_
      | refine AW.region ?_
      | refine AOs.nil ?_
      | refine AW.skip ?_
      | refine andThen_normal ?_
      | refine AW.condF (by simp only [aeval, PT.get_set, Nat.reduceEqDiff, reduceIte, e3]; rfl) (by first | rfl | decide | assumption) ?_
      | ((first
          | refine AOs.op1E tOK (by with_unfolding_all rfl) ?_
          ); refine Step.mk (by simp only [evOp_move, evOp_binOp, aeval, ofVal, PT.get_set, Nat.reduceEqDiff, reduceIte, Option.map_some, abin_neq, decide_true, Bool.not_true, eq_self, e3]; rfl) ?_)
      | fail "stop")
    obtain ⟨⟨AC', hAC, hrC⟩, hgC, hnC⟩ := sC
    refine AOs.callQ tOK (fs := []) (cs := []) rfl fn15 ok15 rfl (by simp only [List.map_cons, List.map_nil, List.nil_append, List.append_nil, aeval, ofVal, PT.get_set, Nat.reduceEqDiff, reduceIte] <;> rfl) (got15 N KC (n := nf) hAC okC (fun i => Nat.le_trans (hcA i) (by omega))) ?_
    rintro r KG ⟨rfl, hG, aG⟩
    have sG : St K KG d ((((k5 a b)).crash ch parts).op true) := St.op hwf hrC hgC hnC hG aG
    have haG := ha.keep fun b x hb _ => sG.2.1 b x hb
    have hbG := hb.keep fun b x hb _ => sG.2.1 b x hb
    have hcG := hc.keep fun b x hb _ => sG.2.1 b x hb
    have cva := cv22s haG
    have cvc := cv22s hcG
    cases parts with
    | nil =>
      have hd0 : decide ((0 : Int) < (([] : List Int).length : Nat)) = false := rfl
      obtain ⟨w, hw', hwB⟩ := hbG.head (n := 0) (by omega)
      have hw : aslice tC 22 vb none (some (.int .i64 0)) none = some w := hw'
      have cvw := cv22s hwB
      have has := fun t cst => abin_addS (t := t) (cst := cst) (a := a) (b := b.take 0) (by simp; omega)
      have hdt : decide ((((k5 a b)).crash ch []).readB nf = a ++ b.take 0) = true := by rw [c5_read]; simp [cutOf]
      with_reducible repeat' (first
        | refine AW.seq ?_
        | refine AW.region ?_
        | refine AOs.nil ?_
        | refine AW.skip ?_
        | refine AW.ret ?_
        | refine andThen_normal ?_
        | refine AOs.guardF (by with_unfolding_all rfl) (by simp only [PT.get_set, Nat.reduceEqDiff, reduceIte, e3, if_true]; rfl) (by first | rfl | decide | assumption) (by with_unfolding_all rfl) ?_
        | refine AW.condF (by simp only [aeval, PT.get_set, Nat.reduceEqDiff, reduceIte, e3, if_true]; rfl) (by first | rfl | decide | assumption) ?_
        | refine AW.drawT tOK (by with_unfolding_all rfl) (by simp only [pickAll, Nat.reduceAdd]; rfl) ?_
        | refine DN.nil tOK ?_
        | ((first
            | refine DN.fl1E (by with_unfolding_all rfl) (by with_unfolding_all rfl) ?_
            | refine DN.rd1E (by kernel_rfl) (by with_unfolding_all rfl) ?_
            ); refine Step.mk (by simp only [evOp_move, evOp_assign, evOp_binOp, evOp_slice, evOp_convert, aeval, PT.get_set, Nat.reduceEqDiff, reduceIte, Option.map_some, Option.map_none, abin_eqlS, List.length_nil, eq_self, Int.cast_ofNat_Int, e0, e1, e3, hw, cva, cvw, has, hdt, if_true]; rfl) ?_; refine Same.mk ?_)
        | ((first
            | refine AOs.op1E tOK (by with_unfolding_all rfl) ?_
            ); refine Step.mk (by simp only [evOp_move, evOp_assign, evOp_pick, evOp_binOp, evOp_len, aeval, ofVal, PT.get_set, Nat.reduceEqDiff, reduceIte, Option.map_some, abin_gtr, cond_false, decide_false, List.length_nil, eq_self, Int.cast_ofNat_Int, Int.reduceLT, al23, e3, e4, e5, hrem3, evOp_max2, max2V_int, Option.isSome_some, lp, if_true]; rfl) ?_)
        | fail "stop")
      exact fnPost_ret1 (by first | (simp only [PT.get_set, Nat.reduceEqDiff, reduceIte]; rfl) | simp only [PT.get_set, Nat.reduceEqDiff, reduceIte]) rfl
    | cons x l =>
      have hd0 : decide ((0 : Int) < ((l.length + 1 : Nat) : Int)) = true := by simp
      obtain ⟨w, hw, hwB⟩ := hbG.head (n := (max 0 x).toNat % (b.length + 1)) (mod_le _ _)
      have cvw := cv22s hwB
      have has := fun t cst => abin_addS (t := t) (cst := cst) (a := a) (b := b.take ((max 0 x).toNat % (b.length + 1))) (by simp; omega)
      have hdt : decide ((((k5 a b)).crash ch (x :: l)).readB nf = a ++ b.take ((max 0 x).toNat % (b.length + 1))) = true := by rw [c5_read]; simp [cutOf]
      have hpK := hp.keep fun b x hb => sG.2.1 b x hb
      obtain ⟨pb, pc, pro, pvs, rfl, hpg, hpv⟩ := hpK.ne
      have hix : ∀ (k : IntKind), aindexAddr tC 23 (.slice pb 0 (l.length + 1) pc 1) (.int k 0) = some (.ptr pb (0 + 0 * 1)) := fun k => ix23z (by omega)
      have hrx := fun cst t => tmodN cst t x (b.length + 1) (by omega)
      with_reducible repeat' (first
        | refine AW.seq ?_
        | refine AW.region ?_
        | refine AOs.nil ?_
        | refine AW.skip ?_
        | refine AW.ret ?_
        | refine andThen_normal ?_
        | refine AOs.guardF (by with_unfolding_all rfl) (by simp only [PT.get_set, Nat.reduceEqDiff, reduceIte, e3, if_true]; rfl) (by first | rfl | decide | assumption) (by with_unfolding_all rfl) ?_
        | refine AW.condT (by simp only [aeval, PT.get_set, Nat.reduceEqDiff, reduceIte, e3, if_true]; rfl) (by first | rfl | decide | assumption) ?_
        | refine AW.condF (by simp only [aeval, PT.get_set, Nat.reduceEqDiff, reduceIte, e3, if_true]; rfl) (by first | rfl | decide | assumption) ?_
        | refine AW.drawT tOK (by with_unfolding_all rfl) (by simp only [pickAll, Nat.reduceAdd]; rfl) ?_
        | refine DN.nil tOK ?_
        | ((first
            | refine DN.fl1E (by with_unfolding_all rfl) (by with_unfolding_all rfl) ?_
            | refine DN.rd1E (by kernel_rfl) (by with_unfolding_all rfl) ?_
            ); refine Step.mk (by simp only [evOp_move, evOp_assign, evOp_binOp, evOp_slice, evOp_convert, aeval, PT.get_set, Nat.reduceEqDiff, reduceIte, Option.map_some, Option.map_none, abin_eqlS, List.length_cons, eq_self, e0, e1, e3, hw, cva, cvw, has, hdt, if_true]; rfl) ?_; refine Same.mk ?_)
        | ((first
            | refine AOs.op1E tOK (by with_unfolding_all rfl) ?_
            ); refine Step.mk (by simp only [evOp_move, evOp_assign, evOp_pick, evOp_binOp, evOp_indexAddr, evOp_load, evOp_len, aeval, ofVal, PT.get_set, Nat.reduceEqDiff, reduceIte, cellAt, Option.map_some, abin_add, abin_gtr, cond_false, Nat.add_zero, Nat.zero_mul, List.length_cons, eq_self, ld3, al22, al23, e1, e3, e4, e5, hrem3, evOp_max2, max2V_int, Option.isSome_some, lp, lb, hd0, hix, hpg, hpv, hrx, hw1, if_true]; rfl) ?_)
        | fail "stop")
      exact fnPost_ret1 (by first | (simp only [PT.get_set, Nat.reduceEqDiff, reduceIte]; rfl) | simp only [PT.get_set, Nat.reduceEqDiff, reduceIte]) rfl
  | true =>
    with_reducible repeat' (first
      | refine AOs.guardT (by with_unfolding_all rfl) (by simp only [PT.get_set, Nat.reduceEqDiff, reduceIte, e3]; rfl) (by first | rfl | decide | assumption) ?_
      | ((first
          | refine AOs.op1E tOK (by with_unfolding_all rfl) ?_
          ); refine Step.mk (by simp only [evOp_move, aeval, PT.get_set, Nat.reduceEqDiff, reduceIte, eq_self, e3]; rfl) ?_)
      | fail "stop")
    obtain ⟨⟨A8, hA8, hr8⟩, hg8, hn8⟩ := s7
    have q8 := (make8 N K7 (n := nt) (fun b hb => (hr8 b hb).2) hA8 (SD_ok rfl (by simp)) (by simp [k5, SD]))
    simp only [k6_eq] at q8
    refine AOs.callQ tOK (fs := []) (cs := []) rfl fn8 ok8 rfl (by simp only [List.map_cons, List.map_nil, List.nil_append, List.append_nil, aeval, ofVal, PT.get_set, Nat.reduceEqDiff, reduceIte] <;> rfl) q8 ?_
    rintro r K8 ⟨rfl, h8, a8⟩
    have s8 := St.op hwf hr8 hg8 hn8 h8 a8
    with_reducible repeat' (first
      | refine AOs.guardT (by with_unfolding_all rfl) (by simp only [PT.get_set, Nat.reduceEqDiff, reduceIte, e3]; rfl) (by first | rfl | decide | assumption) ?_
      | ((first
          | refine AOs.op1E tOK (by with_unfolding_all rfl) ?_
          ); refine Step.mk (by simp only [evOp_move, evOp_binOp, aeval, ofVal, PT.get_set, Nat.reduceEqDiff, reduceIte, Option.map_some, abin_neq, decide_true, Bool.not_true, eq_self, e2, e3]; rfl) ?_)
      | fail "stop")
    refine AOs.callQ tOK (fs := []) (cs := []) rfl fn10 ok10 rfl (by simp only [List.map_cons, List.map_nil, List.nil_append, List.append_nil, aeval, PT.get_set, Nat.reduceEqDiff, reduceIte] <;> rfl) (own10 N K8 (hc.keep fun b x hb _ => s8.2.1 b x hb).bytes (by omega)) ?_
    rintro r K9 ⟨o9, kk9, n9⟩
    have s9 := St.more s8 kk9 n9
    with_reducible repeat' (first
      | refine AOs.guardT (by with_unfolding_all rfl) (by simp only [PT.get_set, Nat.reduceEqDiff, reduceIte, e3]; rfl) (by first | rfl | decide | assumption) ?_
      | ((first
          | refine AOs.op1E tOK (by with_unfolding_all rfl) ?_
          ); refine Step.mk (by simp only [e3]; rfl) ?_)
      | fail "stop")
    obtain ⟨⟨A10, hA10, hr10⟩, hg10, hn10⟩ := s9
    have q10 := (append9 N K9 (n := nt) hA10 (SD_ok rfl (by simp)) o9 (by rw [k6_used]; omega) (by omega) (fun i => Nat.le_trans (Nat.add_le_add_right (files_le (L := 600) (SD_fl (by simp; omega)) i) _) (by omega)) (by simp [k6, SD]) (by simp [k6, SD]))
    simp only [k7_eq (a := a) (b := b) (c := c) (by omega) (by omega) (by omega)] at q10
    refine AOs.callQ tOK (fs := []) (cs := []) rfl fn9 ok9 rfl (by simp only [List.map_cons, List.map_nil, List.nil_append, List.append_nil, aeval, ofVal, PT.get_set, Nat.reduceEqDiff, reduceIte] <;> rfl) q10 ?_
    rintro r K10 ⟨rfl, h10, a10⟩
    have s10 := St.op hwf hr10 hg10 hn10 h10 a10
    with_reducible repeat' (first
      | refine AOs.guardT (by with_unfolding_all rfl) (by simp only [PT.get_set, Nat.reduceEqDiff, reduceIte, e3]; rfl) (by first | rfl | decide | assumption) ?_
      | ((first
          | refine AOs.op1E tOK (by with_unfolding_all rfl) ?_
          ); refine Step.mk (by simp only [evOp_move, evOp_pick, evOp_binOp, aeval, ofVal, PT.get_set, Nat.reduceEqDiff, reduceIte, Option.map_some, abin_neq, cond_false, decide_true, Bool.not_true, eq_self, e3]; rfl) ?_)
      | fail "stop")
    obtain ⟨⟨A11, hA11, hr11⟩, hg11, hn11⟩ := s10
    have q11 := (sync11 N K10 (n := nt) hA11 (SD_ok rfl (by simp)))
    simp only [k8_eq] at q11
    refine AOs.callQ tOK (fs := []) (cs := []) rfl fn11 ok11 rfl (by simp only [List.map_cons, List.map_nil, List.nil_append, List.append_nil, aeval, ofVal, PT.get_set, Nat.reduceEqDiff, reduceIte] <;> rfl) q11 ?_
    rintro r K11 ⟨rfl, h11, a11⟩
    have s11 := St.op hwf hr11 hg11 hn11 h11 a11
    with_reducible repeat' (first
      | refine AOs.guardT (by with_unfolding_all rfl) (by simp only [PT.get_set, Nat.reduceEqDiff, reduceIte, e3]; rfl) (by first | rfl | decide | assumption) ?_
      | ((first
          | refine AOs.op1E tOK (by with_unfolding_all rfl) ?_
          ); refine Step.mk (by simp only [evOp_move, evOp_pick, evOp_binOp, aeval, ofVal, PT.get_set, Nat.reduceEqDiff, reduceIte, Option.map_some, abin_neq, cond_false, decide_true, Bool.not_true, eq_self, e3]; rfl) ?_)
      | fail "stop")
    obtain ⟨⟨A12, hA12, hr12⟩, hg12, hn12⟩ := s11
    have q12 := (rename13 N K11 (n := nt) (n' := nf) hA12 (SD_ok rfl (by simp)) (by simp [k8, SD]))
    simp only [k9_eq] at q12
    refine AOs.callQ tOK (fs := []) (cs := []) rfl fn13 ok13 rfl (by simp only [List.map_cons, List.map_nil, List.nil_append, List.append_nil, aeval, ofVal, PT.get_set, Nat.reduceEqDiff, reduceIte] <;> rfl) q12 ?_
    rintro r K12 ⟨rfl, h12, a12⟩
    have s12 := St.op hwf hr12 hg12 hn12 h12 a12
    refine AOs.wf0 fun hwfJ => ?_
    obtain ⟨⟨A, hA, hr⟩, hg, hn⟩ := s12
    have okM : ((k9 a b c)).OK := SD_ok rfl (by simp)
    have flM : ∀ (i : Nat) p, ((k9 a b c)).files[i]? = some p → p.1.length ≤ 600 := SD_fl (by simp; omega)
    have shM : ((k9 a b c)).Short 24 := ⟨by simp [k9, SD, nf, nt], by simp [k9, SD, nf, nt, Note.short]⟩
    have ckM := DM.kept_len ((k9 a b c)) ch
    have slM : ((k9 a b c)).sf.length ≤ 1 := by simp [k9, SD]
    have nlM : ((k9 a b c)).notes.length ≤ 2 := by simp [k9, SD]
    have hcA := DM.crash_file okM flM ch parts
    have okC := DM.crash_ok okM flM ch parts
    obtain ⟨u, L, hcp, hi, hk, hnL, hne⟩ := ints_copy (K := K12.alloc (.cells false [])) (b := K12.next) (by rw [AH.get_alloc, if_pos rfl]) (hp.keep fun b x hb => by
      have h1 := hg b x hb
      have := hwfJ b x h1
      rw [AH.get_alloc, if_neg (by omega)]; exact h1) (by omega)
    rw [AH.next_alloc] at hnL
    have hkJ : ∀ b x, K12.get b = some x → L.get b = some x := fun b x hb => by
      have := hwfJ b x hb
      exact hk b x (by rw [AH.get_alloc, if_neg (by omega)]; exact hb) (by rw [AH.next_alloc]; omega)
    have hA' := hA.keep (K := L) (A' := A) ⟨fun b x hb _ => hkJ b x hb, by omega⟩ fun _ => id
    with_reducible repeat' (first
      | refine AW.seq ?_
      | refine AW.region ?_
      | refine AOs.nil ?_
      | refine AW.skip ?_
      | refine andThen_normal ?_
      | refine AOs.guardT (by with_unfolding_all rfl) (by simp only [PT.get_set, Nat.reduceEqDiff, reduceIte, e3]; rfl) (by first | rfl | decide | assumption) ?_
      | refine AW.condF (by simp only [aeval, PT.get_set, Nat.reduceEqDiff, reduceIte, e3]; rfl) (by first | rfl | decide | assumption) ?_
      | ((first
          | refine AOs.op1E tOK (by with_unfolding_all rfl) ?_
          ); refine Step.mk (by simp only [evOp_move, evOp_pick, evOp_binOp, evOp_append, aeval, ofVal, PT.get_set, Nat.reduceEqDiff, reduceIte, List.map_cons, List.map_nil, Option.map_some, abin_neq, cond_true, cond_false, decide_true, Bool.not_true, eq_self, bs23, e3, e4, e5, hcp]; rfl) ?_)
      | fail "stop")
    refine AOs.callQ tOK (fs := []) (cs := []) rfl fn14 ok14 rfl (by simp only [List.map_cons, List.map_nil, List.nil_append, List.append_nil, aeval, PT.get_set, Nat.reduceEqDiff, reduceIte] <;> rfl) (crash14 N L (ch := ch) (parts := parts) hA' okM (by omega) (fun i p h => Nat.le_trans (flM i p h) (by omega)) (fun p hp => Nat.le_trans (DM.kept_short shM ch p hp) (by omega)) (by omega) (DM.kept_refs okM ch) hi (fun b o n c z e hb => by
      have h1 := hr b hb
      rw [AH.next_alloc] at hne
      rcases hne b o n c z e with h2 | h2 <;> omega)) ?_
    rintro r KC ⟨rfl, hC, aC⟩
    have sC : St K KC d (((k9 a b c)).crash ch parts) := St.op hwf (fun b hb => by have := hr b hb; omega) (fun b x hb => hkJ b x (hg b x hb)) (by omega) hC aC
    with_reducible repeat' (first
      | refine AW.seq ?_
      | refine AW.region ?_
      | refine AOs.nil ?_
      | refine AW.skip ?_
      | refine andThen_normal ?_
      | refine AW.condF (by simp only [aeval, PT.get_set, Nat.reduceEqDiff, reduceIte, e3]; rfl) (by first | rfl | decide | assumption) ?_
      | ((first
          | refine AOs.op1E tOK (by with_unfolding_all rfl) ?_
          ); refine Step.mk (by simp only [evOp_move, evOp_binOp, aeval, ofVal, PT.get_set, Nat.reduceEqDiff, reduceIte, Option.map_some, abin_neq, decide_true, Bool.not_true, eq_self, e3]; rfl) ?_)
      | fail "stop")
    obtain ⟨⟨AC', hAC, hrC⟩, hgC, hnC⟩ := sC
    refine AOs.callQ tOK (fs := []) (cs := []) rfl fn15 ok15 rfl (by simp only [List.map_cons, List.map_nil, List.nil_append, List.append_nil, aeval, ofVal, PT.get_set, Nat.reduceEqDiff, reduceIte] <;> rfl) (got15 N KC (n := nf) hAC okC (fun i => Nat.le_trans (hcA i) (by omega))) ?_
    rintro r KG ⟨rfl, hG, aG⟩
    have sG : St K KG d ((((k9 a b c)).crash ch parts).op true) := St.op hwf hrC hgC hnC hG aG
    have haG := ha.keep fun b x hb _ => sG.2.1 b x hb
    have hbG := hb.keep fun b x hb _ => sG.2.1 b x hb
    have hcG := hc.keep fun b x hb _ => sG.2.1 b x hb
    have cva := cv22s haG
    have cvc := cv22s hcG
    by_cases hk3 : (max 0 ch).toNat % 3 = 2
    · have hk2 : decide ((((max 0 ch).toNat % 3 : Nat) : Int) = 2) = true := by rw [hk3]; rfl
      obtain ⟨hc1, hc2⟩ := c9_read2 (a := a) (b := b) (c := c) (ch := ch) (parts := parts) hk3
      have hdt : decide (((k9 a b c).crash ch parts).readB nf = c) = true := by rw [hc1]; simp
      obtain ⟨⟨AG, hAG, hrG⟩, hgG, hnG⟩ := sG
      with_reducible repeat' (first
        | refine AW.seq ?_
        | refine AW.region ?_
        | refine AOs.nil ?_
        | refine andThen_normal ?_
        | refine AOs.guardT (by with_unfolding_all rfl) (by simp only [PT.get_set, Nat.reduceEqDiff, reduceIte, e3]; rfl) (by first | rfl | decide | assumption) ?_
        | refine AW.condT (by simp only [aeval, PT.get_set, Nat.reduceEqDiff, reduceIte, e3]; rfl) (by first | rfl | decide | assumption) ?_
        | ((first
            | refine AOs.op1E tOK (by with_unfolding_all rfl) ?_
            ); refine Step.mk (by simp only [evOp_move, evOp_assign, evOp_pick, evOp_binOp, evOp_convert, aeval, ofVal, PT.get_set, Nat.reduceEqDiff, reduceIte, Option.map_some, abin_eql, abin_eqlS, cond_true, eq_self, e2, e3, e4, hrem3, evOp_max2, max2V_int, Option.isSome_some, hk2, cvc, hdt]; rfl) ?_)
        | fail "stop")
      have q := size16 N KG (n := nt) hAG (okC.op true)
      rw [hc2] at q
      refine AOs.callQ tOK (fs := []) (cs := []) rfl fn16 ok16 rfl (by simp only [List.map_cons, List.map_nil, List.nil_append, List.append_nil, aeval, ofVal, PT.get_set, Nat.reduceEqDiff, reduceIte] <;> rfl) q ?_
      rintro r K13 ⟨rfl, rfl⟩
      with_reducible repeat' (first
        | refine AOs.nil ?_
        | refine AW.ret ?_
        | refine andThen_normal ?_
        | refine andThen_ret ?_
        | refine AOs.guardT (by with_unfolding_all rfl) (by simp only [PT.get_set, Nat.reduceEqDiff, reduceIte]; rfl) (by first | rfl | decide | assumption) ?_
        | ((first
            | refine AOs.op1E tOK (by with_unfolding_all rfl) ?_
            ); refine Step.mk (by simp only [evOp_assign, evOp_pick, evOp_binOp, aeval, ofVal, PT.get_set, Nat.reduceEqDiff, reduceIte, Option.map_some, abin_eql, cond_true, decide_true, eq_self, Int.reduceNeg]; rfl) ?_)
        | fail "stop")
      exact fnPost_ret1 (by first | (simp only [PT.get_set, Nat.reduceEqDiff, reduceIte]; rfl) | simp only [PT.get_set, Nat.reduceEqDiff, reduceIte]) rfl
    · have hk2 : decide ((((max 0 ch).toNat % 3 : Nat) : Int) = 2) = false := decide_eq_false (by omega)
      cases parts with
      | nil =>
        have hd0 : decide ((0 : Int) < (([] : List Int).length : Nat)) = false := rfl
        obtain ⟨w, hw', hwB⟩ := hbG.head (n := 0) (by omega)
        have hw : aslice tC 22 vb none (some (.int .i64 0)) none = some w := hw'
        have cvw := cv22s hwB
        have has := fun t cst => abin_addS (t := t) (cst := cst) (a := a) (b := b.take 0) (by simp; omega)
        have hdt : decide ((((k9 a b c)).crash ch []).readB nf = a ++ b.take 0) = true := by rw [(c9_read hk3)]; simp [cutOf]
        with_reducible repeat' (first
          | refine AW.seq ?_
          | refine AW.region ?_
          | refine AOs.nil ?_
          | refine AW.skip ?_
          | refine AW.ret ?_
          | refine andThen_normal ?_
          | refine AOs.guardT (by with_unfolding_all rfl) (by simp only [PT.get_set, Nat.reduceEqDiff, reduceIte, e3]; rfl) (by first | rfl | decide | assumption) ?_
          | refine AW.condF (by simp only [aeval, PT.get_set, Nat.reduceEqDiff, reduceIte, e3]; rfl) (by first | rfl | decide | assumption) ?_
          | refine AW.drawT tOK (by with_unfolding_all rfl) (by simp only [pickAll, Nat.reduceAdd]; rfl) ?_
          | refine DN.nil tOK ?_
          | ((first
              | refine DN.fl1E (by with_unfolding_all rfl) (by with_unfolding_all rfl) ?_
              | refine DN.rd1E (by kernel_rfl) (by with_unfolding_all rfl) ?_
              ); refine Step.mk (by simp only [evOp_move, evOp_assign, evOp_binOp, evOp_slice, evOp_convert, aeval, PT.get_set, Nat.reduceEqDiff, reduceIte, Option.map_some, Option.map_none, abin_eqlS, List.length_nil, eq_self, Int.cast_ofNat_Int, e0, e1, e3, hw, cva, cvw, has, hdt]; rfl) ?_; refine Same.mk ?_)
          | ((first
              | refine AOs.op1E tOK (by with_unfolding_all rfl) ?_
              ); refine Step.mk (by simp only [evOp_move, evOp_assign, evOp_pick, evOp_binOp, evOp_len, aeval, ofVal, PT.get_set, Nat.reduceEqDiff, reduceIte, Option.map_some, abin_gtr, abin_eql, cond_true, decide_false, List.length_nil, eq_self, Int.cast_ofNat_Int, Int.reduceLT, al23, e3, e4, e5, hrem3, evOp_max2, max2V_int, Option.isSome_some, lp, hk2]; rfl) ?_)
          | fail "stop")
        exact fnPost_ret1 (by first | (simp only [PT.get_set, Nat.reduceEqDiff, reduceIte]; rfl) | simp only [PT.get_set, Nat.reduceEqDiff, reduceIte]) rfl
      | cons x l =>
        have hd0 : decide ((0 : Int) < ((l.length + 1 : Nat) : Int)) = true := by simp
        obtain ⟨w, hw, hwB⟩ := hbG.head (n := (max 0 x).toNat % (b.length + 1)) (mod_le _ _)
        have cvw := cv22s hwB
        have has := fun t cst => abin_addS (t := t) (cst := cst) (a := a) (b := b.take ((max 0 x).toNat % (b.length + 1))) (by simp; omega)
        have hdt : decide ((((k9 a b c)).crash ch (x :: l)).readB nf = a ++ b.take ((max 0 x).toNat % (b.length + 1))) = true := by rw [(c9_read hk3)]; simp [cutOf]
        have hpK := hp.keep fun b x hb => sG.2.1 b x hb
        obtain ⟨pb, pc, pro, pvs, rfl, hpg, hpv⟩ := hpK.ne
        have hix : ∀ (k : IntKind), aindexAddr tC 23 (.slice pb 0 (l.length + 1) pc 1) (.int k 0) = some (.ptr pb (0 + 0 * 1)) := fun k => ix23z (by omega)
        have hrx := fun cst t => tmodN cst t x (b.length + 1) (by omega)
        with_reducible repeat' (first
          | refine AW.seq ?_
          | refine AW.region ?_
          | refine AOs.nil ?_
          | refine AW.skip ?_
          | refine AW.ret ?_
          | refine andThen_normal ?_
          | refine AOs.guardT (by with_unfolding_all rfl) (by simp only [PT.get_set, Nat.reduceEqDiff, reduceIte, e3]; rfl) (by first | rfl | decide | assumption) ?_
          | refine AW.condT (by simp only [aeval, PT.get_set, Nat.reduceEqDiff, reduceIte, e3]; rfl) (by first | rfl | decide | assumption) ?_
          | refine AW.condF (by simp only [aeval, PT.get_set, Nat.reduceEqDiff, reduceIte, e3]; rfl) (by first | rfl | decide | assumption) ?_
          | refine AW.drawT tOK (by with_unfolding_all rfl) (by simp only [pickAll, Nat.reduceAdd]; rfl) ?_
          | refine DN.nil tOK ?_
          | ((first
              | refine DN.fl1E (by with_unfolding_all rfl) (by with_unfolding_all rfl) ?_
              | refine DN.rd1E (by kernel_rfl) (by with_unfolding_all rfl) ?_
              ); refine Step.mk (by simp only [evOp_move, evOp_assign, evOp_binOp, evOp_slice, evOp_convert, aeval, PT.get_set, Nat.reduceEqDiff, reduceIte, Option.map_some, Option.map_none, abin_eqlS, List.length_cons, eq_self, e0, e1, e3, hw, cva, cvw, has, hdt]; rfl) ?_; refine Same.mk ?_)
          | ((first
              | refine AOs.op1E tOK (by with_unfolding_all rfl) ?_
              ); refine Step.mk (by simp only [evOp_move, evOp_assign, evOp_pick, evOp_binOp, evOp_indexAddr, evOp_load, evOp_len, aeval, ofVal, PT.get_set, Nat.reduceEqDiff, reduceIte, cellAt, Option.map_some, abin_add, abin_gtr, abin_eql, cond_true, Nat.add_zero, Nat.zero_mul, List.length_cons, eq_self, ld3, al22, al23, e1, e3, e4, e5, hrem3, evOp_max2, max2V_int, Option.isSome_some, lp, lb, hd0, hix, hpg, hpv, hrx, hw1, hk2]; rfl) ?_)
          | fail "stop")
        exact fnPost_ret1 (by first | (simp only [PT.get_set, Nat.reduceEqDiff, reduceIte]; rfl) | simp only [PT.get_set, Nat.reduceEqDiff, reduceIte]) rfl
end Go.Proofs.Ytdenmkbbmkdnpaa

open Go Go.AB Go.Proofs
namespace Go.Proofs.Ytdenmkbbmkdnpaa

theorem hasAll_cons {X : Type} {P : Program} {H : AH} {k : Nat} {t : TypeId} {ts : List TypeId} {ds : List (DataW X)} {xs : List AV} (h : HasAll P H k (t :: ts) ds xs) : ∃ (d : DataW X) (ds' : List (DataW X)) (a : AV) (xs' : List AV), xs = a :: xs' ∧ Has P H k t d [a] ∧ HasAll P H k ts ds' xs' := by
  cases ds with
  | nil => exact h.elim
  | cons d ds =>
    obtain ⟨a, xs', h1, h2, h3⟩ := h
    exact ⟨d, ds, a, xs', h1, h2, h3⟩
theorem hasAll_nil {X : Type} {P : Program} {H : AH} {k : Nat} {ds : List (DataW X)} {xs : List AV} (h : HasAll P H k [] ds xs) : xs = [] := by
  cases ds with
  | nil => exact h
  | cons d ds => exact h.elim

theorem law3_all {X : Type} {ds : List (DataW X)} (N : Nat) (H : AH) (xs : List AV) (hlt : ∀ b o, H.get b = some o → b < H.next) (h : HasAll Try.prog H 8 [22, 22, 22, 4, 3, 23] ds xs) :
    AC tC N 0 3 xs H fun r _ => r = .bool true := by
  obtain ⟨d1, _, a1, _, rfl, h1, h⟩ := hasAll_cons h
  obtain ⟨d2, _, a2, _, rfl, h2, h⟩ := hasAll_cons h
  obtain ⟨d3, _, a3, _, rfl, h3, h⟩ := hasAll_cons h
  obtain ⟨d4, _, a4, _, rfl, h4, h⟩ := hasAll_cons h
  obtain ⟨d5, _, a5, _, rfl, h5, h⟩ := hasAll_cons h
  obtain ⟨d6, _, a6, _, rfl, h6, h⟩ := hasAll_cons h
  obtain rfl := hasAll_nil h
  obtain ⟨v1, l1, e1, b1⟩ := has_bytes h1
  obtain ⟨v2, l2, e2, b2⟩ := has_bytes h2
  obtain ⟨v3, l3, e3, b3⟩ := has_bytes h3
  obtain ⟨v6, l6, e6, b6⟩ := has_ints h6
  unfold Has at h4 h5
  rw [u4] at h4
  rw [u3] at h5
  obtain ⟨ren, _, e4⟩ := h4
  obtain ⟨ch, _, _, e5⟩ := h5
  simp only [List.cons.injEq, and_true] at e1 e2 e3 e4 e5 e6
  subst e1 e2 e3 e4 e5 e6
  exact keeps3 N H b1 b2 b3 b6
end Go.Proofs.Ytdenmkbbmkdnpaa
