/- Log: a log whose last frame was cut is opened; no condition. -/
import Derived.Test.YtgihociajfgohaaGreatDoorKeepsStart
set_option linter.unusedSimpArgs false
set_option linter.unusedVariables false
open Go Go.AB Go.Proofs
namespace Go.Proofs.YtgihociajfgohaaGreatDoor
set_option maxRecDepth 100000

/-- Rows of bytes that lie beside a disk. -/
def RowsK (K : AH) (A : Nat → Prop) (v : AV) (ls : List Nm) : Prop := ∀ L, (∀ b x, K.get b = some x → ¬ A b → L.get b = some x) → RowsAt L v ls

set_option maxHeartbeats 8000000 in
theorem open10w (N : Nat) {H : AH} {d : Nat} {M : DM} {A : Nat → Prop} {i0 g : Nat} {b : Nm} {recs : List Nm} (hA : ∀ b, A b → b < H.next) (hD : DiskAt H d M A) (hM : MB M i0) (hi0 : i0 ≤ 390) (hnm : ∀ s ∈ M.names, LName s) (hg : maxG M.names = g) (hg0 : Gen g)
    (hre : M.readE (fileN g) = 0) (hrb : M.readB (fileN g) = b) (hno : nameOK (fileN g) = true) (hbl : b.length ≤ 100000000) (hsc : scanM (b.length + 1) b = (recs, b.length, 0)) (hrl : recs.length ≤ 1000000) (hcl : ((M.op true).clean g).1 = 0) :
    AC tC N 0 10 [.ptr d 0, .str nL] H fun r K => ∃ L A' s, r = .tuple [.ptr L 0, s, .int .i64 0] ∧ Opened H K A d ((M.op true).clean g).2 L g b.length recs.length A' ∧ RowsK K A' s recs := by
  refine AC.wf0 fun hwf => ?_
  obtain ⟨φ, nb, sb, cv, v1, v2, hDA⟩ := id hD
  refine AC.by (n := 120) (rs := [.tmp 4, .tmp 5, .tmp 6]) tOK fn10 rfl rfl rfl rfl ?_
  have e0 : (PT.ofList .leaf 0 [AV.ptr d 0, .str nL]).get 0 = some (.ptr d 0) := rfl
  have e1 : (PT.ofList .leaf 0 [AV.ptr d 0, .str nL]).get 1 = some (.str nL) := rfl
  with_reducible repeat' (first
 | refine AW.seq ?_
 | refine AW.region ?_
 | refine AOs.nil ?_
 | refine andThen_normal ?_
 | ((first
 | refine AOs.op1E tOK (by with_unfolding_all rfl) ?_
 ); refine Step.mk (by simp only [evOp_move, evOp_assign, aeval, ofVal, PT.get_set, Nat.reduceEqDiff, reduceIte, e0]; rfl) ?_)
 | fail "stop")
  refine AOs.callQ tOK (fs := []) (cs := []) rfl fn37 ok37 rfl (by simp only [List.map_cons, List.map_nil, List.nil_append, List.append_nil, aeval, PT.get_set, Nat.reduceEqDiff, reduceIte] <;> rfl) (made34 N H hDA.core) ?_
  rintro r H' ⟨rfl, rfl⟩
  with_reducible repeat' (first
 | refine AW.seq ?_
 | refine AW.region ?_
 | refine AOs.nil ?_
 | refine AW.skip ?_
 | refine andThen_normal ?_
 | refine AW.condF (by simp only [aeval, PT.get_set, Nat.reduceEqDiff, reduceIte]; rfl) (by first | rfl | decide | assumption) ?_
 | ((first
 | refine AOs.op1E tOK (by with_unfolding_all rfl) ?_
 ); refine Step.mk (by simp only [evOp_move, evOp_not, aeval, PT.get_set, Nat.reduceEqDiff, reduceIte, Bool.not_true, eq_self, e1]; rfl) ?_)
 | fail "stop")
  refine AOs.callQ tOK (fs := []) (cs := []) rfl fn35 ok35 rfl (by simp only [List.map_cons, List.map_nil, List.nil_append, List.append_nil, aeval, PT.get_set, Nat.reduceEqDiff, reduceIte] <;> rfl) (right35 N H') ?_
  rintro r H ⟨rfl, rfl⟩
  obtain ⟨H1, hH1⟩ : ∃ H1, H1 = H.alloc (logO 0 d 0 0 0) := ⟨_, rfl⟩
  have hH1' : H.alloc (.cells false [.int .i64 0, .ptr d 0, .str nL, .int .i64 0, .int .i64 0, .int .i64 0]) = H1 := hH1.symm
  have sy1 : ∀ b x, H.get b = some x → H1.get b = some x := fun b x hb => by rw [hH1]; exact stay_alloc hwf _ b x hb
  have wf1 : WF H1 := by rw [hH1]; exact wf_alloc hwf _
  have gL : H1.get H.next = some (logO 0 d 0 0 0) := by rw [hH1, AH.get_alloc, if_pos rfl]
  have n1 : H1.next = H.next + 1 := by rw [hH1, AH.next_alloc]
  have hD1 : DiskAt H1 d M A := hD.keep ⟨fun b x hb _ => sy1 b x hb, by omega⟩ fun _ => id
  with_reducible repeat' (first
 | refine AW.seq ?_
 | refine AW.region ?_
 | refine AOs.nil ?_
 | refine AW.skip ?_
 | refine andThen_normal ?_
 | refine AW.condF (by simp only [aeval, PT.get_set, Nat.reduceEqDiff, reduceIte]; rfl) (by first | rfl | decide | assumption) ?_
 | ((first
 | refine AOs.op1E tOK (by with_unfolding_all rfl) ?_
 ); refine Step.mk (by simp only [evOp_move, evOp_assign, evOp_build, evOp_not, evOp_boxC, boxC_agg, aeval, ofVal, PT.get_set, Nat.reduceEqDiff, reduceIte, List.map_cons, List.map_nil, Option.map_some, Bool.not_true, nblt, eq_self, e0, e1, bd65, hH1']; rfl) ?_)
 | fail "stop")
  refine AOs.callQ tOK (fs := []) (cs := []) rfl fn32 ok32 rfl (by simp only [List.map_cons, List.map_nil, List.nil_append, List.append_nil, aeval, PT.get_set, Nat.reduceEqDiff, reduceIte] <;> rfl) (names24 N H1 hD1 (fun p hp => Nat.le_trans (hM.keys p hp) (by omega)) (Nat.le_trans hM.ents (by omega))).wf ?_
  rintro nv K1 ⟨⟨hnv, sy2, hn2⟩, wf2⟩
  have hnl := hnv.len
  have hN1 := hM.names_len
  with_reducible repeat' (first
 | refine AW.block ?_
 | refine AOs.nil ?_
 | refine andThen_normal ?_
 | ((first
 | refine AOs.op1E tOK (by with_unfolding_all rfl) ?_
 ); refine Step.mk (by simp only [evOp_move, evOp_len, aeval, ofVal, PT.get_set, Nat.reduceEqDiff, reduceIte, Option.map_some, eq_self, al37, hnl]; rfl) ?_)
 | fail "stop")
  refine AW.loop (fun m T K => K = K1 ∧ T.get 0 = some (.ptr d 0) ∧ T.get 1 = some (.str nL) ∧ T.get 7 = some (.ptr H.next 0) ∧ T.get 33 = some nv ∧ T.get 34 = some (.int .i64 (M.names.length : Nat)) ∧
      ∃ i : Nat, i ≤ M.names.length ∧ m = M.names.length - i ∧ T.get 35 = some (.int .i64 (i : Nat)) ∧ T.get 8 = some (.int .i64 (maxG (M.names.take i) : Nat))) ?_ (M.names.length - 0)
    ⟨rfl, by simp [PT.get_set, e0], by simp [PT.get_set, e1], by simp [PT.get_set], by simp [PT.get_set], by simp [PT.get_set], 0, by omega, rfl, by simp [PT.get_set], by simp [PT.get_set, maxG]⟩
  rintro m T K ⟨rfl, g0, g1, g7, g33, g34, i, hi, rfl, g35, g8⟩
  by_cases hil : i < M.names.length
  · have hd := lt_int hil
    obtain ⟨x, hx⟩ : ∃ x, M.names[i]? = some x := ⟨_, List.getElem?_eq_getElem hil⟩
    have hxl := hnm x (List.mem_of_getElem? hx)
    rcases hnv with ⟨_, hnv⟩ | ⟨b, c, ro, ws, rfl, hbg, hws⟩
    · rw [hnv] at hil; simp at hil
    have hwx : ws[i * 1]? = some (.str x) := by rw [Nat.mul_one]; exact hws i x hx
    with_reducible repeat' (first
 | refine AW.seq ?_
 | refine AW.region ?_
 | refine AW.block ?_
 | refine AOs.nil ?_
 | refine AW.skip ?_
 | refine andThen_normal ?_
 | refine AW.condT (by simp only [aeval, PT.get_set, reduceIte]; rfl) (by first | rfl | decide | assumption) ?_
 | ((first
 | refine AOs.op1E tOK (by with_unfolding_all rfl) ?_
 ); refine Step.mk (by simp only [evOp_move, evOp_assign, evOp_binOp, evOp_indexAddr, evOp_load, aeval, PT.get_set, Nat.reduceEqDiff, reduceIte, cellAt, Option.map_some, abin_lss, Nat.zero_add, eq_self, ld9, ix37, g1, g33, g34, g35, hd, hil, hbg, hwx]; rfl) ?_)
 | fail "stop")
    refine AOs.callQ tOK (fs := []) (cs := []) rfl fn8 ok8 rfl (by simp only [List.map_cons, List.map_nil, List.nil_append, List.append_nil, aeval, PT.get_set, Nat.reduceEqDiff, reduceIte] <;> rfl) (of8 N K hxl) ?_
    rintro r K' ⟨rfl, rfl⟩
    by_cases hgn : genOf x = 0
    · have hd2 : decide (genOf x ≠ 0) = false := decide_eq_false (by simp [hgn])
      with_reducible repeat' (first
 | refine AW.seq ?_
 | refine AW.region ?_
 | refine AOs.nil ?_
 | refine AW.skip ?_
 | refine andThen_normal ?_
 | refine inBlock_normal ?_
 | refine AW.condF (by simp only [aeval, PT.get_set, Nat.reduceEqDiff, reduceIte, hd2]; rfl) (by first | rfl | decide | assumption) ?_
 | ((first
 | refine AOs.op1E tOK (by with_unfolding_all rfl) ?_
 ); refine Step.mk (by simp only [evOp_move, evOp_assign, evOp_binOp, evOp_extract, aeval, ofVal, PT.get_set, Nat.reduceEqDiff, reduceIte, Option.map_some, abin_add, List.getElem?_cons_zero, List.getElem?_cons_succ, eq_self, g35, hd2]; rfl) ?_)
 | fail "stop")
      refine ⟨M.names.length - (i + 1), by omega, rfl, by simp [PT.get_set, g0], by simp [PT.get_set, g1], by simp [PT.get_set, g7], by simp [PT.get_set, g33], by simp [PT.get_set, g34], i + 1, by omega, rfl, ?_, ?_⟩
      · simp only [PT.get_set, Nat.reduceEqDiff, reduceIte, wrap64_succ (show i < 9223372036854775807 by omega)]
      · rw [maxG_take hx, hgn, Nat.max_zero]; simp only [PT.get_set, Nat.reduceEqDiff, reduceIte, g8]
    · have hd2 : decide (genOf x ≠ 0) = true := decide_eq_true hgn
      have hmx : max ((maxG (M.names.take i) : Nat) : Int) ((genOf x : Nat) : Int) = ((max (maxG (M.names.take i)) (genOf x) : Nat) : Int) := by omega
      with_reducible repeat' (first
 | refine AW.seq ?_
 | refine AW.region ?_
 | refine AOs.nil ?_
 | refine andThen_normal ?_
 | refine inBlock_normal ?_
 | refine AW.condT (by simp only [aeval, PT.get_set, Nat.reduceEqDiff, reduceIte, hd2]; rfl) (by first | rfl | decide | assumption) ?_
 | ((first
 | refine AOs.op1E tOK (by with_unfolding_all rfl) ?_
 ); refine Step.mk (by simp only [evOp_move, evOp_assign, evOp_binOp, evOp_extract, aeval, ofVal, PT.get_set, Nat.reduceEqDiff, reduceIte, Option.map_some, abin_add, List.getElem?_cons_zero, List.getElem?_cons_succ, eq_self, g35, g8, hd2, evOp_max2, max2V_int, Option.isSome_some, hmx]; rfl) ?_)
 | fail "stop")
      refine ⟨M.names.length - (i + 1), by omega, rfl, by simp [PT.get_set, g0], by simp [PT.get_set, g1], by simp [PT.get_set, g7], by simp [PT.get_set, g33], by simp [PT.get_set, g34], i + 1, by omega, rfl, ?_, ?_⟩
      · simp only [PT.get_set, Nat.reduceEqDiff, reduceIte, wrap64_succ (show i < 9223372036854775807 by omega)]
      · rw [maxG_take hx]; simp only [PT.get_set, Nat.reduceEqDiff, reduceIte]
  have hd := nlt_int hil
  obtain rfl : i = M.names.length := by omega
  rw [List.take_length] at g8
  have hLA : ¬ A H.next := fun e => by have := hA _ e; omega
  have kL : Kp K A H.next (logO 0 d 0 0 0) := ⟨sy2 _ _ gL, hLA⟩
  have hDK : DiskAt K d M A := hD1.keep ⟨fun b x hb _ => sy2 b x hb, hn2⟩ fun _ => id
  have hAK : ∀ b, A b → b < K.next := fun b hb => by have := hA b hb; omega
  have syK : ∀ b x, H.get b = some x → K.get b = some x := fun b x hb => sy2 b x (sy1 b x hb)
  have hgn0 : g ≠ 0 := by rcases hg0 with h | h | h <;> omega
  rw [hg] at g8
  have hd3 : decide (((g : Nat) : Int) = 0) = false := decide_eq_false (by omega)
  with_reducible repeat' (first
 | refine AW.seq ?_
 | refine AW.region ?_
 | refine AOs.nil ?_
 | refine AW.skip ?_
 | refine AW.exit ?_
 | refine andThen_normal ?_
 | refine andThen_exit ?_
 | refine inBlock_hit ?_
 | refine AW.condF (by simp only [aeval, PT.get_set, Nat.reduceEqDiff, reduceIte]; rfl) (by first | rfl | decide | assumption) ?_
 | ((first
 | refine AOs.op1E tOK (by with_unfolding_all rfl) ?_
 ); refine Step.mk (by simp only [evOp_move, evOp_binOp, aeval, ofVal, PT.get_set, Nat.reduceEqDiff, reduceIte, Option.map_some, abin_lss, abin_eql, eq_self, g1, g34, g35, g8, hd, hd3]; rfl) ?_)
 | fail "stop")
  refine AOs.callQ tOK (fs := []) (cs := []) rfl fn9 ok9 rfl (by simp only [List.map_cons, List.map_nil, List.nil_append, List.append_nil, aeval, PT.get_set, Nat.reduceEqDiff, reduceIte] <;> rfl) (file9 N K hg0) ?_
  rintro r K' ⟨rfl, rfl⟩
  with_reducible repeat' (first
 | refine AW.seq ?_
 | refine AW.region ?_
 | refine AOs.nil ?_
 | refine andThen_normal ?_
 | ((first
 | refine AOs.op1E tOK (by with_unfolding_all rfl) ?_
 ); refine Step.mk (by simp only [evOp_move, evOp_assign, evOp_extract, aeval, PT.get_set, Nat.reduceEqDiff, reduceIte, Option.map_some, List.getElem?_cons_zero, List.getElem?_cons_succ, eq_self, g0]; rfl) ?_)
 | fail "stop")
  have qr := read20 N K' (n := fileN g) hDK hM.ok (fun j => Nat.le_trans (hM.file' (by omega) j) (by omega))
  rw [hre, hrb, hno] at qr
  refine AOs.callQ tOK (fs := []) (cs := []) rfl fn39 ok39 rfl (by simp only [List.map_cons, List.map_nil, List.nil_append, List.append_nil, aeval, PT.get_set, Nat.reduceEqDiff, reduceIte] <;> rfl) qr.wf ?_
  rintro r K2 ⟨⟨⟨bv, rfl, hbv⟩, hD2, a2⟩, wf3⟩
  have kL2 := kL.op wf2 a2
  with_reducible repeat' (first
 | refine AW.seq ?_
 | refine AW.region ?_
 | refine AOs.nil ?_
 | refine AW.skip ?_
 | refine andThen_normal ?_
 | refine AW.condF (by simp only [aeval, PT.get_set, Nat.reduceEqDiff, reduceIte]; rfl) (by first | rfl | decide | assumption) ?_
 | ((first
 | refine AOs.op1E tOK (by with_unfolding_all rfl) ?_
 ); refine Step.mk (by simp only [evOp_move, evOp_assign, evOp_binOp, evOp_extract, aeval, ofVal, PT.get_set, Nat.reduceEqDiff, reduceIte, Option.map_some, abin_neq, decide_true, Bool.not_true, List.getElem?_cons_zero, List.getElem?_cons_succ, eq_self]; rfl) ?_)
 | fail "stop")
  have qs := scan14f N K2 hbv hbl
  rw [hsc] at qs
  refine AOs.callQ tOK (fs := []) (cs := []) rfl fn14 ok14 rfl (by simp only [List.map_cons, List.map_nil, List.nil_append, List.append_nil, aeval, PT.get_set, Nat.reduceEqDiff, reduceIte] <;> rfl) qs.wf ?_
  rintro r K3 ⟨⟨s, rfl, hs, hs1, hk3, hn3⟩, wf4⟩
  have hsl := hs.len
  have cL3 : K3.get H.next = some (.cells false [.int .i64 0, .ptr d 0, .str nL, .int .i64 0, .int .i64 0, .int .i64 0]) := hk3 _ _ kL2.1
  have hbl2 := hbv.bytes.len
  have hd4 : decide ((b.length : Int) < (b.length : Int)) = false := decide_eq_false (by omega)
  with_reducible repeat' (first
 | refine AW.seq ?_
 | refine AW.region ?_
 | refine AOs.nil ?_
 | refine AW.skip ?_
 | refine andThen_normal ?_
 | refine AW.condF (by simp only [aeval, PT.get_set, Nat.reduceEqDiff, reduceIte]; rfl) (by first | rfl | decide | assumption) ?_
 | ((first
 | refine AOs.op1E tOK (by with_unfolding_all rfl) ?_
 | refine AOs.op0E tOK ?_
 ); refine Step.mk (by simp only [evOp_move, evOp_assign, evOp_nilCheck, evOp_binOp, evOp_fieldAddr, evOp_extract, evOp_store, evOp_len, storeAt, one_int, aeval, ofVal, PT.get_set, Nat.reduceEqDiff, reduceIte, Option.map_some, abin_lss, abin_neq, decide_true, Bool.not_true, List.getElem?_cons_zero, List.getElem?_cons_succ, Nat.zero_add, Nat.reduceLT, Nat.reduceAdd, List.length_cons, List.length_nil, List.set_cons_zero, List.set_cons_succ, AH.get_set, eq_self, st3, al28, al32, fa65_3, fa65_4, fa65_5, g7, g8, hsl, cL3, hbl2, hd4]; rfl) ?_)
 | fail "stop")
  generalize hK4 : ((K3.set H.next _).set H.next _).set H.next _ = K4
  have g4 : ∀ x, x ≠ H.next → K4.get x = K3.get x := fun x hx => by rw [← hK4, AH.get_set, if_neg hx, AH.get_set, if_neg hx, AH.get_set, if_neg hx]
  have l4 : K4.get H.next = some (logO 0 d g b.length recs.length) := by rw [← hK4, AH.get_set, if_pos rfl]; rfl
  have n4 : K4.next = K3.next := by rw [← hK4]; rfl
  have hA2 : ∀ x, AddR A K'.next K2.next x → x < K2.next := fun x hx => by
    have := a2.2
    rcases hx with hx | hx
    · have := hAK x hx; omega
    · exact hx.2
  have hD4 : DiskAt K4 d (M.op true) (AddR A K'.next K2.next) := hD2.keep ⟨fun x o hx hk => by
    have hne : x ≠ H.next := fun e => by
      subst e
      rw [kL2.1] at hx; cases hx
      rcases hk with hk | hk | hk
      · exact kL2.2 hk
      · simp [logO, kind, kindV, isU8] at hk
      · simp [logO, kind, kindV, isU8] at hk
    rw [g4 x hne]; exact hk3 x o hx, by omega⟩ fun _ => id
  have qc := clean40 N (H := K4) (fun x hx => by have := hA2 x hx; omega) hD4 (hM.op true) (by omega) ⟨l4, kL2.2⟩ hg0 hnm
  refine AOs.callQ tOK (fs := []) (cs := []) rfl fn40 ok40 rfl (by simp only [List.map_cons, List.map_nil, List.nil_append, List.append_nil, aeval, PT.get_set, Nat.reduceEqDiff, reduceIte] <;> rfl) qc ?_
  rintro r K5 ⟨rfl, h5, a5⟩
  have hlt2 := wf3 _ _ kL2.1
  have hs4 : RowsF K2.next K4 s recs := hs.keep fun x o hx hb => by rw [g4 x (by omega)]; exact hb
  have hs5 : RowsF K2.next K5 s recs := hs4.keep fun x o hx hb => a5.1 x o hb (.inl fun e => by have := hA2 x e; omega)
  rw [hcl]
  with_reducible repeat' (first
 | refine AW.seq ?_
 | refine AW.region ?_
 | refine AOs.nil ?_
 | refine AW.skip ?_
 | refine AW.ret ?_
 | refine andThen_normal ?_
 | refine AW.condF (by simp only [aeval, PT.get_set, Nat.reduceEqDiff, reduceIte]; rfl) (by first | rfl | decide | assumption) ?_
 | ((first
 | refine AOs.op1E tOK (by with_unfolding_all rfl) ?_
 ); refine Step.mk (by simp only [evOp_move, evOp_assign, evOp_binOp, aeval, ofVal, PT.get_set, Nat.reduceEqDiff, reduceIte, Option.map_some, abin_neq, decide_true, Bool.not_true, eq_self, g7]; rfl) ?_)
 | fail "stop")
  have hn2' := a2.2
  have hn5 := a5.2
  refine fnPost_ret3 (by first | (simp only [PT.get_set, Nat.reduceEqDiff, reduceIte]; rfl) | simp only [PT.get_set, Nat.reduceEqDiff, reduceIte]) (by first | (simp only [PT.get_set, Nat.reduceEqDiff, reduceIte]; rfl) | simp only [PT.get_set, Nat.reduceEqDiff, reduceIte]) (by first | (simp only [PT.get_set, Nat.reduceEqDiff, reduceIte]; rfl) | simp only [PT.get_set, Nat.reduceEqDiff, reduceIte]) ⟨H.next, _, s, rfl, ⟨h5, fun x hx => ?_, ⟨a5.1 _ _ l4 (.inl kL2.2), fun e => ?_⟩, Nat.le_refl _, ⟨fun x o hb hx => ?_, by omega⟩⟩, fun L' hL' => (hs.keep fun b x hb hx => hL' b x (a5.1 b x (by rw [g4 b (by omega)]; exact hx) (.inl fun e => by have := hA2 b e; omega)) (fun e => ?_)).rows⟩
  · rcases hx with (hx | hx) | hx
    · exact .inl hx
    · exact .inr ⟨by omega, by omega⟩
    · exact .inr ⟨by omega, hx.2⟩
  · rcases e with (e | e) | e
    · exact hLA e
    · omega
    · omega
  · have hx2 := a2.1 x o (syK x o hb) hx
    have hxl := hwf x o hb
    refine a5.1 x o (by rw [g4 x (by omega)]; exact hk3 x o hx2) (hx.imp (fun h e => ?_) id)
    rcases e with e | e
    · exact h e
    · omega
  · have hlt3 := wf4 b x hx
    rcases e with e | e
    · have := hA2 b e; omega
    · omega

set_option maxHeartbeats 8000000 in
theorem open10c (N : Nat) {H : AH} {d : Nat} {M : DM} {A : Nat → Prop} {i0 g w : Nat} {b : Nm} {recs : List Nm} {M1 : DM} (hA : ∀ b, A b → b < H.next) (hD : DiskAt H d M A) (hM : MB M i0) (hi0 : i0 ≤ 380) (hnm : ∀ s ∈ M.names, LName s) (hg : maxG M.names = g) (hg0 : Gen g) (hg1 : Gen (g + 1))
    (hre : M.readE (fileN g) = 0) (hrb : M.readB (fileN g) = b) (hno : nameOK (fileN g) = true) (hbl : b.length ≤ 20000) (hsc : scanM (b.length + 1) b = (recs, w, 0)) (hw : w < b.length) (hrl : recs.length ≤ 1000000)
    (hwr : (M.op true).write (fileN (g + 1)) (b.take w) = (0, M1)) (hnm1 : ∀ s ∈ M1.names, LName s) (hcl : (M1.clean (g + 1)).1 = 0) :
    AC tC N 0 10 [.ptr d 0, .str nL] H fun r K => ∃ L A' s, r = .tuple [.ptr L 0, s, .int .i64 0] ∧ Opened H K A d (M1.clean (g + 1)).2 L (g + 1) w recs.length A' ∧ RowsK K A' s recs := by
  refine AC.wf0 fun hwf => ?_
  obtain ⟨φ, nb, sb, cv, v1, v2, hDA⟩ := id hD
  refine AC.by (n := 120) (rs := [.tmp 4, .tmp 5, .tmp 6]) tOK fn10 rfl rfl rfl rfl ?_
  have e0 : (PT.ofList .leaf 0 [AV.ptr d 0, .str nL]).get 0 = some (.ptr d 0) := rfl
  have e1 : (PT.ofList .leaf 0 [AV.ptr d 0, .str nL]).get 1 = some (.str nL) := rfl
  with_reducible repeat' (first
 | refine AW.seq ?_
 | refine AW.region ?_
 | refine AOs.nil ?_
 | refine andThen_normal ?_
 | ((first
 | refine AOs.op1E tOK (by with_unfolding_all rfl) ?_
 ); refine Step.mk (by simp only [evOp_move, evOp_assign, aeval, ofVal, PT.get_set, Nat.reduceEqDiff, reduceIte, e0]; rfl) ?_)
 | fail "stop")
  refine AOs.callQ tOK (fs := []) (cs := []) rfl fn37 ok37 rfl (by simp only [List.map_cons, List.map_nil, List.nil_append, List.append_nil, aeval, PT.get_set, Nat.reduceEqDiff, reduceIte] <;> rfl) (made34 N H hDA.core) ?_
  rintro r H' ⟨rfl, rfl⟩
  with_reducible repeat' (first
 | refine AW.seq ?_
 | refine AW.region ?_
 | refine AOs.nil ?_
 | refine AW.skip ?_
 | refine andThen_normal ?_
 | refine AW.condF (by simp only [aeval, PT.get_set, Nat.reduceEqDiff, reduceIte]; rfl) (by first | rfl | decide | assumption) ?_
 | ((first
 | refine AOs.op1E tOK (by with_unfolding_all rfl) ?_
 ); refine Step.mk (by simp only [evOp_move, evOp_not, aeval, PT.get_set, Nat.reduceEqDiff, reduceIte, Bool.not_true, eq_self, e1]; rfl) ?_)
 | fail "stop")
  refine AOs.callQ tOK (fs := []) (cs := []) rfl fn35 ok35 rfl (by simp only [List.map_cons, List.map_nil, List.nil_append, List.append_nil, aeval, PT.get_set, Nat.reduceEqDiff, reduceIte] <;> rfl) (right35 N H') ?_
  rintro r H ⟨rfl, rfl⟩
  obtain ⟨H1, hH1⟩ : ∃ H1, H1 = H.alloc (logO 0 d 0 0 0) := ⟨_, rfl⟩
  have hH1' : H.alloc (.cells false [.int .i64 0, .ptr d 0, .str nL, .int .i64 0, .int .i64 0, .int .i64 0]) = H1 := hH1.symm
  have sy1 : ∀ b x, H.get b = some x → H1.get b = some x := fun b x hb => by rw [hH1]; exact stay_alloc hwf _ b x hb
  have wf1 : WF H1 := by rw [hH1]; exact wf_alloc hwf _
  have gL : H1.get H.next = some (logO 0 d 0 0 0) := by rw [hH1, AH.get_alloc, if_pos rfl]
  have n1 : H1.next = H.next + 1 := by rw [hH1, AH.next_alloc]
  have hD1 : DiskAt H1 d M A := hD.keep ⟨fun b x hb _ => sy1 b x hb, by omega⟩ fun _ => id
  with_reducible repeat' (first
 | refine AW.seq ?_
 | refine AW.region ?_
 | refine AOs.nil ?_
 | refine AW.skip ?_
 | refine andThen_normal ?_
 | refine AW.condF (by simp only [aeval, PT.get_set, Nat.reduceEqDiff, reduceIte]; rfl) (by first | rfl | decide | assumption) ?_
 | ((first
 | refine AOs.op1E tOK (by with_unfolding_all rfl) ?_
 ); refine Step.mk (by simp only [evOp_move, evOp_assign, evOp_build, evOp_not, evOp_boxC, boxC_agg, aeval, ofVal, PT.get_set, Nat.reduceEqDiff, reduceIte, List.map_cons, List.map_nil, Option.map_some, Bool.not_true, nblt, eq_self, e0, e1, bd65, hH1']; rfl) ?_)
 | fail "stop")
  refine AOs.callQ tOK (fs := []) (cs := []) rfl fn32 ok32 rfl (by simp only [List.map_cons, List.map_nil, List.nil_append, List.append_nil, aeval, PT.get_set, Nat.reduceEqDiff, reduceIte] <;> rfl) (names24 N H1 hD1 (fun p hp => Nat.le_trans (hM.keys p hp) (by omega)) (Nat.le_trans hM.ents (by omega))).wf ?_
  rintro nv K1 ⟨⟨hnv, sy2, hn2⟩, wf2⟩
  have hnl := hnv.len
  have hN1 := hM.names_len
  with_reducible repeat' (first
 | refine AW.block ?_
 | refine AOs.nil ?_
 | refine andThen_normal ?_
 | ((first
 | refine AOs.op1E tOK (by with_unfolding_all rfl) ?_
 ); refine Step.mk (by simp only [evOp_move, evOp_len, aeval, ofVal, PT.get_set, Nat.reduceEqDiff, reduceIte, Option.map_some, eq_self, al37, hnl]; rfl) ?_)
 | fail "stop")
  refine AW.loop (fun m T K => K = K1 ∧ T.get 0 = some (.ptr d 0) ∧ T.get 1 = some (.str nL) ∧ T.get 7 = some (.ptr H.next 0) ∧ T.get 33 = some nv ∧ T.get 34 = some (.int .i64 (M.names.length : Nat)) ∧
      ∃ i : Nat, i ≤ M.names.length ∧ m = M.names.length - i ∧ T.get 35 = some (.int .i64 (i : Nat)) ∧ T.get 8 = some (.int .i64 (maxG (M.names.take i) : Nat))) ?_ (M.names.length - 0)
    ⟨rfl, by simp [PT.get_set, e0], by simp [PT.get_set, e1], by simp [PT.get_set], by simp [PT.get_set], by simp [PT.get_set], 0, by omega, rfl, by simp [PT.get_set], by simp [PT.get_set, maxG]⟩
  rintro m T K ⟨rfl, g0, g1, g7, g33, g34, i, hi, rfl, g35, g8⟩
  by_cases hil : i < M.names.length
  · have hd := lt_int hil
    obtain ⟨x, hx⟩ : ∃ x, M.names[i]? = some x := ⟨_, List.getElem?_eq_getElem hil⟩
    have hxl := hnm x (List.mem_of_getElem? hx)
    rcases hnv with ⟨_, hnv⟩ | ⟨b, c, ro, ws, rfl, hbg, hws⟩
    · rw [hnv] at hil; simp at hil
    have hwx : ws[i * 1]? = some (.str x) := by rw [Nat.mul_one]; exact hws i x hx
    with_reducible repeat' (first
 | refine AW.seq ?_
 | refine AW.region ?_
 | refine AW.block ?_
 | refine AOs.nil ?_
 | refine AW.skip ?_
 | refine andThen_normal ?_
 | refine AW.condT (by simp only [aeval, PT.get_set, reduceIte]; rfl) (by first | rfl | decide | assumption) ?_
 | ((first
 | refine AOs.op1E tOK (by with_unfolding_all rfl) ?_
 ); refine Step.mk (by simp only [evOp_move, evOp_assign, evOp_binOp, evOp_indexAddr, evOp_load, aeval, PT.get_set, Nat.reduceEqDiff, reduceIte, cellAt, Option.map_some, abin_lss, Nat.zero_add, eq_self, ld9, ix37, g1, g33, g34, g35, hd, hil, hbg, hwx]; rfl) ?_)
 | fail "stop")
    refine AOs.callQ tOK (fs := []) (cs := []) rfl fn8 ok8 rfl (by simp only [List.map_cons, List.map_nil, List.nil_append, List.append_nil, aeval, PT.get_set, Nat.reduceEqDiff, reduceIte] <;> rfl) (of8 N K hxl) ?_
    rintro r K' ⟨rfl, rfl⟩
    by_cases hgn : genOf x = 0
    · have hd2 : decide (genOf x ≠ 0) = false := decide_eq_false (by simp [hgn])
      with_reducible repeat' (first
 | refine AW.seq ?_
 | refine AW.region ?_
 | refine AOs.nil ?_
 | refine AW.skip ?_
 | refine andThen_normal ?_
 | refine inBlock_normal ?_
 | refine AW.condF (by simp only [aeval, PT.get_set, Nat.reduceEqDiff, reduceIte, hd2]; rfl) (by first | rfl | decide | assumption) ?_
 | ((first
 | refine AOs.op1E tOK (by with_unfolding_all rfl) ?_
 ); refine Step.mk (by simp only [evOp_move, evOp_assign, evOp_binOp, evOp_extract, aeval, ofVal, PT.get_set, Nat.reduceEqDiff, reduceIte, Option.map_some, abin_add, List.getElem?_cons_zero, List.getElem?_cons_succ, eq_self, g35, hd2]; rfl) ?_)
 | fail "stop")
      refine ⟨M.names.length - (i + 1), by omega, rfl, by simp [PT.get_set, g0], by simp [PT.get_set, g1], by simp [PT.get_set, g7], by simp [PT.get_set, g33], by simp [PT.get_set, g34], i + 1, by omega, rfl, ?_, ?_⟩
      · simp only [PT.get_set, Nat.reduceEqDiff, reduceIte, wrap64_succ (show i < 9223372036854775807 by omega)]
      · rw [maxG_take hx, hgn, Nat.max_zero]; simp only [PT.get_set, Nat.reduceEqDiff, reduceIte, g8]
    · have hd2 : decide (genOf x ≠ 0) = true := decide_eq_true hgn
      have hmx : max ((maxG (M.names.take i) : Nat) : Int) ((genOf x : Nat) : Int) = ((max (maxG (M.names.take i)) (genOf x) : Nat) : Int) := by omega
      with_reducible repeat' (first
 | refine AW.seq ?_
 | refine AW.region ?_
 | refine AOs.nil ?_
 | refine andThen_normal ?_
 | refine inBlock_normal ?_
 | refine AW.condT (by simp only [aeval, PT.get_set, Nat.reduceEqDiff, reduceIte, hd2]; rfl) (by first | rfl | decide | assumption) ?_
 | ((first
 | refine AOs.op1E tOK (by with_unfolding_all rfl) ?_
 ); refine Step.mk (by simp only [evOp_move, evOp_assign, evOp_binOp, evOp_extract, aeval, ofVal, PT.get_set, Nat.reduceEqDiff, reduceIte, Option.map_some, abin_add, List.getElem?_cons_zero, List.getElem?_cons_succ, eq_self, g35, g8, hd2, evOp_max2, max2V_int, Option.isSome_some, hmx]; rfl) ?_)
 | fail "stop")
      refine ⟨M.names.length - (i + 1), by omega, rfl, by simp [PT.get_set, g0], by simp [PT.get_set, g1], by simp [PT.get_set, g7], by simp [PT.get_set, g33], by simp [PT.get_set, g34], i + 1, by omega, rfl, ?_, ?_⟩
      · simp only [PT.get_set, Nat.reduceEqDiff, reduceIte, wrap64_succ (show i < 9223372036854775807 by omega)]
      · rw [maxG_take hx]; simp only [PT.get_set, Nat.reduceEqDiff, reduceIte]
  have hd := nlt_int hil
  obtain rfl : i = M.names.length := by omega
  rw [List.take_length] at g8
  have hLA : ¬ A H.next := fun e => by have := hA _ e; omega
  have kL : Kp K A H.next (logO 0 d 0 0 0) := ⟨sy2 _ _ gL, hLA⟩
  have hDK : DiskAt K d M A := hD1.keep ⟨fun b x hb _ => sy2 b x hb, hn2⟩ fun _ => id
  have hAK : ∀ b, A b → b < K.next := fun b hb => by have := hA b hb; omega
  have syK : ∀ b x, H.get b = some x → K.get b = some x := fun b x hb => sy2 b x (sy1 b x hb)
  have hgn0 : g ≠ 0 := by rcases hg0 with h | h | h <;> omega
  rw [hg] at g8
  have hd3 : decide (((g : Nat) : Int) = 0) = false := decide_eq_false (by omega)
  with_reducible repeat' (first
 | refine AW.seq ?_
 | refine AW.region ?_
 | refine AOs.nil ?_
 | refine AW.skip ?_
 | refine AW.exit ?_
 | refine andThen_normal ?_
 | refine andThen_exit ?_
 | refine inBlock_hit ?_
 | refine AW.condF (by simp only [aeval, PT.get_set, Nat.reduceEqDiff, reduceIte]; rfl) (by first | rfl | decide | assumption) ?_
 | ((first
 | refine AOs.op1E tOK (by with_unfolding_all rfl) ?_
 ); refine Step.mk (by simp only [evOp_move, evOp_binOp, aeval, ofVal, PT.get_set, Nat.reduceEqDiff, reduceIte, Option.map_some, abin_lss, abin_eql, eq_self, g1, g34, g35, g8, hd, hd3]; rfl) ?_)
 | fail "stop")
  refine AOs.callQ tOK (fs := []) (cs := []) rfl fn9 ok9 rfl (by simp only [List.map_cons, List.map_nil, List.nil_append, List.append_nil, aeval, PT.get_set, Nat.reduceEqDiff, reduceIte] <;> rfl) (file9 N K hg0) ?_
  rintro r K' ⟨rfl, rfl⟩
  with_reducible repeat' (first
 | refine AW.seq ?_
 | refine AW.region ?_
 | refine AOs.nil ?_
 | refine andThen_normal ?_
 | ((first
 | refine AOs.op1E tOK (by with_unfolding_all rfl) ?_
 ); refine Step.mk (by simp only [evOp_move, evOp_assign, evOp_extract, aeval, PT.get_set, Nat.reduceEqDiff, reduceIte, Option.map_some, List.getElem?_cons_zero, List.getElem?_cons_succ, eq_self, g0]; rfl) ?_)
 | fail "stop")
  have qr := read20 N K' (n := fileN g) hDK hM.ok (fun j => Nat.le_trans (hM.file' (by omega) j) (by omega))
  rw [hre, hrb, hno] at qr
  refine AOs.callQ tOK (fs := []) (cs := []) rfl fn39 ok39 rfl (by simp only [List.map_cons, List.map_nil, List.nil_append, List.append_nil, aeval, PT.get_set, Nat.reduceEqDiff, reduceIte] <;> rfl) qr.wf ?_
  rintro r K2 ⟨⟨⟨bv, rfl, hbv⟩, hD2, a2⟩, wf3⟩
  have kL2 := kL.op wf2 a2
  with_reducible repeat' (first
 | refine AW.seq ?_
 | refine AW.region ?_
 | refine AOs.nil ?_
 | refine AW.skip ?_
 | refine andThen_normal ?_
 | refine AW.condF (by simp only [aeval, PT.get_set, Nat.reduceEqDiff, reduceIte]; rfl) (by first | rfl | decide | assumption) ?_
 | ((first
 | refine AOs.op1E tOK (by with_unfolding_all rfl) ?_
 ); refine Step.mk (by simp only [evOp_move, evOp_assign, evOp_binOp, evOp_extract, aeval, ofVal, PT.get_set, Nat.reduceEqDiff, reduceIte, Option.map_some, abin_neq, decide_true, Bool.not_true, List.getElem?_cons_zero, List.getElem?_cons_succ, eq_self]; rfl) ?_)
 | fail "stop")
  have qs := scan14f N K2 hbv (by omega)
  rw [hsc] at qs
  refine AOs.callQ tOK (fs := []) (cs := []) rfl fn14 ok14 rfl (by simp only [List.map_cons, List.map_nil, List.nil_append, List.append_nil, aeval, PT.get_set, Nat.reduceEqDiff, reduceIte] <;> rfl) qs.wf ?_
  rintro r K3 ⟨⟨s, rfl, hs, hs1, hk3, hn3⟩, wf4⟩
  have hsl := hs.len
  have cL3 : K3.get H.next = some (.cells false [.int .i64 0, .ptr d 0, .str nL, .int .i64 0, .int .i64 0, .int .i64 0]) := hk3 _ _ kL2.1
  have hbl2 := hbv.bytes.len
  have hd4 : decide ((w : Int) < (b.length : Int)) = true := decide_eq_true (by omega)
  have hd5 : decide (((g : Nat) : Int) = 999999) = false := decide_eq_false (by rcases hg0 with h | h | h <;> omega)
  have hw1 : IntKind.i64.wrap (((g : Nat) : Int) + 1) = ((g + 1 : Nat) : Int) := wrap64_succ (by rcases hg0 with h | h | h <;> omega)
  obtain ⟨u, hu, hub⟩ := FB.head' hbv (n := w) (by omega)
  with_reducible repeat' (first
 | refine AW.seq ?_
 | refine AW.region ?_
 | refine AOs.nil ?_
 | refine AW.skip ?_
 | refine andThen_normal ?_
 | refine AW.condT (by simp only [aeval, PT.get_set, Nat.reduceEqDiff, reduceIte]; rfl) (by first | rfl | decide | assumption) ?_
 | refine AW.condF (by simp only [aeval, PT.get_set, Nat.reduceEqDiff, reduceIte]; rfl) (by first | rfl | decide | assumption) ?_
 | ((first
 | refine AOs.op1E tOK (by with_unfolding_all rfl) ?_
 | refine AOs.op0E tOK ?_
 ); refine Step.mk (by simp only [evOp_move, evOp_assign, evOp_nilCheck, evOp_binOp, evOp_fieldAddr, evOp_extract, evOp_store, evOp_len, evOp_slice, storeAt, one_int, aeval, ofVal, PT.get_set, Nat.reduceEqDiff, reduceIte, Option.map_some, Option.map_none, abin_add, abin_lss, abin_eql, abin_neq, decide_true, Bool.not_true, List.getElem?_cons_zero, List.getElem?_cons_succ, Nat.zero_add, Nat.reduceLT, Nat.reduceAdd, List.length_cons, List.length_nil, List.set_cons_zero, List.set_cons_succ, AH.get_set, eq_self, st3, al28, al32, fa65_3, fa65_4, fa65_5, g7, g8, hsl, cL3, hbl2, hd4, hw1]; rfl) ?_)
 | fail "stop")
  generalize hK4 : ((K3.set H.next _).set H.next _).set H.next _ = K4
  have g4 : ∀ x, x ≠ H.next → K4.get x = K3.get x := fun x hx => by rw [← hK4, AH.get_set, if_neg hx, AH.get_set, if_neg hx, AH.get_set, if_neg hx]
  have l4 : K4.get H.next = some (logO 0 d g w recs.length) := by rw [← hK4, AH.get_set, if_pos rfl]; rfl
  have n4 : K4.next = K3.next := by rw [← hK4]; rfl
  have hA2 : ∀ x, AddR A K'.next K2.next x → x < K2.next := fun x hx => by
    have := a2.2
    rcases hx with hx | hx
    · have := hAK x hx; omega
    · exact hx.2
  have hD4 : DiskAt K4 d (M.op true) (AddR A K'.next K2.next) := hD2.keep ⟨fun x o hx hk => by
    have hne : x ≠ H.next := fun e => by
      subst e
      rw [kL2.1] at hx; cases hx
      rcases hk with hk | hk | hk
      · exact kL2.2 hk
      · simp [logO, kind, kindV, isU8] at hk
      · simp [logO, kind, kindV, isU8] at hk
    rw [g4 x hne]; exact hk3 x o hx, by omega⟩ fun _ => id
  with_reducible repeat' (first
 | ((first
 | refine AOs.op1E tOK (by with_unfolding_all rfl) ?_
 ); refine Step.mk (by simp only [evOp_move, evOp_len, evOp_slice, aeval, PT.get_set, Nat.reduceEqDiff, reduceIte, Option.map_some, Option.map_none, eq_self, al28, hsl, hd5, hu]; rfl) ?_)
 | fail "stop")
  have hbt : (b.take w).length = w := by rw [List.length_take]; omega
  have hub4 : FB K4 u (b.take w) := hub.keep fun x o hx hk => by
    have hne : x ≠ H.next := fun e => by
      subst e
      rw [kL2.1] at hx; cases hx
      simp [logO, kind, kindV, isU8] at hk
    rw [g4 x hne]; exact hk3 x o hx
  have qw := write38 N (H := K4) (gen := g + 1) (cnt := recs.length) (fun x hx => by have := hA2 x hx; omega) hD4 (hM.op true) (by omega) ⟨l4, kL2.2⟩ hg1 hub4 (by omega)
  rw [hwr, if_pos rfl, hbt] at qw
  refine AOs.callQ tOK (fs := []) (cs := []) rfl fn38 ok38 rfl (by simp only [List.map_cons, List.map_nil, List.nil_append, List.append_nil, aeval, PT.get_set, Nat.reduceEqDiff, reduceIte] <;> rfl) qw.wf ?_
  rintro r K5 ⟨⟨rfl, h5, a5, l5⟩, wf5⟩
  have hn2' := a2.2
  have hn5 := a5.2
  have hA5 : ∀ x, AddR (AddR A K'.next K2.next) K4.next K5.next x → x < K5.next := fun x hx => by
    rcases hx with hx | hx
    · have := hA2 x hx; omega
    · exact hx.2
  have hlt2 := wf3 _ _ kL2.1
  have kL5 : Kp K5 (AddR (AddR A K'.next K2.next) K4.next K5.next) H.next (logO 0 d ((g + 1 : Nat) : Int) w recs.length) := ⟨l5, fun e => by
    rcases e with e | e
    · exact kL2.2 e
    · omega⟩
  have mW : MB M1 (i0 + 6) := by
    have := MB.writeFrom (to := fileN (g + 1)) (b := b.take w) (by omega) 6 (hM.op true)
    have e : writeFrom (fileN (g + 1)) (b.take w) 6 (M.op true) = (0, M1) := hwr
    rw [e] at this; exact this
  with_reducible repeat' (first
 | refine AW.seq ?_
 | refine AW.region ?_
 | refine AOs.nil ?_
 | refine AW.skip ?_
 | refine andThen_normal ?_
 | refine AW.condF (by simp only [aeval, PT.get_set, Nat.reduceEqDiff, reduceIte]; rfl) (by first | rfl | decide | assumption) ?_
 | ((first
 | refine AOs.op1E tOK (by with_unfolding_all rfl) ?_
 ); refine Step.mk (by simp only [evOp_move, evOp_assign, evOp_binOp, aeval, ofVal, PT.get_set, Nat.reduceEqDiff, reduceIte, Option.map_some, abin_neq, decide_true, Bool.not_true, eq_self, g7]; rfl) ?_)
 | fail "stop")
  refine AOs.callQ tOK (fs := []) (cs := []) rfl fn40 ok40 rfl (by simp only [List.map_cons, List.map_nil, List.nil_append, List.append_nil, aeval, PT.get_set, Nat.reduceEqDiff, reduceIte] <;> rfl) (clean40 N (H := K5) hA5 h5 mW (by omega) kL5 hg1 hnm1) ?_
  rintro r K6 ⟨rfl, h6, a6⟩
  have hn6 := a6.2
  have hs4 : RowsF K2.next K4 s recs := hs.keep fun x o hx hb => by rw [g4 x (by omega)]; exact hb
  have h46 : ∀ x o, K2.next ≤ x → K4.get x = some o → K6.get x = some o := fun x o hx hb => by
    have h1 := a5.1 x o hb (by omega) (.inl fun e => by have := hA2 x e; omega)
    have h2 : x < K4.next := by rw [n4]; exact wf4 x o (by rw [← g4 x (by omega)]; exact hb)
    refine a6.1 x o h1 (.inl fun e => ?_)
    rcases e with e | e
    · have := hA2 x e; omega
    · omega
  rw [hcl]
  with_reducible repeat' (first
 | refine AW.seq ?_
 | refine AW.region ?_
 | refine AOs.nil ?_
 | refine AW.skip ?_
 | refine AW.ret ?_
 | refine andThen_normal ?_
 | refine AW.condF (by simp only [aeval, PT.get_set, Nat.reduceEqDiff, reduceIte]; rfl) (by first | rfl | decide | assumption) ?_
 | ((first
 | refine AOs.op1E tOK (by with_unfolding_all rfl) ?_
 ); refine Step.mk (by simp only [evOp_move, evOp_assign, evOp_binOp, aeval, ofVal, PT.get_set, Nat.reduceEqDiff, reduceIte, Option.map_some, abin_neq, decide_true, Bool.not_true, eq_self, g7]; rfl) ?_)
 | fail "stop")
  refine fnPost_ret3 (by first | (simp only [PT.get_set, Nat.reduceEqDiff, reduceIte]; rfl) | simp only [PT.get_set, Nat.reduceEqDiff, reduceIte]) (by first | (simp only [PT.get_set, Nat.reduceEqDiff, reduceIte]; rfl) | simp only [PT.get_set, Nat.reduceEqDiff, reduceIte]) (by first | (simp only [PT.get_set, Nat.reduceEqDiff, reduceIte]; rfl) | simp only [PT.get_set, Nat.reduceEqDiff, reduceIte]) ⟨H.next, _, s, rfl, ⟨h6, fun x hx => ?_, ⟨a6.1 _ _ l5 (.inl kL5.2), fun e => ?_⟩, Nat.le_refl _, ⟨fun x o hb hx => ?_, by omega⟩⟩, fun L' hL' => (hs4.keep fun b x hb hx => hL' b x (h46 b x hb hx) (fun e => ?_)).rows⟩
  · rcases hx with ((hx | hx) | hx) | hx
    · exact .inl hx
    · exact .inr ⟨by omega, by omega⟩
    · exact .inr ⟨by omega, by omega⟩
    · exact .inr ⟨by omega, hx.2⟩
  · rcases e with ((e | e) | e) | e
    · exact hLA e
    · omega
    · omega
    · omega
  · have hx2 := a2.1 x o (syK x o hb) hx
    have hxl := hwf x o hb
    have hx5 := a5.1 x o (by rw [g4 x (by omega)]; exact hk3 x o hx2) (by omega) (hx.imp (fun h e => ?_) id)
    · refine a6.1 x o hx5 (hx.imp (fun h e => ?_) id)
      rcases e with (e | e) | e
      · exact h e
      · omega
      · omega
    · rcases e with e | e
      · exact h e
      · omega
  · have h2 : b < K4.next := by rw [n4]; exact wf4 b x (by rw [← g4 b (by omega)]; exact hx)
    rcases e with (e | e) | e
    · have := hA2 b e; omega
    · omega
    · omega
end Go.Proofs.YtgihociajfgohaaGreatDoor
