/- Log: a log is opened, appended to; the next generation; no condition. -/
import Derived.Test.YtgihociajfgohaaGreatDoorLog2
set_option linter.unusedSimpArgs false
set_option linter.unusedVariables false
open Go Go.AB Go.Proofs
namespace Go.Proofs.YtgihociajfgohaaGreatDoor
set_option maxRecDepth 100000

/-- Rows of bytes in new blocks. -/
def RowsF (n : Nat) (H : AH) (v : AV) (ls : List (List UInt8)) : Prop :=
  (lenOfAV v = some 0 ∧ ls = []) ∨ ∃ b o c ro ws, v = .slice b o ls.length c 1 ∧ n ≤ b ∧ H.get b = some (.cells ro ws) ∧ ∀ (i : Nat) l, ls[i]? = some l → ∃ u, ws[o + i * 1]? = some u ∧ BytesAt H u l ∧ ∀ b o m c z, u = .slice b o m c z → n ≤ b
theorem RowsF.len {n : Nat} {H : AH} {v : AV} {ls : List (List UInt8)} (h : RowsF n H v ls) : lenOfAV v = some ls.length := by
  rcases h with ⟨h, rfl⟩ | ⟨b, o, c, ro, ws, rfl, _⟩
  · exact h
  · rfl
theorem RowsF.rows {n : Nat} {H : AH} {v : AV} {ls : List (List UInt8)} (h : RowsF n H v ls) : RowsAt H v ls := by
  rcases h with h | ⟨b, o, c, ro, ws, h0, _, h1, h2⟩
  · exact .inl h
  · exact .inr ⟨b, o, c, ro, ws, h0, h1, fun i l hi => let ⟨u, q1, q2, _⟩ := h2 i l hi; ⟨u, q1, q2⟩⟩
theorem RowsF.keep {n : Nat} {H K : AH} {v : AV} {ls : List (List UInt8)} (h : RowsF n H v ls) (hk : ∀ b x, n ≤ b → H.get b = some x → K.get b = some x) : RowsF n K v ls := by
  rcases h with h | ⟨b, o, c, ro, ws, h0, hb, h1, h2⟩
  · exact .inl h
  · exact .inr ⟨b, o, c, ro, ws, h0, hb, hk _ _ hb h1, fun i l hi => let ⟨u, q1, q2, q3⟩ := h2 i l hi; ⟨u, q1, q2.keep fun b o c e x hx => hk b x (q3 _ _ _ _ _ e) hx, q3⟩⟩
theorem RowsF.mono {n m : Nat} {H : AH} {v : AV} {ls : List (List UInt8)} (h : RowsF n H v ls) (hm : m ≤ n) : RowsF m H v ls := by
  rcases h with h | ⟨b, o, c, ro, ws, h0, hb, h1, h2⟩
  · exact .inl h
  · exact .inr ⟨b, o, c, ro, ws, h0, by omega, h1, fun i l hi => let ⟨u, q1, q2, q3⟩ := h2 i l hi; ⟨u, q1, q2, fun b o k c z e => Nat.le_trans hm (q3 b o k c z e)⟩⟩

/-- Rows of bytes that were put together by append. -/
structure AccF (n : Nat) (H : AH) (v : AV) (us : List AV) (ls : List (List UInt8)) : Prop where
  acc : Acc H v us
  len : us.length = ls.length
  row : ∀ (i : Nat) l, ls[i]? = some l → ∃ u, us[i]? = some u ∧ BytesAt H u l ∧ (∀ b o n c z, u = .slice b o n c z → ∀ o' n' c' z', v ≠ .slice b o' n' c' z') ∧ ∀ b o m c z, u = .slice b o m c z → n ≤ b

theorem AccF.nil (n : Nat) (H : AH) : AccF n H .nils [] [] := ⟨.inl ⟨rfl, rfl⟩, rfl, fun i l h => by simp at h⟩
theorem AccF.keep {H K : AH} {v : AV} {us : List AV} {ls : List (List UInt8)} {n : Nat} (h : AccF n H v us ls) (hk : ∀ b x, H.get b = some x → K.get b = some x) : AccF n K v us ls :=
  ⟨h.acc.keep fun b _ _ _ _ _ x hx => hk b x hx, h.len, fun i l hi => let ⟨u, h1, h2, h3, h4⟩ := h.row i l hi; ⟨u, h1, h2.keep fun b _ _ _ x hx => hk b x hx, h3, h4⟩⟩
theorem AccF.rows {H : AH} {v : AV} {us : List AV} {ls : List (List UInt8)} {n : Nat} (h : AccF n H v us ls) (hv : ∀ b o m c z, v = .slice b o m c z → n ≤ b) : RowsF n H v ls := by
  rcases h.acc with ⟨rfl, h1⟩ | ⟨b, rfl, h1, h2⟩
  · have := h.len
    rw [h1] at this
    exact .inl ⟨rfl, List.eq_nil_of_length_eq_zero this.symm⟩
  · refine .inr ⟨b, 0, _, false, us, by rw [h.len], hv _ _ _ _ _ rfl, h1, fun i l hi => ?_⟩
    obtain ⟨u, q1, q2, _, q4⟩ := h.row i l hi
    exact ⟨u, by rw [Nat.zero_add, Nat.mul_one]; exact q1, q2, q4⟩

set_option maxHeartbeats 4000000 in
theorem scan14f (N : Nat) (H : AH) {v : AV} {b : List UInt8} (h : FB H v b) (hl : b.length ≤ 100000000) :
    AC tC N 0 14 [v] H fun r K => ∃ s, r = .tuple [s, .int .i64 ((scanM (b.length + 1) b).2.1 : Nat), .int .i64 (scanM (b.length + 1) b).2.2] ∧ RowsF H.next K s (scanM (b.length + 1) b).1 ∧ s.one = true ∧ (∀ b x, H.get b = some x → K.get b = some x) ∧ H.next ≤ K.next := by
  refine AC.wf0 fun hwf => ?_
  refine AC.by (n := 35) (rs := [.tmp 2, .tmp 3, .tmp 4]) tOK fn14 rfl rfl rfl rfl ?_
  have e0 : (PT.ofList .leaf 0 [v]).get 0 = some v := rfl
  have hlen := h.bytes.len
  obtain ⟨tot, htt⟩ : ∃ tot, tot = scanM (b.length + 1) b := ⟨_, rfl⟩
  rw [← htt]
  with_reducible repeat' (first
 | refine AW.seq ?_
 | refine AW.region ?_
 | refine AW.block ?_
 | refine AOs.nil ?_
 | refine andThen_normal ?_
 | ((first
 | refine AOs.op1E tOK (by with_unfolding_all rfl) ?_
 ); refine Step.mk (by simp only [evOp_assign, aeval, ofVal]; rfl) ?_)
 | fail "stop")
  refine AW.loop (fun m T K => (∀ b x, H.get b = some x → K.get b = some x) ∧ H.next ≤ K.next ∧ T.get 0 = some v ∧ ∃ (w : Nat) (sv : AV) (us : List AV) (s : List (List UInt8)) (f : Nat), w ≤ b.length ∧ m = b.length - w ∧ T.get 3 = some (.int .i64 (w : Nat)) ∧ T.get 2 = some sv ∧ AccF H.next K sv us s ∧ (∀ b o n c z, sv = .slice b o n c z → H.next ≤ b) ∧ 8 * s.length ≤ w ∧
      b.length - w < f ∧ tot = (s ++ (scanM f (b.drop w)).1, w + (scanM f (b.drop w)).2.1, (scanM f (b.drop w)).2.2)) ?_ (b.length - 0)
    ⟨fun b x h => h, Nat.le_refl _, by simp [PT.get_set, e0], 0, .nils, [], [], b.length + 1, by omega, rfl, by simp [PT.get_set], by simp [PT.get_set], AccF.nil _ _, (fun _ _ _ _ _ e => by cases e), by simp, by omega, by rw [htt]; simp⟩
  rintro m T K ⟨hst, hnx, g0, w, sv, us, s, f, hw, rfl, g3, g2, hacc, hsb, h8, hf, htot⟩
  refine AW.wf0 fun hwfK => ?_
  obtain ⟨f, rfl⟩ : ∃ f', f = f' + 1 := ⟨f - 1, by omega⟩
  have hone := hacc.acc.one
  by_cases hwl : w < b.length
  · have hd := lt_int hwl
    have hne : b.drop w ≠ [] := fun e => by
      have := congrArg List.length e
      simp at this; omega
    obtain ⟨u, hsl, hu⟩ := h.sub (lo := w) (hi := b.length) (hi' := none) (by omega) (Nat.le_refl _) rfl
    rw [List.take_of_length_le (by simp)] at hu
    have huF := (hu.fb hne).keep fun b x hb _ => hst b x hb
    with_reducible repeat' (first
 | refine AW.seq ?_
 | refine AW.region ?_
 | refine AW.block ?_
 | refine AOs.nil ?_
 | refine AW.skip ?_
 | refine andThen_normal ?_
 | refine AW.condT (by simp only [aeval, PT.get_set, Nat.reduceEqDiff, reduceIte]; rfl) (by first | rfl | decide | assumption) ?_
 | ((first
 | refine AOs.op1E tOK (by with_unfolding_all rfl) ?_
 ); refine Step.mk (by simp only [evOp_move, evOp_binOp, evOp_len, evOp_slice, aeval, PT.get_set, Nat.reduceEqDiff, reduceIte, Option.map_some, Option.map_none, abin_lss, eq_self, al32, g0, g3, hlen, hd, hsl]; rfl) ?_)
 | fail "stop")
    refine AOs.callQ tOK (fs := []) (cs := []) rfl fn43 ok43 rfl (by simp only [List.map_cons, List.map_nil, List.nil_append, List.append_nil, aeval, PT.get_set, Nat.reduceEqDiff, reduceIte] <;> rfl) (unframe43 N K huF (by rw [List.length_drop]; omega)).wf ?_
    rintro r K1 ⟨⟨p, rfl, hp, hp1, hk1, hn1, hf1⟩, hwf1⟩
    have hun := unframe_ok (b := b.drop w)
    have hus := unframe_cases (b.drop w)
    simp only [scanM, if_neg hne] at htot
    generalize hq : unframeM (b.drop w) = q at *
    obtain ⟨ql, qn, qe⟩ := q
    simp only at hun hus htot hp
    have hacc1 := hacc.keep hk1
    rcases hus with rfl | rfl | rfl
    · simp only [if_true] at htot
      rw [htot]
      with_reducible repeat' (first
 | refine AW.seq ?_
 | refine AW.region ?_
 | refine AOs.nil ?_
 | refine AW.exit ?_
 | refine AW.ret ?_
 | refine andThen_normal ?_
 | refine andThen_exit ?_
 | refine inBlock_hit ?_
 | refine inBlock_miss (by with_unfolding_all rfl) ?_
 | refine AW.condT (by simp only [aeval, PT.get_set, Nat.reduceEqDiff, reduceIte]; rfl) (by first | rfl | decide | assumption) ?_
 | ((first
 | refine AOs.op1E tOK (by with_unfolding_all rfl) ?_
 ); refine Step.mk (by simp only [evOp_move, evOp_assign, evOp_binOp, evOp_extract, aeval, ofVal, PT.get_set, Nat.reduceEqDiff, reduceIte, Option.map_some, abin_eql, decide_true, List.getElem?_cons_zero, List.getElem?_cons_succ, eq_self, g2, g3]; rfl) ?_)
 | fail "stop")
      refine fnPost_ret3 (by first | (simp only [PT.get_set, Nat.reduceEqDiff, reduceIte]; rfl) | simp only [PT.get_set, Nat.reduceEqDiff, reduceIte]) (by first | (simp only [PT.get_set, Nat.reduceEqDiff, reduceIte]; rfl) | simp only [PT.get_set, Nat.reduceEqDiff, reduceIte]) (by first | (simp only [PT.get_set, Nat.reduceEqDiff, reduceIte]; rfl) | simp only [PT.get_set, Nat.reduceEqDiff, reduceIte]) ⟨sv, by simp, by simpa using hacc1.rows hsb, hone, fun b x hb => hk1 b x (hst b x hb), by omega⟩
    · simp at htot
      rw [htot]
      with_reducible repeat' (first
 | refine AW.seq ?_
 | refine AW.region ?_
 | refine AOs.nil ?_
 | refine AW.skip ?_
 | refine AW.ret ?_
 | refine andThen_normal ?_
 | refine andThen_ret ?_
 | refine inBlock_ret ?_
 | refine AW.condT (by simp only [aeval, PT.get_set, Nat.reduceEqDiff, reduceIte]; rfl) (by first | rfl | decide | assumption) ?_
 | refine AW.condF (by simp only [aeval, PT.get_set, Nat.reduceEqDiff, reduceIte]; rfl) (by first | rfl | decide | assumption) ?_
 | ((first
 | refine AOs.op1E tOK (by with_unfolding_all rfl) ?_
 ); refine Step.mk (by simp only [evOp_move, evOp_assign, evOp_binOp, evOp_extract, aeval, ofVal, PT.get_set, Nat.reduceEqDiff, reduceIte, Option.map_some, abin_eql, abin_neq, decide_false, Bool.not_false, List.getElem?_cons_zero, List.getElem?_cons_succ, eq_self, Int.reduceEq, g2, g3]; rfl) ?_)
 | fail "stop")
      refine fnPost_ret3 (by first | (simp only [PT.get_set, Nat.reduceEqDiff, reduceIte]; rfl) | simp only [PT.get_set, Nat.reduceEqDiff, reduceIte]) (by first | (simp only [PT.get_set, Nat.reduceEqDiff, reduceIte]; rfl) | simp only [PT.get_set, Nat.reduceEqDiff, reduceIte]) (by first | (simp only [PT.get_set, Nat.reduceEqDiff, reduceIte]; rfl) | simp only [PT.get_set, Nat.reduceEqDiff, reduceIte]) ⟨sv, by simp, hacc1.rows hsb, hone, fun b x hb => hk1 b x (hst b x hb), by omega⟩
    · simp at htot
      obtain ⟨hn8, hnl⟩ := hun rfl
      rw [List.length_drop] at hnl
      generalize hK2 : K1.alloc (.cells false [p]) = K2
      have st2 : ∀ b x, K1.get b = some x → K2.get b = some x := fun b x hb => by rw [← hK2]; exact stay_alloc hwf1 _ b x hb
      have wf2 : WF K2 := by rw [← hK2]; exact wf_alloc hwf1 _
      have g2' : K2.get K1.next = some (.cells false [p]) := by rw [← hK2, AH.get_alloc, if_pos rfl]
      have n2 : K2.next = K1.next + 1 := by rw [← hK2, AH.next_alloc]
      have hacc2 := hacc1.keep st2
      have hap : aappended tC K2 ⟨.slice 5, 1, 24, some .nils, true⟩ 28 (.slice K1.next 0 1 (.ex 1) 1) = some ([p].length, [p]) := aappended_one ti28 rfl rfl g2' rfl
      obtain ⟨sv', K3, ha, hacc3, hn3, hk3, hb3⟩ := acc_append (C := tC) ti28 rfl ti32 rfl rfl rfl (by decide) wf2 hacc2.acc hap (by simp [allOne, hp1]) (by have := hacc.len; simp; omega)
      have hw1 : IntKind.i64.wrap (((w : Nat) : Int) + ((qn : Nat) : Int)) = ((w + qn : Nat) : Int) := by rw [wrap64 (by omega) (by omega)]; omega
      with_reducible repeat' (first
 | refine AW.seq ?_
 | refine AW.region ?_
 | refine AOs.nil ?_
 | refine AW.skip ?_
 | refine andThen_normal ?_
 | refine inBlock_normal ?_
 | refine AW.condF (by simp only [aeval, PT.get_set, Nat.reduceEqDiff, reduceIte]; rfl) (by first | rfl | decide | assumption) ?_
 | ((first
 | refine AOs.op1E tOK (by with_unfolding_all rfl) ?_
 ); refine Step.mk (by simp only [evOp_move, evOp_assign, evOp_binOp, evOp_extract, evOp_append, aeval, ofVal, PT.get_set, Nat.reduceEqDiff, reduceIte, List.map_cons, List.map_nil, Option.map_some, abin_add, abin_eql, abin_neq, decide_true, decide_false, Bool.not_true, List.getElem?_cons_zero, List.getElem?_cons_succ, eq_self, Int.reduceEq, g2, g3, bs28_1, hp1, hK2, ha, hw1]; rfl) ?_)
 | fail "stop")
      have hsv : ∀ b o n c z, sv' = .slice b o n c z → K2.next ≤ b := fun b o n c z e => by
        rcases hb3 b o n c z e with h | h
        · exfalso
          rcases hacc3 with ⟨h1, _⟩ | ⟨b1, h1, h2, _⟩
          · rw [h1] at e; cases e
          · rw [h1] at h
            rcases hacc2.acc with ⟨h4, _⟩ | ⟨b4, h4, _, _⟩
            · rw [h4] at h; cases h
            · rw [h4] at h
              have := congrArg (fun x => lenOfAV x) h
              simp [lenOfAV] at this
        · exact h
      have hne2 : ∀ b1 x, K2.get b1 = some x → (∀ o n c z, sv ≠ .slice b1 o n c z) → K3.get b1 = some x := hk3
      have hrow : AccF H.next K3 sv' (us ++ [p]) (s ++ [ql]) := ⟨hacc3, by simp [hacc.len], fun i l hi => by
        by_cases hil : i < s.length
        · rw [List.getElem?_append_left hil] at hi
          obtain ⟨u1, q1, q2, q3, q4⟩ := hacc2.row i l hi
          have hlt := (List.getElem?_eq_some_iff.1 q1).1
          refine ⟨u1, by rw [List.getElem?_append_left hlt]; exact q1, q2.keep fun b o c e x hx => hne2 b x hx fun o' n' c' z' => q3 b o _ c 1 e o' n' c' z', fun b o n c z e o' n' c' z' e' => ?_, q4⟩
          have h1 := hsv _ _ _ _ _ e'
          rcases q2 with ⟨h2 | ⟨k, h2⟩, _⟩ | ⟨b5, o5, c5, ro5, vs5, h2, h3, _⟩
          · rw [h2] at e; cases e
          · rw [h2] at e; cases e
          · rw [h2] at e; cases e
            have := wf2 _ _ h3; omega
        · have hi2 : i < (s ++ [ql]).length := (List.getElem?_eq_some_iff.1 hi).1
          simp at hi2
          obtain rfl : i = s.length := by omega
          rw [List.getElem?_append_right (Nat.le_refl _)] at hi
          simp at hi; subst hi
          have hpk : BytesAt K2 p ql := hp.keep fun b o c _ x hx => st2 b x hx
          refine ⟨p, by rw [List.getElem?_append_right (by rw [hacc.len]; exact Nat.le_refl _), hacc.len]; simp, hpk.keep fun b o c e x hx => hne2 b x hx fun o' n' c' z' e' => ?_, fun b o n c z e o' n' c' z' e' => ?_, fun b o m c z e => by have := hf1 b o m c z e; omega⟩
          · have h1 := hf1 _ _ _ _ _ e
            rcases hacc.acc with ⟨h4, _⟩ | ⟨b4, h4, h5, _⟩
            · rw [h4] at e'; cases e'
            · rw [h4] at e'; cases e'
              have := hwfK _ _ h5; omega
          · have h1 := hsv _ _ _ _ _ e'
            rcases hpk with ⟨h2 | ⟨k, h2⟩, _⟩ | ⟨b5, o5, c5, ro5, vs5, h2, h3, _⟩
            · rw [h2] at e; cases e
            · rw [h2] at e; cases e
            · rw [h2] at e; cases e
              have := wf2 _ _ h3; omega⟩
      refine ⟨b.length - (w + qn), by omega, fun b x hb => hne2 b x (st2 b x (hk1 b x (hst b x hb))) fun o n c z e => by have := hsb _ _ _ _ _ e; have := hwf b x hb; omega, by omega, by simp [PT.get_set, g0], w + qn, sv', us ++ [p], s ++ [ql], f, by omega, rfl, by simp [PT.get_set], by simp [PT.get_set], hrow, fun b o n c z e => by have := hsv b o n c z e; omega, by simp; omega, by omega, ?_⟩
      rw [htot]
      simp [Nat.add_assoc]
  · have hd := nlt_int hwl
    obtain rfl : w = b.length := by omega
    rw [List.drop_length] at htot
    simp only [scanM, if_true, List.append_nil, Nat.add_zero] at htot
    rw [htot]
    with_reducible repeat' (first
 | refine AW.seq ?_
 | refine AW.region ?_
 | refine AOs.nil ?_
 | refine AW.exit ?_
 | refine AW.ret ?_
 | refine andThen_normal ?_
 | refine andThen_exit ?_
 | refine inBlock_hit ?_
 | refine AW.condF (by simp only [aeval, PT.get_set, Nat.reduceEqDiff, reduceIte]; rfl) (by first | rfl | decide | assumption) ?_
 | ((first
 | refine AOs.op1E tOK (by with_unfolding_all rfl) ?_
 ); refine Step.mk (by simp only [evOp_move, evOp_assign, evOp_binOp, evOp_len, aeval, ofVal, PT.get_set, Nat.reduceEqDiff, reduceIte, Option.map_some, abin_lss, eq_self, al32, g0, g2, g3, hlen, hd]; rfl) ?_)
 | fail "stop")
    exact fnPost_ret3 (by first | (simp only [PT.get_set, Nat.reduceEqDiff, reduceIte]; rfl) | simp only [PT.get_set, Nat.reduceEqDiff, reduceIte]) (by first | (simp only [PT.get_set, Nat.reduceEqDiff, reduceIte]; rfl) | simp only [PT.get_set, Nat.reduceEqDiff, reduceIte]) (by first | (simp only [PT.get_set, Nat.reduceEqDiff, reduceIte]; rfl) | simp only [PT.get_set, Nat.reduceEqDiff, reduceIte]) ⟨sv, rfl, hacc.rows hsb, hone, hst, hnx⟩

theorem cv32b {H : AH} {v : AV} {l : List UInt8} (h : BytesAt H v l) : convOp tC H 32 9 v = some (.str l, H) := by
  have := cv32_9 H v (by
    rcases h with ⟨rfl | ⟨k, rfl⟩, _⟩ | ⟨b, o, c, ro, vs, rfl, _⟩
    · exact fun s h => by cases h
    · exact fun s h => by cases h
    · exact fun s h => by cases h)
  rw [h.str] at this
  exact this

set_option maxHeartbeats 4000000 in
theorem texts18 (N : Nat) (H : AH) {v : AV} {ls : List (List UInt8)} (h : RowsAt H v ls) (hn : ls.length ≤ 1000000) :
    AC tC N 0 18 [v] H fun r K => StrsAt K r ls ∧ (∀ b x, H.get b = some x → K.get b = some x) ∧ H.next ≤ K.next := by
  refine AC.wf0 fun hwf => ?_
  refine AC.by (n := 20) (rs := [.tmp 2]) tOK fn18 rfl rfl rfl rfl ?_
  have e0 : (PT.ofList .leaf 0 [v]).get 0 = some v := rfl
  have hlen := h.len
  with_reducible repeat' (first
 | refine AW.seq ?_
 | refine AW.region ?_
 | refine AW.block ?_
 | refine AOs.nil ?_
 | refine andThen_normal ?_
 | ((first
 | refine AOs.op1E tOK (by with_unfolding_all rfl) ?_
 ); refine Step.mk (by simp only [evOp_assign, aeval, ofVal]; rfl) ?_)
 | fail "stop")
  refine AW.loop (fun m T K => (∀ b x, H.get b = some x → K.get b = some x) ∧ H.next ≤ K.next ∧ T.get 0 = some v ∧ ∃ (i : Nat) (sv : AV), i ≤ ls.length ∧ m = ls.length - i ∧ T.get 4 = some (.int .i64 (i : Nat)) ∧ T.get 3 = some sv ∧ Acc K sv ((ls.take i).map .str) ∧ ∀ b o n c z, sv = .slice b o n c z → H.next ≤ b) ?_ (ls.length - 0)
    ⟨fun b x h => h, Nat.le_refl _, by simp [PT.get_set, e0], 0, .nils, by omega, rfl, by simp [PT.get_set], by simp [PT.get_set], .inl ⟨rfl, rfl⟩, fun _ _ _ _ _ e => by cases e⟩
  rintro m T K ⟨hst, hnx, g0, i, sv, hi, rfl, g4, g3, hacc, hsb⟩
  refine AW.wf0 fun hwfK => ?_
  by_cases hil : i < ls.length
  · have hd := lt_int hil
    obtain ⟨l, hli⟩ : ∃ l, ls[i]? = some l := ⟨_, List.getElem?_eq_getElem hil⟩
    rcases h with ⟨_, h⟩ | ⟨b, o, c, ro, ws, rfl, hbg, hw⟩
    · rw [h] at hil; simp at hil
    obtain ⟨u, hu, hB⟩ := hw i l hli
    have hbK := hst _ _ hbg
    have hcv := cv32b (hB.keep fun b o c _ x hx => hst b x hx)
    obtain ⟨sv', K2, ha, hacc2, hn2, hk2, hb2⟩ := acc_str hwfK hacc l (by rw [List.length_map, List.length_take]; omega)
    with_reducible repeat' (first
 | refine AW.seq ?_
 | refine AW.region ?_
 | refine AW.block ?_
 | refine AOs.nil ?_
 | refine AW.skip ?_
 | refine andThen_normal ?_
 | refine inBlock_normal ?_
 | refine AW.condT (by simp only [aeval, PT.get_set, Nat.reduceEqDiff, reduceIte]; rfl) (by first | rfl | decide | assumption) ?_
 | ((first
 | refine AOs.op1E tOK (by with_unfolding_all rfl) ?_
 ); refine Step.mk (by simp only [evOp_move, evOp_assign, evOp_binOp, evOp_indexAddr, evOp_load, evOp_len, evOp_append, evOp_convert, one_str, aeval, ofVal, PT.get_set, Nat.reduceEqDiff, reduceIte, cellAt, List.map_cons, List.map_nil, Option.map_some, abin_add, abin_lss, eq_self, al28, ix28, ld32, g0, g3, g4, hlen, hd, hil, hbK, hu, hcv, bs37_1, ha]; rfl) ?_)
 | fail "stop")
    refine ⟨ls.length - (i + 1), by omega, fun b y hb => hk2 b y (hst b y hb) fun o n c z e => by have := hsb _ _ _ _ _ e; have := hwf b y hb; omega, by omega, by simp [PT.get_set, g0], i + 1, sv', by omega, rfl, ?_, by simp [PT.get_set], ?_, fun b o n c z e => by have := hb2 b o n c z e; omega⟩
    · simp only [PT.get_set, Nat.reduceEqDiff, reduceIte, wrap64_succ (show i < 9223372036854775807 by omega)]
    · rw [List.take_add_one, hli, List.map_append]; exact hacc2
  · have hd := nlt_int hil
    obtain rfl : i = ls.length := by omega
    rw [List.take_length] at hacc
    with_reducible repeat' (first
 | refine AW.seq ?_
 | refine AW.region ?_
 | refine AOs.nil ?_
 | refine AW.exit ?_
 | refine AW.ret ?_
 | refine andThen_normal ?_
 | refine andThen_exit ?_
 | refine inBlock_hit ?_
 | refine AW.condF (by simp only [aeval, PT.get_set, Nat.reduceEqDiff, reduceIte]; rfl) (by first | rfl | decide | assumption) ?_
 | ((first
 | refine AOs.op1E tOK (by with_unfolding_all rfl) ?_
 ); refine Step.mk (by simp only [evOp_move, evOp_assign, evOp_binOp, evOp_len, aeval, PT.get_set, Nat.reduceEqDiff, reduceIte, Option.map_some, abin_lss, eq_self, al28, g0, g3, g4, hlen, hd]; rfl) ?_)
 | fail "stop")
    refine fnPost_ret1 (by first | (simp only [PT.get_set, Nat.reduceEqDiff, reduceIte]; rfl) | simp only [PT.get_set, Nat.reduceEqDiff, reduceIte]) ⟨?_, hst, hnx⟩
    rcases hacc with ⟨rfl, h1⟩ | ⟨b, rfl, h1, h2⟩
    · exact .inl ⟨rfl, by simpa using h1⟩
    · exact .inr ⟨b, _, false, _, by rw [List.length_map], h1, fun i s hs => by rw [List.getElem?_map, hs]; rfl⟩
end Go.Proofs.YtgihociajfgohaaGreatDoor

open Go Go.AB Go.Proofs
namespace Go.Proofs.YtgihociajfgohaaGreatDoor
set_option maxRecDepth 100000

def maxG (l : List Nm) : Nat := l.foldl (fun m s => max m (genOf s)) 0
theorem maxG_take {l : List Nm} {i : Nat} {s : Nm} (h : l[i]? = some s) : maxG (l.take (i + 1)) = max (maxG (l.take i)) (genOf s) := by
  unfold maxG; rw [List.take_add_one, h, List.foldl_append]; rfl
theorem bd65 (d : Nat) : abuild tC 65 [(1, .ptr d 0), (2, .str nL)] = some (.agg [.int .i64 0, .ptr d 0, .str nL, .int .i64 0, .int .i64 0, .int .i64 0]) := by kernel_rfl

/-- What an opened log is. -/
structure Opened (H K : AH) (A : Nat → Prop) (d : Nat) (M : DM) (L g sz cnt : Nat) (A' : Nat → Prop) : Prop where
  disk : DiskAt K d M A'
  sub : ∀ x, A' x → A x ∨ (H.next ≤ x ∧ x < K.next)
  log : Kp K A' L (logO 0 d g sz cnt)
  new : H.next ≤ L
  ap : Apart H K A

set_option maxHeartbeats 8000000 in
theorem open10a (N : Nat) {H : AH} {d : Nat} {M : DM} {A : Nat → Prop} {i0 : Nat} (hA : ∀ b, A b → b < H.next) (hD : DiskAt H d M A) (hM : MB M i0) (hi0 : i0 ≤ 400) (hnm : ∀ s ∈ M.names, LName s) (hg : maxG M.names = 0) (hw : (M.write (fileN 1) []).1 = 0) :
    AC tC N 0 10 [.ptr d 0, .str nL] H fun r K => ∃ L A', r = .tuple [.ptr L 0, .nils, .int .i64 0] ∧ Opened H K A d (M.write (fileN 1) []).2 L 1 0 0 A' := by
  refine AC.wf0 fun hwf => ?_
  obtain ⟨φ, nb, sb, cv, v1, v2, hDA⟩ := id hD
  refine AC.by (n := 120) (rs := [.tmp 4, .tmp 5, .tmp 6]) tOK fn10 rfl rfl rfl rfl ?_
  have e0 : (PT.ofList .leaf 0 [AV.ptr d 0, .str nL]).get 0 = some (.ptr d 0) := rfl
  have e1 : (PT.ofList .leaf 0 [AV.ptr d 0, .str nL]).get 1 = some (.str nL) := rfl
  with_reducible repeat' (first
 | refine AW.seq ?_
 | refine AW.region ?_
 | refine AOs.nil ?_
 | refine andThen_normal ?_
 | ((first
 | refine AOs.op1E tOK (by with_unfolding_all rfl) ?_
 ); refine Step.mk (by simp only [evOp_move, evOp_assign, aeval, ofVal, PT.get_set, Nat.reduceEqDiff, reduceIte, e0]; rfl) ?_)
 | fail "stop")
  refine AOs.callQ tOK (fs := []) (cs := []) rfl fn37 ok37 rfl (by simp only [List.map_cons, List.map_nil, List.nil_append, List.append_nil, aeval, PT.get_set, Nat.reduceEqDiff, reduceIte] <;> rfl) (made34 N H hDA.core) ?_
  rintro r H' ⟨rfl, rfl⟩
  with_reducible repeat' (first
 | refine AW.seq ?_
 | refine AW.region ?_
 | refine AOs.nil ?_
 | refine AW.skip ?_
 | refine andThen_normal ?_
 | refine AW.condF (by simp only [aeval, PT.get_set, Nat.reduceEqDiff, reduceIte]; rfl) (by first | rfl | decide | assumption) ?_
 | ((first
 | refine AOs.op1E tOK (by with_unfolding_all rfl) ?_
 ); refine Step.mk (by simp only [evOp_move, evOp_not, aeval, PT.get_set, Nat.reduceEqDiff, reduceIte, Bool.not_true, eq_self, e1]; rfl) ?_)
 | fail "stop")
  refine AOs.callQ tOK (fs := []) (cs := []) rfl fn35 ok35 rfl (by simp only [List.map_cons, List.map_nil, List.nil_append, List.append_nil, aeval, PT.get_set, Nat.reduceEqDiff, reduceIte] <;> rfl) (right35 N H') ?_
  rintro r H ⟨rfl, rfl⟩
  obtain ⟨H1, hH1⟩ : ∃ H1, H1 = H.alloc (logO 0 d 0 0 0) := ⟨_, rfl⟩
  have hH1' : H.alloc (.cells false [.int .i64 0, .ptr d 0, .str nL, .int .i64 0, .int .i64 0, .int .i64 0]) = H1 := hH1.symm
  have sy1 : ∀ b x, H.get b = some x → H1.get b = some x := fun b x hb => by rw [hH1]; exact stay_alloc hwf _ b x hb
  have wf1 : WF H1 := by rw [hH1]; exact wf_alloc hwf _
  have gL : H1.get H.next = some (logO 0 d 0 0 0) := by rw [hH1, AH.get_alloc, if_pos rfl]
  have n1 : H1.next = H.next + 1 := by rw [hH1, AH.next_alloc]
  have hD1 : DiskAt H1 d M A := hD.keep ⟨fun b x hb _ => sy1 b x hb, by omega⟩ fun _ => id
  with_reducible repeat' (first
 | refine AW.seq ?_
 | refine AW.region ?_
 | refine AOs.nil ?_
 | refine AW.skip ?_
 | refine andThen_normal ?_
 | refine AW.condF (by simp only [aeval, PT.get_set, Nat.reduceEqDiff, reduceIte]; rfl) (by first | rfl | decide | assumption) ?_
 | ((first
 | refine AOs.op1E tOK (by with_unfolding_all rfl) ?_
 ); refine Step.mk (by simp only [evOp_move, evOp_assign, evOp_build, evOp_not, evOp_boxC, boxC_agg, aeval, ofVal, PT.get_set, Nat.reduceEqDiff, reduceIte, List.map_cons, List.map_nil, Option.map_some, Bool.not_true, nblt, eq_self, e0, e1, bd65, hH1']; rfl) ?_)
 | fail "stop")
  refine AOs.callQ tOK (fs := []) (cs := []) rfl fn32 ok32 rfl (by simp only [List.map_cons, List.map_nil, List.nil_append, List.append_nil, aeval, PT.get_set, Nat.reduceEqDiff, reduceIte] <;> rfl) (names24 N H1 hD1 (fun p hp => Nat.le_trans (hM.keys p hp) (by omega)) (Nat.le_trans hM.ents (by omega))).wf ?_
  rintro nv K1 ⟨⟨hnv, sy2, hn2⟩, wf2⟩
  have hnl := hnv.len
  have hN1 := hM.names_len
  with_reducible repeat' (first
 | refine AW.block ?_
 | refine AOs.nil ?_
 | refine andThen_normal ?_
 | ((first
 | refine AOs.op1E tOK (by with_unfolding_all rfl) ?_
 ); refine Step.mk (by simp only [evOp_move, evOp_len, aeval, ofVal, PT.get_set, Nat.reduceEqDiff, reduceIte, Option.map_some, eq_self, al37, hnl]; rfl) ?_)
 | fail "stop")
  refine AW.loop (fun m T K => K = K1 ∧ T.get 0 = some (.ptr d 0) ∧ T.get 1 = some (.str nL) ∧ T.get 7 = some (.ptr H.next 0) ∧ T.get 33 = some nv ∧ T.get 34 = some (.int .i64 (M.names.length : Nat)) ∧
      ∃ i : Nat, i ≤ M.names.length ∧ m = M.names.length - i ∧ T.get 35 = some (.int .i64 (i : Nat)) ∧ T.get 8 = some (.int .i64 (maxG (M.names.take i) : Nat))) ?_ (M.names.length - 0)
    ⟨rfl, by simp [PT.get_set, e0], by simp [PT.get_set, e1], by simp [PT.get_set], by simp [PT.get_set], by simp [PT.get_set], 0, by omega, rfl, by simp [PT.get_set], by simp [PT.get_set, maxG]⟩
  rintro m T K ⟨rfl, g0, g1, g7, g33, g34, i, hi, rfl, g35, g8⟩
  by_cases hil : i < M.names.length
  · have hd := lt_int hil
    obtain ⟨x, hx⟩ : ∃ x, M.names[i]? = some x := ⟨_, List.getElem?_eq_getElem hil⟩
    have hxl := hnm x (List.mem_of_getElem? hx)
    rcases hnv with ⟨_, hnv⟩ | ⟨b, c, ro, ws, rfl, hbg, hws⟩
    · rw [hnv] at hil; simp at hil
    have hwx : ws[i * 1]? = some (.str x) := by rw [Nat.mul_one]; exact hws i x hx
    with_reducible repeat' (first
 | refine AW.seq ?_
 | refine AW.region ?_
 | refine AW.block ?_
 | refine AOs.nil ?_
 | refine AW.skip ?_
 | refine andThen_normal ?_
 | refine AW.condT (by simp only [aeval, PT.get_set, reduceIte]; rfl) (by first | rfl | decide | assumption) ?_
 | ((first
 | refine AOs.op1E tOK (by with_unfolding_all rfl) ?_
 ); refine Step.mk (by simp only [evOp_move, evOp_assign, evOp_binOp, evOp_indexAddr, evOp_load, aeval, PT.get_set, Nat.reduceEqDiff, reduceIte, cellAt, Option.map_some, abin_lss, Nat.zero_add, eq_self, ld9, ix37, g1, g33, g34, g35, hd, hil, hbg, hwx]; rfl) ?_)
 | fail "stop")
    refine AOs.callQ tOK (fs := []) (cs := []) rfl fn8 ok8 rfl (by simp only [List.map_cons, List.map_nil, List.nil_append, List.append_nil, aeval, PT.get_set, Nat.reduceEqDiff, reduceIte] <;> rfl) (of8 N K hxl) ?_
    rintro r K' ⟨rfl, rfl⟩
    by_cases hgn : genOf x = 0
    · have hd2 : decide (genOf x ≠ 0) = false := decide_eq_false (by simp [hgn])
      with_reducible repeat' (first
 | refine AW.seq ?_
 | refine AW.region ?_
 | refine AOs.nil ?_
 | refine AW.skip ?_
 | refine andThen_normal ?_
 | refine inBlock_normal ?_
 | refine AW.condF (by simp only [aeval, PT.get_set, Nat.reduceEqDiff, reduceIte, hd2]; rfl) (by first | rfl | decide | assumption) ?_
 | ((first
 | refine AOs.op1E tOK (by with_unfolding_all rfl) ?_
 ); refine Step.mk (by simp only [evOp_move, evOp_assign, evOp_binOp, evOp_extract, aeval, ofVal, PT.get_set, Nat.reduceEqDiff, reduceIte, Option.map_some, abin_add, List.getElem?_cons_zero, List.getElem?_cons_succ, eq_self, g35, hd2]; rfl) ?_)
 | fail "stop")
      refine ⟨M.names.length - (i + 1), by omega, rfl, by simp [PT.get_set, g0], by simp [PT.get_set, g1], by simp [PT.get_set, g7], by simp [PT.get_set, g33], by simp [PT.get_set, g34], i + 1, by omega, rfl, ?_, ?_⟩
      · simp only [PT.get_set, Nat.reduceEqDiff, reduceIte, wrap64_succ (show i < 9223372036854775807 by omega)]
      · rw [maxG_take hx, hgn, Nat.max_zero]; simp only [PT.get_set, Nat.reduceEqDiff, reduceIte, g8]
    · have hd2 : decide (genOf x ≠ 0) = true := decide_eq_true hgn
      have hmx : max ((maxG (M.names.take i) : Nat) : Int) ((genOf x : Nat) : Int) = ((max (maxG (M.names.take i)) (genOf x) : Nat) : Int) := by omega
      with_reducible repeat' (first
 | refine AW.seq ?_
 | refine AW.region ?_
 | refine AOs.nil ?_
 | refine andThen_normal ?_
 | refine inBlock_normal ?_
 | refine AW.condT (by simp only [aeval, PT.get_set, Nat.reduceEqDiff, reduceIte, hd2]; rfl) (by first | rfl | decide | assumption) ?_
 | ((first
 | refine AOs.op1E tOK (by with_unfolding_all rfl) ?_
 ); refine Step.mk (by simp only [evOp_move, evOp_assign, evOp_binOp, evOp_extract, aeval, ofVal, PT.get_set, Nat.reduceEqDiff, reduceIte, Option.map_some, abin_add, List.getElem?_cons_zero, List.getElem?_cons_succ, eq_self, g35, g8, hd2, evOp_max2, max2V_int, Option.isSome_some, hmx]; rfl) ?_)
 | fail "stop")
      refine ⟨M.names.length - (i + 1), by omega, rfl, by simp [PT.get_set, g0], by simp [PT.get_set, g1], by simp [PT.get_set, g7], by simp [PT.get_set, g33], by simp [PT.get_set, g34], i + 1, by omega, rfl, ?_, ?_⟩
      · simp only [PT.get_set, Nat.reduceEqDiff, reduceIte, wrap64_succ (show i < 9223372036854775807 by omega)]
      · rw [maxG_take hx]; simp only [PT.get_set, Nat.reduceEqDiff, reduceIte]
  have hd := nlt_int hil
  obtain rfl : i = M.names.length := by omega
  rw [List.take_length] at g8
  have hLA : ¬ A H.next := fun e => by have := hA _ e; omega
  have kL : Kp K A H.next (logO 0 d 0 0 0) := ⟨sy2 _ _ gL, hLA⟩
  have hDK : DiskAt K d M A := hD1.keep ⟨fun b x hb _ => sy2 b x hb, hn2⟩ fun _ => id
  have hAK : ∀ b, A b → b < K.next := fun b hb => by have := hA b hb; omega
  have syK : ∀ b x, H.get b = some x → K.get b = some x := fun b x hb => sy2 b x (sy1 b x hb)
  rw [hg] at g8
  with_reducible repeat' (first
 | refine AW.seq ?_
 | refine AW.region ?_
 | refine AOs.nil ?_
 | refine AW.exit ?_
 | refine andThen_normal ?_
 | refine andThen_exit ?_
 | refine inBlock_hit ?_
 | refine AW.condT (by simp only [aeval, PT.get_set, Nat.reduceEqDiff, reduceIte]; rfl) (by first | rfl | decide | assumption) ?_
 | refine AW.condF (by simp only [aeval, PT.get_set, reduceIte]; rfl) (by first | rfl | decide | assumption) ?_
 | ((first
 | refine AOs.op1E tOK (by with_unfolding_all rfl) ?_
 ); refine Step.mk (by simp only [evOp_move, evOp_binOp, aeval, ofVal, PT.get_set, Nat.reduceEqDiff, reduceIte, Option.map_some, abin_lss, abin_eql, decide_true, eq_self, Int.cast_ofNat_Int, g7, g34, g35, g8, hd]; rfl) ?_)
 | fail "stop")
  refine AOs.callQ tOK (fs := []) (cs := []) rfl fn38 ok38 rfl (by simp only [List.map_cons, List.map_nil, List.nil_append, List.append_nil, aeval, ofVal, PT.get_set, Nat.reduceEqDiff, reduceIte] <;> rfl) (write38 N (gen := 1) (cnt := 0) (bv := .nils) (b := []) hAK hDK hM (by omega) kL (.inl rfl) (.inl ⟨rfl, rfl⟩) (by simp)) ?_
  rintro r K2 ⟨rfl, h2, a2, l2⟩
  rw [if_pos hw] at l2
  rw [hw]
  with_reducible repeat' (first
 | refine AW.seq ?_
 | refine AW.region ?_
 | refine AOs.nil ?_
 | refine AW.skip ?_
 | refine AW.ret ?_
 | refine andThen_normal ?_
 | refine andThen_ret ?_
 | refine AW.condF (by simp only [aeval, PT.get_set, Nat.reduceEqDiff, reduceIte]; rfl) (by first | rfl | decide | assumption) ?_
 | ((first
 | refine AOs.op1E tOK (by with_unfolding_all rfl) ?_
 ); refine Step.mk (by simp only [evOp_move, evOp_assign, evOp_binOp, aeval, ofVal, PT.get_set, Nat.reduceEqDiff, reduceIte, Option.map_some, abin_neq, decide_true, Bool.not_true, eq_self, g7]; rfl) ?_)
 | fail "stop")
  refine fnPost_ret3 (by first | (simp only [PT.get_set, Nat.reduceEqDiff, reduceIte]; rfl) | simp only [PT.get_set, Nat.reduceEqDiff, reduceIte]) (by first | (simp only [PT.get_set, Nat.reduceEqDiff, reduceIte]; rfl) | simp only [PT.get_set, Nat.reduceEqDiff, reduceIte]) (by first | (simp only [PT.get_set, Nat.reduceEqDiff, reduceIte]; rfl) | simp only [PT.get_set, Nat.reduceEqDiff, reduceIte]) ⟨H.next, _, rfl, h2, fun x hx => hx.imp id fun hx => ⟨by omega, hx.2⟩, ⟨l2, fun e => ?_⟩, Nat.le_refl _, ⟨fun b x hb hx => a2.1 b x (syK b x hb) (fun e => by have := hwf b x hb; omega) hx, by have := a2.2; omega⟩⟩
  rcases e with e | e
  · exact hLA e
  · omega

end Go.Proofs.YtgihociajfgohaaGreatDoor

open Go Go.AB Go.Proofs
namespace Go.Proofs.YtgihociajfgohaaGreatDoor
set_option maxRecDepth 100000

/-- A log changes alone. -/
theorem DiskAt.setL {H K : AH} {d L : Nat} {M : DM} {A : Nat → Prop} {x : AO} (h : DiskAt H d M A) (hL : Kp H A L x) (hk : kind x ≠ 3 ∧ kind x ≠ 4) (hg : ∀ b, b ≠ L → K.get b = H.get b) (hn : H.next ≤ K.next) : DiskAt K d M A :=
  h.keep ⟨fun b y hb hx => by
    have hne : b ≠ L := fun e => by
      subst e
      rw [hL.1] at hb; cases hb
      rcases hx with hx | hx | hx
      · exact hL.2 hx
      · exact hk.1 hx
      · exact hk.2 hx
    rw [hg b hne]; exact hb, hn⟩ fun _ => id
theorem kind_log (e : Int) (d : Nat) (g s n : Int) : kind (logO e d g s n) ≠ 3 ∧ kind (logO e d g s n) ≠ 4 := by simp [logO, kind, kindV, isU8]

set_option maxHeartbeats 1000000 in
theorem note46 (N : Nat) {H : AH} {d L : Nat} {g s n : Int} (hL : H.get L = some (logO 0 d g s n)) {x : Int} :
    AC tC N 0 46 [.ptr L 0, .int .i64 x] H fun r K => r = .int .i64 x ∧ K.get L = some (logO x d g s n) ∧ (∀ b, b ≠ L → K.get b = H.get b) ∧ K.next = H.next := by
  refine AC.by (n := 12) (rs := [.tmp 4]) tOK fn46 rfl rfl rfl rfl ?_
  have e0 : (PT.ofList .leaf 0 [AV.ptr L 0, .int .i64 x]).get 0 = some (.ptr L 0) := rfl
  have e1 : (PT.ofList .leaf 0 [AV.ptr L 0, .int .i64 x]).get 1 = some (.int .i64 x) := rfl
  have gL : H.get L = some (.cells false [.int .i64 0, .ptr d 0, .str nL, .int .i64 g, .int .i64 s, .int .i64 n]) := hL
  by_cases hx : x = 0
  · subst hx
    with_reducible repeat' (first
 | refine AW.seq ?_
 | refine AW.region ?_
 | refine AOs.nil ?_
 | refine AW.skip ?_
 | refine AW.ret ?_
 | refine andThen_normal ?_
 | refine AW.condF (by simp only [aeval, PT.get_set, Nat.reduceEqDiff, reduceIte]; rfl) (by first | rfl | decide | assumption) ?_
 | ((first
 | refine AOs.op1E tOK (by with_unfolding_all rfl) ?_
 ); refine Step.mk (by simp only [evOp_move, evOp_assign, evOp_binOp, aeval, ofVal, PT.get_set, Nat.reduceEqDiff, reduceIte, Option.map_some, abin_neq, decide_true, Bool.not_true, eq_self, e1]; rfl) ?_)
 | fail "stop")
    exact fnPost_ret1 (by first | (simp only [PT.get_set, Nat.reduceEqDiff, reduceIte]; rfl) | simp only [PT.get_set, Nat.reduceEqDiff, reduceIte]) ⟨rfl, hL, fun _ _ => rfl, rfl⟩
  · have hd : decide (x = 0) = false := decide_eq_false hx
    with_reducible repeat' (first
 | refine AW.seq ?_
 | refine AW.region ?_
 | refine AOs.nil ?_
 | refine AW.ret ?_
 | refine andThen_normal ?_
 | refine AW.condT (by simp only [aeval, PT.get_set, Nat.reduceEqDiff, reduceIte]; rfl) (by first | rfl | decide | assumption) ?_
 | ((first
 | refine AOs.op1E tOK (by with_unfolding_all rfl) ?_
 | refine AOs.op0E tOK ?_
 ); refine Step.mk (by simp only [evOp_move, evOp_assign, evOp_nilCheck, evOp_binOp, evOp_fieldAddr, evOp_store, storeAt, one_int, aeval, ofVal, PT.get_set, Nat.reduceEqDiff, reduceIte, Option.map_some, abin_neq, Bool.not_false, Nat.add_zero, Nat.zero_add, Nat.reduceLT, Nat.reduceAdd, List.length_cons, List.length_nil, List.set_cons_zero, eq_self, st24, fa63_0, e0, e1, gL, hd]; rfl) ?_)
 | fail "stop")
    exact fnPost_ret1 (by first | (simp only [PT.get_set, Nat.reduceEqDiff, reduceIte]; rfl) | simp only [PT.get_set, Nat.reduceEqDiff, reduceIte]) ⟨rfl, by rw [AH.get_set, if_pos rfl]; rfl, fun b hb => by rw [AH.get_set, if_neg hb], rfl⟩

/-- What a call leaves of a log and its disk. -/
structure Left (H K : AH) (A : Nat → Prop) (d : Nat) (M : DM) (L : Nat) (e : Int) (g sz cnt : Nat) : Prop where
  disk : DiskAt K d M (AddR A H.next K.next)
  log : K.get L = some (logO e d g sz cnt)
  ap : ApartL H K A L

theorem ApartL.of {H K : AH} {A : Nat → Prop} {L : Nat} (h : Apart H K A) : ApartL H K A L := ⟨fun b x hb _ hx => h.1 b x hb hx, h.2⟩

set_option maxHeartbeats 4000000 in
theorem append21z (N : Nat) {H : AH} {d L : Nat} {M : DM} {A : Nat → Prop} {g sz cnt : Nat} {v : AV} (hA : ∀ b, A b → b < H.next) (hD : DiskAt H d M A) (hL : Kp H A L (logO 0 d g sz cnt)) (hv : RowsAt H v []) :
    AC tC N 0 21 [.ptr L 0, v] H fun r K => r = .int .i64 0 ∧ Left H K A d M L 0 g sz cnt := by
  refine AC.wf0 fun hwf => ?_
  refine AC.by (n := 85) (rs := [.tmp 4]) tOK fn21 rfl rfl rfl rfl ?_
  have e0 : (PT.ofList .leaf 0 [AV.ptr L 0, v]).get 0 = some (.ptr L 0) := rfl
  have e1 : (PT.ofList .leaf 0 [AV.ptr L 0, v]).get 1 = some v := rfl
  have gL : H.get L = some (.cells false [.int .i64 0, .ptr d 0, .str nL, .int .i64 (g : Nat), .int .i64 (sz : Nat), .int .i64 (cnt : Nat)]) := hL.1
  have hlen := hv.len
  with_reducible repeat' (first
 | refine AW.seq ?_
 | refine AW.region ?_
 | refine AOs.nil ?_
 | refine AW.skip ?_
 | refine andThen_normal ?_
 | refine AOs.guardT (by with_unfolding_all rfl) (by simp only [PT.get_set, Nat.reduceEqDiff, reduceIte]; rfl) (by first | rfl | decide | assumption) ?_
 | refine AW.condF (by simp only [aeval, PT.get_set, Nat.reduceEqDiff, reduceIte]; rfl) (by first | rfl | decide | assumption) ?_
 | ((first
 | refine AOs.op1E tOK (by with_unfolding_all rfl) ?_
 ); refine Step.mk (by simp only [evOp_move, evOp_assign, evOp_pick, evOp_nilCheck, evOp_binOp, evOp_fieldAddr, evOp_load, aeval, ofVal, PT.get_set, Nat.reduceEqDiff, reduceIte, cellAt, Option.map_some, cond_false, List.getElem?_cons_zero, List.getElem?_cons_succ, Nat.zero_add, eq_self, eq27a, ld42, eq42a, fa65_1, e0, e1, gL]; rfl) ?_)
 | fail "stop")
  refine AOs.callQ tOK (fs := []) (cs := []) rfl fn45 ok45 rfl (by simp only [List.map_cons, List.map_nil, List.nil_append, List.append_nil, aeval, PT.get_set, Nat.reduceEqDiff, reduceIte] <;> rfl) (frames45 N H hv (by simp) (fun l hl => by simp at hl)) ?_
  rintro r K1 ⟨f, rfl, hf, st1', hn1⟩
  have gL1 := st1' _ _ gL
  with_reducible repeat' (first
 | refine AW.seq ?_
 | refine AW.region ?_
 | refine AOs.nil ?_
 | refine AW.skip ?_
 | refine AW.ret ?_
 | refine andThen_normal ?_
 | refine andThen_ret ?_
 | refine AW.condT (by simp only [aeval, PT.get_set, Nat.reduceEqDiff, reduceIte]; rfl) (by first | rfl | decide | assumption) ?_
 | refine AW.condF (by simp only [aeval, PT.get_set, Nat.reduceEqDiff, reduceIte]; rfl) (by first | rfl | decide | assumption) ?_
 | ((first
 | refine AOs.op1E tOK (by with_unfolding_all rfl) ?_
 ); refine Step.mk (by simp only [evOp_move, evOp_assign, evOp_nilCheck, evOp_binOp, evOp_fieldAddr, evOp_extract, evOp_load, evOp_len, aeval, ofVal, PT.get_set, Nat.reduceEqDiff, reduceIte, cellAt, Option.map_some, abin_eql, abin_neq, decide_true, Bool.not_true, List.getElem?_cons_zero, List.getElem?_cons_succ, Nat.add_zero, List.length_nil, eq_self, Int.cast_ofNat_Int, ld24, al28, fa63_0, fa65_0, e0, e1, gL1, hlen, List.length_nil]; rfl) ?_)
 | fail "stop")
  exact fnPost_ret1 (by first | (simp only [PT.get_set, Nat.reduceEqDiff, reduceIte]; rfl) | simp only [PT.get_set, Nat.reduceEqDiff, reduceIte]) ⟨rfl, hD.keep ⟨fun b x hb _ => st1' b x hb, hn1⟩ fun b hb => .inl hb, gL1, ⟨fun b x hb _ _ => st1' b x hb, hn1⟩⟩

set_option maxHeartbeats 8000000 in
theorem append21 (N : Nat) {H : AH} {d L : Nat} {M : DM} {A : Nat → Prop} {i0 g sz cnt : Nat} {v : AV} {ls : List Nm} (hA : ∀ b, A b → b < H.next) (hD : DiskAt H d M A) (hM : MB M i0) (hi0 : i0 ≤ 990) (hL : Kp H A L (logO 0 d g sz cnt)) (hg : Gen g)
    (hv : RowsAt H v ls) (hn : ls.length ≤ 60) (hl : ∀ l ∈ ls, l.length ≤ 300) (h0 : ls ≠ []) (hsz : sz ≤ 1000000000) (hcnt : cnt ≤ 1000000000) :
    AC tC N 0 21 [.ptr L 0, v] H fun r K => r = .int .i64 (M.append (fileN g) (framesM ls)).1 ∧
      (if (M.append (fileN g) (framesM ls)).1 = 0 then Left H K A d (M.append (fileN g) (framesM ls)).2 L 0 g (sz + (framesM ls).length) (cnt + ls.length) else Left H K A d (M.append (fileN g) (framesM ls)).2 L (M.append (fileN g) (framesM ls)).1 g sz cnt) := by
  refine AC.wf0 fun hwf => ?_
  refine AC.by (n := 85) (rs := [.tmp 4]) tOK fn21 rfl rfl rfl rfl ?_
  have e0 : (PT.ofList .leaf 0 [AV.ptr L 0, v]).get 0 = some (.ptr L 0) := rfl
  have e1 : (PT.ofList .leaf 0 [AV.ptr L 0, v]).get 1 = some v := rfl
  have gL : H.get L = some (.cells false [.int .i64 0, .ptr d 0, .str nL, .int .i64 (g : Nat), .int .i64 (sz : Nat), .int .i64 (cnt : Nat)]) := hL.1
  have hlen := hv.len
  with_reducible repeat' (first
 | refine AW.seq ?_
 | refine AW.region ?_
 | refine AOs.nil ?_
 | refine AW.skip ?_
 | refine andThen_normal ?_
 | refine AOs.guardT (by with_unfolding_all rfl) (by simp only [PT.get_set, Nat.reduceEqDiff, reduceIte]; rfl) (by first | rfl | decide | assumption) ?_
 | refine AW.condF (by simp only [aeval, PT.get_set, Nat.reduceEqDiff, reduceIte]; rfl) (by first | rfl | decide | assumption) ?_
 | ((first
 | refine AOs.op1E tOK (by with_unfolding_all rfl) ?_
 ); refine Step.mk (by simp only [evOp_move, evOp_assign, evOp_pick, evOp_nilCheck, evOp_binOp, evOp_fieldAddr, evOp_load, aeval, ofVal, PT.get_set, Nat.reduceEqDiff, reduceIte, cellAt, Option.map_some, cond_false, List.getElem?_cons_zero, List.getElem?_cons_succ, Nat.zero_add, eq_self, eq27a, ld42, eq42a, fa65_1, e0, e1, gL]; rfl) ?_)
 | fail "stop")
  have hfl := framesM_le hl
  have hfl2 : ls.length * (300 + 8) ≤ 60 * 308 := Nat.mul_le_mul_right _ hn
  refine AOs.callQ tOK (fs := []) (cs := []) rfl fn45 ok45 rfl (by simp only [List.map_cons, List.map_nil, List.nil_append, List.append_nil, aeval, PT.get_set, Nat.reduceEqDiff, reduceIte] <;> rfl) (frames45 N H hv (by omega) (fun l h => Nat.le_trans (hl l h) (by omega))).wf ?_
  rintro r K1 ⟨⟨f, rfl, hf, sy1, hn1⟩, wf1⟩
  have gL1 := sy1 _ _ gL
  have hl0 : ls.length ≠ 0 := fun e => h0 (List.eq_nil_of_length_eq_zero e)
  have hd1 : decide (((ls.length : Nat) : Int) = 0) = false := decide_eq_false (by omega)
  with_reducible repeat' (first
 | refine AW.seq ?_
 | refine AW.region ?_
 | refine AOs.nil ?_
 | refine AW.skip ?_
 | refine andThen_normal ?_
 | refine AW.condF (by simp only [aeval, PT.get_set, Nat.reduceEqDiff, reduceIte]; rfl) (by first | rfl | decide | assumption) ?_
 | refine AW.drawT tOK (by with_unfolding_all rfl) (by simp only [pickAll, Nat.reduceAdd]; rfl) ?_
 | ((first
 | refine DN.fl1E (by with_unfolding_all rfl) (by with_unfolding_all rfl) ?_
 | refine DN.rd1E (by kernel_rfl) (by with_unfolding_all rfl) ?_
 ); refine Step.mk (by simp only [evOp_move, evOp_nilCheck, evOp_fieldAddr, evOp_load, aeval, PT.get_set, Nat.reduceEqDiff, reduceIte, cellAt, Option.map_some, List.getElem?_cons_zero, List.getElem?_cons_succ, Nat.zero_add, eq_self, ld3, ld9, fa65_2, fa65_3, e0, gL1]; rfl) ?_; refine Same.mk ?_)
 | ((first
 | refine AOs.op1E tOK (by with_unfolding_all rfl) ?_
 | refine DN.actE tOK (by kernel_rfl) (by with_unfolding_all rfl) (by with_unfolding_all rfl) ?_
 ); refine Step.mk (by simp only [evOp_move, evOp_assign, evOp_nilCheck, evOp_binOp, evOp_fieldAddr, evOp_extract, evOp_load, evOp_len, aeval, ofVal, PT.get_set, Nat.reduceEqDiff, reduceIte, cellAt, Option.map_some, abin_eql, abin_neq, decide_true, Bool.not_true, List.getElem?_cons_zero, List.getElem?_cons_succ, Nat.add_zero, eq_self, ld24, al28, fa63_0, fa65_0, e0, e1, gL1, hlen, hd1]; rfl) ?_)
 | fail "stop")
  refine DN.call tOK (fs := []) (cs := []) rfl fn9 ok9 rfl (by simp only [List.map_cons, List.map_nil, List.nil_append, List.append_nil, aeval, PT.get_set, Nat.reduceEqDiff, reduceIte] <;> rfl) (file9 N K1 hg) (by with_unfolding_all rfl) ?_
  rintro r K1' ⟨rfl, rfl⟩
  have hD1 : DiskAt K1' d M A := hD.keep ⟨fun b x hb _ => sy1 b x hb, hn1⟩ fun _ => id
  have kL1 : Kp K1' A L (logO 0 d g sz cnt) := hL.more sy1
  have hu := hM.used' (by omega)
  have hflen := hf.bytes.len
  with_reducible repeat' (first
 | refine AW.seq ?_
 | refine andThen_normal ?_
 | refine AW.drawT tOK (by with_unfolding_all rfl) (by simp only [pickAll, Nat.reduceAdd]; rfl) ?_
 | refine DN.nil tOK ?_
 | ((first
 | refine DN.fl1E (by with_unfolding_all rfl) (by with_unfolding_all rfl) ?_
 | refine DN.rd1E (by kernel_rfl) (by with_unfolding_all rfl) ?_
 ); refine Step.mk (by simp only [evOp_move, evOp_assign, evOp_nilCheck, evOp_fieldAddr, evOp_extract, evOp_load, aeval, PT.get_set, Nat.reduceEqDiff, reduceIte, cellAt, Option.map_some, List.getElem?_cons_zero, List.getElem?_cons_succ, Nat.add_zero, Nat.zero_add, eq_self, ld42, fa65_0, fa65_1, e0, gL1]; rfl) ?_; refine Same.mk ?_)
 | ((first
 | refine DN.actE tOK (by kernel_rfl) (by with_unfolding_all rfl) (by with_unfolding_all rfl) ?_
 ); refine Step.mk (by simp only [evOp_move, evOp_assign, evOp_pick, evOp_build, evOp_nilCheck, evOp_binOp, evOp_not, evOp_fieldAddr, evOp_field, evOp_indexAddr, evOp_index, evOp_extract, evOp_makeFunc, evOp_load, evOp_lookup, evOp_store, evOp_mapUpdate, evOp_insert, evOp_range, evOp_makeMap, evOp_len, evOp_append, evOp_copy, evOp_delete, evOp_slice, evOp_convert, evOp_entry, evOp_boxC, boxC_one, boxC_agg, evOp_cap, rangeMapAt, storeAt, one_bool, one_int, one_str, one_nilp, one_ptr, one_nils, one_slice, one_empty, one_nilm, one_map, one_func, one_nilf, one_iface, one_nili, aeval, ofVal, PT.get_set, Nat.reduceEqDiff, reduceIte, lenOfAV_slice, lenOfAV_nils, lenOfAV_empty, cellAt, cellsAt, mapLenAt, lookAt, mapSetAt, mapDelAt, List.map_cons, List.map_nil, Option.map_some, Option.map_none, List.nil_append, List.append_nil, abin_add, abin_sub, abin_mul, abin_lss, abin_leq, abin_gtr, abin_geq, abin_eql, abin_neq, abin_eqlS, abin_neqS, cond_true, cond_false, decide_true, decide_false, Bool.not_true, Bool.not_false, TI.agg, List.getElem?_cons_zero, List.getElem?_cons_succ, Nat.add_zero, Nat.zero_add, Nat.zero_mul, nbeq, nble, nblt, Nat.reduceLeDiff, Nat.reduceLT, Nat.reduceMul, Nat.reduceAdd, Nat.reduceSub, Bool.and_true, Bool.true_and, Bool.and_false, Bool.false_and, List.length_cons, List.length_nil, List.set_cons_zero, List.set_cons_succ, AH.get_set, AH.next_set, eq_self, Int.ofNat_eq_natCast, Int.cast_ofNat_Int, Int.natCast_zero, Int.reduceEq, Int.reduceLT, Int.reduceLE, Int.reduceNeg, ld3, st3, ld4, st4, ld5, st5, al9, ld9, st9, ld20, st20, ld21, st21, ld24, st24, ld27, ne27a, eq27a, ne27b, eq27b, st27, al28, ix28, bs28, ld28, ne28a, eq28a, ne28b, eq28b, ne28c, eq28c, st28, al32, ix32, bs32, ld32, ne32a, eq32a, ne32b, eq32b, ne32c, eq32c, st32, al37, ix37, bs37, ld37, ne37a, eq37a, ne37b, eq37b, ne37c, eq37c, st37, al40, ix40, bs40, ld40, ne40a, eq40a, ne40b, eq40b, ne40c, eq40c, st40, ld42, ne42a, eq42a, ne42b, eq42b, st42, ld47, st47, ld57, st57, ld60, st60, fa63_0, ld63, fa65_0, fa65_1, fa65_2, fa65_3, fa65_4, fa65_5, ld65, an72, am72, ld72, md72, ms72, lk72, ne72a, eq72a, ne72b, eq72b, st72, al73, ix73, bs73, ld73, ne73a, eq73a, ne73b, eq73b, ne73c, eq73c, st73, fa75_0, fa75_1, fa75_2, fa75_3, fa75_4, fa75_5, ld75, ld83, st83, ld85, ne85a, eq85a, ne85b, eq85b, st85, fa87_0, fa87_1, ld87, ld91, st91, ld96, st96, ld104, st104, al116, ix116, bs116, ld116, ne116a, eq116a, ne116b, eq116b, ne116c, eq116c, st116, ld118, st118, ld119, ix119, cv9_32, cv96_3, cv5_96, cv96_5, cv3_96, cv3_118, e0, e1, gL1]; rfl) ?_)
 | fail "stop")
  refine DN.call tOK (fs := []) (cs := []) rfl fn47 ok47 rfl (by simp only [List.map_cons, List.map_nil, List.nil_append, List.append_nil, aeval, PT.get_set, Nat.reduceEqDiff, reduceIte] <;> rfl) (append9 N K1' (n := fileN g) hD1 hM.ok hf (by omega) (by omega) (fun j => Nat.le_trans (Nat.add_le_add_right (hM.file' (by omega) j) _) (by omega)) (by rw [hM.room]; omega) (by rw [hM.room]; omega)).wf (by with_unfolding_all rfl) ?_
  rintro r K2 ⟨⟨rfl, hD2, a2⟩, wf2⟩
  have kL2 := kL1.op wf1 a2
  generalize hR : M.append (fileN g) (framesM ls) = R at *
  obtain ⟨er, M'⟩ := R
  simp only at hD2 ⊢
  refine DN.call tOK (fs := []) (cs := []) rfl fn46 ok46 rfl (by simp only [List.map_cons, List.map_nil, List.nil_append, List.append_nil, aeval, PT.get_set, Nat.reduceEqDiff, reduceIte] <;> rfl) (note46 N kL2.1 (x := er)) (by with_unfolding_all rfl) ?_
  rintro r K3 ⟨rfl, l3, g3, n3⟩
  have hD3 : DiskAt K3 d M' (AddR A K1'.next K2.next) := DiskAt.setL hD2 kL2 (kind_log _ _ _ _ _) g3 (by omega)
  have hapL : ∀ K4 : AH, (∀ b, b ≠ L → K4.get b = K3.get b) → K4.next = K3.next → ApartL H K4 A L := fun K4 hg4 hn4 => ⟨fun b x hb hne hx => by rw [hg4 b hne, g3 b hne]; exact a2.1 b x (sy1 b x hb) hx, by have := a2.2; omega⟩
  have hmono : ∀ K4 : AH, K4.next = K3.next → ∀ x, AddR A K1'.next K2.next x → AddR A H.next K4.next x := fun K4 hn4 x hx => hx.imp id fun hx => ⟨by omega, by omega⟩
  by_cases he : er = 0
  · subst he
    have gL3 : K3.get L = some (.cells false [.int .i64 0, .ptr d 0, .str nL, .int .i64 (g : Nat), .int .i64 (sz : Nat), .int .i64 (cnt : Nat)]) := l3
    have hw1 : IntKind.i64.wrap (((sz : Nat) : Int) + (((framesM ls).length : Nat) : Int)) = ((sz + (framesM ls).length : Nat) : Int) := by rw [wrap64 (by omega) (by omega)]; omega
    have hw2 : IntKind.i64.wrap (((cnt : Nat) : Int) + ((ls.length : Nat) : Int)) = ((cnt + ls.length : Nat) : Int) := by rw [wrap64 (by omega) (by omega)]; omega
    with_reducible repeat' (first
 | refine AW.seq ?_
 | refine AW.region ?_
 | refine AOs.nil ?_
 | refine AW.skip ?_
 | refine AW.ret ?_
 | refine andThen_normal ?_
 | refine AW.condF (by simp only [aeval, PT.get_set, Nat.reduceEqDiff, reduceIte]; rfl) (by first | rfl | decide | assumption) ?_
 | refine DN.nil tOK ?_
 | ((first
 | refine DN.fl1E (by with_unfolding_all rfl) (by with_unfolding_all rfl) ?_
 ); refine Step.mk (by simp only [evOp_assign, aeval, PT.get_set, Nat.reduceEqDiff, reduceIte, eq_self]; rfl) ?_; refine Same.mk ?_)
 | ((first
 | refine AOs.op1E tOK (by with_unfolding_all rfl) ?_
 | refine AOs.op0E tOK ?_
 ); refine Step.mk (by simp only [evOp_move, evOp_assign, evOp_nilCheck, evOp_binOp, evOp_fieldAddr, evOp_load, evOp_store, evOp_len, storeAt, one_int, aeval, ofVal, PT.get_set, Nat.reduceEqDiff, reduceIte, cellAt, Option.map_some, abin_add, abin_neq, decide_true, Bool.not_true, List.getElem?_cons_zero, List.getElem?_cons_succ, Nat.zero_add, Nat.reduceLT, Nat.reduceAdd, List.length_cons, List.length_nil, List.set_cons_zero, List.set_cons_succ, AH.get_set, eq_self, ld3, st3, al28, al32, fa65_4, fa65_5, e0, e1, gL3, hflen, hlen, hw1, hw2, AH.get_set]; rfl) ?_)
 | fail "stop")
    generalize hK4 : (K3.set L _).set L _ = K4
    have g4 : ∀ b, b ≠ L → K4.get b = K3.get b := fun b hb => by rw [← hK4, AH.get_set, if_neg hb, AH.get_set, if_neg hb]
    have l4 : K4.get L = some (logO 0 d g (sz + (framesM ls).length : Nat) (cnt + ls.length : Nat)) := by rw [← hK4, AH.get_set, if_pos rfl]; rfl
    have n4 : K4.next = K3.next := by rw [← hK4]; rfl
    have kL3 : Kp K3 (AddR A K1'.next K2.next) L (logO 0 d g sz cnt) := ⟨l3, kL2.2⟩
    refine fnPost_ret1 (by first | (simp only [PT.get_set, Nat.reduceEqDiff, reduceIte]; rfl) | simp only [PT.get_set, Nat.reduceEqDiff, reduceIte]) ⟨rfl, ?_⟩
    rw [if_pos rfl]
    exact ⟨(DiskAt.setL hD3 kL3 (kind_log _ _ _ _ _) g4 (by omega)).mono (hmono K4 n4), l4, hapL K4 g4 n4⟩
  · have hd2 : decide (er = 0) = false := decide_eq_false he
    with_reducible repeat' (first
 | refine AW.seq ?_
 | refine AW.region ?_
 | refine AOs.nil ?_
 | refine AW.ret ?_
 | refine andThen_normal ?_
 | refine andThen_ret ?_
 | refine AW.condT (by simp only [aeval, PT.get_set, Nat.reduceEqDiff, reduceIte]; rfl) (by first | rfl | decide | assumption) ?_
 | refine DN.nil tOK ?_
 | ((first
 | refine DN.fl1E (by with_unfolding_all rfl) (by with_unfolding_all rfl) ?_
 ); refine Step.mk (by simp only [evOp_assign, aeval, PT.get_set, Nat.reduceEqDiff, reduceIte, eq_self]; rfl) ?_; refine Same.mk ?_)
 | ((first
 | refine AOs.op1E tOK (by with_unfolding_all rfl) ?_
 ); refine Step.mk (by simp only [evOp_move, evOp_assign, evOp_binOp, aeval, ofVal, PT.get_set, Nat.reduceEqDiff, reduceIte, Option.map_some, abin_neq, Bool.not_false, eq_self, hd2]; rfl) ?_)
 | fail "stop")
    refine fnPost_ret1 (by first | (simp only [PT.get_set, Nat.reduceEqDiff, reduceIte]; rfl) | simp only [PT.get_set, Nat.reduceEqDiff, reduceIte]) ⟨rfl, ?_⟩
    rw [if_neg he]
    exact ⟨hD3.mono (hmono K3 rfl), l3, hapL K3 (fun _ _ => rfl) rfl⟩
end Go.Proofs.YtgihociajfgohaaGreatDoor

open Go Go.AB Go.Proofs
namespace Go.Proofs.YtgihociajfgohaaGreatDoor
set_option maxRecDepth 100000

set_option maxHeartbeats 8000000 in
theorem next25 (N : Nat) {H : AH} {d L : Nat} {M : DM} {A : Nat → Prop} {i0 g sz cnt : Nat} {v : AV} {ls : List Nm} (hA : ∀ b, A b → b < H.next) (hD : DiskAt H d M A) (hM : MB M i0) (hi0 : i0 ≤ 980) (hL : Kp H A L (logO 0 d g sz cnt)) (hg : Gen g) (hg' : Gen (g + 1))
    (hv : RowsAt H v ls) (hn : ls.length ≤ 60) (hl : ∀ l ∈ ls, l.length ≤ 300) :
    AC tC N 0 25 [.ptr L 0, v] H fun r K => if (M.write (fileN (g + 1)) (framesM ls)).1 = 0 then
        r = .int .i64 ((M.write (fileN (g + 1)) (framesM ls)).2.remove (fileN g)).1 ∧ Left H K A d ((M.write (fileN (g + 1)) (framesM ls)).2.remove (fileN g)).2 L ((M.write (fileN (g + 1)) (framesM ls)).2.remove (fileN g)).1 (g + 1) (framesM ls).length ls.length
      else r = .int .i64 (M.write (fileN (g + 1)) (framesM ls)).1 ∧ Left H K A d (M.write (fileN (g + 1)) (framesM ls)).2 L (M.write (fileN (g + 1)) (framesM ls)).1 g sz cnt := by
  refine AC.wf0 fun hwf => ?_
  refine AC.by (n := 85) (rs := [.tmp 4]) tOK fn25 rfl rfl rfl rfl ?_
  have e0 : (PT.ofList .leaf 0 [AV.ptr L 0, v]).get 0 = some (.ptr L 0) := rfl
  have e1 : (PT.ofList .leaf 0 [AV.ptr L 0, v]).get 1 = some v := rfl
  have gL : H.get L = some (.cells false [.int .i64 0, .ptr d 0, .str nL, .int .i64 (g : Nat), .int .i64 (sz : Nat), .int .i64 (cnt : Nat)]) := hL.1
  have hlen := hv.len
  have hfl := framesM_le hl
  have hfl2 : ls.length * (300 + 8) ≤ 60 * 308 := Nat.mul_le_mul_right _ hn
  with_reducible repeat' (first
 | refine AW.seq ?_
 | refine AW.region ?_
 | refine AOs.nil ?_
 | refine AW.skip ?_
 | refine andThen_normal ?_
 | refine AOs.guardT (by with_unfolding_all rfl) (by simp only [PT.get_set, Nat.reduceEqDiff, reduceIte]; rfl) (by first | rfl | decide | assumption) ?_
 | refine AW.condF (by simp only [aeval, PT.get_set, Nat.reduceEqDiff, reduceIte]; rfl) (by first | rfl | decide | assumption) ?_
 | ((first
 | refine AOs.op1E tOK (by with_unfolding_all rfl) ?_
 ); refine Step.mk (by simp only [evOp_move, evOp_assign, evOp_pick, evOp_nilCheck, evOp_binOp, evOp_fieldAddr, evOp_load, aeval, ofVal, PT.get_set, Nat.reduceEqDiff, reduceIte, cellAt, Option.map_some, cond_false, List.getElem?_cons_zero, List.getElem?_cons_succ, Nat.zero_add, eq_self, eq27a, ld42, eq42a, fa65_1, e0, e1, gL]; rfl) ?_)
 | fail "stop")
  refine AOs.callQ tOK (fs := []) (cs := []) rfl fn45 ok45 rfl (by simp only [List.map_cons, List.map_nil, List.nil_append, List.append_nil, aeval, PT.get_set, Nat.reduceEqDiff, reduceIte] <;> rfl) (frames45 N H hv (by omega) (fun l h => Nat.le_trans (hl l h) (by omega))).wf ?_
  rintro r K1 ⟨⟨f, rfl, hf, sy1, hn1⟩, wf1⟩
  have gL1 := sy1 _ _ gL
  have hg3 : g ≤ 3 := by rcases hg with h | h | h <;> omega
  have hd1 : decide (((g : Nat) : Int) = 999999) = false := decide_eq_false (by omega)
  with_reducible repeat' (first
 | refine AW.seq ?_
 | refine AW.region ?_
 | refine AW.block ?_
 | refine AOs.nil ?_
 | refine AW.skip ?_
 | refine andThen_normal ?_
 | refine inBlock_normal ?_
 | refine AW.condF (by simp only [aeval, PT.get_set, Nat.reduceEqDiff, reduceIte]; rfl) (by first | rfl | decide | assumption) ?_
 | refine AW.drawT tOK (by with_unfolding_all rfl) (by simp only [pickAll, Nat.reduceAdd]; rfl) ?_
 | ((first
 | refine DN.fl1E (by with_unfolding_all rfl) (by with_unfolding_all rfl) ?_
 | refine DN.rd1E (by kernel_rfl) (by with_unfolding_all rfl) ?_
 ); refine Step.mk (by simp only [evOp_move, evOp_nilCheck, evOp_fieldAddr, evOp_load, aeval, PT.get_set, Nat.reduceEqDiff, reduceIte, cellAt, Option.map_some, List.getElem?_cons_zero, List.getElem?_cons_succ, Nat.zero_add, eq_self, ld3, ld9, fa65_2, fa65_3, e0, gL1]; rfl) ?_; refine Same.mk ?_)
 | ((first
 | refine AOs.op1E tOK (by with_unfolding_all rfl) ?_
 | refine DN.actE tOK (by kernel_rfl) (by with_unfolding_all rfl) (by with_unfolding_all rfl) ?_
 ); refine Step.mk (by simp only [evOp_move, evOp_assign, evOp_nilCheck, evOp_binOp, evOp_fieldAddr, evOp_extract, evOp_load, aeval, ofVal, PT.get_set, Nat.reduceEqDiff, reduceIte, cellAt, Option.map_some, abin_eql, abin_neq, decide_true, Bool.not_true, List.getElem?_cons_zero, List.getElem?_cons_succ, Nat.add_zero, Nat.zero_add, eq_self, ld3, ld24, fa63_0, fa65_0, fa65_3, e0, gL1, hd1]; rfl) ?_)
 | fail "stop")
  refine DN.call tOK (fs := []) (cs := []) rfl fn9 ok9 rfl (by simp only [List.map_cons, List.map_nil, List.nil_append, List.append_nil, aeval, PT.get_set, Nat.reduceEqDiff, reduceIte] <;> rfl) (file9 N K1 hg) (by with_unfolding_all rfl) ?_
  rintro r K1' ⟨rfl, rfl⟩
  have hD1 : DiskAt K1' d M A := hD.keep ⟨fun b x hb _ => sy1 b x hb, hn1⟩ fun _ => id
  have kL1 : Kp K1' A L (logO 0 d g sz cnt) := hL.more sy1
  have hAK : ∀ b, A b → b < K1'.next := fun b hb => by have := hA b hb; omega
  have hw1 : IntKind.i64.wrap (((g : Nat) : Int) + 1) = ((g + 1 : Nat) : Int) := wrap64_succ (by omega)
  with_reducible repeat' (first
 | refine AW.seq ?_
 | refine andThen_normal ?_
 | refine AW.drawT tOK (by with_unfolding_all rfl) (by simp only [pickAll, Nat.reduceAdd]; rfl) ?_
 | refine DN.nil tOK ?_
 | ((first
 | refine DN.fl1E (by with_unfolding_all rfl) (by with_unfolding_all rfl) ?_
 | refine DN.rd1E (by kernel_rfl) (by with_unfolding_all rfl) ?_
 ); refine Step.mk (by simp only [evOp_move, evOp_assign, evOp_nilCheck, evOp_binOp, evOp_fieldAddr, evOp_extract, evOp_load, evOp_len, aeval, ofVal, PT.get_set, Nat.reduceEqDiff, reduceIte, cellAt, Option.map_some, abin_add, List.getElem?_cons_zero, List.getElem?_cons_succ, Nat.add_zero, Nat.zero_add, eq_self, ld3, al28, fa65_0, fa65_3, e0, e1, gL1, hlen, hw1]; rfl) ?_; refine Same.mk ?_)
 | ((first
 | refine DN.actE tOK (by kernel_rfl) (by with_unfolding_all rfl) (by with_unfolding_all rfl) ?_
 ); refine Step.mk (by simp only [evOp_move, evOp_assign, evOp_pick, evOp_build, evOp_nilCheck, evOp_binOp, evOp_not, evOp_fieldAddr, evOp_field, evOp_indexAddr, evOp_index, evOp_extract, evOp_makeFunc, evOp_load, evOp_lookup, evOp_store, evOp_mapUpdate, evOp_insert, evOp_range, evOp_makeMap, evOp_len, evOp_append, evOp_copy, evOp_delete, evOp_slice, evOp_convert, evOp_entry, evOp_boxC, boxC_one, boxC_agg, evOp_cap, rangeMapAt, storeAt, one_bool, one_int, one_str, one_nilp, one_ptr, one_nils, one_slice, one_empty, one_nilm, one_map, one_func, one_nilf, one_iface, one_nili, aeval, ofVal, PT.get_set, Nat.reduceEqDiff, reduceIte, lenOfAV_slice, lenOfAV_nils, lenOfAV_empty, cellAt, cellsAt, mapLenAt, lookAt, mapSetAt, mapDelAt, List.map_cons, List.map_nil, Option.map_some, Option.map_none, List.nil_append, List.append_nil, abin_add, abin_sub, abin_mul, abin_lss, abin_leq, abin_gtr, abin_geq, abin_eql, abin_neq, abin_eqlS, abin_neqS, cond_true, cond_false, decide_true, decide_false, Bool.not_true, Bool.not_false, TI.agg, List.getElem?_cons_zero, List.getElem?_cons_succ, Nat.add_zero, Nat.zero_add, Nat.zero_mul, nbeq, nble, nblt, Nat.reduceLeDiff, Nat.reduceLT, Nat.reduceMul, Nat.reduceAdd, Nat.reduceSub, Bool.and_true, Bool.true_and, Bool.and_false, Bool.false_and, List.length_cons, List.length_nil, List.set_cons_zero, List.set_cons_succ, AH.get_set, AH.next_set, eq_self, Int.ofNat_eq_natCast, Int.cast_ofNat_Int, Int.natCast_zero, Int.reduceEq, Int.reduceLT, Int.reduceLE, Int.reduceNeg, ld3, st3, ld4, st4, ld5, st5, al9, ld9, st9, ld20, st20, ld21, st21, ld24, st24, ld27, ne27a, eq27a, ne27b, eq27b, st27, al28, ix28, bs28, ld28, ne28a, eq28a, ne28b, eq28b, ne28c, eq28c, st28, al32, ix32, bs32, ld32, ne32a, eq32a, ne32b, eq32b, ne32c, eq32c, st32, al37, ix37, bs37, ld37, ne37a, eq37a, ne37b, eq37b, ne37c, eq37c, st37, al40, ix40, bs40, ld40, ne40a, eq40a, ne40b, eq40b, ne40c, eq40c, st40, ld42, ne42a, eq42a, ne42b, eq42b, st42, ld47, st47, ld57, st57, ld60, st60, fa63_0, ld63, fa65_0, fa65_1, fa65_2, fa65_3, fa65_4, fa65_5, ld65, an72, am72, ld72, md72, ms72, lk72, ne72a, eq72a, ne72b, eq72b, st72, al73, ix73, bs73, ld73, ne73a, eq73a, ne73b, eq73b, ne73c, eq73c, st73, fa75_0, fa75_1, fa75_2, fa75_3, fa75_4, fa75_5, ld75, ld83, st83, ld85, ne85a, eq85a, ne85b, eq85b, st85, fa87_0, fa87_1, ld87, ld91, st91, ld96, st96, ld104, st104, al116, ix116, bs116, ld116, ne116a, eq116a, ne116b, eq116b, ne116c, eq116c, st116, ld118, st118, ld119, ix119, cv9_32, cv96_3, cv5_96, cv96_5, cv3_96, cv3_118, e0, e1, gL1, hlen, hw1]; rfl) ?_)
 | fail "stop")
  refine DN.call tOK (fs := []) (cs := []) rfl fn38 ok38 rfl (by simp only [List.map_cons, List.map_nil, List.nil_append, List.append_nil, aeval, PT.get_set, Nat.reduceEqDiff, reduceIte] <;> rfl) (write38 N (gen := g + 1) (cnt := ls.length) hAK hD1 hM (by omega) kL1 hg' hf (by omega)).wf (by with_unfolding_all rfl) ?_
  rintro r K2 ⟨⟨rfl, hD2, a2, l2⟩, wf2⟩
  generalize hR : M.write (fileN (g + 1)) (framesM ls) = R at *
  obtain ⟨er, M'⟩ := R
  simp only at hD2 l2 ⊢
  obtain ⟨g2, s2, c2, l2'⟩ : ∃ g2 s2 c2 : Nat, K2.get L = some (logO 0 d g2 s2 c2) ∧ (er = 0 → g2 = g + 1 ∧ s2 = (framesM ls).length ∧ c2 = ls.length) ∧ (er ≠ 0 → g2 = g ∧ s2 = sz ∧ c2 = cnt) := by
    by_cases he : er = 0
    · rw [if_pos he] at l2; exact ⟨_, _, _, l2, fun _ => ⟨rfl, rfl, rfl⟩, fun h => absurd he h⟩
    · rw [if_neg he] at l2; exact ⟨_, _, _, l2, fun h => absurd h he, fun _ => ⟨rfl, rfl, rfl⟩⟩
  obtain ⟨l2a, q1, q2⟩ := l2'
  have hLn := hwf _ _ hL.1
  have kL2 : Kp K2 (AddR A K1'.next K2.next) L (logO 0 d g2 s2 c2) := ⟨l2a, fun e => by
    rcases e with e | e
    · exact hL.2 e
    · omega⟩
  refine DN.call tOK (fs := []) (cs := []) rfl fn46 ok46 rfl (by simp only [List.map_cons, List.map_nil, List.nil_append, List.append_nil, aeval, PT.get_set, Nat.reduceEqDiff, reduceIte] <;> rfl) (note46 N l2a (x := er)) (by with_unfolding_all rfl) ?_
  rintro r K3 ⟨rfl, l3, g3, n3⟩
  have hD3 : DiskAt K3 d M' (AddR A K1'.next K2.next) := DiskAt.setL hD2 kL2 (kind_log _ _ _ _ _) g3 (by omega)
  have ap3 : ∀ b x, H.get b = some x → b ≠ L → (¬ A b ∨ kind x = 3 ∨ kind x = 4) → K3.get b = some x := fun b x hb hne hx => by rw [g3 b hne]; exact a2.1 b x (sy1 b x hb) hne hx
  have hn2 := a2.2
  by_cases he : er = 0
  · subst he
    obtain ⟨rfl, rfl, rfl⟩ := q1 rfl
    have gL3 : K3.get L = some (.cells false [.int .i64 0, .ptr d 0, .str nL, .int .i64 ((g + 1 : Nat) : Int), .int .i64 (((framesM ls).length : Nat) : Int), .int .i64 ((ls.length : Nat) : Int)]) := l3
    have kL3 : Kp K3 (AddR A K1'.next K2.next) L (logO 0 d ((g + 1 : Nat) : Int) (((framesM ls).length : Nat) : Int) ((ls.length : Nat) : Int)) := ⟨l3, kL2.2⟩
    have hM' : MB M' (i0 + 6) := by
      have := MB.writeFrom (to := fileN (g + 1)) (b := framesM ls) (by omega) 6 hM
      have e : writeFrom (fileN (g + 1)) (framesM ls) 6 M = (0, M') := hR
      rw [e] at this; exact this
    with_reducible repeat' (first
 | refine AW.seq ?_
 | refine AW.region ?_
 | refine AOs.nil ?_
 | refine AW.skip ?_
 | refine andThen_normal ?_
 | refine AW.condF (by simp only [aeval, PT.get_set, Nat.reduceEqDiff, reduceIte]; rfl) (by first | rfl | decide | assumption) ?_
 | refine AW.drawT tOK (by with_unfolding_all rfl) (by simp only [pickAll, Nat.reduceAdd]; rfl) ?_
 | refine DN.nil tOK ?_
 | ((first
 | refine DN.fl1E (by with_unfolding_all rfl) (by with_unfolding_all rfl) ?_
 | refine DN.rd1E (by kernel_rfl) (by with_unfolding_all rfl) ?_
 ); refine Step.mk (by simp only [evOp_move, evOp_assign, evOp_nilCheck, evOp_fieldAddr, evOp_load, aeval, PT.get_set, Nat.reduceEqDiff, reduceIte, cellAt, Option.map_some, List.getElem?_cons_zero, List.getElem?_cons_succ, Nat.add_zero, Nat.zero_add, eq_self, ld42, fa65_0, fa65_1, e0, gL3]; rfl) ?_; refine Same.mk ?_)
 | ((first
 | refine AOs.op1E tOK (by with_unfolding_all rfl) ?_
 | refine DN.actE tOK (by kernel_rfl) (by with_unfolding_all rfl) (by with_unfolding_all rfl) ?_
 ); refine Step.mk (by simp only [evOp_move, evOp_binOp, aeval, ofVal, PT.get_set, Nat.reduceEqDiff, reduceIte, Option.map_some, abin_neq, decide_true, Bool.not_true, eq_self]; rfl) ?_)
 | fail "stop")
    refine DN.call tOK (fs := []) (cs := []) rfl fn49 ok49 rfl (by simp only [List.map_cons, List.map_nil, List.nil_append, List.append_nil, aeval, PT.get_set, Nat.reduceEqDiff, reduceIte] <;> rfl) (remove39 N K3 (n := fileN g) hD3 hM'.ok (Nat.le_trans hM'.notes (by omega))) (by with_unfolding_all rfl) ?_
    rintro r K4 ⟨rfl, hD4, a4⟩
    have wf3 : WF K3 := fun b x hb => by
      by_cases hbl : b = L
      · omega
      · rw [g3 b hbl] at hb; have := wf2 b x hb; omega
    have kL4 := kL3.op wf3 a4
    generalize hS : M'.remove (fileN g) = S at *
    obtain ⟨es, M2⟩ := S
    simp only at hD4 ⊢
    refine DN.call tOK (fs := []) (cs := []) rfl fn46 ok46 rfl (by simp only [List.map_cons, List.map_nil, List.nil_append, List.append_nil, aeval, PT.get_set, Nat.reduceEqDiff, reduceIte] <;> rfl) (note46 N kL4.1 (x := es)) (by with_unfolding_all rfl) ?_
    rintro r K5 ⟨rfl, l5, g5, n5⟩
    have hn4 := a4.2
    have hD5 := DiskAt.setL hD4 kL4 (kind_log _ _ _ _ _) g5 (by omega)
    with_reducible repeat' (first
 | refine AW.ret ?_
 | refine andThen_normal ?_
 | refine DN.nil tOK ?_
 | ((first
 | refine DN.fl1E (by with_unfolding_all rfl) (by with_unfolding_all rfl) ?_
 ); refine Step.mk (by simp only [evOp_assign, aeval, PT.get_set, Nat.reduceEqDiff, reduceIte, eq_self]; rfl) ?_; refine Same.mk ?_)
 | fail "stop")
    refine fnPost_ret1 (by first | (simp only [PT.get_set, Nat.reduceEqDiff, reduceIte]; rfl) | simp only [PT.get_set, Nat.reduceEqDiff, reduceIte]) ?_
    rw [if_pos trivial]
    refine ⟨rfl, hD5.mono fun x hx => ?_, l5, ⟨fun b x hb hne hx => ?_, by omega⟩⟩
    · rcases hx with (hx | hx) | hx
      · exact .inl hx
      · exact .inr ⟨by omega, by omega⟩
      · exact .inr ⟨by omega, by omega⟩
    · rw [g5 b hne]
      refine a4.1 b x (ap3 b x hb hne hx) (hx.imp (fun h e => ?_) id)
      rcases e with e | e
      · exact h e
      · have := hwf b x hb; omega
  · obtain ⟨rfl, rfl, rfl⟩ := q2 he
    have hd2 : decide (er = 0) = false := decide_eq_false he
    with_reducible repeat' (first
 | refine AW.seq ?_
 | refine AW.region ?_
 | refine AOs.nil ?_
 | refine AW.ret ?_
 | refine andThen_normal ?_
 | refine andThen_ret ?_
 | refine AW.condT (by simp only [aeval, PT.get_set, Nat.reduceEqDiff, reduceIte]; rfl) (by first | rfl | decide | assumption) ?_
 | refine DN.nil tOK ?_
 | ((first
 | refine DN.fl1E (by with_unfolding_all rfl) (by with_unfolding_all rfl) ?_
 ); refine Step.mk (by simp only [evOp_assign, aeval, PT.get_set, Nat.reduceEqDiff, reduceIte, eq_self]; rfl) ?_; refine Same.mk ?_)
 | ((first
 | refine AOs.op1E tOK (by with_unfolding_all rfl) ?_
 ); refine Step.mk (by simp only [evOp_move, evOp_assign, evOp_binOp, aeval, ofVal, PT.get_set, Nat.reduceEqDiff, reduceIte, Option.map_some, abin_neq, Bool.not_false, eq_self, hd2]; rfl) ?_)
 | fail "stop")
    refine fnPost_ret1 (by first | (simp only [PT.get_set, Nat.reduceEqDiff, reduceIte]; rfl) | simp only [PT.get_set, Nat.reduceEqDiff, reduceIte]) ?_
    rw [if_neg he]
    exact ⟨rfl, hD3.mono fun x hx => hx.imp id fun hx => ⟨by omega, by omega⟩, l3, ⟨ap3, by omega⟩⟩

section
variable (N : Nat) {H : AH} {d L : Nat} {e g s n : Int}
end
end Go.Proofs.YtgihociajfgohaaGreatDoor
