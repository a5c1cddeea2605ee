/- Log: all whole frames, kept; records as texts; no condition. -/
import Derived.Test.YtgihociajfgohaaGreatDoorLog1
set_option linter.unusedSimpArgs false
set_option linter.unusedVariables false
open Go Go.AB Go.Proofs
namespace Go.Proofs.YtgihociajfgohaaGreatDoor
set_option maxRecDepth 100000
/-- A text more. -/
theorem acc_str {H : AH} (hw : WF H) {v : AV} {vs : List AV} (h : Acc H v vs) (s : Nm) (hN : vs.length ≤ 1000000) :
    ∃ v' H', aappend tC (H.alloc (.cells false [.str s])) [37, 37] [v, .slice H.next 0 1 (.ex 1) 1] = some (v', H') ∧ Acc H' v' (vs ++ [.str s]) ∧ H.next ≤ H'.next ∧ (∀ b y, H.get b = some y → (∀ o n c z, v ≠ .slice b o n c z) → H'.get b = some y) ∧ (∀ b o n c z, v' = .slice b o n c z → H.next ≤ b) := by
  have hacc : Acc (H.alloc (.cells false [.str s])) v vs := h.keep fun b _ _ _ _ _ x hx => stay_alloc hw _ b x hx
  have hap : aappended tC (H.alloc (.cells false [.str s])) ⟨.string, 1, 16, some (.str []), true⟩ 37 (.slice H.next 0 1 (.ex 1) 1) = some ([AV.str s].length, [.str s]) := aappended_one ti37 rfl rfl (by rw [AH.get_alloc, if_pos rfl]) rfl
  obtain ⟨v', H', h1, h2, h3, h4, h5⟩ := acc_append (C := tC) ti37 rfl ti9 rfl rfl rfl (by decide) (wf_alloc hw _) hacc hap rfl (by simp; omega)
  rw [AH.next_alloc] at h3 h5
  refine ⟨v', H', h1, h2, by omega, fun b y hb hx => h4 b y (stay_alloc hw _ b y hb) hx, fun b o n c z e => ?_⟩
  rcases h5 b o n c z e with h | h
  · exfalso
    rcases h2 with ⟨q1, _⟩ | ⟨b1, q1, _, _⟩
    · rw [q1] at e; cases e
    · rw [q1] at h
      rcases hacc with ⟨q2, _⟩ | ⟨b2, q2, _, _⟩
      · rw [q2] at h; cases h
      · rw [q2] at h
        have := congrArg (fun x => lenOfAV x) h
        simp [lenOfAV] at this
  · omega


/-- Rows of bytes in new blocks. -/
def RowsF (n : Nat) (H : AH) (v : AV) (ls : List (List UInt8)) : Prop :=
  (lenOfAV v = some 0 ∧ ls = []) ∨ ∃ b o c ro ws, v = .slice b o ls.length c 1 ∧ n ≤ b ∧ H.get b = some (.cells ro ws) ∧ ∀ (i : Nat) l, ls[i]? = some l → ∃ u, ws[o + i * 1]? = some u ∧ BytesAt H u l ∧ ∀ b o m c z, u = .slice b o m c z → n ≤ b
theorem RowsF.len {n : Nat} {H : AH} {v : AV} {ls : List (List UInt8)} (h : RowsF n H v ls) : lenOfAV v = some ls.length := by
  rcases h with ⟨h, rfl⟩ | ⟨b, o, c, ro, ws, rfl, _⟩
  · exact h
  · rfl
theorem RowsF.rows {n : Nat} {H : AH} {v : AV} {ls : List (List UInt8)} (h : RowsF n H v ls) : RowsAt H v ls := by
  rcases h with h | ⟨b, o, c, ro, ws, h0, _, h1, h2⟩
  · exact .inl h
  · exact .inr ⟨b, o, c, ro, ws, h0, h1, fun i l hi => let ⟨u, q1, q2, _⟩ := h2 i l hi; ⟨u, q1, q2⟩⟩
theorem RowsF.keep {n : Nat} {H K : AH} {v : AV} {ls : List (List UInt8)} (h : RowsF n H v ls) (hk : ∀ b x, n ≤ b → H.get b = some x → K.get b = some x) : RowsF n K v ls := by
  rcases h with h | ⟨b, o, c, ro, ws, h0, hb, h1, h2⟩
  · exact .inl h
  · exact .inr ⟨b, o, c, ro, ws, h0, hb, hk _ _ hb h1, fun i l hi => let ⟨u, q1, q2, q3⟩ := h2 i l hi; ⟨u, q1, q2.keep fun b o c e x hx => hk b x (q3 _ _ _ _ _ e) hx, q3⟩⟩
theorem RowsF.mono {n m : Nat} {H : AH} {v : AV} {ls : List (List UInt8)} (h : RowsF n H v ls) (hm : m ≤ n) : RowsF m H v ls := by
  rcases h with h | ⟨b, o, c, ro, ws, h0, hb, h1, h2⟩
  · exact .inl h
  · exact .inr ⟨b, o, c, ro, ws, h0, by omega, h1, fun i l hi => let ⟨u, q1, q2, q3⟩ := h2 i l hi; ⟨u, q1, q2, fun b o k c z e => Nat.le_trans hm (q3 b o k c z e)⟩⟩

/-- Rows of bytes that were put together by append. -/
structure AccF (n : Nat) (H : AH) (v : AV) (us : List AV) (ls : List (List UInt8)) : Prop where
  acc : Acc H v us
  len : us.length = ls.length
  row : ∀ (i : Nat) l, ls[i]? = some l → ∃ u, us[i]? = some u ∧ BytesAt H u l ∧ (∀ b o n c z, u = .slice b o n c z → ∀ o' n' c' z', v ≠ .slice b o' n' c' z') ∧ ∀ b o m c z, u = .slice b o m c z → n ≤ b

theorem AccF.nil (n : Nat) (H : AH) : AccF n H .nils [] [] := ⟨.inl ⟨rfl, rfl⟩, rfl, fun i l h => by simp at h⟩
theorem AccF.keep {H K : AH} {v : AV} {us : List AV} {ls : List (List UInt8)} {n : Nat} (h : AccF n H v us ls) (hk : ∀ b x, H.get b = some x → K.get b = some x) : AccF n K v us ls :=
  ⟨h.acc.keep fun b _ _ _ _ _ x hx => hk b x hx, h.len, fun i l hi => let ⟨u, h1, h2, h3, h4⟩ := h.row i l hi; ⟨u, h1, h2.keep fun b _ _ _ x hx => hk b x hx, h3, h4⟩⟩
theorem AccF.rows {H : AH} {v : AV} {us : List AV} {ls : List (List UInt8)} {n : Nat} (h : AccF n H v us ls) (hv : ∀ b o m c z, v = .slice b o m c z → n ≤ b) : RowsF n H v ls := by
  rcases h.acc with ⟨rfl, h1⟩ | ⟨b, rfl, h1, h2⟩
  · have := h.len
    rw [h1] at this
    exact .inl ⟨rfl, List.eq_nil_of_length_eq_zero this.symm⟩
  · refine .inr ⟨b, 0, _, false, us, by rw [h.len], hv _ _ _ _ _ rfl, h1, fun i l hi => ?_⟩
    obtain ⟨u, q1, q2, _, q4⟩ := h.row i l hi
    exact ⟨u, by rw [Nat.zero_add, Nat.mul_one]; exact q1, q2, q4⟩

set_option maxHeartbeats 4000000 in
theorem scan14f (N : Nat) (H : AH) {v : AV} {b : List UInt8} (h : FB H v b) (hl : b.length ≤ 100000000) :
    AC tC N 0 14 [v] H fun r K => ∃ s, r = .tuple [s, .int .i64 ((scanM (b.length + 1) b).2.1 : Nat), .int .i64 (scanM (b.length + 1) b).2.2] ∧ RowsF H.next K s (scanM (b.length + 1) b).1 ∧ s.one = true ∧ (∀ b x, H.get b = some x → K.get b = some x) ∧ H.next ≤ K.next := by
  refine AC.wf0 fun hwf => ?_
  refine AC.by (n := 35) (rs := [.tmp 2, .tmp 3, .tmp 4]) tOK fn14 rfl rfl rfl rfl ?_
  have e0 : (PT.ofList .leaf 0 [v]).get 0 = some v := rfl
  have hlen := h.bytes.len
  obtain ⟨tot, htt⟩ : ∃ tot, tot = scanM (b.length + 1) b := ⟨_, rfl⟩
  rw [← htt]
  with_reducible repeat' (first
    | refine AW.seq ?_
    | refine AW.region ?_
    | refine AW.block ?_
    | refine AOs.nil ?_
    | refine andThen_normal ?_
    | ((first
        | refine AOs.op1E tOK (by with_unfolding_all rfl) ?_
        ); refine Step.mk (by simp only [evOp_assign, aeval, ofVal]; rfl) ?_)
    | fail "stop")
  refine AW.loop (fun m T K => (∀ b x, H.get b = some x → K.get b = some x) ∧ H.next ≤ K.next ∧ T.get 0 = some v ∧ ∃ (w : Nat) (sv : AV) (us : List AV) (s : List (List UInt8)) (f : Nat), w ≤ b.length ∧ m = b.length - w ∧ T.get 3 = some (.int .i64 (w : Nat)) ∧ T.get 2 = some sv ∧ AccF H.next K sv us s ∧ (∀ b o n c z, sv = .slice b o n c z → H.next ≤ b) ∧ 8 * s.length ≤ w ∧
      b.length - w < f ∧ tot = (s ++ (scanM f (b.drop w)).1, w + (scanM f (b.drop w)).2.1, (scanM f (b.drop w)).2.2)) ?_ (b.length - 0)
    ⟨fun b x h => h, Nat.le_refl _, by simp [PT.get_set, e0], 0, .nils, [], [], b.length + 1, by omega, rfl, by simp [PT.get_set], by simp [PT.get_set], AccF.nil _ _, (fun _ _ _ _ _ e => by cases e), by simp, by omega, by rw [htt]; simp⟩
  rintro m T K ⟨hst, hnx, g0, w, sv, us, s, f, hw, rfl, g3, g2, hacc, hsb, h8, hf, htot⟩
  refine AW.wf0 fun hwfK => ?_
  obtain ⟨f, rfl⟩ : ∃ f', f = f' + 1 := ⟨f - 1, by omega⟩
  have hone := hacc.acc.one
  by_cases hwl : w < b.length
  · have hd := lt_int hwl
    have hne : b.drop w ≠ [] := fun e => by
      have := congrArg List.length e
      simp at this; omega
    obtain ⟨u, hsl, hu⟩ := h.sub (lo := w) (hi := b.length) (hi' := none) (by omega) (Nat.le_refl _) rfl
    rw [List.take_of_length_le (by simp)] at hu
    have huF := (hu.fb hne).keep fun b x hb _ => hst b x hb
    with_reducible repeat' (first
      | refine AW.seq ?_
      | refine AW.region ?_
      | refine AW.block ?_
      | refine AOs.nil ?_
      | refine AW.skip ?_
      | refine andThen_normal ?_
      | refine AW.condT (by simp only [aeval, PT.get_set, Nat.reduceEqDiff, reduceIte]; rfl) (by first | rfl | decide | assumption) ?_
      | ((first
          | refine AOs.op1E tOK (by with_unfolding_all rfl) ?_
          ); refine Step.mk (by simp only [evOp_move, evOp_binOp, evOp_len, evOp_slice, aeval, PT.get_set, Nat.reduceEqDiff, reduceIte, Option.map_some, Option.map_none, abin_lss, eq_self, al32, g0, g3, hlen, hd, hsl]; rfl) ?_)
      | fail "stop")
    refine AOs.callQ tOK (fs := []) (cs := []) rfl fn43 ok43 rfl (by simp only [List.map_cons, List.map_nil, List.nil_append, List.append_nil, aeval, PT.get_set, Nat.reduceEqDiff, reduceIte] <;> rfl) (unframe43 N K huF (by rw [List.length_drop]; omega)).wf ?_
    rintro r K1 ⟨⟨p, rfl, hp, hp1, hk1, hn1, hf1⟩, hwf1⟩
    have hun := unframe_ok (b := b.drop w)
    have hus := unframe_cases (b.drop w)
    simp only [scanM, if_neg hne] at htot
    generalize hq : unframeM (b.drop w) = q at *
    obtain ⟨ql, qn, qe⟩ := q
    simp only at hun hus htot hp
    have hacc1 := hacc.keep hk1
    rcases hus with rfl | rfl | rfl
    · simp only [if_true] at htot
      rw [htot]
      with_reducible repeat' (first
        | refine AW.seq ?_
        | refine AW.region ?_
        | refine AOs.nil ?_
        | refine AW.exit ?_
        | refine AW.ret ?_
        | refine andThen_normal ?_
        | refine andThen_exit ?_
        | refine inBlock_hit ?_
        | refine inBlock_miss (by with_unfolding_all rfl) ?_
        | refine AW.condT (by simp only [aeval, PT.get_set, Nat.reduceEqDiff, reduceIte]; rfl) (by first | rfl | decide | assumption) ?_
        | ((first
            | refine AOs.op1E tOK (by with_unfolding_all rfl) ?_
            ); refine Step.mk (by simp only [evOp_move, evOp_assign, evOp_binOp, evOp_extract, aeval, ofVal, PT.get_set, Nat.reduceEqDiff, reduceIte, Option.map_some, abin_eql, decide_true, List.getElem?_cons_zero, List.getElem?_cons_succ, eq_self, g2, g3]; rfl) ?_)
        | fail "stop")
      refine fnPost_ret3 (by first | (simp only [PT.get_set, Nat.reduceEqDiff, reduceIte]; rfl) | simp only [PT.get_set, Nat.reduceEqDiff, reduceIte]) (by first | (simp only [PT.get_set, Nat.reduceEqDiff, reduceIte]; rfl) | simp only [PT.get_set, Nat.reduceEqDiff, reduceIte]) (by first | (simp only [PT.get_set, Nat.reduceEqDiff, reduceIte]; rfl) | simp only [PT.get_set, Nat.reduceEqDiff, reduceIte]) ⟨sv, by simp, by simpa using hacc1.rows hsb, hone, fun b x hb => hk1 b x (hst b x hb), by omega⟩
    · simp at htot
      rw [htot]
      with_reducible repeat' (first
        | refine AW.seq ?_
        | refine AW.region ?_
        | refine AOs.nil ?_
        | refine AW.skip ?_
        | refine AW.ret ?_
        | refine andThen_normal ?_
        | refine andThen_ret ?_
        | refine inBlock_ret ?_
        | refine AW.condT (by simp only [aeval, PT.get_set, Nat.reduceEqDiff, reduceIte]; rfl) (by first | rfl | decide | assumption) ?_
        | refine AW.condF (by simp only [aeval, PT.get_set, Nat.reduceEqDiff, reduceIte]; rfl) (by first | rfl | decide | assumption) ?_
        | ((first
            | refine AOs.op1E tOK (by with_unfolding_all rfl) ?_
            ); refine Step.mk (by simp only [evOp_move, evOp_assign, evOp_binOp, evOp_extract, aeval, ofVal, PT.get_set, Nat.reduceEqDiff, reduceIte, Option.map_some, abin_eql, abin_neq, decide_false, Bool.not_false, List.getElem?_cons_zero, List.getElem?_cons_succ, eq_self, Int.reduceEq, g2, g3]; rfl) ?_)
        | fail "stop")
      refine fnPost_ret3 (by first | (simp only [PT.get_set, Nat.reduceEqDiff, reduceIte]; rfl) | simp only [PT.get_set, Nat.reduceEqDiff, reduceIte]) (by first | (simp only [PT.get_set, Nat.reduceEqDiff, reduceIte]; rfl) | simp only [PT.get_set, Nat.reduceEqDiff, reduceIte]) (by first | (simp only [PT.get_set, Nat.reduceEqDiff, reduceIte]; rfl) | simp only [PT.get_set, Nat.reduceEqDiff, reduceIte]) ⟨sv, by simp, hacc1.rows hsb, hone, fun b x hb => hk1 b x (hst b x hb), by omega⟩
    · simp at htot
      obtain ⟨hn8, hnl⟩ := hun rfl
      rw [List.length_drop] at hnl
      generalize hK2 : K1.alloc (.cells false [p]) = K2
      have st2 : ∀ b x, K1.get b = some x → K2.get b = some x := fun b x hb => by rw [← hK2]; exact stay_alloc hwf1 _ b x hb
      have wf2 : WF K2 := by rw [← hK2]; exact wf_alloc hwf1 _
      have g2' : K2.get K1.next = some (.cells false [p]) := by rw [← hK2, AH.get_alloc, if_pos rfl]
      have n2 : K2.next = K1.next + 1 := by rw [← hK2, AH.next_alloc]
      have hacc2 := hacc1.keep st2
      have hap : aappended tC K2 ⟨.slice 5, 1, 24, some .nils, true⟩ 28 (.slice K1.next 0 1 (.ex 1) 1) = some ([p].length, [p]) := aappended_one ti28 rfl rfl g2' rfl
      obtain ⟨sv', K3, ha, hacc3, hn3, hk3, hb3⟩ := acc_append (C := tC) ti28 rfl ti32 rfl rfl rfl (by decide) wf2 hacc2.acc hap (by simp [allOne, hp1]) (by have := hacc.len; simp; omega)
      have hw1 : IntKind.i64.wrap (((w : Nat) : Int) + ((qn : Nat) : Int)) = ((w + qn : Nat) : Int) := by rw [wrap64 (by omega) (by omega)]; omega
      with_reducible repeat' (first
        | refine AW.seq ?_
        | refine AW.region ?_
        | refine AOs.nil ?_
        | refine AW.skip ?_
        | refine andThen_normal ?_
        | refine inBlock_normal ?_
        | refine AW.condF (by simp only [aeval, PT.get_set, Nat.reduceEqDiff, reduceIte]; rfl) (by first | rfl | decide | assumption) ?_
        | ((first
            | refine AOs.op1E tOK (by with_unfolding_all rfl) ?_
            ); refine Step.mk (by simp only [evOp_move, evOp_assign, evOp_binOp, evOp_extract, evOp_append, aeval, ofVal, PT.get_set, Nat.reduceEqDiff, reduceIte, List.map_cons, List.map_nil, Option.map_some, abin_add, abin_eql, abin_neq, decide_true, decide_false, Bool.not_true, List.getElem?_cons_zero, List.getElem?_cons_succ, eq_self, Int.reduceEq, g2, g3, bs28_1, hp1, hK2, ha, hw1]; rfl) ?_)
        | fail "stop")
      have hsv : ∀ b o n c z, sv' = .slice b o n c z → K2.next ≤ b := fun b o n c z e => by
        rcases hb3 b o n c z e with h | h
        · exfalso
          rcases hacc3 with ⟨h1, _⟩ | ⟨b1, h1, h2, _⟩
          · rw [h1] at e; cases e
          · rw [h1] at h
            rcases hacc2.acc with ⟨h4, _⟩ | ⟨b4, h4, _, _⟩
            · rw [h4] at h; cases h
            · rw [h4] at h
              have := congrArg (fun x => lenOfAV x) h
              simp [lenOfAV] at this
        · exact h
      have hne2 : ∀ b1 x, K2.get b1 = some x → (∀ o n c z, sv ≠ .slice b1 o n c z) → K3.get b1 = some x := hk3
      have hrow : AccF H.next K3 sv' (us ++ [p]) (s ++ [ql]) := ⟨hacc3, by simp [hacc.len], fun i l hi => by
        by_cases hil : i < s.length
        · rw [List.getElem?_append_left hil] at hi
          obtain ⟨u1, q1, q2, q3, q4⟩ := hacc2.row i l hi
          have hlt := (List.getElem?_eq_some_iff.1 q1).1
          refine ⟨u1, by rw [List.getElem?_append_left hlt]; exact q1, q2.keep fun b o c e x hx => hne2 b x hx fun o' n' c' z' => q3 b o _ c 1 e o' n' c' z', fun b o n c z e o' n' c' z' e' => ?_, q4⟩
          have h1 := hsv _ _ _ _ _ e'
          rcases q2 with ⟨h2 | ⟨k, h2⟩, _⟩ | ⟨b5, o5, c5, ro5, vs5, h2, h3, _⟩
          · rw [h2] at e; cases e
          · rw [h2] at e; cases e
          · rw [h2] at e; cases e
            have := wf2 _ _ h3; omega
        · have hi2 : i < (s ++ [ql]).length := (List.getElem?_eq_some_iff.1 hi).1
          simp at hi2
          obtain rfl : i = s.length := by omega
          rw [List.getElem?_append_right (Nat.le_refl _)] at hi
          simp at hi; subst hi
          have hpk : BytesAt K2 p ql := hp.keep fun b o c _ x hx => st2 b x hx
          refine ⟨p, by rw [List.getElem?_append_right (by rw [hacc.len]; exact Nat.le_refl _), hacc.len]; simp, hpk.keep fun b o c e x hx => hne2 b x hx fun o' n' c' z' e' => ?_, fun b o n c z e o' n' c' z' e' => ?_, fun b o m c z e => by have := hf1 b o m c z e; omega⟩
          · have h1 := hf1 _ _ _ _ _ e
            rcases hacc.acc with ⟨h4, _⟩ | ⟨b4, h4, h5, _⟩
            · rw [h4] at e'; cases e'
            · rw [h4] at e'; cases e'
              have := hwfK _ _ h5; omega
          · have h1 := hsv _ _ _ _ _ e'
            rcases hpk with ⟨h2 | ⟨k, h2⟩, _⟩ | ⟨b5, o5, c5, ro5, vs5, h2, h3, _⟩
            · rw [h2] at e; cases e
            · rw [h2] at e; cases e
            · rw [h2] at e; cases e
              have := wf2 _ _ h3; omega⟩
      refine ⟨b.length - (w + qn), by omega, fun b x hb => hne2 b x (st2 b x (hk1 b x (hst b x hb))) fun o n c z e => by have := hsb _ _ _ _ _ e; have := hwf b x hb; omega, by omega, by simp [PT.get_set, g0], w + qn, sv', us ++ [p], s ++ [ql], f, by omega, rfl, by simp [PT.get_set], by simp [PT.get_set], hrow, fun b o n c z e => by have := hsv b o n c z e; omega, by simp; omega, by omega, ?_⟩
      rw [htot]
      simp [Nat.add_assoc]
  · have hd := nlt_int hwl
    obtain rfl : w = b.length := by omega
    rw [List.drop_length] at htot
    simp only [scanM, if_true, List.append_nil, Nat.add_zero] at htot
    rw [htot]
    with_reducible repeat' (first
      | refine AW.seq ?_
      | refine AW.region ?_
      | refine AOs.nil ?_
      | refine AW.exit ?_
      | refine AW.ret ?_
      | refine andThen_normal ?_
      | refine andThen_exit ?_
      | refine inBlock_hit ?_
      | refine AW.condF (by simp only [aeval, PT.get_set, Nat.reduceEqDiff, reduceIte]; rfl) (by first | rfl | decide | assumption) ?_
      | ((first
          | refine AOs.op1E tOK (by with_unfolding_all rfl) ?_
          ); refine Step.mk (by simp only [evOp_move, evOp_assign, evOp_binOp, evOp_len, aeval, ofVal, PT.get_set, Nat.reduceEqDiff, reduceIte, Option.map_some, abin_lss, eq_self, al32, g0, g2, g3, hlen, hd]; rfl) ?_)
      | fail "stop")
    exact fnPost_ret3 (by first | (simp only [PT.get_set, Nat.reduceEqDiff, reduceIte]; rfl) | simp only [PT.get_set, Nat.reduceEqDiff, reduceIte]) (by first | (simp only [PT.get_set, Nat.reduceEqDiff, reduceIte]; rfl) | simp only [PT.get_set, Nat.reduceEqDiff, reduceIte]) (by first | (simp only [PT.get_set, Nat.reduceEqDiff, reduceIte]; rfl) | simp only [PT.get_set, Nat.reduceEqDiff, reduceIte]) ⟨sv, rfl, hacc.rows hsb, hone, hst, hnx⟩

theorem cv32b {H : AH} {v : AV} {l : List UInt8} (h : BytesAt H v l) : convOp tC H 32 9 v = some (.str l, H) := by
  have := cv32_9 H v (by
    rcases h with ⟨rfl | ⟨k, rfl⟩, _⟩ | ⟨b, o, c, ro, vs, rfl, _⟩
    · exact fun s h => by cases h
    · exact fun s h => by cases h
    · exact fun s h => by cases h)
  rw [h.str] at this
  exact this

set_option maxHeartbeats 4000000 in
theorem texts18 (N : Nat) (H : AH) {v : AV} {ls : List (List UInt8)} (h : RowsAt H v ls) (hn : ls.length ≤ 1000000) :
    AC tC N 0 18 [v] H fun r K => StrsAt K r ls ∧ (∀ b x, H.get b = some x → K.get b = some x) ∧ H.next ≤ K.next := by
  refine AC.wf0 fun hwf => ?_
  refine AC.by (n := 20) (rs := [.tmp 2]) tOK fn18 rfl rfl rfl rfl ?_
  have e0 : (PT.ofList .leaf 0 [v]).get 0 = some v := rfl
  have hlen := h.len
  with_reducible repeat' (first
    | refine AW.seq ?_
    | refine AW.region ?_
    | refine AW.block ?_
    | refine AOs.nil ?_
    | refine andThen_normal ?_
    | ((first
        | refine AOs.op1E tOK (by with_unfolding_all rfl) ?_
        ); refine Step.mk (by simp only [evOp_assign, aeval, ofVal]; rfl) ?_)
    | fail "stop")
  refine AW.loop (fun m T K => (∀ b x, H.get b = some x → K.get b = some x) ∧ H.next ≤ K.next ∧ T.get 0 = some v ∧ ∃ (i : Nat) (sv : AV), i ≤ ls.length ∧ m = ls.length - i ∧ T.get 4 = some (.int .i64 (i : Nat)) ∧ T.get 3 = some sv ∧ Acc K sv ((ls.take i).map .str) ∧ ∀ b o n c z, sv = .slice b o n c z → H.next ≤ b) ?_ (ls.length - 0)
    ⟨fun b x h => h, Nat.le_refl _, by simp [PT.get_set, e0], 0, .nils, by omega, rfl, by simp [PT.get_set], by simp [PT.get_set], .inl ⟨rfl, rfl⟩, fun _ _ _ _ _ e => by cases e⟩
  rintro m T K ⟨hst, hnx, g0, i, sv, hi, rfl, g4, g3, hacc, hsb⟩
  refine AW.wf0 fun hwfK => ?_
  by_cases hil : i < ls.length
  · have hd := lt_int hil
    obtain ⟨l, hli⟩ : ∃ l, ls[i]? = some l := ⟨_, List.getElem?_eq_getElem hil⟩
    rcases h with ⟨_, h⟩ | ⟨b, o, c, ro, ws, rfl, hbg, hw⟩
    · rw [h] at hil; simp at hil
    obtain ⟨u, hu, hB⟩ := hw i l hli
    have hbK := hst _ _ hbg
    have hcv := cv32b (hB.keep fun b o c _ x hx => hst b x hx)
    obtain ⟨sv', K2, ha, hacc2, hn2, hk2, hb2⟩ := acc_str hwfK hacc l (by rw [List.length_map, List.length_take]; omega)
    with_reducible repeat' (first
      | refine AW.seq ?_
      | refine AW.region ?_
      | refine AW.block ?_
      | refine AOs.nil ?_
      | refine AW.skip ?_
      | refine andThen_normal ?_
      | refine inBlock_normal ?_
      | refine AW.condT (by simp only [aeval, PT.get_set, Nat.reduceEqDiff, reduceIte]; rfl) (by first | rfl | decide | assumption) ?_
      | ((first
          | refine AOs.op1E tOK (by with_unfolding_all rfl) ?_
          ); refine Step.mk (by simp only [evOp_move, evOp_assign, evOp_binOp, evOp_indexAddr, evOp_load, evOp_len, evOp_append, evOp_convert, one_str, aeval, ofVal, PT.get_set, Nat.reduceEqDiff, reduceIte, cellAt, List.map_cons, List.map_nil, Option.map_some, abin_add, abin_lss, eq_self, al28, ix28, ld32, g0, g3, g4, hlen, hd, hil, hbK, hu, hcv, bs37_1, ha]; rfl) ?_)
      | fail "stop")
    refine ⟨ls.length - (i + 1), by omega, fun b y hb => hk2 b y (hst b y hb) fun o n c z e => by have := hsb _ _ _ _ _ e; have := hwf b y hb; omega, by omega, by simp [PT.get_set, g0], i + 1, sv', by omega, rfl, ?_, by simp [PT.get_set], ?_, fun b o n c z e => by have := hb2 b o n c z e; omega⟩
    · simp only [PT.get_set, Nat.reduceEqDiff, reduceIte, wrap64_succ (show i < 9223372036854775807 by omega)]
    · rw [List.take_add_one, hli, List.map_append]; exact hacc2
  · have hd := nlt_int hil
    obtain rfl : i = ls.length := by omega
    rw [List.take_length] at hacc
    with_reducible repeat' (first
      | refine AW.seq ?_
      | refine AW.region ?_
      | refine AOs.nil ?_
      | refine AW.exit ?_
      | refine AW.ret ?_
      | refine andThen_normal ?_
      | refine andThen_exit ?_
      | refine inBlock_hit ?_
      | refine AW.condF (by simp only [aeval, PT.get_set, Nat.reduceEqDiff, reduceIte]; rfl) (by first | rfl | decide | assumption) ?_
      | ((first
          | refine AOs.op1E tOK (by with_unfolding_all rfl) ?_
          ); refine Step.mk (by simp only [evOp_move, evOp_assign, evOp_binOp, evOp_len, aeval, PT.get_set, Nat.reduceEqDiff, reduceIte, Option.map_some, abin_lss, eq_self, al28, g0, g3, g4, hlen, hd]; rfl) ?_)
      | fail "stop")
    refine fnPost_ret1 (by first | (simp only [PT.get_set, Nat.reduceEqDiff, reduceIte]; rfl) | simp only [PT.get_set, Nat.reduceEqDiff, reduceIte]) ⟨?_, hst, hnx⟩
    rcases hacc with ⟨rfl, h1⟩ | ⟨b, rfl, h1, h2⟩
    · exact .inl ⟨rfl, by simpa using h1⟩
    · exact .inr ⟨b, _, false, _, by rw [List.length_map], h1, fun i s hs => by rw [List.getElem?_map, hs]; rfl⟩
end Go.Proofs.YtgihociajfgohaaGreatDoor
