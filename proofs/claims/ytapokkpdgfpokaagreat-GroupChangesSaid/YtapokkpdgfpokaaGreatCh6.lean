/- Group: a vector behind changes, the document's way; the law of changes; no condition. -/
import Derived.Test.YtapokkpdgfpokaaGreatCh5
set_option linter.unusedSimpArgs false
set_option linter.unusedVariables false
open Go Go.AB Go.Proofs
namespace Go.Proofs.YtapokkpdgfpokaaGreat
set_option maxRecDepth 100000

/-- A vector put together by append, in a block of its own. -/
def AccV (n0 : Nat) (K : AH) (w : AV) (l : List Rs) : Prop :=
  ∃ b c X, w = .slice b 0 l.length c 3 ∧ n0 ≤ b ∧ K.get b = some (.cells false X.flatten) ∧ R3 X ∧ X.length = l.length ∧ (c = .lo l.length ∨ (c = .ex 0 ∧ l.length = 0)) ∧ ∀ (i : Nat) (r : Rs), l[i]? = some r → ∃ u, X[i]? = some (rsC u r) ∧ LabelsAt K u r.1
theorem AccV.vecW {n0 : Nat} {K : AH} {w : AV} {l : List Rs} (h : AccV n0 K w l) : VecW n0 K w l := by
  obtain ⟨b, c, X, rfl, h1, h2, h3, h4, h5, h6⟩ := h
  refine .inr ⟨b, c, X, rfl, h1, h2, h3, by omega, ?_, h6⟩
  rcases h5 with rfl | ⟨rfl, h0⟩
  · exact Nat.le_refl _
  · exact ⟨by omega, by omega⟩
theorem AccV.low {n0 n1 : Nat} {K : AH} {w : AV} {l : List Rs} (h : AccV n0 K w l) (hn : n1 ≤ n0) : AccV n1 K w l := by
  obtain ⟨b, c, X, rfl, h1, h2⟩ := h
  exact ⟨b, c, X, rfl, by omega, h2⟩
theorem AccV.keep {n0 : Nat} {H K : AH} {w : AV} {l : List Rs} (h : AccV n0 H w l) (hk : ∀ b x, H.get b = some x → K.get b = some x) (hn : H.next ≤ K.next) : AccV n0 K w l := by
  obtain ⟨b, c, X, rfl, h1, h2, h3, h4, h5, h6⟩ := h
  exact ⟨b, c, X, rfl, h1, hk _ _ h2, h3, h4, h5, fun i r hi => let ⟨u, g1, g2⟩ := h6 i r hi; ⟨u, g1, g2.keep (KS.of hk hn)⟩⟩
theorem acc_drop {n0 : Nat} {K : AH} {w : AV} {l : List Rs} (h : AccV n0 K w l) {k : Nat} (hk : k ≤ l.length) : ∃ v', aslice tC 22 w (some (.int .i64 (k : Nat))) none none = some v' ∧ VecAt K v' (l.drop k) ∧ capOK v' := by
  obtain ⟨b, c, X, rfl, h1, h2, h3, h4, h5, h6⟩ := h
  have vec : ∀ c', VecAt K (.slice b (k * 3) (l.length - k) c' 3) (l.drop k) := fun c' => by
    by_cases h0 : l.length - k = 0
    · exact .inl ⟨List.eq_nil_of_length_eq_zero (by rw [List.length_drop]; exact h0), by rw [h0]; rfl, rfl⟩
    · refine .inr ⟨b, k * 3, c', false, X.flatten, by rw [List.length_drop], h2, fun e => h0 (by rw [← List.length_drop, e]; rfl), fun i r hi => ?_⟩
      rw [List.getElem?_drop] at hi
      obtain ⟨u, g1, g2⟩ := h6 _ r hi
      exact ⟨u, by rw [← Nat.add_mul]; exact flat_get h3 g1, g2⟩
  rcases h5 with rfl | ⟨rfl, h0⟩
  · by_cases k0 : k = 0
    · subst k0
      refine ⟨_, sl_fromLo0 (Nat.le_refl _), ?_, Nat.le_refl _⟩
      have := vec (.lo l.length)
      rwa [Nat.zero_mul, Nat.sub_zero] at this
    · by_cases e : l.length = k
      · refine ⟨.empty b, ?_, .inl ⟨List.drop_eq_nil_of_le (by omega), rfl, rfl⟩, trivial⟩
        simp only [aslice, ti22, ti58, bnd, nble, nbeq]
        simp [k0, e]
      · refine ⟨_, by rw [sl_fromLo k0 hk (Nat.le_refl _) e, Nat.zero_add], vec _, Nat.le_refl _⟩
  · obtain rfl : k = 0 := by omega
    refine ⟨_, sl_from hk (by omega), ?_, ?_⟩
    · rw [cut3, if_pos rfl]
      exact .inl ⟨List.eq_nil_of_length_eq_zero (by rw [List.length_drop]; omega), rfl, rfl⟩
    · rw [cut3, if_pos rfl]; exact Nat.le_refl _
theorem acc_take {n0 : Nat} {K : AH} {w : AV} {l : List Rs} (h : AccV n0 K w l) {k : Nat} (hk : k ≤ l.length) : ∃ v', aslice tC 22 w none (some (.int .i64 (k : Nat))) none = some v' ∧ VecAt K v' (l.take k) := by
  obtain ⟨b, c, X, rfl, h1, h2, h3, h4, h5, h6⟩ := h
  have hlen : (l.take k).length = k := by rw [List.length_take]; omega
  rcases h5 with rfl | ⟨rfl, h0⟩
  · refine ⟨_, sl_toLo hk, ?_⟩
    by_cases k0 : k = 0
    · subst k0; exact .inl ⟨rfl, rfl, rfl⟩
    · refine .inr ⟨b, 0, .lo l.length, false, X.flatten, by rw [hlen], h2, fun e => k0 (by rw [← hlen, e]; rfl), fun i r hi => ?_⟩
      have hik := (List.getElem?_eq_some_iff.1 hi).1
      rw [hlen] at hik
      rw [List.getElem?_take_of_lt hik] at hi
      obtain ⟨u, g1, g2⟩ := h6 _ r hi
      exact ⟨u, by rw [Nat.zero_add]; exact flat_get h3 g1, g2⟩
  · obtain rfl : k = 0 := by omega
    refine ⟨.slice b 0 0 (.ex 0) 3, ?_, .inl ⟨rfl, rfl, rfl⟩⟩
    simp only [aslice, ti22, ti58, bnd, nble, nbeq]
    simp
/-- Rows appended to it. -/
theorem acc_more {n0 : Nat} {K : AH} {w s : AV} {l m : List Rs} {Y : List (List AV)} (hw : WF K) (hn : n0 ≤ K.next) (h : AccV n0 K w l) (hs : Src3 K 22 s m.length Y) (hl : Y.length = m.length) (rY : R3 Y) (oY : O3 Y) (hY : ∀ (i : Nat) (r : Rs), m[i]? = some r → ∃ u, Y[i]? = some (rsC u r) ∧ LabelsAt K u r.1) (hN : l.length + m.length ≤ 1000000) :
    ∃ w' K', aappend tC K [22, 22] [w, s] = some (w', K') ∧ AccV n0 K' w' (l ++ m) ∧ K.next ≤ K'.next ∧ (∀ b y, b < n0 → K.get b = some y → K'.get b = some y) := by
  obtain ⟨b, c, X, rfl, h1, h2, h3, h4, h5, h6⟩ := h
  by_cases hm : m.length = 0
  · have hm0 : m = [] := List.eq_nil_of_length_eq_zero hm
    subst hm0
    have hY0 : Y = [] := List.eq_nil_of_length_eq_zero hl
    subst hY0
    exact ⟨_, K, app_none hs (.inr ⟨_, _, _, _, _, rfl⟩), by rw [List.append_nil]; exact ⟨b, c, X, rfl, h1, h2, h3, h4, h5, h6⟩, Nat.le_refl _, fun _ _ _ h => h⟩
  · have fin : ∀ (K' : AH), K'.get K.next = some (.cells false (X ++ Y).flatten) → K'.next = K.next + 1 → (∀ k y, k ≠ b → K.get k = some y → K'.get k = some y) → AccV n0 K' (.slice K.next 0 (l.length + m.length) (.lo (l.length + m.length)) 3) (l ++ m) := fun K' q1 q2 q3 => by
      have hks := ks_rows h2 h3 q3 (by omega)
      refine ⟨K.next, .lo (l.length + m.length), X ++ Y, by rw [List.length_append], hn, q1, h3.app rY, by rw [List.length_append, List.length_append]; omega, .inl (by rw [List.length_append]), fun i r hi => ?_⟩
      by_cases hil : i < l.length
      · rw [List.getElem?_append_left hil] at hi
        obtain ⟨u, g1, g2⟩ := h6 i r hi
        exact ⟨u, by rw [List.getElem?_append_left (by omega)]; exact g1, g2.keep hks⟩
      · rw [List.getElem?_append_right (by omega)] at hi
        obtain ⟨u, g1, g2⟩ := hY _ r hi
        exact ⟨u, by rw [List.getElem?_append_right (by omega), h4]; exact g1, g2.keep hks⟩
    rcases h5 with rfl | ⟨rfl, h0⟩
    · have hap := app_lo h2 h3 rY oY hl hm hs h4.symm hN
      have hbn := hw _ _ h2
      have hother : ∀ k y, k ≠ b → K.get k = some y → ((K.del b).alloc (.cells false (X ++ Y).flatten)).get k = some y := fun k y hk hy => by
        rw [AH.get_alloc, if_neg (by show ¬ k = K.next; have := hw k y hy; omega), AH.get_del, if_neg hk]; exact hy
      exact ⟨_, _, hap, fin _ (by rw [AH.get_alloc, if_pos (show K.next = (K.del b).next from rfl)]) rfl hother, by show K.next ≤ K.next + 1; omega, fun k y hk hy => hother k y (by omega) hy⟩
    · have hap := app_grow (cc := 0) h2 h3 rY oY hl hm hs (by omega) (by omega) hN
      have hXn : X.take l.length = X := List.take_of_length_le (by omega)
      rw [hXn] at hap
      exact ⟨_, _, hap, fin _ (by rw [AH.get_alloc, if_pos rfl]) rfl fun k y _ hy => stay_alloc hw _ k y hy, by rw [AH.next_alloc]; omega, fun k y _ hy => stay_alloc hw _ k y hy⟩
/-- An empty one. -/
theorem acc_new {H : AH} {n0 : Nat} (hn : n0 ≤ H.next) : AccV n0 (H.alloc (.cells false [])) (.slice H.next 0 0 (.ex 0) 3) [] :=
  ⟨H.next, .ex 0, [], rfl, hn, by rw [AH.get_alloc, if_pos rfl]; rfl, R3.nil, rfl, .inr ⟨rfl, rfl⟩, fun i r hi => by simp at hi⟩

theorem right_len {r : Rs} (h : rightM r = true) : r.1.length ≤ 8 := by
  unfold rightM at h
  simp only [Bool.and_eq_true, decide_eq_true_eq] at h
  exact checkM_len h.1

section
variable {C : Ctx} {N G n : Nat} {T : PT AV} {H : AH} {Q : AEx → PT AV → AH → Prop}
/-- A cut behind two parts of a code. -/
theorem AW.cutS {x y : Code} {Q2 Q3 : AEx → PT AV → AH → Prop} (P : PT AV → AH → Prop) (h1 : AW C N G n x T H (andThen (fun T' H' => AW C N G n y T' H' (fun e T H => e = .normal ∧ P T H)) (fun _ _ _ => False))) (h2 : ∀ T H, P T H → Q2 .normal T H) :
    AW C N G n x T H (andThen (fun T' H' => AW C N G n y T' H' Q2) Q3) :=
  h1.mono fun e T' H' h => by
    cases e with
    | normal => exact AW.mono h fun e T H ⟨he, hp⟩ => by subst he; exact h2 T H hp
    | exit i => exact h.elim
    | ret => exact h.elim
end

set_option maxHeartbeats 16000000 in
theorem one38 (N : Nat) (H : AH) {n0 : Nat} {w u : AV} {l : List Rs} {c : Ch} (hw : AccV n0 H w l) (hu : LabelsAt H u c.1) (hc : checkM c.1 = 0) (hr : ∀ r ∈ l, rightM r = true) (hl : l.length ≤ 100000) :
    AC tC N 0 38 [w, .agg (chC u c)] H fun r K => AccV H.next K r (oneM l c) ∧ (∀ k y, H.get k = some y → K.get k = some y) ∧ H.next ≤ K.next := by
  refine AC.wf0 fun hwf => ?_
  obtain ⟨ls, n, o, g⟩ := c
  refine AC.by (n := 64) (rs := [.tmp 4]) tOK fn38 rfl rfl rfl rfl ?_
  have e0 : (PT.ofList .leaf 0 [w, AV.agg (chC u (ls, n, o, g))]).get 0 = some w := rfl
  have e1 : (PT.ofList .leaf 0 [w, AV.agg (chC u (ls, n, o, g))]).get 1 = some (.agg [u, .int .i64 n, .bool o, .bool g]) := rfl
  generalize hK1 : H.alloc (.cells false [u, .int .i64 n, .bool o, .bool g]) = K1
  have s1 : ∀ b z, H.get b = some z → K1.get b = some z := fun b z hb => by rw [← hK1]; exact stay_alloc hwf _ b z hb
  have p0 : K1.get H.next = some (.cells false [u, .int .i64 n, .bool o, .bool g]) := by rw [← hK1, AH.get_alloc, if_pos rfl]
  have n1 : K1.next = H.next + 1 := by rw [← hK1]; rfl
  have wf1 : WF K1 := by rw [← hK1]; exact wf_alloc hwf _
  have hw1 := hw.keep s1 (by omega)
  have hv1 := hw1.vecW.vec
  have hu1 := hu.keep (KS.of s1 (by omega))
  have lv := hv1.len
  have hkl := posM_le l ls
  with_reducible repeat' (first
 | refine AW.seq ?_
 | refine AW.region ?_
 | refine AW.block ?_
 | refine AOs.nil ?_
 | refine andThen_normal ?_
 | ((first
 | refine AOs.op1E tOK (by with_unfolding_all rfl) ?_
 ); refine Step.mk (by simp only [evOp_assign, evOp_boxC, boxC_agg, aeval, ofVal, Option.map_some, e1, hK1]; rfl) ?_)
 | fail "stop")
  refine AW.mono (Q := fun e T K => e = .exit 0 ∧ K = K1 ∧ T.get 0 = some w ∧ T.get 3 = some (.ptr H.next 0) ∧ T.get 5 = some (.int .i64 (posM l ls : Nat))) (AW.loop (fun m T K => K = K1 ∧ T.get 0 = some w ∧ T.get 3 = some (.ptr H.next 0) ∧ ∃ i : Nat, i ≤ l.length ∧ m = l.length - i ∧ T.get 5 = some (.int .i64 (i : Nat)) ∧ ∀ (q : Nat) (r : Rs), q < i → l[q]? = some r → orderM r.1 ls < 0) ?_ (l.length - 0)
    ⟨rfl, by simp [PT.get_set, e0], by simp [PT.get_set], 0, by omega, rfl, by simp [PT.get_set], fun q r hq => by omega⟩) ?_
  · rintro m T K ⟨rfl, g0, g3, i, hi, rfl, g5, hlo⟩
    have wi := wrap64_succ (show i < 9223372036854775807 by omega)
    have stop : (∀ r, l[i]? = some r → ¬ orderM r.1 ls < 0) → i = posM l ls := fun h => posM_unique hi hlo h
    with_reducible repeat' (first
 | refine AW.seq ?_
 | fail "stop")
    refine AW.drawN tOK (Qs := [12]) [0, 1, 2, 3, 4, 5, 6, 7, 8, 9, 10, 11, 12, 13, 14] (by kernel_rfl) (by simp only [pickL, List.getElem?_cons_zero, List.getElem?_cons_succ]; rfl) ?_
    by_cases hil : i < l.length
    case neg =>
      have hd := nlt_int hil
      with_reducible repeat' (first
 | refine AW.exit ?_
 | refine andThen_normal ?_
 | refine andThen_exit ?_
 | refine AW.condF (by simp only [aeval, PT.get_set, Nat.reduceEqDiff, reduceIte]; rfl) (by first | rfl | decide | assumption) ?_
 | refine DN.nil tOK ?_
 | refine DN.guardFA (by with_unfolding_all rfl) (by simp only [PT.get_set, Nat.reduceEqDiff, reduceIte]; rfl) (by first | rfl | decide | assumption) (by with_unfolding_all rfl) ?_
 | ((first
 | refine DN.fl1E (by with_unfolding_all rfl) (by with_unfolding_all rfl) ?_
 | refine DN.rd1E (by kernel_rfl) (by with_unfolding_all rfl) ?_
 ); refine Step.mk (by simp only [evOp_move, evOp_pick, evOp_binOp, evOp_len, aeval, ofVal, PT.get_set, Nat.reduceEqDiff, reduceIte, Option.map_some, abin_lss, cond_false, eq_self, al22, g0, g5, lv, hd]; rfl) ?_; refine Same.mk ?_)
 | fail "stop")
      exact ⟨rfl, rfl, by simp only [PT.get_set, Nat.reduceEqDiff, reduceIte, g0], by simp only [PT.get_set, Nat.reduceEqDiff, reduceIte, g3], by rw [← stop fun r hr => by have := (List.getElem?_eq_some_iff.1 hr).1; omega]; simp only [PT.get_set, Nat.reduceEqDiff, reduceIte, g5]⟩
    have hd := lt_int hil
    obtain ⟨x, hx⟩ : ∃ x, l[i]? = some x := ⟨_, List.getElem?_eq_getElem hil⟩
    obtain ⟨ab, ao, ac, aro, avs, au, rfl, ag, hau, _, ax, _⟩ := hv1.at hx
    with_reducible repeat' (first
 | ((first
 | refine DN.fl1E (by with_unfolding_all rfl) (by with_unfolding_all rfl) ?_
 | refine DN.flTE (by with_unfolding_all rfl) (by simp only [PT.get_set, Nat.reduceEqDiff, reduceIte]; rfl) (by first | rfl | decide | assumption) (by with_unfolding_all rfl) (by with_unfolding_all rfl) ?_
 | refine DN.rdTE (by with_unfolding_all rfl) (by simp only [PT.get_set, Nat.reduceEqDiff, reduceIte]; rfl) (by first | rfl | decide | assumption) (by kernel_rfl) (by with_unfolding_all rfl) ?_
 | refine DN.rd1E (by kernel_rfl) (by with_unfolding_all rfl) ?_
 ); refine Step.mk (by simp only [evOp_move, evOp_binOp, evOp_fieldAddr, evOp_indexAddr, evOp_load, evOp_len, aeval, PT.get_set, Nat.reduceEqDiff, reduceIte, cellAt, Option.map_some, abin_lss, List.getElem?_cons_zero, Nat.add_zero, eq_self, al22, ix22, ld29, fa33_0, fa58_0, g0, g3, g5, lv, hd, hil, ag, ax, p0]; rfl) ?_; refine Same.mk ?_)
 | fail "stop")
    refine DN.callQG (by with_unfolding_all rfl) (by first | (simp only [PT.get_set, Nat.reduceEqDiff, reduceIte]; rfl) | simp only [PT.get_set, Nat.reduceEqDiff, reduceIte]) rfl (fs := []) (cs := []) rfl fn42 ok42 rfl (by simp only [List.map_cons, List.map_nil, List.nil_append, List.append_nil, aeval, PT.get_set, Nat.reduceEqDiff, reduceIte] <;> rfl) (order42 N K hau hu1 (by have := right_len (hr x (List.mem_of_getElem? hx)); omega)) ?_
    by_cases ho : orderM x.1 ls < 0
    · have d1 : decide (orderM x.1 ls < 0) = true := decide_eq_true ho
      with_reducible repeat' (first
 | refine AW.region ?_
 | refine AW.block ?_
 | refine AOs.nil ?_
 | refine AW.skip ?_
 | refine andThen_normal ?_
 | refine inBlock_normal ?_
 | refine AW.condT (by simp only [aeval, PT.get_set, Nat.reduceEqDiff, reduceIte]; rfl) (by first | rfl | decide | assumption) ?_
 | refine DN.nil tOK ?_
 | ((first
 | refine DN.fl1E (by with_unfolding_all rfl) (by with_unfolding_all rfl) ?_
 | refine DN.flTE (by with_unfolding_all rfl) (by simp only [PT.get_set, Nat.reduceEqDiff, reduceIte]; rfl) (by first | rfl | decide | assumption) (by with_unfolding_all rfl) (by with_unfolding_all rfl) ?_
 ); refine Step.mk (by simp only [evOp_pick, evOp_binOp, aeval, ofVal, PT.get_set, Nat.reduceEqDiff, reduceIte, Option.map_some, abin_lss, cond_true, eq_self, d1]; rfl) ?_; refine Same.mk ?_)
 | ((first
 | refine AOs.op1E tOK (by with_unfolding_all rfl) ?_
 ); refine Step.mk (by simp only [evOp_move, evOp_assign, evOp_binOp, aeval, ofVal, PT.get_set, Nat.reduceEqDiff, reduceIte, Option.map_some, abin_add, eq_self, g5, wi]; rfl) ?_)
 | fail "stop")
      refine ⟨l.length - (i + 1), by omega, rfl, by simp only [PT.get_set, Nat.reduceEqDiff, reduceIte, g0], by simp only [PT.get_set, Nat.reduceEqDiff, reduceIte, g3], i + 1, by omega, rfl, (by first | (simp only [PT.get_set, Nat.reduceEqDiff, reduceIte]; rfl) | simp only [PT.get_set, Nat.reduceEqDiff, reduceIte]), fun q r hq hr' => ?_⟩
      by_cases e : q = i
      · subst e; rw [hx] at hr'; cases hr'; exact ho
      · exact hlo q r (by omega) hr'
    · have d1 : decide (orderM x.1 ls < 0) = false := decide_eq_false ho
      with_reducible repeat' (first
 | refine AW.exit ?_
 | refine andThen_normal ?_
 | refine andThen_exit ?_
 | refine AW.condF (by simp only [aeval, PT.get_set, Nat.reduceEqDiff, reduceIte]; rfl) (by first | rfl | decide | assumption) ?_
 | refine DN.nil tOK ?_
 | ((first
 | refine DN.fl1E (by with_unfolding_all rfl) (by with_unfolding_all rfl) ?_
 | refine DN.flTE (by with_unfolding_all rfl) (by simp only [PT.get_set, Nat.reduceEqDiff, reduceIte]; rfl) (by first | rfl | decide | assumption) (by with_unfolding_all rfl) (by with_unfolding_all rfl) ?_
 ); refine Step.mk (by simp only [evOp_pick, evOp_binOp, aeval, ofVal, PT.get_set, Nat.reduceEqDiff, reduceIte, Option.map_some, abin_lss, cond_true, eq_self, d1]; rfl) ?_; refine Same.mk ?_)
 | fail "stop")
      exact ⟨rfl, rfl, by simp only [PT.get_set, Nat.reduceEqDiff, reduceIte, g0], by simp only [PT.get_set, Nat.reduceEqDiff, reduceIte, g3], by rw [← stop fun r hr' => by rw [hx] at hr'; cases hr'; exact ho]; simp only [PT.get_set, Nat.reduceEqDiff, reduceIte, g5]⟩
  rintro e T K ⟨rfl, rfl, g0, g3, g5⟩
  obtain ⟨v6, sd, hv6, cv6⟩ := acc_drop hw1 hkl
  have lv6 := hv6.len
  rw [List.length_drop] at lv6
  with_reducible repeat' (first
 | refine AW.seq ?_
 | refine AW.region ?_
 | refine AOs.nil ?_
 | refine andThen_normal ?_
 | refine inBlock_hit ?_
 | ((first
 | refine AOs.op1E tOK (by with_unfolding_all rfl) ?_
 ); refine Step.mk (by simp only [evOp_move, evOp_assign, evOp_slice, aeval, PT.get_set, Nat.reduceEqDiff, reduceIte, Option.map_some, Option.map_none, eq_self, g0, g5, sd]; rfl) ?_)
 | fail "stop")
  refine AW.cutS (P := fun T L => L = K ∧ T.get 0 = some w ∧ T.get 3 = some (.ptr H.next 0) ∧ T.get 5 = some (.int .i64 (posM l ls : Nat)) ∧ ∃ v7, T.get 6 = some v7 ∧ VecAt K v7 (if thereM l ls = true then l.drop (posM l ls + 1) else l.drop (posM l ls))) ?_ ?_
  · refine AW.drawN tOK (Qs := [10]) [0, 1, 2, 3, 4, 5, 6, 7, 8, 9, 10, 11, 12] (by kernel_rfl) (by simp only [pickL, List.getElem?_cons_zero, List.getElem?_cons_succ]; rfl) ?_
    by_cases hkn : posM l ls < l.length
    case neg =>
      have hd : decide ((0 : Int) < ((l.length - posM l ls : Nat) : Int)) = false := decide_eq_false (by omega)
      have ht : thereM l ls = false := by
        unfold thereM; rw [List.getElem?_eq_none (by omega)]
      rw [ht]
      with_reducible repeat' (first
 | refine AW.skip ?_
 | refine andThen_normal ?_
 | refine AW.condF (by simp only [aeval, PT.get_set, Nat.reduceEqDiff, reduceIte]; rfl) (by first | rfl | decide | assumption) ?_
 | refine DN.nil tOK ?_
 | refine DN.guardFA (by with_unfolding_all rfl) (by simp only [PT.get_set, Nat.reduceEqDiff, reduceIte]; rfl) (by first | rfl | decide | assumption) (by with_unfolding_all rfl) ?_
 | ((first
 | refine DN.fl1E (by with_unfolding_all rfl) (by with_unfolding_all rfl) ?_
 | refine DN.rd1E (by kernel_rfl) (by with_unfolding_all rfl) ?_
 ); refine Step.mk (by simp only [evOp_move, evOp_pick, evOp_binOp, evOp_len, aeval, ofVal, PT.get_set, Nat.reduceEqDiff, reduceIte, Option.map_some, abin_gtr, cond_false, eq_self, al22, lv6, hd]; rfl) ?_; refine Same.mk ?_)
 | fail "stop")
      exact ⟨rfl, rfl, by simp only [PT.get_set, Nat.reduceEqDiff, reduceIte, g0], by simp only [PT.get_set, Nat.reduceEqDiff, reduceIte, g3], by simp only [PT.get_set, Nat.reduceEqDiff, reduceIte, g5], v6, (by first | (simp only [PT.get_set, Nat.reduceEqDiff, reduceIte]; rfl) | simp only [PT.get_set, Nat.reduceEqDiff, reduceIte]), hv6⟩
    have hd : decide ((0 : Int) < ((l.length - posM l ls : Nat) : Int)) = true := decide_eq_true (by omega)
    obtain ⟨x, hx⟩ : ∃ x, l[posM l ls]? = some x := ⟨_, List.getElem?_eq_getElem hkn⟩
    have hv6' := hv6
    rw [drop_cons hx] at hv6'
    obtain ⟨ab, ao, ac, aro, avs, au, ev6, ag, hau, ax, _, aix⟩ := hv6'.head
    obtain ⟨v8, sl8, hv8, _⟩ := vec_tail hv6 cv6 (by rw [List.length_drop]; omega)
    rw [List.drop_drop] at hv8
    have aix6 : ∀ k, aindexAddr tC 22 v6 (.int k 0) = some (.ptr ab ao) := fun k => by rw [ev6]; exact aix k
    have ht : thereM l ls = decide (orderM x.1 ls = 0) := by unfold thereM; rw [hx]
    with_reducible repeat' (first
 | ((first
 | refine DN.fl1E (by with_unfolding_all rfl) (by with_unfolding_all rfl) ?_
 | refine DN.flTE (by with_unfolding_all rfl) (by simp only [PT.get_set, Nat.reduceEqDiff, reduceIte]; rfl) (by first | rfl | decide | assumption) (by with_unfolding_all rfl) (by with_unfolding_all rfl) ?_
 | refine DN.rdTE (by with_unfolding_all rfl) (by simp only [PT.get_set, Nat.reduceEqDiff, reduceIte]; rfl) (by first | rfl | decide | assumption) (by kernel_rfl) (by with_unfolding_all rfl) ?_
 | refine DN.rd1E (by kernel_rfl) (by with_unfolding_all rfl) ?_
 ); refine Step.mk (by simp only [evOp_move, evOp_binOp, evOp_fieldAddr, evOp_indexAddr, evOp_load, evOp_len, aeval, ofVal, PT.get_set, Nat.reduceEqDiff, reduceIte, cellAt, Option.map_some, abin_gtr, List.getElem?_cons_zero, Nat.add_zero, eq_self, al22, ld29, fa33_0, fa58_0, g3, lv6, hd, aix6, ag, ax, p0]; rfl) ?_; refine Same.mk ?_)
 | fail "stop")
    refine DN.callQG (by with_unfolding_all rfl) (by first | (simp only [PT.get_set, Nat.reduceEqDiff, reduceIte]; rfl) | simp only [PT.get_set, Nat.reduceEqDiff, reduceIte]) rfl (fs := []) (cs := []) rfl fn42 ok42 rfl (by simp only [List.map_cons, List.map_nil, List.nil_append, List.append_nil, aeval, PT.get_set, Nat.reduceEqDiff, reduceIte] <;> rfl) (order42 N K hau hu1 (by have := right_len (hr x (List.mem_of_getElem? hx)); omega)) ?_
    by_cases ho : orderM x.1 ls = 0
    · have d1 : decide (orderM x.1 ls = 0) = true := decide_eq_true ho
      rw [ht, d1]
      with_reducible repeat' (first
 | refine AW.region ?_
 | refine AOs.nil ?_
 | refine andThen_normal ?_
 | refine AW.condT (by simp only [aeval, PT.get_set, Nat.reduceEqDiff, reduceIte]; rfl) (by first | rfl | decide | assumption) ?_
 | refine DN.nil tOK ?_
 | ((first
 | refine DN.fl1E (by with_unfolding_all rfl) (by with_unfolding_all rfl) ?_
 | refine DN.flTE (by with_unfolding_all rfl) (by simp only [PT.get_set, Nat.reduceEqDiff, reduceIte]; rfl) (by first | rfl | decide | assumption) (by with_unfolding_all rfl) (by with_unfolding_all rfl) ?_
 ); refine Step.mk (by simp only [evOp_pick, evOp_binOp, aeval, ofVal, PT.get_set, Nat.reduceEqDiff, reduceIte, Option.map_some, abin_eql, cond_true, eq_self, d1]; rfl) ?_; refine Same.mk ?_)
 | ((first
 | refine AOs.op1E tOK (by with_unfolding_all rfl) ?_
 ); refine Step.mk (by simp only [evOp_move, evOp_assign, evOp_slice, aeval, ofVal, PT.get_set, Nat.reduceEqDiff, reduceIte, Option.map_some, Option.map_none, eq_self, sl8]; rfl) ?_)
 | fail "stop")
      exact ⟨rfl, rfl, by simp only [PT.get_set, Nat.reduceEqDiff, reduceIte, g0], by simp only [PT.get_set, Nat.reduceEqDiff, reduceIte, g3], by simp only [PT.get_set, Nat.reduceEqDiff, reduceIte, g5], v8, (by first | (simp only [PT.get_set, Nat.reduceEqDiff, reduceIte]; rfl) | simp only [PT.get_set, Nat.reduceEqDiff, reduceIte]), hv8⟩
    · have d1 : decide (orderM x.1 ls = 0) = false := decide_eq_false ho
      rw [ht, d1]
      with_reducible repeat' (first
 | refine AW.skip ?_
 | refine andThen_normal ?_
 | refine AW.condF (by simp only [aeval, PT.get_set, Nat.reduceEqDiff, reduceIte]; rfl) (by first | rfl | decide | assumption) ?_
 | refine DN.nil tOK ?_
 | ((first
 | refine DN.fl1E (by with_unfolding_all rfl) (by with_unfolding_all rfl) ?_
 | refine DN.flTE (by with_unfolding_all rfl) (by simp only [PT.get_set, Nat.reduceEqDiff, reduceIte]; rfl) (by first | rfl | decide | assumption) (by with_unfolding_all rfl) (by with_unfolding_all rfl) ?_
 ); refine Step.mk (by simp only [evOp_pick, evOp_binOp, aeval, ofVal, PT.get_set, Nat.reduceEqDiff, reduceIte, Option.map_some, abin_eql, cond_true, eq_self, d1]; rfl) ?_; refine Same.mk ?_)
 | fail "stop")
      exact ⟨rfl, rfl, by simp only [PT.get_set, Nat.reduceEqDiff, reduceIte, g0], by simp only [PT.get_set, Nat.reduceEqDiff, reduceIte, g3], by simp only [PT.get_set, Nat.reduceEqDiff, reduceIte, g5], v6, (by first | (simp only [PT.get_set, Nat.reduceEqDiff, reduceIte]; rfl) | simp only [PT.get_set, Nat.reduceEqDiff, reduceIte]), hv6⟩
  rintro T L ⟨rfl, g0, g3, g5, v7, g6, hv7⟩
  generalize hR : (if thereM l ls = true then l.drop (posM l ls + 1) else l.drop (posM l ls)) = R at hv7
  have hRl : R.length ≤ l.length := by rw [← hR]; split <;> simp
  have hone : oneM l (ls, n, o, g) = (l.take (posM l ls) ++ (if g = true then [] else [resC (ls, n, o, g)])) ++ R := by rw [← hR]; rfl
  have hA2 := acc_new (H := L) (n0 := L.next) (Nat.le_refl _)
  have wf2 : WF (L.alloc (.cells false [])) := wf_alloc wf1 _
  have s2 := stay_alloc wf1 (.cells false [])
  have hbs : ∀ (F : Fns) (ev : Operand → AV) (dst : Option Tmp) (ty : TypeId) (pos : String) (after : Array Edge) (guard : Option (Nat × Bool)), evOp tC F L ev { dst, op := .buildSlice 22 0 ⟨[]⟩, type := ty, pos, after, guard } = some (.slice L.next 0 0 (.ex 0) 3, L.alloc (.cells false [])) := fun F ev dst ty pos after guard => bs22 F L ev dst ty pos after guard
  generalize hK2 : L.alloc (.cells false []) = K2 at hA2 wf2 s2 hbs
  have n2 : K2.next = L.next + 1 := by rw [← hK2]; rfl
  obtain ⟨v9, tkk9, hv9⟩ := acc_take (hw1.keep s2 (by omega)) hkl
  obtain ⟨Y, hsY, lY, rY, oY, gY⟩ := hv9.rows
  obtain ⟨w7, K3, hap, hA3, n3, k3⟩ := acc_more wf2 (by omega) hA2 hsY lY rY oY gY (by simp; omega)
  rw [List.nil_append] at hA3
  with_reducible repeat' (first
 | refine AW.seq ?_
 | refine AW.region ?_
 | refine AOs.nil ?_
 | refine andThen_normal ?_
 | ((first
 | refine AOs.op1E tOK (by with_unfolding_all rfl) ?_
 ); refine Step.mk (by simp only [evOp_move, evOp_assign, evOp_fieldAddr, evOp_load, evOp_append, evOp_slice, aeval, PT.get_set, Nat.reduceEqDiff, reduceIte, cellAt, List.map_cons, List.map_nil, Option.map_some, Option.map_none, Nat.zero_add, eq_self, ld4, fa33_2, g0, g3, g5, hbs, tkk9, hap]; rfl) ?_)
 | fail "stop")
  have k3' : ∀ b y, L.get b = some y → K3.get b = some y := fun b y hy => k3 b y (wf1 b y hy) (s2 b y hy)
  have p3 := k3' _ _ p0
  refine AOs.wf0 fun wf3 => ?_
  cases g with
  | true =>
    obtain ⟨Y2, hsY2, lY2, rY2, oY2, gY2⟩ := (hv7.keep k3' (by omega)).rows
    obtain ⟨w8, K4, hap2, hA4, n4, k4⟩ := acc_more wf3 (by omega) hA3 hsY2 lY2 rY2 oY2 gY2 (by simp; omega)
    with_reducible repeat' (first
 | refine AW.seq ?_
 | refine AW.region ?_
 | refine AOs.nil ?_
 | refine AW.skip ?_
 | refine AW.ret ?_
 | refine andThen_normal ?_
 | refine AW.condF (by simp only [aeval, PT.get_set, Nat.reduceEqDiff, reduceIte]; rfl) (by first | rfl | decide | assumption) ?_
 | ((first
 | refine AOs.op1E tOK (by with_unfolding_all rfl) ?_
 ); refine Step.mk (by simp only [evOp_move, evOp_assign, evOp_not, evOp_load, evOp_append, aeval, PT.get_set, Nat.reduceEqDiff, reduceIte, cellAt, List.map_cons, List.map_nil, Option.map_some, Bool.not_true, List.getElem?_cons_zero, List.getElem?_cons_succ, eq_self, ld4, g6, p3, hap2]; rfl) ?_)
 | fail "stop")
    refine fnPost_ret1 (by first | (simp only [PT.get_set, Nat.reduceEqDiff, reduceIte]; rfl) | simp only [PT.get_set, Nat.reduceEqDiff, reduceIte]) ⟨?_, fun k y hy => k4 k y (wf1 _ _ (s1 _ _ hy)) (k3' _ _ (s1 _ _ hy)), by omega⟩
    rw [hone, if_pos rfl, List.append_nil]
    exact hA4.low (by omega)
  | false =>
    with_reducible repeat' (first
 | refine AOs.nil ?_
 | refine andThen_normal ?_
 | refine AW.condT (by simp only [aeval, PT.get_set, Nat.reduceEqDiff, reduceIte]; rfl) (by first | rfl | decide | assumption) ?_
 | ((first
 | refine AOs.op1E tOK (by with_unfolding_all rfl) ?_
 ); refine Step.mk (by simp only [evOp_not, evOp_load, aeval, PT.get_set, Nat.reduceEqDiff, reduceIte, cellAt, Option.map_some, Bool.not_false, List.getElem?_cons_zero, List.getElem?_cons_succ, eq_self, ld4, p3]; rfl) ?_)
 | fail "stop")
    have wfn : WF (K3.alloc (.cells false [])) := wf_alloc wf3 _
    have kn : ∀ b y, K3.get b = some y → (K3.alloc (.cells false [])).get b = some y := stay_alloc wf3 _
    have nn : (K3.alloc (.cells false [])).next = K3.next + 1 := rfl
    have pn := kn _ _ p3
    obtain ⟨lu, K5, hap1, hlu, n5, k5, wf5⟩ := labs_append (b := K3.next) wfn (hu1.keep (KS.of (fun b y h => kn b y (k3' b y h)) (by omega))) (by have := checkM_len hc; omega)
    have p5 := k5 _ _ pn
    have hbd := bd58h hlu.one n o
    have bsf := fun dst ty pos after guard x (ev : Operand → AV) hx => bs22_1 F0 K5 ev dst ty pos after guard x lu (.int .i64 n) (.bool o) hx
    generalize hK6 : K5.alloc (.cells false [lu, .int .i64 n, .bool o]) = K6 at bsf
    have s6 : ∀ b y, K5.get b = some y → K6.get b = some y := by rw [← hK6]; exact stay_alloc wf5 _
    have n6 : K6.next = K5.next + 1 := by rw [← hK6]; rfl
    have wf6 : WF K6 := by rw [← hK6]; exact wf_alloc wf5 _
    have r3x : R3 [rsC lu (resC (ls, n, o, false))] := R3.one rfl (str_rsC _ _)
    have g6' : K6.get K5.next = some (.cells false [rsC lu (resC (ls, n, o, false))].flatten) := by rw [← hK6, AH.get_alloc, if_pos rfl, flat_one]; rfl
    have hsx : Src3 K6 22 (.slice K5.next 0 1 (.ex 1) 3) 1 [rsC lu (resC (ls, n, o, false))] := src_rows (q := 0) (n := 1) g6' r3x (by simp)
    have hlu6 := hlu.keep (KS.of s6 (by omega))
    have hA6 := hA3.keep (fun b y hy => s6 b y (k5 b y (kn b y hy))) (by omega)
    obtain ⟨w8, K7, hap2, hA7, n7, k7⟩ := acc_more (m := [resC (ls, n, o, false)]) wf6 (by omega) hA6 hsx rfl r3x (fun y hy => by rw [List.mem_singleton] at hy; subst hy; exact one_rsC hlu.one) (fun i r hi => by
      cases i with
      | zero => cases hi; exact ⟨lu, rfl, hlu6⟩
      | succ i => simp at hi) (by simp; omega)
    refine AW.drawN tOK (Qs := []) [0, 2, 3, 5, 6, 1, 4, 7, 8, 9, 10] (by kernel_rfl) (by simp only [pickL, List.getElem?_cons_zero, List.getElem?_cons_succ]; rfl) ?_
    with_reducible repeat' (first
 | ((first
 | refine DN.fl1E (by with_unfolding_all rfl) (by with_unfolding_all rfl) ?_
 | refine DN.rd1E (by kernel_rfl) (by with_unfolding_all rfl) ?_
 ); refine Step.mk (by simp only [evOp_move, evOp_fieldAddr, evOp_load, aeval, PT.get_set, Nat.reduceEqDiff, reduceIte, cellAt, cellsAt, Option.map_some, cond_true, decide_true, List.getElem?_cons_zero, Nat.add_zero, Nat.zero_add, nbeq, Nat.reduceAdd, List.length_cons, List.length_nil, eq_self, bs29, ld29, ld31, fa33_0, fa33_1, g3, p3, tk1_4]; rfl) ?_; refine Same.mk ?_)
 | fail "stop")
    refine DN.actP tOK (by kernel_rfl) (by simp only [bs29, bs29]; rfl) rfl ?_ ?_
    · repeat' (first | exact good_nil | with_reducible refine good_cons ?_ ?_ | (with_reducible refine good_ofN ?_ ?_ 1; rotate_left; (simp only [evOp_move, evOp_assign, evOp_pick, evOp_build, evOp_nilCheck, evOp_binOp, evOp_not, evOp_fieldAddr, evOp_field, evOp_indexAddr, evOp_index, evOp_extract, evOp_makeFunc, evOp_load, evOp_lookup, evOp_store, evOp_mapUpdate, evOp_insert, evOp_range, evOp_makeMap, evOp_len, evOp_append, evOp_copy, evOp_delete, evOp_slice, evOp_convert, evOp_entry, evOp_boxC, boxC_one, boxC_agg, evOp_cap, rangeMapAt, storeAt, one_bool, one_int, one_str, one_nilp, one_ptr, one_nils, one_slice, one_empty, one_nilm, one_map, one_func, one_nilf, one_iface, one_nili, aeval, ofVal, PT.get_set, Nat.reduceEqDiff, reduceIte, lenOfAV_slice, lenOfAV_nils, lenOfAV_empty, cellAt, cellsAt, mapLenAt, lookAt, mapSetAt, mapDelAt, List.map_cons, List.map_nil, Option.map_some, Option.map_none, List.nil_append, List.append_nil, abin_add, abin_sub, abin_mul, abin_lss, abin_leq, abin_gtr, abin_geq, abin_eql, abin_neq, abin_eqlS, abin_neqS, cond_true, cond_false, decide_true, decide_false, Bool.not_true, Bool.not_false, TI.agg, List.getElem?_cons_zero, List.getElem?_cons_succ, Nat.add_zero, Nat.zero_add, Nat.zero_mul, nbeq, nble, nblt, Nat.reduceLeDiff, Nat.reduceLT, Nat.reduceMul, Nat.reduceAdd, Nat.reduceSub, Bool.and_true, Bool.true_and, Bool.and_false, Bool.false_and, List.length_cons, List.length_nil, List.set_cons_zero, List.set_cons_succ, AH.get_set, AH.next_set, eq_self, Int.ofNat_eq_natCast, Int.cast_ofNat_Int, Int.natCast_zero, Int.reduceEq, Int.reduceLT, Int.reduceLE, Int.reduceNeg, ld2, st2, ld3, st3, ld4, st4, ld5, st5, al9, ld9, st9, al22, ix22, bs22, ld22, ne22a, eq22a, ne22b, eq22b, ne22c, eq22c, st22, al23, ix23, bs23, ld23, ne23a, eq23a, ne23b, eq23b, ne23c, eq23c, st23, ld27, st27, al29, ix29, bs29, ld29, ne29a, eq29a, ne29b, eq29b, ne29c, eq29c, st29, fa31_0, fa31_1, ld31, fa33_0, fa33_1, fa33_2, ld33, al40, ix40, bs40, ld40, ne40a, eq40a, ne40b, eq40b, ne40c, eq40c, st40, ld44, ne44a, eq44a, ne44b, eq44b, st44, fa58_0, fa58_1, ld58, fa71_0, fa71_1, ld71, ld110, st110, ld114, st114, ld127, st127, al174, ix174, bs174, ld174, ne174a, eq174a, ne174b, eq174b, ne174c, eq174c, st174, cv3_127, cv127_3, g0, g3, g5, pn, tk1_4] <;> rfl); kernel_rfl) | (with_reducible refine good_ofG (by with_unfolding_all rfl) (by simp only [g0, g3, g5, pn, tk1_4, PT.get_set, Nat.reduceEqDiff, reduceIte] <;> rfl) ?_ ?_ ?_ 1; rotate_left 2; (simp only [evOp_move, evOp_assign, evOp_pick, evOp_build, evOp_nilCheck, evOp_binOp, evOp_not, evOp_fieldAddr, evOp_field, evOp_indexAddr, evOp_index, evOp_extract, evOp_makeFunc, evOp_load, evOp_lookup, evOp_store, evOp_mapUpdate, evOp_insert, evOp_range, evOp_makeMap, evOp_len, evOp_append, evOp_copy, evOp_delete, evOp_slice, evOp_convert, evOp_entry, evOp_boxC, boxC_one, boxC_agg, evOp_cap, rangeMapAt, storeAt, one_bool, one_int, one_str, one_nilp, one_ptr, one_nils, one_slice, one_empty, one_nilm, one_map, one_func, one_nilf, one_iface, one_nili, aeval, ofVal, PT.get_set, Nat.reduceEqDiff, reduceIte, lenOfAV_slice, lenOfAV_nils, lenOfAV_empty, cellAt, cellsAt, mapLenAt, lookAt, mapSetAt, mapDelAt, List.map_cons, List.map_nil, Option.map_some, Option.map_none, List.nil_append, List.append_nil, abin_add, abin_sub, abin_mul, abin_lss, abin_leq, abin_gtr, abin_geq, abin_eql, abin_neq, abin_eqlS, abin_neqS, cond_true, cond_false, decide_true, decide_false, Bool.not_true, Bool.not_false, TI.agg, List.getElem?_cons_zero, List.getElem?_cons_succ, Nat.add_zero, Nat.zero_add, Nat.zero_mul, nbeq, nble, nblt, Nat.reduceLeDiff, Nat.reduceLT, Nat.reduceMul, Nat.reduceAdd, Nat.reduceSub, Bool.and_true, Bool.true_and, Bool.and_false, Bool.false_and, List.length_cons, List.length_nil, List.set_cons_zero, List.set_cons_succ, AH.get_set, AH.next_set, eq_self, Int.ofNat_eq_natCast, Int.cast_ofNat_Int, Int.natCast_zero, Int.reduceEq, Int.reduceLT, Int.reduceLE, Int.reduceNeg, ld2, st2, ld3, st3, ld4, st4, ld5, st5, al9, ld9, st9, al22, ix22, bs22, ld22, ne22a, eq22a, ne22b, eq22b, ne22c, eq22c, st22, al23, ix23, bs23, ld23, ne23a, eq23a, ne23b, eq23b, ne23c, eq23c, st23, ld27, st27, al29, ix29, bs29, ld29, ne29a, eq29a, ne29b, eq29b, ne29c, eq29c, st29, fa31_0, fa31_1, ld31, fa33_0, fa33_1, fa33_2, ld33, al40, ix40, bs40, ld40, ne40a, eq40a, ne40b, eq40b, ne40c, eq40c, st40, ld44, ne44a, eq44a, ne44b, eq44b, st44, fa58_0, fa58_1, ld58, fa71_0, fa71_1, ld71, ld110, st110, ld114, st114, ld127, st127, al174, ix174, bs174, ld174, ne174a, eq174a, ne174b, eq174b, ne174c, eq174c, st174, cv3_127, cv127_3, g0, g3, g5, pn, tk1_4] <;> rfl); (first | rfl | decide | assumption); kernel_rfl) | fail "stop")
    with_reducible repeat' (first
 | ((first
 | refine DN.rd1E (by kernel_rfl) (by with_unfolding_all rfl) ?_
 ); refine Step.mk (by simp only [evOp_append, aeval, PT.get_set, Nat.reduceEqDiff, reduceIte, List.map_cons, List.map_nil, eq_self]; rfl) ?_; refine Same.mk ?_)
 | fail "stop")
    refine DN.actP tOK (by kernel_rfl) (by simp only [evOp_append, aeval, PT.get_set, Nat.reduceEqDiff, reduceIte, List.map_cons, List.map_nil, eq_self, hap1]; rfl) rfl ?_ ?_
    · repeat' (first | exact good_nil | with_reducible refine good_cons ?_ ?_ | (with_reducible refine good_ofN ?_ ?_ 1; rotate_left; (simp only [evOp_move, evOp_assign, evOp_pick, evOp_build, evOp_nilCheck, evOp_binOp, evOp_not, evOp_fieldAddr, evOp_field, evOp_indexAddr, evOp_index, evOp_extract, evOp_makeFunc, evOp_load, evOp_lookup, evOp_store, evOp_mapUpdate, evOp_insert, evOp_range, evOp_makeMap, evOp_len, evOp_append, evOp_copy, evOp_delete, evOp_slice, evOp_convert, evOp_entry, evOp_boxC, boxC_one, boxC_agg, evOp_cap, rangeMapAt, storeAt, one_bool, one_int, one_str, one_nilp, one_ptr, one_nils, one_slice, one_empty, one_nilm, one_map, one_func, one_nilf, one_iface, one_nili, aeval, ofVal, PT.get_set, Nat.reduceEqDiff, reduceIte, lenOfAV_slice, lenOfAV_nils, lenOfAV_empty, cellAt, cellsAt, mapLenAt, lookAt, mapSetAt, mapDelAt, List.map_cons, List.map_nil, Option.map_some, Option.map_none, List.nil_append, List.append_nil, abin_add, abin_sub, abin_mul, abin_lss, abin_leq, abin_gtr, abin_geq, abin_eql, abin_neq, abin_eqlS, abin_neqS, cond_true, cond_false, decide_true, decide_false, Bool.not_true, Bool.not_false, TI.agg, List.getElem?_cons_zero, List.getElem?_cons_succ, Nat.add_zero, Nat.zero_add, Nat.zero_mul, nbeq, nble, nblt, Nat.reduceLeDiff, Nat.reduceLT, Nat.reduceMul, Nat.reduceAdd, Nat.reduceSub, Bool.and_true, Bool.true_and, Bool.and_false, Bool.false_and, List.length_cons, List.length_nil, List.set_cons_zero, List.set_cons_succ, AH.get_set, AH.next_set, eq_self, Int.ofNat_eq_natCast, Int.cast_ofNat_Int, Int.natCast_zero, Int.reduceEq, Int.reduceLT, Int.reduceLE, Int.reduceNeg, ld2, st2, ld3, st3, ld4, st4, ld5, st5, al9, ld9, st9, al22, ix22, bs22, ld22, ne22a, eq22a, ne22b, eq22b, ne22c, eq22c, st22, al23, ix23, bs23, ld23, ne23a, eq23a, ne23b, eq23b, ne23c, eq23c, st23, ld27, st27, al29, ix29, bs29, ld29, ne29a, eq29a, ne29b, eq29b, ne29c, eq29c, st29, fa31_0, fa31_1, ld31, fa33_0, fa33_1, fa33_2, ld33, al40, ix40, bs40, ld40, ne40a, eq40a, ne40b, eq40b, ne40c, eq40c, st40, ld44, ne44a, eq44a, ne44b, eq44b, st44, fa58_0, fa58_1, ld58, fa71_0, fa71_1, ld71, ld110, st110, ld114, st114, ld127, st127, al174, ix174, bs174, ld174, ne174a, eq174a, ne174b, eq174b, ne174c, eq174c, st174, cv3_127, cv127_3, g0, g3, g5, p5, tk1_4] <;> rfl); kernel_rfl) | (with_reducible refine good_ofG (by with_unfolding_all rfl) (by simp only [g0, g3, g5, p5, tk1_4, PT.get_set, Nat.reduceEqDiff, reduceIte] <;> rfl) ?_ ?_ ?_ 1; rotate_left 2; (simp only [evOp_move, evOp_assign, evOp_pick, evOp_build, evOp_nilCheck, evOp_binOp, evOp_not, evOp_fieldAddr, evOp_field, evOp_indexAddr, evOp_index, evOp_extract, evOp_makeFunc, evOp_load, evOp_lookup, evOp_store, evOp_mapUpdate, evOp_insert, evOp_range, evOp_makeMap, evOp_len, evOp_append, evOp_copy, evOp_delete, evOp_slice, evOp_convert, evOp_entry, evOp_boxC, boxC_one, boxC_agg, evOp_cap, rangeMapAt, storeAt, one_bool, one_int, one_str, one_nilp, one_ptr, one_nils, one_slice, one_empty, one_nilm, one_map, one_func, one_nilf, one_iface, one_nili, aeval, ofVal, PT.get_set, Nat.reduceEqDiff, reduceIte, lenOfAV_slice, lenOfAV_nils, lenOfAV_empty, cellAt, cellsAt, mapLenAt, lookAt, mapSetAt, mapDelAt, List.map_cons, List.map_nil, Option.map_some, Option.map_none, List.nil_append, List.append_nil, abin_add, abin_sub, abin_mul, abin_lss, abin_leq, abin_gtr, abin_geq, abin_eql, abin_neq, abin_eqlS, abin_neqS, cond_true, cond_false, decide_true, decide_false, Bool.not_true, Bool.not_false, TI.agg, List.getElem?_cons_zero, List.getElem?_cons_succ, Nat.add_zero, Nat.zero_add, Nat.zero_mul, nbeq, nble, nblt, Nat.reduceLeDiff, Nat.reduceLT, Nat.reduceMul, Nat.reduceAdd, Nat.reduceSub, Bool.and_true, Bool.true_and, Bool.and_false, Bool.false_and, List.length_cons, List.length_nil, List.set_cons_zero, List.set_cons_succ, AH.get_set, AH.next_set, eq_self, Int.ofNat_eq_natCast, Int.cast_ofNat_Int, Int.natCast_zero, Int.reduceEq, Int.reduceLT, Int.reduceLE, Int.reduceNeg, ld2, st2, ld3, st3, ld4, st4, ld5, st5, al9, ld9, st9, al22, ix22, bs22, ld22, ne22a, eq22a, ne22b, eq22b, ne22c, eq22c, st22, al23, ix23, bs23, ld23, ne23a, eq23a, ne23b, eq23b, ne23c, eq23c, st23, ld27, st27, al29, ix29, bs29, ld29, ne29a, eq29a, ne29b, eq29b, ne29c, eq29c, st29, fa31_0, fa31_1, ld31, fa33_0, fa33_1, fa33_2, ld33, al40, ix40, bs40, ld40, ne40a, eq40a, ne40b, eq40b, ne40c, eq40c, st40, ld44, ne44a, eq44a, ne44b, eq44b, st44, fa58_0, fa58_1, ld58, fa71_0, fa71_1, ld71, ld110, st110, ld114, st114, ld127, st127, al174, ix174, bs174, ld174, ne174a, eq174a, ne174b, eq174b, ne174c, eq174c, st174, cv3_127, cv127_3, g0, g3, g5, p5, tk1_4] <;> rfl); (first | rfl | decide | assumption); kernel_rfl) | fail "stop")
    with_reducible repeat' (first
 | refine AW.seq ?_
 | refine AW.region ?_
 | refine andThen_normal ?_
 | refine DN.nil tOK ?_
 | ((first
 | refine DN.fl1E (by with_unfolding_all rfl) (by with_unfolding_all rfl) ?_
 | refine DN.rd1E (by kernel_rfl) (by with_unfolding_all rfl) ?_
 ); refine Step.mk (by simp only [evOp_assign, evOp_build, evOp_append, aeval, PT.get_set, Nat.reduceEqDiff, reduceIte, List.map_cons, List.map_nil, Option.map_some, nblt, eq_self, hbd, bsf, hap2]; rfl) ?_; refine Same.mk ?_)
 | ((first
 | refine AOs.op1E tOK (by with_unfolding_all rfl) ?_
 | refine DN.actE tOK (by kernel_rfl) (by with_unfolding_all rfl) (by with_unfolding_all rfl) ?_
 ); refine Step.mk (by simp only [evOp_move, evOp_append, aeval, PT.get_set, Nat.reduceEqDiff, reduceIte, List.map_cons, List.map_nil, eq_self, bsf, hap2]; rfl) ?_)
 | fail "stop")
    have k7' : ∀ b y, L.get b = some y → K7.get b = some y := fun b y hy => k7 b y (wf1 b y hy) (s6 _ _ (k5 _ _ (kn _ _ (k3' b y hy))))
    refine AOs.wf0 fun wf7 => ?_
    obtain ⟨Y2, hsY2, lY2, rY2, oY2, gY2⟩ := (hv7.keep k7' (by omega)).rows
    obtain ⟨w9, K8, hap3, hA8, n8, k8⟩ := acc_more wf7 (by omega) hA7 hsY2 lY2 rY2 oY2 gY2 (by simp; omega)
    with_reducible repeat' (first
 | refine AOs.nil ?_
 | refine AW.ret ?_
 | refine andThen_normal ?_
 | ((first
 | refine AOs.op1E tOK (by with_unfolding_all rfl) ?_
 ); refine Step.mk (by simp only [evOp_assign, evOp_append, aeval, PT.get_set, Nat.reduceEqDiff, reduceIte, List.map_cons, List.map_nil, eq_self, g6, hap3]; rfl) ?_)
 | fail "stop")
    refine fnPost_ret1 (by first | (simp only [PT.get_set, Nat.reduceEqDiff, reduceIte]; rfl) | simp only [PT.get_set, Nat.reduceEqDiff, reduceIte]) ⟨?_, fun k y hy => k8 k y (wf1 _ _ (s1 _ _ hy)) (k7' _ _ (s1 _ _ hy)), by omega⟩
    rw [hone, if_neg (by decide)]
    exact hA8.low (by omega)
end Go.Proofs.YtapokkpdgfpokaaGreat

open Go Go.AB Go.Proofs
namespace Go.Proofs.YtapokkpdgfpokaaGreat
set_option maxRecDepth 100000

theorem splice_0 {vs : List AV} {p : Nat} {x a b : AV} (h1 : vs[p + 1]? = some a) (h2 : vs[p + 2]? = some b) : splice vs p [x] = splice vs p [x, a, b] := by
  unfold splice
  have e1 := drop_cons h1
  have e2 := drop_cons h2
  simp only [List.length_cons, List.length_nil, Nat.zero_add]
  rw [e1, show p + 1 + 1 = p + 2 from rfl, e2]
  simp
theorem store_lab {K : AH} {b i : Nat} {X : List (List AV)} {u lu : AV} {r : Rs} (hb : K.get b = some (.cells false X.flatten)) (h3 : R3 X) (hx : X[i]? = some (rsC u r)) (ho : lu.one = true) : astore tC K 29 (.ptr b (i * 3)) lu = some (K.set b (.cells false (X.set i (rsC lu r)).flatten)) := by
  have hlt := (List.getElem?_eq_some_iff.1 hx).1
  have hg := flat_get h3 hx
  have c1 := get_of_take hg (j := 1) (x := .int .i64 r.2.1) rfl
  have c2 := get_of_take hg (j := 2) (x := .bool r.2.2) rfl
  have hl : i * 3 < X.flatten.length := by rw [flat_len h3]; omega
  rw [st29 _ _ _ _ ho]
  simp only [storeAt, hb, hl, if_true]
  rw [← splice_one _ _ _ hl, splice_0 c1 c2]
  rw [show [lu, .int .i64 r.2.1, .bool r.2.2] = rsC lu r from rfl, flat_set h3 rfl (str_rsC _ _) hlt]

set_option maxHeartbeats 8000000 in
theorem apply12 (N : Nat) (H : AH) {v u : AV} {a : List Rs} {l : List Ch} (hv : VecAt H v a) (hu : ChsAt H u l) (hsa : ∀ r ∈ a, Short r.1) (hsl : ∀ r ∈ l, Short r.1) (hl : l.length ≤ 10000) :
    AC tC N 0 12 [v, u] H fun r K => ∃ w, r = .tuple [w, .int .i64 (applyE a l)] ∧ VecAt K w (applyM a l) ∧ H.next ≤ K.next ∧ ∀ b y, H.get b = some y → K.get b = some y := by
  refine AC.wf0 fun hwf => ?_
  refine AC.by (n := 66) (rs := [.tmp 4, .tmp 5]) tOK fn12 rfl rfl rfl rfl ?_
  have e0 : (PT.ofList .leaf 0 [v, u]).get 0 = some v := rfl
  have e1 : (PT.ofList .leaf 0 [v, u]).get 1 = some u := rfl
  have nilV : ∀ K, VecAt K .nils [] := fun K => .inl ⟨rfl, rfl, rfl⟩
  have hln := hu.len
  with_reducible repeat' (first
 | refine AW.seq ?_
 | refine AW.region ?_
 | refine AOs.nil ?_
 | refine andThen_normal ?_
 | ((first
 | refine AOs.op1E tOK (by with_unfolding_all rfl) ?_
 ); refine Step.mk (by simp only [evOp_move, evOp_assign, aeval, ofVal, PT.get_set, Nat.reduceEqDiff, reduceIte, e0]; rfl) ?_)
 | fail "stop")
  refine AOs.callQ tOK (fs := []) (cs := []) rfl fn37 ok37 rfl (by simp only [List.map_cons, List.map_nil, List.nil_append, List.append_nil, aeval, PT.get_set, Nat.reduceEqDiff, reduceIte] <;> rfl) (vector37 N H hv hsa) ?_
  rintro r K ⟨rfl, rfl⟩
  unfold applyM applyE
  by_cases h1 : vecM a = 0
  case neg =>
    have d1 : decide (vecM a = 0) = false := decide_eq_false h1
    rw [if_pos h1, if_pos h1]
    with_reducible repeat' (first
 | refine AW.seq ?_
 | refine AW.region ?_
 | refine AOs.nil ?_
 | refine AW.ret ?_
 | refine andThen_normal ?_
 | refine andThen_ret ?_
 | refine AW.condT (by simp only [aeval, PT.get_set, Nat.reduceEqDiff, reduceIte]; rfl) (by first | rfl | decide | assumption) ?_
 | ((first
 | refine AOs.op1E tOK (by with_unfolding_all rfl) ?_
 ); refine Step.mk (by simp only [evOp_move, evOp_assign, evOp_binOp, aeval, ofVal, PT.get_set, Nat.reduceEqDiff, reduceIte, Option.map_some, abin_neq, Bool.not_false, eq_self, d1]; rfl) ?_)
 | fail "stop")
    exact fnPost_ret2 (by first | (simp only [PT.get_set, Nat.reduceEqDiff, reduceIte]; rfl) | simp only [PT.get_set, Nat.reduceEqDiff, reduceIte]) (by first | (simp only [PT.get_set, Nat.reduceEqDiff, reduceIte]; rfl) | simp only [PT.get_set, Nat.reduceEqDiff, reduceIte]) ⟨_, rfl, nilV _, Nat.le_refl _, fun _ _ h => h⟩
  have d1 : decide (vecM a = 0) = true := decide_eq_true h1
  rw [if_neg (by omega)]
  have ⟨la, oa⟩ := vecM_zero h1
  with_reducible repeat' (first
 | refine AW.seq ?_
 | refine AW.region ?_
 | refine AW.block ?_
 | refine AOs.nil ?_
 | refine AW.skip ?_
 | refine andThen_normal ?_
 | refine AW.condF (by simp only [aeval, PT.get_set, Nat.reduceEqDiff, reduceIte]; rfl) (by first | rfl | decide | assumption) ?_
 | ((first
 | refine AOs.op1E tOK (by with_unfolding_all rfl) ?_
 ); refine Step.mk (by simp only [evOp_move, evOp_assign, evOp_binOp, aeval, ofVal, PT.get_set, Nat.reduceEqDiff, reduceIte, Option.map_some, abin_neq, Bool.not_true, eq_self, d1]; rfl) ?_)
 | fail "stop")
  refine AW.loop (fun m T L => L = K ∧ T.get 0 = some v ∧ T.get 1 = some u ∧ ∃ i : Nat, i ≤ l.length ∧ m = l.length - i ∧ T.get 7 = some (.int .i64 (i : Nat)) ∧ firstM l = firstM (l.drop i)) ?_ (l.length - 0)
    ⟨rfl, by simp [PT.get_set, e0], by simp [PT.get_set, e1], 0, by omega, rfl, by simp [PT.get_set], by simp⟩
  rintro m T L ⟨rfl, g0, g1, i, hi, rfl, g7, hf⟩
  have wi : i < l.length → IntKind.i64.wrap (((i : Nat) : Int) + 1) = ((i + 1 : Nat) : Int) := fun h => wrap64_succ (by omega)
  by_cases hil : i < l.length
  · have hd := lt_int hil
    obtain ⟨x, hx⟩ : ∃ x, l[i]? = some x := ⟨_, List.getElem?_eq_getElem hil⟩
    obtain ⟨ab, ao, ac, aro, avs, xu, rfl, ag, hxu, ax, _⟩ := hu.at hx
    have t4l : (chC xu x).length = 4 := rfl
    have hf2 := hf.trans (firstM_drop hx)
    with_reducible repeat' (first
 | refine AW.seq ?_
 | refine AW.region ?_
 | refine AW.block ?_
 | refine AOs.nil ?_
 | refine AW.skip ?_
 | refine andThen_normal ?_
 | refine AW.condT (by simp only [aeval, PT.get_set, Nat.reduceEqDiff, reduceIte]; rfl) (by first | rfl | decide | assumption) ?_
 | ((first
 | refine AOs.op1E tOK (by with_unfolding_all rfl) ?_
 ); refine Step.mk (by simp only [evOp_move, evOp_binOp, evOp_indexAddr, evOp_load, evOp_len, aeval, PT.get_set, Nat.reduceEqDiff, reduceIte, cellsAt, Option.map_some, abin_lss, cond_true, decide_true, nbeq, eq_self, al23, ix23, ld33, g1, g7, hln, hd, hil, ag, ax, t4l]; rfl) ?_)
 | fail "stop")
    refine AOs.callQ tOK (fs := []) (cs := []) rfl fn10 ok10 rfl (by simp only [List.map_cons, List.map_nil, List.nil_append, List.append_nil, aeval, PT.get_set, Nat.reduceEqDiff, reduceIte] <;> rfl) (change10 N L hxu (hsl x (List.mem_of_getElem? hx))) ?_
    rintro r K2 ⟨rfl, rfl⟩
    by_cases hc : chgM x = 0
    · have d2 : decide (chgM x = 0) = true := decide_eq_true hc
      rw [if_neg (by omega)] at hf2
      with_reducible repeat' (first
 | refine AW.seq ?_
 | refine AW.region ?_
 | refine AOs.nil ?_
 | refine AW.skip ?_
 | refine andThen_normal ?_
 | refine inBlock_normal ?_
 | refine AW.condF (by simp only [aeval, PT.get_set, Nat.reduceEqDiff, reduceIte]; rfl) (by first | rfl | decide | assumption) ?_
 | ((first
 | refine AOs.op1E tOK (by with_unfolding_all rfl) ?_
 ); refine Step.mk (by simp only [evOp_move, evOp_assign, evOp_binOp, aeval, ofVal, PT.get_set, Nat.reduceEqDiff, reduceIte, Option.map_some, abin_add, abin_neq, Bool.not_true, eq_self, g7, d2, wi hil]; rfl) ?_)
 | fail "stop")
      exact ⟨l.length - (i + 1), by omega, rfl, by simp only [PT.get_set, Nat.reduceEqDiff, reduceIte, g0], by simp only [PT.get_set, Nat.reduceEqDiff, reduceIte, g1], i + 1, by omega, rfl, (by first | (simp only [PT.get_set, Nat.reduceEqDiff, reduceIte]; rfl) | simp only [PT.get_set, Nat.reduceEqDiff, reduceIte]), hf2⟩
    · have d2 : decide (chgM x = 0) = false := decide_eq_false hc
      rw [if_pos hc] at hf2
      rw [hf2, if_pos hc, if_pos hc]
      with_reducible repeat' (first
 | refine AW.seq ?_
 | refine AW.region ?_
 | refine AOs.nil ?_
 | refine AW.ret ?_
 | refine andThen_normal ?_
 | refine andThen_ret ?_
 | refine inBlock_ret ?_
 | refine AW.condT (by simp only [aeval, PT.get_set, Nat.reduceEqDiff, reduceIte]; rfl) (by first | rfl | decide | assumption) ?_
 | ((first
 | refine AOs.op1E tOK (by with_unfolding_all rfl) ?_
 ); refine Step.mk (by simp only [evOp_move, evOp_assign, evOp_binOp, aeval, ofVal, PT.get_set, Nat.reduceEqDiff, reduceIte, Option.map_some, abin_neq, Bool.not_false, eq_self, d2]; rfl) ?_)
 | fail "stop")
      exact fnPost_ret2 (by first | (simp only [PT.get_set, Nat.reduceEqDiff, reduceIte]; rfl) | simp only [PT.get_set, Nat.reduceEqDiff, reduceIte]) (by first | (simp only [PT.get_set, Nat.reduceEqDiff, reduceIte]; rfl) | simp only [PT.get_set, Nat.reduceEqDiff, reduceIte]) ⟨_, rfl, nilV _, Nat.le_refl _, fun _ _ h => h⟩
  have hd := nlt_int hil
  obtain rfl : i = l.length := by omega
  rw [List.drop_length] at hf
  have h2 : firstM l = 0 := hf
  rw [if_neg (show ¬ firstM l ≠ 0 by omega)]
  have hfo := fun i => foldM_ok (l := l) (okVec_all oa) (okVec_rise oa).1 (firstM_zero h2) i
  have hA2 := acc_new (H := L) (n0 := L.next) (Nat.le_refl _)
  have wf2 : WF (L.alloc (.cells false [])) := wf_alloc hwf _
  have s2 := stay_alloc hwf (.cells false [])
  have hbs : ∀ (F : Fns) (ev : Operand → AV) (dst : Option Tmp) (ty : TypeId) (pos : String) (after : Array Edge) (guard : Option (Nat × Bool)), evOp tC F L ev { dst, op := .buildSlice 22 0 ⟨[]⟩, type := ty, pos, after, guard } = some (.slice L.next 0 0 (.ex 0) 3, L.alloc (.cells false [])) := fun F ev dst ty pos after guard => bs22 F L ev dst ty pos after guard
  generalize hK2 : L.alloc (.cells false []) = K2 at hA2 wf2 s2 hbs
  have n2 : K2.next = L.next + 1 := by rw [← hK2]; rfl
  obtain ⟨Y, hsY, lY, rY, oY, gY⟩ := (hv.keep s2 (by omega)).rows
  obtain ⟨w8, K3, hap, hA3, n3, k3⟩ := acc_more wf2 (by omega) hA2 hsY lY rY oY gY (by simp; omega)
  rw [List.nil_append] at hA3
  have k3' : ∀ b y, L.get b = some y → K3.get b = some y := fun b y hy => k3 b y (hwf b y hy) (s2 b y hy)
  with_reducible repeat' (first
 | refine AW.seq ?_
 | refine AW.region ?_
 | refine AW.block ?_
 | refine AOs.nil ?_
 | refine AW.exit ?_
 | refine andThen_normal ?_
 | refine andThen_exit ?_
 | refine inBlock_hit ?_
 | refine AW.condF (by simp only [aeval, PT.get_set, Nat.reduceEqDiff, reduceIte]; rfl) (by first | rfl | decide | assumption) ?_
 | ((first
 | refine AOs.op1E tOK (by with_unfolding_all rfl) ?_
 ); refine Step.mk (by simp only [evOp_move, evOp_assign, evOp_binOp, evOp_len, evOp_append, aeval, ofVal, PT.get_set, Nat.reduceEqDiff, reduceIte, List.map_cons, List.map_nil, Option.map_some, abin_lss, eq_self, al23, g0, g1, g7, hln, hd, hbs, hap]; rfl) ?_)
 | fail "stop")
  obtain ⟨wb, wc, WX, ew8, hA3'⟩ := hA3
  have lw8 : lenOfAV w8 = some a.length := by rw [ew8]; rfl
  have hA3 : AccV L.next K3 w8 a := ⟨wb, wc, WX, ew8, hA3'⟩
  refine AW.loop (fun m T M => (∀ b y, L.get b = some y → M.get b = some y) ∧ L.next ≤ M.next ∧ T.get 1 = some u ∧ T.get 8 = some w8 ∧ AccV L.next M w8 a ∧ ∃ i : Nat, i ≤ a.length ∧ m = a.length - i ∧ T.get 9 = some (.int .i64 (i : Nat))) ?_ (a.length - 0)
    ⟨k3', by omega, by simp only [PT.get_set, Nat.reduceEqDiff, reduceIte, g1], by simp [PT.get_set], hA3, 0, by omega, rfl, by simp [PT.get_set]⟩
  rintro m T M ⟨hk, hn, g1, g8, hA, i, hi, rfl, g9⟩
  refine AW.wf0 fun wfM => ?_
  by_cases hia : i < a.length
  · have hd := lt_int hia
    obtain ⟨b, c, X, ew, q1, q2, q3, q4, q5, q6⟩ := hA
    obtain ⟨r, hr⟩ : ∃ r, a[i]? = some r := ⟨_, List.getElem?_eq_getElem hia⟩
    obtain ⟨ru, hru, hlab⟩ := q6 i r hr
    have wfn : WF (M.alloc (.cells false [])) := wf_alloc wfM _
    have kn : ∀ b y, M.get b = some y → (M.alloc (.cells false [])).get b = some y := stay_alloc wfM _
    have nn : (M.alloc (.cells false [])).next = M.next + 1 := rfl
    have hlr : r.1.length ≤ 1000000 := by have := right_len (okVec_all oa r (List.mem_of_getElem? hr)); omega
    obtain ⟨lu, M2, hap1, hlu, m2, k2, wfM2⟩ := labs_append (b := M.next) wfn (hlab.keep (KS.of kn (by omega))) hlr
    have bgn := kn _ _ q2
    have bg2 := k2 _ _ bgn
    have hcell : X.flatten[i * 3]? = some ru := get_of_take (flat_get q3 hru) (j := 0) (x := ru) rfl
    have hst := store_lab bg2 q3 hru hlu.one
    generalize hM3 : M2.set b (.cells false (X.set i (rsC lu r)).flatten) = M3 at hst
    have k4 : ∀ k y, k ≠ b → M2.get k = some y → M3.get k = some y := fun k y hk hy => by rw [← hM3, AH.get_set, if_neg hk]; exact hy
    have m3 : M3.next = M2.next := by rw [← hM3]; rfl
    have hks := ks_rows bg2 q3 k4 (by omega)
    have wi : IntKind.i64.wrap (((i : Nat) : Int) + 1) = ((i + 1 : Nat) : Int) := wrap64_succ (by omega)
    have ixw : ∀ k, aindexAddr tC 22 w8 (.int k (i : Nat)) = some (.ptr b (i * 3)) := fun k => by rw [ew, ix22 b 0 a.length 3 i c k hia, Nat.zero_add]
    with_reducible repeat' (first
 | refine AW.seq ?_
 | refine AW.region ?_
 | refine AW.block ?_
 | refine AOs.nil ?_
 | refine AW.skip ?_
 | refine andThen_normal ?_
 | refine inBlock_normal ?_
 | refine AW.condT (by simp only [aeval, PT.get_set, Nat.reduceEqDiff, reduceIte]; rfl) (by first | rfl | decide | assumption) ?_
 | ((first
 | refine AOs.op1E tOK (by with_unfolding_all rfl) ?_
 | refine AOs.op0E tOK ?_
 ); refine Step.mk (by simp only [evOp_move, evOp_assign, evOp_binOp, evOp_fieldAddr, evOp_indexAddr, evOp_load, evOp_store, evOp_len, evOp_append, aeval, ofVal, PT.get_set, Nat.reduceEqDiff, reduceIte, cellAt, List.map_cons, List.map_nil, Option.map_some, abin_add, abin_lss, Nat.add_zero, eq_self, al22, bs29, ld29, fa58_0, g8, g9, lw8, hd, ixw, bgn, hcell, hap1, hst, wi]; rfl) ?_)
 | fail "stop")
    refine ⟨a.length - (i + 1), by omega, fun k y hy => k4 k y (by have := hwf k y hy; omega) (k2 _ _ (kn _ _ (hk _ _ hy))), by omega, by simp only [PT.get_set, Nat.reduceEqDiff, reduceIte, g1], by simp only [PT.get_set, Nat.reduceEqDiff, reduceIte, g8], ⟨b, c, _, ew, q1, by rw [← hM3, AH.get_set, if_pos rfl], q3.set _ rfl (str_rsC _ _), by rw [List.length_set]; exact q4, q5, fun j s hj => ?_⟩, i + 1, by omega, rfl, (by first | (simp only [PT.get_set, Nat.reduceEqDiff, reduceIte]; rfl) | simp only [PT.get_set, Nat.reduceEqDiff, reduceIte])⟩
    by_cases e : i = j
    · subst e
      rw [hr] at hj; cases hj
      exact ⟨lu, by rw [List.getElem?_set_self (by omega)], hlu.keep hks⟩
    · obtain ⟨u2, t1, t2⟩ := q6 j s hj
      exact ⟨u2, by rw [List.getElem?_set_ne e]; exact t1, ((t2.keep (KS.of kn (by omega))).keep (KS.of k2 m2)).keep hks⟩
  have hd := nlt_int hia
  with_reducible repeat' (first
 | refine AW.seq ?_
 | refine AW.region ?_
 | refine AW.block ?_
 | refine AOs.nil ?_
 | refine AW.exit ?_
 | refine andThen_normal ?_
 | refine andThen_exit ?_
 | refine inBlock_hit ?_
 | refine AW.condF (by simp only [aeval, PT.get_set, Nat.reduceEqDiff, reduceIte]; rfl) (by first | rfl | decide | assumption) ?_
 | ((first
 | refine AOs.op1E tOK (by with_unfolding_all rfl) ?_
 ); refine Step.mk (by simp only [evOp_move, evOp_assign, evOp_binOp, evOp_len, aeval, ofVal, PT.get_set, Nat.reduceEqDiff, reduceIte, Option.map_some, abin_lss, eq_self, al22, g8, g9, lw8, hd]; rfl) ?_)
 | fail "stop")
  refine AW.loop (fun m T M => (∀ b y, L.get b = some y → M.get b = some y) ∧ L.next ≤ M.next ∧ T.get 1 = some u ∧ ∃ (i : Nat) (w : AV), i ≤ l.length ∧ m = l.length - i ∧ T.get 10 = some (.int .i64 (i : Nat)) ∧ T.get 8 = some w ∧ AccV L.next M w (foldM a (l.take i))) ?_ (l.length - 0)
    ⟨hk, hn, by simp only [PT.get_set, Nat.reduceEqDiff, reduceIte, g1], 0, w8, by omega, rfl, by simp [PT.get_set], by simp only [PT.get_set, Nat.reduceEqDiff, reduceIte, g8], hA⟩
  rintro m T M ⟨hk, hn, g1, i, w, hi, rfl, g10, g8, hA⟩
  refine AW.wf0 fun wfM => ?_
  obtain ⟨f1, f2, f3⟩ := hfo i
  by_cases hil : i < l.length
  · have hd := lt_int hil
    obtain ⟨x, hx⟩ : ∃ x, l[i]? = some x := ⟨_, List.getElem?_eq_getElem hil⟩
    have hxc := firstM_zero h2 x (List.mem_of_getElem? hx)
    obtain ⟨ab, ao, ac, aro, avs, xu, rfl, ag, hxu, ax, _⟩ := (hu.keep hk hn).at hx
    have t4l : (chC xu x).length = 4 := rfl
    have wi : IntKind.i64.wrap (((i : Nat) : Int) + 1) = ((i + 1 : Nat) : Int) := wrap64_succ (by omega)
    with_reducible repeat' (first
 | refine AW.seq ?_
 | refine AW.region ?_
 | refine AW.block ?_
 | refine AOs.nil ?_
 | refine AW.skip ?_
 | refine andThen_normal ?_
 | refine AW.condT (by simp only [aeval, PT.get_set, Nat.reduceEqDiff, reduceIte]; rfl) (by first | rfl | decide | assumption) ?_
 | ((first
 | refine AOs.op1E tOK (by with_unfolding_all rfl) ?_
 ); refine Step.mk (by simp only [evOp_move, evOp_binOp, evOp_indexAddr, evOp_load, evOp_len, aeval, PT.get_set, Nat.reduceEqDiff, reduceIte, cellsAt, Option.map_some, abin_lss, cond_true, decide_true, nbeq, eq_self, al23, ix23, ld33, g1, g8, g10, hln, hd, hil, ag, ax, t4l]; rfl) ?_)
 | fail "stop")
    refine AOs.callQ tOK (fs := []) (cs := []) rfl fn38 ok38 rfl (by simp only [List.map_cons, List.map_nil, List.nil_append, List.append_nil, aeval, PT.get_set, Nat.reduceEqDiff, reduceIte] <;> rfl) (one38 N M hA hxu (chgM_zero hxc).1 f1 (by omega)) ?_
    rintro w2 M2 ⟨hA2, k2, m2⟩
    with_reducible repeat' (first
 | refine AW.region ?_
 | refine AOs.nil ?_
 | refine andThen_normal ?_
 | refine inBlock_normal ?_
 | ((first
 | refine AOs.op1E tOK (by with_unfolding_all rfl) ?_
 ); refine Step.mk (by simp only [evOp_move, evOp_assign, evOp_binOp, aeval, ofVal, PT.get_set, Nat.reduceEqDiff, reduceIte, Option.map_some, abin_add, eq_self, g10, wi]; rfl) ?_)
 | fail "stop")
    exact ⟨l.length - (i + 1), by omega, fun b y hy => k2 b y (hk _ _ hy), by omega, by simp only [PT.get_set, Nat.reduceEqDiff, reduceIte, g1], i + 1, w2, by omega, rfl, (by first | (simp only [PT.get_set, Nat.reduceEqDiff, reduceIte]; rfl) | simp only [PT.get_set, Nat.reduceEqDiff, reduceIte]), (by first | (simp only [PT.get_set, Nat.reduceEqDiff, reduceIte]; rfl) | simp only [PT.get_set, Nat.reduceEqDiff, reduceIte]), by rw [foldM_take hx]; exact hA2.low (by omega)⟩
  · have hd := nlt_int hil
    obtain rfl : i = l.length := by omega
    rw [List.take_length] at hA f3
    have hw := hA.vecW.vec
    have lw := hw.len
    by_cases h4 : 4096 < (foldM a l).length
    · have d4 : decide ((4096 : Int) < (((foldM a l).length : Nat) : Int)) = true := decide_eq_true (by omega)
      rw [if_pos h4, if_pos (by decide)]
      with_reducible repeat' (first
 | refine AW.seq ?_
 | refine AW.region ?_
 | refine AOs.nil ?_
 | refine AW.exit ?_
 | refine AW.ret ?_
 | refine andThen_normal ?_
 | refine andThen_exit ?_
 | refine andThen_ret ?_
 | refine inBlock_hit ?_
 | refine AW.condT (by simp only [aeval, PT.get_set, Nat.reduceEqDiff, reduceIte]; rfl) (by first | rfl | decide | assumption) ?_
 | refine AW.condF (by simp only [aeval, PT.get_set, Nat.reduceEqDiff, reduceIte]; rfl) (by first | rfl | decide | assumption) ?_
 | ((first
 | refine AOs.op1E tOK (by with_unfolding_all rfl) ?_
 ); refine Step.mk (by simp only [evOp_move, evOp_assign, evOp_binOp, evOp_len, aeval, ofVal, PT.get_set, Nat.reduceEqDiff, reduceIte, Option.map_some, abin_lss, abin_gtr, eq_self, al22, al23, g1, g8, g10, hln, hd, lw, d4]; rfl) ?_)
 | fail "stop")
      exact fnPost_ret2 (by first | (simp only [PT.get_set, Nat.reduceEqDiff, reduceIte]; rfl) | simp only [PT.get_set, Nat.reduceEqDiff, reduceIte]) (by first | (simp only [PT.get_set, Nat.reduceEqDiff, reduceIte]; rfl) | simp only [PT.get_set, Nat.reduceEqDiff, reduceIte]) ⟨_, rfl, nilV _, hn, hk⟩
    · have d4 : decide ((4096 : Int) < (((foldM a l).length : Nat) : Int)) = false := decide_eq_false (by omega)
      rw [if_neg h4, if_neg (by decide)]
      with_reducible repeat' (first
 | refine AW.seq ?_
 | refine AW.region ?_
 | refine AOs.nil ?_
 | refine AW.skip ?_
 | refine AW.exit ?_
 | refine AW.ret ?_
 | refine andThen_normal ?_
 | refine andThen_exit ?_
 | refine inBlock_hit ?_
 | refine AW.condF (by simp only [aeval, PT.get_set, Nat.reduceEqDiff, reduceIte]; rfl) (by first | rfl | decide | assumption) ?_
 | ((first
 | refine AOs.op1E tOK (by with_unfolding_all rfl) ?_
 ); refine Step.mk (by simp only [evOp_move, evOp_assign, evOp_binOp, evOp_len, aeval, ofVal, PT.get_set, Nat.reduceEqDiff, reduceIte, Option.map_some, abin_lss, abin_gtr, eq_self, al22, al23, g1, g8, g10, hln, hd, lw, d4]; rfl) ?_)
 | fail "stop")
      exact fnPost_ret2 (by first | (simp only [PT.get_set, Nat.reduceEqDiff, reduceIte]; rfl) | simp only [PT.get_set, Nat.reduceEqDiff, reduceIte]) (by first | (simp only [PT.get_set, Nat.reduceEqDiff, reduceIte]; rfl) | simp only [PT.get_set, Nat.reduceEqDiff, reduceIte]) ⟨_, rfl, hw, hn, hk⟩
end Go.Proofs.YtapokkpdgfpokaaGreat

open Go Go.AB Go.Proofs
namespace Go.Proofs.YtapokkpdgfpokaaGreat
set_option maxRecDepth 100000

theorem chs_one {H : AH} {uo : Nat} {vs : List AV} {l : List Ch} (h : ∀ (i : Nat) (r : Ch), l[i]? = some r → ∃ u, (vs.drop (uo + i * 4)).take 4 = chC u r ∧ LabelsAt H u r.1) : ∀ m, m ≤ l.length → ((vs.drop uo).take (m * 4)).length = m * 4 ∧ allOne ((vs.drop uo).take (m * 4)) = true
  | 0, _ => by simp [allOne]
  | m + 1, hm => by
    obtain ⟨i1, i2⟩ := chs_one h m (by omega)
    obtain ⟨u, e, hu⟩ := h m _ (List.getElem?_eq_getElem (by omega))
    have e2 : (vs.drop uo).take ((m + 1) * 4) = (vs.drop uo).take (m * 4) ++ (vs.drop (uo + m * 4)).take 4 := by
      rw [show (m + 1) * 4 = m * 4 + 4 by omega, List.take_add, List.drop_drop]
    rw [e2, e]
    constructor
    · rw [List.length_append, i1]; simp [chC]; omega
    · rw [allOne_app, i2]; simp [allOne, chC, hu.one, one_int, one_bool]
theorem chs_append {H : AH} {b : Nat} {u : AV} {l : List Ch} (hw : WF H) (h : ChsAt H u l) (hN : l.length ≤ 1000000) :
    ∃ v' H', aappend tC H [23, 23] [.slice b 0 0 (.ex 0) 4, u] = some (v', H') ∧ ChsAt H' v' l ∧ H.next ≤ H'.next ∧ (∀ b y, H.get b = some y → H'.get b = some y) := by
  obtain ⟨j, h1j, hs4, hb48, hz, hzk⟩ : ∃ j, tC.ti 33 = some j ∧ j.size = 4 ∧ j.bytes = 48 ∧ j.zero = some (.agg [.nils, .int .i64 0, .bool false, .bool false]) ∧ zOK j = true := ⟨_, ti33, rfl, rfl, rfl, by decide⟩
  have hzj : notJunk (AV.agg [.nils, .int .i64 0, .bool false, .bool false]) = true := rfl
  have hzl : (AV.agg [.nils, .int .i64 0, .bool false, .bool false]).cells.length = j.size := by rw [hs4]; rfl
  rcases h with ⟨rfl, h1, h2⟩ | ⟨ub, uo, uc, ro, vs, rfl, hb, hne, hl⟩
  · have hx : aappended tC H j 23 u = some (0, []) := by
      simp only [aappended, ti23]
      cases u <;> simp [lenOfAV, AV.one] at h1 h2
      all_goals first
        | (subst h1; simp [acells, lenOfAV, nbeq])
        | simp [acells, lenOfAV, nbeq]
    have := append_ex0 (C := tC) (b := b) ti23 rfl h1j hz hzj hzl (by omega) hx (by simp) rfl (by omega)
    rw [if_pos rfl, hs4] at this
    exact ⟨_, _, this, .inl ⟨rfl, rfl, rfl⟩, Nat.le_refl _, fun b y hy => hy⟩
  · obtain ⟨o1, o2⟩ := chs_one hl l.length (Nat.le_refl _)
    have hl0 : l.length ≠ 0 := fun e => hne (List.eq_nil_of_length_eq_zero e)
    have hx := aappended_z (C := tC) (H := H) (j := j) (xt := 23) (n := l.length) (z' := 4) (c := uc) (o := uo) (cs := (vs.drop uo).take (l.length * 4)) ti23 rfl hb (by rw [hs4]) (by rw [hs4]; exact o1)
    have := append_ex0 (C := tC) (b := b) ti23 rfl h1j hz hzj hzl (by omega) hx (by rw [hs4]; exact o1) o2 (by omega)
    rw [if_neg hl0, hs4] at this
    refine ⟨_, _, this, .inr ⟨H.next, 0, .lo l.length, false, _, rfl, by rw [AH.get_alloc, if_pos rfl], hne, fun i r hi => ?_⟩, by rw [AH.next_alloc]; omega, fun b y hy => stay_alloc hw _ b y hy⟩
    have hil := (List.getElem?_eq_some_iff.1 hi).1
    obtain ⟨u', e, hu'⟩ := hl i r hi
    refine ⟨u', ?_, hu'.keep (KS.of (stay_alloc hw _) (by simp))⟩
    rw [Nat.zero_add, ← e, List.drop_take, List.drop_drop, List.take_take, Nat.min_eq_left (by omega)]

/-! Bounds. -/
theorem changesM_len : ∀ (a b : List Rs), (changesM a b).length ≤ a.length + b.length ∧ ∀ c ∈ changesM a b, ∃ r, (r ∈ a ∨ r ∈ b) ∧ c.1 = r.1
  | [], [] => by simp [changesM]
  | [], s :: ss => by
    obtain ⟨h1, h2⟩ := changesM_len [] ss
    rw [changesM]
    refine ⟨by simp at h1 ⊢; omega, fun c hc => ?_⟩
    rcases List.mem_cons.1 hc with rfl | hc
    · exact ⟨s, .inr (List.mem_cons_self), rfl⟩
    · obtain ⟨r, hr, e⟩ := h2 c hc
      exact ⟨r, hr.imp id (List.mem_cons_of_mem _), e⟩
  | r :: rs, [] => by
    obtain ⟨h1, h2⟩ := changesM_len rs []
    rw [changesM]
    refine ⟨by simp at h1 ⊢; omega, fun c hc => ?_⟩
    rcases List.mem_cons.1 hc with rfl | hc
    · exact ⟨r, .inl (List.mem_cons_self), rfl⟩
    · obtain ⟨x, hr, e⟩ := h2 c hc
      exact ⟨x, hr.imp (List.mem_cons_of_mem _) id, e⟩
  | r :: rs, s :: ss => by
    obtain ⟨h1, h2⟩ := changesM_len rs (s :: ss)
    obtain ⟨h3, h4⟩ := changesM_len rs ss
    obtain ⟨h5, h6⟩ := changesM_len (r :: rs) ss
    rw [changesM]
    have p1 : ∀ c ∈ changesM rs (s :: ss), ∃ x, (x ∈ r :: rs ∨ x ∈ s :: ss) ∧ c.1 = x.1 := fun c hc => let ⟨x, hx, e⟩ := h2 c hc; ⟨x, hx.imp (List.mem_cons_of_mem _) id, e⟩
    have p2 : ∀ c ∈ changesM rs ss, ∃ x, (x ∈ r :: rs ∨ x ∈ s :: ss) ∧ c.1 = x.1 := fun c hc => let ⟨x, hx, e⟩ := h4 c hc; ⟨x, hx.imp (List.mem_cons_of_mem _) (List.mem_cons_of_mem _), e⟩
    have p3 : ∀ c ∈ changesM (r :: rs) ss, ∃ x, (x ∈ r :: rs ∨ x ∈ s :: ss) ∧ c.1 = x.1 := fun c hc => let ⟨x, hx, e⟩ := h6 c hc; ⟨x, hx.imp id (List.mem_cons_of_mem _), e⟩
    simp only [List.length_cons] at h1 h3 h5 ⊢
    split
    · refine ⟨by simp; omega, fun c hc => ?_⟩
      rcases List.mem_cons.1 hc with rfl | hc
      · exact ⟨r, .inl (List.mem_cons_self), rfl⟩
      · exact p1 c hc
    · split
      · split
        · exact ⟨by omega, p2⟩
        · refine ⟨by simp; omega, fun c hc => ?_⟩
          rcases List.mem_cons.1 hc with rfl | hc
          · exact ⟨s, .inr (List.mem_cons_self), rfl⟩
          · exact p2 c hc
      · refine ⟨by simp; omega, fun c hc => ?_⟩
        rcases List.mem_cons.1 hc with rfl | hc
        · exact ⟨s, .inr (List.mem_cons_self), rfl⟩
        · exact p3 c hc
termination_by a b => a.length + b.length
theorem diffM_len (a b : List Rs) : (diffM a b).length ≤ a.length + b.length ∧ ∀ c ∈ diffM a b, ∃ r, (r ∈ a ∨ r ∈ b) ∧ c.1 = r.1 := by
  unfold diffM
  split
  · exact ⟨by simp, fun c hc => by cases hc⟩
  · exact changesM_len a b
theorem applyM_len (a : List Rs) (l : List Ch) : (applyM a l).length ≤ 4096 ∧ ∀ r ∈ applyM a l, r.1.length ≤ 8 := by
  unfold applyM
  split
  · exact ⟨by simp, fun r hr => by cases hr⟩
  · rename_i h
    have hE : applyE a l = 0 := by omega
    unfold applyE at hE
    split at hE
    · rename_i h1; exact absurd hE h1
    · rename_i h1
      split at hE
      · rename_i h2; exact absurd hE h2
      · rename_i h2
        split at hE
        · cases hE
        · rename_i h3
          have ⟨la, oa⟩ := vecM_zero (show vecM a = 0 by omega)
          have := foldM_ok (l := l) (okVec_all oa) (okVec_rise oa).1 (firstM_zero (show firstM l = 0 by omega)) l.length
          rw [List.take_length] at this
          exact ⟨by omega, fun r hr => right_len (this.1 r hr)⟩

set_option maxHeartbeats 8000000 in
theorem law3 (N : Nat) (H : AH) {va vb vl : AV} {a b : List Rs} {l : List Ch} (ha : VecAt H va a) (hb : VecAt H vb b) (hl : ChsAt H vl l) (ca : capOK va) (cb : capOK vb) (hlives : ∀ K, AC tC N 0 6 [] K fun r K' => r = .bool true ∧ K' = K) :
    AC tC N 0 3 [va, vb, vl] H fun r _ => r = .bool true := by
  refine AC.wf0 fun hwf => ?_
  refine AC.by (n := 75) (rs := [.tmp 6]) tOK fn3 rfl rfl rfl rfl ?_
  have e0 : (PT.ofList .leaf 0 [va, vb, vl]).get 0 = some va := rfl
  have e1 : (PT.ofList .leaf 0 [va, vb, vl]).get 1 = some vb := rfl
  have e2 : (PT.ofList .leaf 0 [va, vb, vl]).get 2 = some vl := rfl
  have lla := hl.len
  with_reducible repeat' (first
 | refine AW.seq ?_
 | refine AW.region ?_
 | refine AOs.nil ?_
 | refine andThen_normal ?_
 | ((first
 | refine AOs.op1E tOK (by with_unfolding_all rfl) ?_
 ); refine Step.mk (by simp only [evOp_assign, aeval, ofVal]; rfl) ?_)
 | fail "stop")
  refine AOs.callQ tOK (fs := []) (cs := []) rfl fn6 ok6 rfl (by simp only [List.map_nil, List.append_nil] <;> rfl) (hlives _) ?_
  rintro r K1 ⟨rfl, rfl⟩
  with_reducible repeat' (first
 | refine AW.seq ?_
 | refine AW.region ?_
 | refine AOs.nil ?_
 | refine AW.skip ?_
 | refine andThen_normal ?_
 | refine AW.condF (by simp only [aeval, PT.get_set, Nat.reduceEqDiff, reduceIte]; rfl) (by first | rfl | decide | assumption) ?_
 | ((first
 | refine AOs.op1E tOK (by with_unfolding_all rfl) ?_
 ); refine Step.mk (by simp only [evOp_move, evOp_not, aeval, PT.get_set, Nat.reduceEqDiff, reduceIte, Bool.not_true, eq_self, e0]; rfl) ?_)
 | fail "stop")
  refine AOs.callQ tOK (fs := []) (cs := []) rfl fn7 ok7 rfl (by simp only [List.map_cons, List.map_nil, List.nil_append, List.append_nil, aeval, ofVal, PT.get_set, Nat.reduceEqDiff, reduceIte] <;> rfl) (light7 N K1 ha) ?_
  rintro r K2 ⟨⟨x, rfl, hxa⟩, rfl⟩
  cases x with
  | false =>
    with_reducible repeat' (first
 | refine AW.seq ?_
 | refine AW.region ?_
 | refine AOs.nil ?_
 | refine AW.ret ?_
 | refine andThen_normal ?_
 | refine andThen_ret ?_
 | refine AOs.guardF (by with_unfolding_all rfl) (by simp only [PT.get_set, Nat.reduceEqDiff, reduceIte]; rfl) (by first | rfl | decide | assumption) (by with_unfolding_all rfl) ?_
 | refine AW.condT (by simp only [aeval, PT.get_set, Nat.reduceEqDiff, reduceIte]; rfl) (by first | rfl | decide | assumption) ?_
 | ((first
 | refine AOs.op1E tOK (by with_unfolding_all rfl) ?_
 ); refine Step.mk (by simp only [evOp_move, evOp_assign, evOp_pick, evOp_not, aeval, ofVal, PT.get_set, Nat.reduceEqDiff, reduceIte, cond_true, Bool.not_false, eq_self]; rfl) ?_)
 | fail "stop")
    exact fnPost_ret1 (by first | (simp only [PT.get_set, Nat.reduceEqDiff, reduceIte]; rfl) | simp only [PT.get_set, Nat.reduceEqDiff, reduceIte]) rfl
  | true =>
  obtain ⟨la, lia⟩ := hxa rfl
  with_reducible repeat' (first
 | refine AOs.guardT (by with_unfolding_all rfl) (by simp only [PT.get_set, Nat.reduceEqDiff, reduceIte]; rfl) (by first | rfl | decide | assumption) ?_
 | ((first
 | refine AOs.op1E tOK (by with_unfolding_all rfl) ?_
 ); refine Step.mk (by simp only [evOp_move, evOp_not, aeval, PT.get_set, Nat.reduceEqDiff, reduceIte, Bool.not_true, eq_self, e1]; rfl) ?_)
 | fail "stop")
  refine AOs.callQ tOK (fs := []) (cs := []) rfl fn7 ok7 rfl (by simp only [List.map_cons, List.map_nil, List.nil_append, List.append_nil, aeval, ofVal, PT.get_set, Nat.reduceEqDiff, reduceIte] <;> rfl) (light7 N K2 hb) ?_
  rintro r K3 ⟨⟨x, rfl, hxb⟩, rfl⟩
  cases x with
  | false =>
    with_reducible repeat' (first
 | refine AW.seq ?_
 | refine AW.region ?_
 | refine AOs.nil ?_
 | refine AW.ret ?_
 | refine andThen_normal ?_
 | refine andThen_ret ?_
 | refine AOs.guardT (by with_unfolding_all rfl) (by simp only [PT.get_set, Nat.reduceEqDiff, reduceIte]; rfl) (by first | rfl | decide | assumption) ?_
 | refine AOs.guardF (by with_unfolding_all rfl) (by simp only [PT.get_set, Nat.reduceEqDiff, reduceIte]; rfl) (by first | rfl | decide | assumption) (by with_unfolding_all rfl) ?_
 | refine AW.condT (by simp only [aeval, PT.get_set, Nat.reduceEqDiff, reduceIte]; rfl) (by first | rfl | decide | assumption) ?_
 | ((first
 | refine AOs.op1E tOK (by with_unfolding_all rfl) ?_
 ); refine Step.mk (by simp only [evOp_move, evOp_assign, evOp_pick, evOp_not, aeval, ofVal, PT.get_set, Nat.reduceEqDiff, reduceIte, cond_true, cond_false, Bool.not_false, eq_self]; rfl) ?_)
 | fail "stop")
    exact fnPost_ret1 (by first | (simp only [PT.get_set, Nat.reduceEqDiff, reduceIte]; rfl) | simp only [PT.get_set, Nat.reduceEqDiff, reduceIte]) rfl
  | true =>
  obtain ⟨lb, lib⟩ := hxb rfl
  with_reducible repeat' (first
 | refine AOs.guardT (by with_unfolding_all rfl) (by simp only [PT.get_set, Nat.reduceEqDiff, reduceIte]; rfl) (by first | rfl | decide | assumption) ?_
 | ((first
 | refine AOs.op1E tOK (by with_unfolding_all rfl) ?_
 ); refine Step.mk (by simp only [evOp_move, evOp_pick, evOp_not, aeval, ofVal, PT.get_set, Nat.reduceEqDiff, reduceIte, cond_false, Bool.not_true, eq_self, e2]; rfl) ?_)
 | fail "stop")
  refine AOs.callQ tOK (fs := []) (cs := []) rfl fn8 ok8 rfl (by simp only [List.map_cons, List.map_nil, List.nil_append, List.append_nil, aeval, ofVal, PT.get_set, Nat.reduceEqDiff, reduceIte] <;> rfl) (light8 N K3 hl) ?_
  rintro r K4 ⟨⟨x, rfl, hxl⟩, rfl⟩
  cases x with
  | false =>
    with_reducible repeat' (first
 | refine AW.seq ?_
 | refine AW.region ?_
 | refine AOs.nil ?_
 | refine AW.ret ?_
 | refine andThen_normal ?_
 | refine andThen_ret ?_
 | refine AOs.guardT (by with_unfolding_all rfl) (by simp only [PT.get_set, Nat.reduceEqDiff, reduceIte]; rfl) (by first | rfl | decide | assumption) ?_
 | refine AW.condT (by simp only [aeval, PT.get_set, Nat.reduceEqDiff, reduceIte]; rfl) (by first | rfl | decide | assumption) ?_
 | ((first
 | refine AOs.op1E tOK (by with_unfolding_all rfl) ?_
 ); refine Step.mk (by simp only [evOp_assign, evOp_pick, evOp_not, aeval, ofVal, PT.get_set, Nat.reduceEqDiff, reduceIte, cond_false, Bool.not_false, eq_self]; rfl) ?_)
 | fail "stop")
    exact fnPost_ret1 (by first | (simp only [PT.get_set, Nat.reduceEqDiff, reduceIte]; rfl) | simp only [PT.get_set, Nat.reduceEqDiff, reduceIte]) rfl
  | true =>
  obtain ⟨ll, lil⟩ := hxl rfl
  with_reducible repeat' (first
 | refine AW.seq ?_
 | refine AW.region ?_
 | refine AW.block ?_
 | refine AOs.nil ?_
 | refine AW.skip ?_
 | refine andThen_normal ?_
 | refine AOs.guardT (by with_unfolding_all rfl) (by simp only [PT.get_set, Nat.reduceEqDiff, reduceIte]; rfl) (by first | rfl | decide | assumption) ?_
 | refine AW.condF (by simp only [aeval, PT.get_set, Nat.reduceEqDiff, reduceIte]; rfl) (by first | rfl | decide | assumption) ?_
 | ((first
 | refine AOs.op1E tOK (by with_unfolding_all rfl) ?_
 ); refine Step.mk (by simp only [evOp_assign, evOp_pick, evOp_not, aeval, ofVal, PT.get_set, Nat.reduceEqDiff, reduceIte, cond_false, Bool.not_true, eq_self]; rfl) ?_)
 | fail "stop")
  refine AW.loop (fun m T K => K = K4 ∧ T.get 0 = some va ∧ T.get 1 = some vb ∧ T.get 2 = some vl ∧ ∃ i : Nat, i ≤ l.length ∧ m = l.length - i ∧ T.get 7 = some (.int .i64 (i : Nat))) ?_ (l.length - 0)
    ⟨rfl, by simp [PT.get_set, e0], by simp [PT.get_set, e1], by simp [PT.get_set, e2], 0, by omega, rfl, by simp [PT.get_set]⟩
  rintro m T K ⟨rfl, g0, g1, g2, i, hi, rfl, g7⟩
  by_cases hil : i < l.length
  · have hd := lt_int hil
    have wi : IntKind.i64.wrap (((i : Nat) : Int) + 1) = ((i + 1 : Nat) : Int) := wrap64_succ (by omega)
    obtain ⟨x, hx⟩ : ∃ x, l[i]? = some x := ⟨_, List.getElem?_eq_getElem hil⟩
    have hxs := (lil x (List.mem_of_getElem? hx)).short
    obtain ⟨ab, ao, ac, aro, avs, xu, rfl, ag, hxu, ax, _⟩ := hl.at hx
    have t4l : (chC xu x).length = 4 := rfl
    have d1 : decide (chgM x = chgM x) = true := decide_eq_true rfl
    with_reducible repeat' (first
 | refine AW.seq ?_
 | refine AW.region ?_
 | refine AW.block ?_
 | refine AOs.nil ?_
 | refine AW.skip ?_
 | refine andThen_normal ?_
 | refine AW.condT (by simp only [aeval, PT.get_set, Nat.reduceEqDiff, reduceIte]; rfl) (by first | rfl | decide | assumption) ?_
 | ((first
 | refine AOs.op1E tOK (by with_unfolding_all rfl) ?_
 ); refine Step.mk (by simp only [evOp_move, evOp_binOp, evOp_len, aeval, PT.get_set, Nat.reduceEqDiff, reduceIte, Option.map_some, abin_lss, eq_self, al23, g2, g7, lla, hd]; rfl) ?_)
 | fail "stop")
    refine AW.drawN tOK (Qs := [4, 9]) [0, 1, 2, 3, 4, 5, 6, 7, 8, 9, 10] (by kernel_rfl) (by simp only [pickL, List.getElem?_cons_zero, List.getElem?_cons_succ]; rfl) ?_
    with_reducible repeat' (first
 | ((first
 | refine DN.fl1E (by with_unfolding_all rfl) (by with_unfolding_all rfl) ?_
 | refine DN.rd1E (by kernel_rfl) (by with_unfolding_all rfl) ?_
 ); refine Step.mk (by simp only [evOp_move, evOp_indexAddr, evOp_load, aeval, PT.get_set, Nat.reduceEqDiff, reduceIte, cellsAt, Option.map_some, cond_true, decide_true, nbeq, eq_self, ix23, ld33, g2, g7, hil, ag, ax, t4l]; rfl) ?_; refine Same.mk ?_)
 | fail "stop")
    refine DN.callQ (fs := []) (cs := []) rfl fn9 ok9 rfl (by simp only [List.map_cons, List.map_nil, List.nil_append, List.append_nil, aeval, PT.get_set, Nat.reduceEqDiff, reduceIte] <;> rfl) (change9 N K hxu hxs) ?_
    with_reducible repeat' (first
 | ((first
 | refine DN.fl1E (by with_unfolding_all rfl) (by with_unfolding_all rfl) ?_
 | refine DN.rd1E (by kernel_rfl) (by with_unfolding_all rfl) ?_
 ); refine Step.mk (by simp only [evOp_move, evOp_indexAddr, evOp_load, aeval, PT.get_set, Nat.reduceEqDiff, reduceIte, cellsAt, Option.map_some, cond_true, decide_true, nbeq, eq_self, ix23, ld33, g2, g7, hil, ag, ax, t4l]; rfl) ?_; refine Same.mk ?_)
 | fail "stop")
    refine DN.callQ (fs := []) (cs := []) rfl fn10 ok10 rfl (by simp only [List.map_cons, List.map_nil, List.nil_append, List.append_nil, aeval, PT.get_set, Nat.reduceEqDiff, reduceIte] <;> rfl) (change10 N K hxu hxs) ?_
    with_reducible repeat' (first
 | refine AW.region ?_
 | refine AOs.nil ?_
 | refine AW.skip ?_
 | refine andThen_normal ?_
 | refine inBlock_normal ?_
 | refine AW.condF (by simp only [aeval, PT.get_set, Nat.reduceEqDiff, reduceIte]; rfl) (by first | rfl | decide | assumption) ?_
 | refine DN.nil tOK ?_
 | ((first
 | refine DN.fl1E (by with_unfolding_all rfl) (by with_unfolding_all rfl) ?_
 ); refine Step.mk (by simp only [evOp_binOp, aeval, PT.get_set, Nat.reduceEqDiff, reduceIte, Option.map_some, abin_neq, decide_true, Bool.not_true, eq_self]; rfl) ?_; refine Same.mk ?_)
 | ((first
 | refine AOs.op1E tOK (by with_unfolding_all rfl) ?_
 ); refine Step.mk (by simp only [evOp_move, evOp_assign, evOp_binOp, aeval, ofVal, PT.get_set, Nat.reduceEqDiff, reduceIte, Option.map_some, abin_add, eq_self, g7, wi]; rfl) ?_)
 | fail "stop")
    exact ⟨l.length - (i + 1), by omega, rfl, by simp only [PT.get_set, Nat.reduceEqDiff, reduceIte, g0], by simp only [PT.get_set, Nat.reduceEqDiff, reduceIte, g1], by simp only [PT.get_set, Nat.reduceEqDiff, reduceIte, g2], i + 1, by omega, rfl, (by first | (simp only [PT.get_set, Nat.reduceEqDiff, reduceIte]; rfl) | simp only [PT.get_set, Nat.reduceEqDiff, reduceIte])⟩
  have hd := nlt_int hil
  have hsl : ∀ r ∈ l, Short r.1 := fun r hr => (lil r hr).short
  have hsa : ∀ r ∈ a, Short r.1 := fun r hr => (lia r hr).short
  have wfn : WF (K.alloc (.cells false [])) := wf_alloc hwf _
  have kn : ∀ b y, K.get b = some y → (K.alloc (.cells false [])).get b = some y := stay_alloc hwf _
  have nn : (K.alloc (.cells false [])).next = K.next + 1 := rfl
  obtain ⟨vl', K5, hap, hl5, n5, k5⟩ := chs_append (b := K.next) wfn (hl.keep kn (by omega)) (by omega)
  have k5' : ∀ b y, K.get b = some y → K5.get b = some y := fun b y hy => k5 b y (kn b y hy)
  with_reducible repeat' (first
 | refine AW.seq ?_
 | refine AW.region ?_
 | refine AOs.nil ?_
 | refine AW.exit ?_
 | refine andThen_normal ?_
 | refine andThen_exit ?_
 | refine inBlock_hit ?_
 | refine AW.condF (by simp only [aeval, PT.get_set, Nat.reduceEqDiff, reduceIte]; rfl) (by first | rfl | decide | assumption) ?_
 | ((first
 | refine AOs.op1E tOK (by with_unfolding_all rfl) ?_
 ); refine Step.mk (by simp only [evOp_move, evOp_binOp, evOp_len, evOp_append, aeval, PT.get_set, Nat.reduceEqDiff, reduceIte, List.map_cons, List.map_nil, Option.map_some, abin_lss, eq_self, al23, bs23, g0, g2, g7, lla, hd, hap]; rfl) ?_)
 | fail "stop")
  refine AOs.callQ tOK (fs := []) (cs := []) rfl fn11 ok11 rfl (by simp only [List.map_cons, List.map_nil, List.nil_append, List.append_nil, aeval, PT.get_set, Nat.reduceEqDiff, reduceIte] <;> rfl) (apply11 N K5 (ha.keep k5' (by omega)) hl5 hsl (by omega)) ?_
  rintro r K6 ⟨w1, rfl, hw1, n6, k6⟩
  have k6' : ∀ b y, K.get b = some y → K6.get b = some y := fun b y hy => k6 b y (k5' b y hy)
  with_reducible repeat' (first
 | refine AW.seq ?_
 | refine AW.region ?_
 | refine AOs.nil ?_
 | refine andThen_normal ?_
 | ((first
 | refine AOs.op1E tOK (by with_unfolding_all rfl) ?_
 ); refine Step.mk (by simp only [evOp_move, evOp_assign, evOp_extract, aeval, PT.get_set, Nat.reduceEqDiff, reduceIte, Option.map_some, List.getElem?_cons_zero, List.getElem?_cons_succ, eq_self, g0, g2]; rfl) ?_)
 | fail "stop")
  refine AOs.callQ tOK (fs := []) (cs := []) rfl fn12 ok12 rfl (by simp only [List.map_cons, List.map_nil, List.nil_append, List.append_nil, aeval, PT.get_set, Nat.reduceEqDiff, reduceIte] <;> rfl) (apply12 N K6 (ha.keep k6' (by omega)) (hl.keep k6' (by omega)) hsa hsl (by omega)) ?_
  rintro r K7 ⟨w2, rfl, hw2, n7, k7⟩
  have k7' : ∀ b y, K.get b = some y → K7.get b = some y := fun b y hy => k7 b y (k6' b y hy)
  have hs : ∀ r, r ∈ a ∨ r ∈ b → Short r.1 ∧ r.1.length ≤ 1000000 := fun r hr => by
    have hli : Light r.1 := hr.elim (lia r) (lib r)
    exact ⟨hli.short, by have := hli.1; omega⟩
  with_reducible repeat' (first
 | refine AW.seq ?_
 | refine AW.region ?_
 | refine AOs.nil ?_
 | refine andThen_normal ?_
 | ((first
 | refine AOs.op1E tOK (by with_unfolding_all rfl) ?_
 ); refine Step.mk (by simp only [evOp_move, evOp_assign, evOp_extract, aeval, PT.get_set, Nat.reduceEqDiff, reduceIte, Option.map_some, List.getElem?_cons_zero, List.getElem?_cons_succ, eq_self, g0, g1]; rfl) ?_)
 | fail "stop")
  refine AOs.callQ tOK (fs := []) (cs := []) rfl fn14 ok14 rfl (by simp only [List.map_cons, List.map_nil, List.nil_append, List.append_nil, aeval, PT.get_set, Nat.reduceEqDiff, reduceIte] <;> rfl) (changes14 N K7 (ha.keep k7' (by omega)) (hb.keep k7' (by omega)) ca cb hs) ?_
  rintro x K8 ⟨hx8, n8, k8⟩
  have k8' : ∀ b y, K.get b = some y → K8.get b = some y := fun b y hy => k8 b y (k7' b y hy)
  with_reducible repeat' (first
 | ((first
 | refine AOs.op1E tOK (by with_unfolding_all rfl) ?_
 ); refine Step.mk (by simp only [evOp_move, aeval, PT.get_set, Nat.reduceEqDiff, reduceIte, g0, g1]; rfl) ?_)
 | fail "stop")
  refine AOs.callQ tOK (fs := []) (cs := []) rfl fn15 ok15 rfl (by simp only [List.map_cons, List.map_nil, List.nil_append, List.append_nil, aeval, PT.get_set, Nat.reduceEqDiff, reduceIte] <;> rfl) (changes15 N K8 (ha.keep k8' (by omega)) (hb.keep k8' (by omega)) hs) ?_
  rintro y K9 ⟨hy9, n9, k9⟩
  obtain ⟨dl, dm⟩ := diffM_len a b
  with_reducible repeat' (first
 | ((first
 | refine AOs.op1E tOK (by with_unfolding_all rfl) ?_
 ); refine Step.mk (by simp only [evOp_move, evOp_assign, evOp_pick, evOp_build, evOp_nilCheck, evOp_binOp, evOp_not, evOp_fieldAddr, evOp_field, evOp_indexAddr, evOp_index, evOp_extract, evOp_makeFunc, evOp_load, evOp_lookup, evOp_store, evOp_mapUpdate, evOp_insert, evOp_range, evOp_makeMap, evOp_len, evOp_append, evOp_copy, evOp_delete, evOp_slice, evOp_convert, evOp_entry, evOp_boxC, boxC_one, boxC_agg, evOp_cap, rangeMapAt, storeAt, one_bool, one_int, one_str, one_nilp, one_ptr, one_nils, one_slice, one_empty, one_nilm, one_map, one_func, one_nilf, one_iface, one_nili, aeval, ofVal, PT.get_set, Nat.reduceEqDiff, reduceIte, lenOfAV_slice, lenOfAV_nils, lenOfAV_empty, cellAt, cellsAt, mapLenAt, lookAt, mapSetAt, mapDelAt, List.map_cons, List.map_nil, Option.map_some, Option.map_none, List.nil_append, List.append_nil, abin_add, abin_sub, abin_mul, abin_lss, abin_leq, abin_gtr, abin_geq, abin_eql, abin_neq, abin_eqlS, abin_neqS, cond_true, cond_false, decide_true, decide_false, Bool.not_true, Bool.not_false, TI.agg, List.getElem?_cons_zero, List.getElem?_cons_succ, Nat.add_zero, Nat.zero_add, Nat.zero_mul, nbeq, nble, nblt, Nat.reduceLeDiff, Nat.reduceLT, Nat.reduceMul, Nat.reduceAdd, Nat.reduceSub, Bool.and_true, Bool.true_and, Bool.and_false, Bool.false_and, List.length_cons, List.length_nil, List.set_cons_zero, List.set_cons_succ, AH.get_set, AH.next_set, eq_self, Int.ofNat_eq_natCast, Int.cast_ofNat_Int, Int.natCast_zero, Int.reduceEq, Int.reduceLT, Int.reduceLE, Int.reduceNeg, ld2, st2, ld3, st3, ld4, st4, ld5, st5, al9, ld9, st9, al22, ix22, bs22, ld22, ne22a, eq22a, ne22b, eq22b, ne22c, eq22c, st22, al23, ix23, bs23, ld23, ne23a, eq23a, ne23b, eq23b, ne23c, eq23c, st23, ld27, st27, al29, ix29, bs29, ld29, ne29a, eq29a, ne29b, eq29b, ne29c, eq29c, st29, fa31_0, fa31_1, ld31, fa33_0, fa33_1, fa33_2, ld33, al40, ix40, bs40, ld40, ne40a, eq40a, ne40b, eq40b, ne40c, eq40c, st40, ld44, ne44a, eq44a, ne44b, eq44b, st44, fa58_0, fa58_1, ld58, fa71_0, fa71_1, ld71, ld110, st110, ld114, st114, ld127, st127, al174, ix174, bs174, ld174, ne174a, eq174a, ne174b, eq174b, ne174c, eq174c, st174, cv3_127, cv127_3, g0, g1, g2]; rfl) ?_)
 | fail "stop")
  refine AOs.callQ tOK (fs := []) (cs := []) rfl fn13 ok13 rfl (by simp only [List.map_cons, List.map_nil, List.nil_append, List.append_nil, aeval, PT.get_set, Nat.reduceEqDiff, reduceIte] <;> rfl) (same13 N K9 (hx8.keep k9 n9) hy9 (by omega) (fun r hr => by obtain ⟨x, hx, e⟩ := dm r hr; rw [e]; exact (hs x hx).2)) ?_
  rintro r K10 ⟨rfl, rfl⟩
  obtain ⟨al, am⟩ := applyM_len a l
  have d1 : decide (applyE a l = applyE a l) = true := decide_eq_true rfl
  with_reducible repeat' (first
 | refine AOs.guardT (by with_unfolding_all rfl) (by simp only [PT.get_set, Nat.reduceEqDiff, reduceIte]; rfl) (by first | rfl | decide | assumption) ?_
 | ((first
 | refine AOs.op1E tOK (by with_unfolding_all rfl) ?_
 ); refine Step.mk (by simp only [evOp_move, aeval, PT.get_set, Nat.reduceEqDiff, reduceIte, eq_self]; rfl) ?_)
 | fail "stop")
  refine AOs.callQ tOK (fs := []) (cs := []) rfl fn16 ok16 rfl (by simp only [List.map_cons, List.map_nil, List.nil_append, List.append_nil, aeval, PT.get_set, Nat.reduceEqDiff, reduceIte] <;> rfl) (same16 N K10 (((hw1.keep k7 n7).keep k8 n8).keep k9 n9) ((hw2.keep k8 n8).keep k9 n9) (by omega) (fun r hr => by have := am r hr; omega)) ?_
  rintro r K11 ⟨rfl, rfl⟩
  with_reducible repeat' (first
 | refine AOs.nil ?_
 | refine AW.ret ?_
 | refine andThen_normal ?_
 | refine AOs.guardT (by with_unfolding_all rfl) (by simp only [PT.get_set, Nat.reduceEqDiff, reduceIte]; rfl) (by first | rfl | decide | assumption) ?_
 | ((first
 | refine AOs.op1E tOK (by with_unfolding_all rfl) ?_
 ); refine Step.mk (by simp only [evOp_move, evOp_assign, evOp_pick, evOp_binOp, aeval, ofVal, PT.get_set, Nat.reduceEqDiff, reduceIte, Option.map_some, abin_eql, cond_true, decide_true, eq_self]; rfl) ?_)
 | fail "stop")
  exact fnPost_ret1 (by first | (simp only [PT.get_set, Nat.reduceEqDiff, reduceIte]; rfl) | simp only [PT.get_set, Nat.reduceEqDiff, reduceIte]) rfl
end Go.Proofs.YtapokkpdgfpokaaGreat

open Go Go.AB Go.Proofs
namespace Go.Proofs.YtapokkpdgfpokaaGreat
set_option maxRecDepth 100000

theorem c4 : Tryz.prog.cellsOf 4 = 1 := by kernel_rfl
theorem c2 : Tryz.prog.cellsOf 2 = 1 := by kernel_rfl
theorem c9 : Tryz.prog.cellsOf 9 = 1 := by kernel_rfl
theorem c29 : Tryz.prog.cellsOf 29 = 1 := by kernel_rfl
theorem c31 : Tryz.prog.cellsOf 31 = 2 := by kernel_rfl
theorem c33 : Tryz.prog.cellsOf 33 = 4 := by kernel_rfl
theorem c58 : Tryz.prog.cellsOf 58 = 3 := by kernel_rfl
theorem c71 : Tryz.prog.cellsOf 71 = 2 := by kernel_rfl
theorem u2 : Tryz.prog.underlying 2 = some (.int .i64) := by kernel_rfl
theorem u4 : Tryz.prog.underlying 4 = some .bool := by kernel_rfl
theorem u9 : Tryz.prog.underlying 9 = some .string := by kernel_rfl
theorem u22 : Tryz.prog.underlying 22 = some (.slice 58) := by kernel_rfl
theorem u23 : Tryz.prog.underlying 23 = some (.slice 33) := by kernel_rfl
theorem u29 : Tryz.prog.underlying 29 = some (.slice 71) := by kernel_rfl
theorem u31 : ∃ f0 f1, Tryz.prog.underlying 31 = some (.struct #[f0, f1]) ∧ f0.type = 2 ∧ f0.offset = 0 ∧ f1.type = 4 ∧ f1.offset = 1 := ⟨_, _, Tryz.underlying31, rfl, rfl, rfl, rfl⟩
theorem u33 : ∃ f0 f1 f2, Tryz.prog.underlying 33 = some (.struct #[f0, f1, f2]) ∧ f0.type = 29 ∧ f0.offset = 0 ∧ f1.type = 31 ∧ f1.offset = 1 ∧ f2.type = 4 ∧ f2.offset = 3 := ⟨_, _, _, Tryz.underlying33, rfl, rfl, rfl, rfl, rfl, rfl⟩
theorem u58 : ∃ f0 f1, Tryz.prog.underlying 58 = some (.struct #[f0, f1]) ∧ f0.type = 29 ∧ f0.offset = 0 ∧ f1.type = 31 ∧ f1.offset = 1 := ⟨_, _, Tryz.underlying58, rfl, rfl, rfl, rfl⟩
theorem u71 : ∃ f0 f1, Tryz.prog.underlying 71 = some (.struct #[f0, f1]) ∧ f0.type = 9 ∧ f0.offset = 0 ∧ f1.type = 9 ∧ f1.offset = 1 := ⟨_, _, Tryz.underlying71, rfl, rfl, rfl, rfl⟩

def strAt (vs : List AV) (i : Nat) : List UInt8 :=
  match vs[i]? with
  | some (AV.str s) => s
  | _ => []

section
variable {X : Type} {H : AH}

theorem has_label {k : Nat} {d : DataW X} {xs : List AV} (h : Has Tryz.prog H (k + 2) 71 d xs) : ∃ s t, xs = [.str s, .str t] := by
  obtain ⟨f0, f1, hu, t0, o0, t1, o1⟩ := u71
  unfold Has at h
  rw [hu] at h
  obtain ⟨ds, _, hl, hd, hf⟩ := h
  rw [c71] at hl
  match xs, hl, ds, hd with
  | [a, b], _, [x, y], _ =>
    have h0 := hf 0 f0 x (by simp) (by simp)
    have h1 := hf 1 f1 y (by simp) (by simp)
    rw [t0, o0, c9] at h0
    rw [t1, o1, c9] at h1
    unfold Has at h0 h1
    rw [u9] at h0 h1
    obtain ⟨s, _, _, e0⟩ := h0
    obtain ⟨t, _, _, e1⟩ := h1
    simp at e0 e1
    exact ⟨s, t, by rw [e0, e1]⟩

theorem has_labels {k : Nat} {d : DataW X} {xs : List AV} (h : Has Tryz.prog H (k + 3) 29 d xs) : ∃ v l, xs = [v] ∧ LabelsAt H v l := by
  unfold Has at h
  rw [u29] at h
  rcases h with ⟨_, rfl⟩ | ⟨_, rfl⟩ | ⟨b, es, sp, vs, rfl, _, rfl, hb, hl, hx⟩
  · exact ⟨_, [], rfl, .inl ⟨rfl, rfl, rfl⟩⟩
  · exact ⟨_, [], rfl, .inl ⟨rfl, rfl, rfl⟩⟩
  · rw [c71] at hl hx
    have key : ∀ i, i < es.length + sp.length → ∃ s t, vs[i * 2]? = some (.str s) ∧ vs[i * 2 + 1]? = some (.str t) := by
      intro i hi
      obtain ⟨x, hxi⟩ : ∃ x, (es ++ sp)[i]? = some x := ⟨_, List.getElem?_eq_getElem (by rw [List.length_append]; omega)⟩
      obtain ⟨s, t, e⟩ := has_label (hx i x hxi)
      have e0 := congrArg (fun l : List AV => l[0]?) e
      have e1 := congrArg (fun l : List AV => l[1]?) e
      simp only [List.getElem?_take, List.getElem?_drop] at e0 e1
      exact ⟨s, t, by simpa using e0, by simpa using e1⟩
    have hstr : vs.all isStr = true := by
      rw [List.all_eq_true]
      intro z hz
      obtain ⟨j, hj⟩ := List.getElem?_of_mem hz
      have hjl := (List.getElem?_eq_some_iff.1 hj).1
      obtain ⟨s, t, q1, q2⟩ := key (j / 2) (by omega)
      have hj2 : j = j / 2 * 2 ∨ j = j / 2 * 2 + 1 := by omega
      rcases hj2 with e | e
      · rw [e, q1] at hj; cases hj; rfl
      · rw [e, q2] at hj; cases hj; rfl
    by_cases h0 : es.length = 0
    · exact ⟨_, [], rfl, .inl ⟨rfl, by rw [h0]; rfl, rfl⟩⟩
    refine ⟨_, (List.range es.length).map fun i => (strAt vs (i * 2), strAt vs (i * 2 + 1)), rfl, .inr ⟨b, 0, _, true, vs, by simp [c71]; rfl, hb, hstr, fun e => h0 (by simpa using congrArg List.length e), fun i p hp => ?_⟩⟩
    have hi : i < es.length := by
      have := (List.getElem?_eq_some_iff.1 hp).1
      simpa using this
    obtain ⟨s, t, h1, h2⟩ := key i (by omega)
    rw [List.getElem?_map, List.getElem?_range hi] at hp
    simp only [Option.map_some, Option.some.injEq, strAt, h1, h2] at hp
    subst hp
    exact ⟨by simpa using h1, by simpa using h2⟩

theorem has_value {k : Nat} {y : DataW X} {b c : AV} (h1 : Has Tryz.prog H (k + 2) 31 y [b, c]) : ∃ n o, b = .int .i64 n ∧ c = .bool o := by
  obtain ⟨g0, g1, hu1, s0, p0, s1, p1⟩ := u31
  unfold Has at h1
  rw [hu1] at h1
  obtain ⟨ds1, _, hl1, hd1, hf1⟩ := h1
  match ds1, hd1 with
  | [y0, y1], _ =>
    have q0 := hf1 0 g0 y0 (by simp) (by simp)
    have q1 := hf1 1 g1 y1 (by simp) (by simp)
    rw [s0, p0, c2] at q0
    rw [s1, p1, c4] at q1
    unfold Has at q0 q1
    rw [u2] at q0
    rw [u4] at q1
    obtain ⟨m, _, _, m0⟩ := q0
    obtain ⟨o, _, m1⟩ := q1
    simp at m0 m1
    exact ⟨m, o, m0, m1⟩

theorem has_change {k : Nat} {d : DataW X} {xs : List AV} (h : Has Tryz.prog H (k + 4) 33 d xs) : ∃ u c, xs = chC u c ∧ LabelsAt H u c.1 := by
  obtain ⟨f0, f1, f2, hu, t0, o0, t1, o1, t2, o2⟩ := u33
  unfold Has at h
  rw [hu] at h
  obtain ⟨ds, _, hl, hd, hf⟩ := h
  rw [c33] at hl
  match xs, hl, ds, hd with
  | [a, b, c, e], _, [x, y, z], _ =>
    have h0 := hf 0 f0 x (by simp) (by simp)
    have h1 := hf 1 f1 y (by simp) (by simp)
    have h2 := hf 2 f2 z (by simp) (by simp)
    rw [t0, o0, c29] at h0
    rw [t1, o1, c31] at h1
    rw [t2, o2, c4] at h2
    obtain ⟨v, l, e0, hl⟩ := has_labels h0
    obtain ⟨n, o, e1, e1'⟩ := has_value (b := b) (c := c) h1
    unfold Has at h2
    rw [u4] at h2
    obtain ⟨g, _, e2⟩ := h2
    simp at e0 e2
    exact ⟨v, (l, n, o, g), by rw [e0, e1, e1', e2]; rfl, hl⟩

theorem has_result {k : Nat} {d : DataW X} {xs : List AV} (h : Has Tryz.prog H (k + 4) 58 d xs) : ∃ u r, xs = rsC u r ∧ LabelsAt H u r.1 := by
  obtain ⟨f0, f1, hu, t0, o0, t1, o1⟩ := u58
  unfold Has at h
  rw [hu] at h
  obtain ⟨ds, _, hl, hd, hf⟩ := h
  rw [c58] at hl
  match xs, hl, ds, hd with
  | [a, b, c], _, [x, y], _ =>
    have h0 := hf 0 f0 x (by simp) (by simp)
    have h1 := hf 1 f1 y (by simp) (by simp)
    rw [t0, o0, c29] at h0
    rw [t1, o1, c31] at h1
    obtain ⟨v, l, e0, hl⟩ := has_labels h0
    obtain ⟨n, o, e1, e1'⟩ := has_value (b := b) (c := c) h1
    simp at e0
    exact ⟨v, (l, n, o), by rw [e0, e1, e1']; rfl, hl⟩

theorem build_list {α : Type} {P : Nat → α → Prop} : ∀ n : Nat, (∀ i, i < n → ∃ a, P i a) → ∃ l : List α, l.length = n ∧ ∀ i a, l[i]? = some a → P i a
  | 0, _ => ⟨[], rfl, fun i a h => by simp at h⟩
  | n + 1, h => by
    obtain ⟨l, h1, h2⟩ := build_list n fun i hi => h i (by omega)
    obtain ⟨a, ha⟩ := h n (by omega)
    refine ⟨l ++ [a], by simp [h1], fun i x hx => ?_⟩
    by_cases hi : i < l.length
    · rw [List.getElem?_append_left hi] at hx; exact h2 i x hx
    · have hlt := (List.getElem?_eq_some_iff.1 hx).1
      simp at hlt
      have hin : i = n := by omega
      subst hin
      rw [List.getElem?_append_right (by omega), h1, Nat.sub_self] at hx
      cases hx; exact ha

theorem has_changes {k : Nat} {d : DataW X} {v : AV} (h : Has Tryz.prog H (k + 5) 23 d [v]) : ∃ l, ChsAt H v l := by
  unfold Has at h
  rw [u23] at h
  rcases h with ⟨_, e⟩ | ⟨_, e⟩ | ⟨b, es, sp, vs, rfl, _, e, hb, hl, hx⟩
  · cases e; exact ⟨[], .inl ⟨rfl, rfl, rfl⟩⟩
  · cases e; exact ⟨[], .inl ⟨rfl, rfl, rfl⟩⟩
  · cases e
    rw [c33] at hl hx
    obtain ⟨l, l1, l2⟩ := build_list (α := Ch) (P := fun i c => ∃ u, (vs.drop (i * 4)).take 4 = chC u c ∧ LabelsAt H u c.1) es.length fun i hi => by
      obtain ⟨x, hxi⟩ : ∃ x, (es ++ sp)[i]? = some x := ⟨_, List.getElem?_eq_getElem (by rw [List.length_append]; omega)⟩
      obtain ⟨u, c, e1, e2⟩ := has_change (hx i x hxi)
      exact ⟨c, u, e1, e2⟩
    refine ⟨l, ?_⟩
    by_cases h0 : l = []
    · subst h0
      exact .inl ⟨rfl, by rw [← l1]; rfl, rfl⟩
    · exact .inr ⟨b, 0, _, true, vs, by rw [c33, l1], hb, h0, fun i r hi => by rw [Nat.zero_add]; exact l2 i r hi⟩

theorem has_vector {k : Nat} {d : DataW X} {v : AV} (h : Has Tryz.prog H (k + 5) 22 d [v]) : ∃ l, VecAt H v l ∧ capOK v := by
  unfold Has at h
  rw [u22] at h
  rcases h with ⟨_, e⟩ | ⟨_, e⟩ | ⟨b, es, sp, vs, rfl, _, e, hb, hl, hx⟩
  · cases e; exact ⟨[], .inl ⟨rfl, rfl, rfl⟩, trivial⟩
  · cases e; exact ⟨[], .inl ⟨rfl, rfl, rfl⟩, trivial⟩
  · cases e
    rw [c58] at hl hx
    obtain ⟨l, l1, l2⟩ := build_list (α := Rs) (P := fun i c => ∃ u, (vs.drop (i * 3)).take 3 = rsC u c ∧ LabelsAt H u c.1) es.length fun i hi => by
      obtain ⟨x, hxi⟩ : ∃ x, (es ++ sp)[i]? = some x := ⟨_, List.getElem?_eq_getElem (by rw [List.length_append]; omega)⟩
      obtain ⟨u, c, e1, e2⟩ := has_result (hx i x hxi)
      exact ⟨c, u, e1, e2⟩
    refine ⟨l, ?_, show es.length ≤ es.length + sp.length by omega⟩
    by_cases h0 : l = []
    · subst h0
      exact .inl ⟨rfl, by rw [← l1]; rfl, rfl⟩
    · exact .inr ⟨b, 0, _, true, vs, by rw [c58, l1], hb, h0, fun i r hi => by rw [Nat.zero_add]; exact l2 i r hi⟩
end

/-- The law, of whatever vectors and changes. -/
theorem law3_all {X : Type} (hlives : ∀ (N : Nat) (K : AH), AC tC N 0 6 [] K fun r K' => r = .bool true ∧ K' = K) {ds : List (DataW X)} (N : Nat) (H : AH) (xs : List AV) (hlt : ∀ b o, H.get b = some o → b < H.next) (h : HasAll Tryz.prog H 8 [22, 22, 23] ds xs) :
    AC tC N 0 3 xs H fun r _ => r = .bool true := by
  match ds, h with
  | [d1, d2, d3], h =>
    obtain ⟨a, xs1, rfl, h1, b, xs2, rfl, h2, c, xs3, rfl, h3, rfl⟩ := h
    obtain ⟨la, va, ca⟩ := has_vector h1
    obtain ⟨lb, vb, cb⟩ := has_vector h2
    obtain ⟨lc, vc⟩ := has_changes h3
    exact law3 N H va vb vc ca cb (hlives N)
end Go.Proofs.YtapokkpdgfpokaaGreat
