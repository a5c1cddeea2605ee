/- Log: LogKeeps walked from whatever abstract heap; no condition. -/
import Derived.Test.YtgihociajfgohaaGreatDoorKeepsPlain
import Derived.Test.YtgihociajfgohaaGreatDoorKeepsStart
import Derived.Test.YtgihociajfgohaaGreatDoorHeap6
import Derived.Test.YtgihociajfgohaaGreatDoorHeap5
set_option linter.unusedSimpArgs false
set_option linter.unusedVariables false
open Go Go.AB Go.Proofs
namespace Go.Proofs.YtgihociajfgohaaGreatDoor
set_option maxRecDepth 100000

/-- Integers of an argument. -/
def IX (H : AH) (v : AV) (l : List Int) : Prop := ((v = .nils ∨ v = .empty 0) ∧ l = []) ∨ ∃ b c ro vs, v = .slice b 0 l.length c 1 ∧ H.get b = some (.cells ro vs) ∧ vs.take l.length = l.map (.int .i64)

theorem IX.len {H : AH} {v : AV} {l : List Int} (h : IX H v l) : lenOfAV v = some l.length := by
  rcases h with ⟨rfl | rfl, rfl⟩ | ⟨b, c, ro, vs, rfl, _⟩ <;> rfl
theorem IX.keep {H K : AH} {v : AV} {l : List Int} (h : IX H v l) (hk : ∀ b x, H.get b = some x → K.get b = some x) : IX K v l := by
  rcases h with h | ⟨b, c, ro, vs, h1, h2, h3⟩
  · exact .inl h
  · exact .inr ⟨b, c, ro, vs, h1, hk _ _ h2, h3⟩

theorem allOne_ints (l : List Int) : allOne (l.map (AV.int .i64)) = true := by
  induction l with
  | nil => rfl
  | cons a l ih => simp only [List.map_cons, allOne]; exact (by rw [show AV.one (.int .i64 a) = true from rfl, Bool.true_and]; exact ih)

theorem aappended_ints {H : AH} {v : AV} {l : List Int} (h : IX H v l) {j : TI} (hs : j.size = 1) : aappended tC H j 40 v = some (l.length, l.map (.int .i64)) := by
  have h1 := h.len
  have h2 : acells H 1 l.length v = some (l.map (.int .i64)) := by
    rcases h with ⟨rfl | rfl, rfl⟩ | ⟨b, c, ro, vs, rfl, h1, h2⟩
    · rfl
    · rfl
    · simp only [acells, Nat.mul_one, h1, List.drop_zero, h2, nbeq, List.length_map, decide_true, cond_true]
      by_cases h0 : l.length = 0
      · have := List.eq_nil_of_length_eq_zero h0
        subst this; rfl
      · simp [h0]
  rcases h with ⟨rfl | rfl, rfl⟩ | ⟨b, c, ro, vs, rfl, h3, h4⟩
  · simp only [aappended, ti40, h1, hs, h2, Option.map_some]
  · simp only [aappended, ti40, h1, hs, h2, Option.map_some]
  · simp only [aappended, ti40, h1, hs, h2, Option.map_some]

theorem aappend_ints {H : AH} {b : Nat} {v : AV} {l : List Int} (hv : IX H v l) (hN : l.length ≤ 1000000) :
    aappend tC H [40, 40] [.slice b 0 0 (.ex 0) 1, v] = some (if l = [] then (.slice b 0 0 (.ex 0) 1, H) else (.slice H.next 0 l.length (.lo l.length) 1, H.alloc (.cells false (l.map (.int .i64))))) := by
  have h1 := aappended_ints hv (j := ⟨.int .i64, 1, 8, some (.int .i64 (.ofNat 0)), true⟩) rfl
  have ho := allOne_ints l
  have hz := zOK_of (j := ⟨.int .i64, 1, 8, some (.int .i64 (.ofNat 0)), true⟩) rfl rfl rfl
  have hz0 := zOK_of (j := ⟨.int .i64, 1, 8, some (.int .i64 0), true⟩) rfl rfl rfl
  by_cases hl : l = []
  · subst hl
    simp only [aappend, ti40, ti3, h1]
    simp [nbeq, allOne, hz, hz0]
  · have hl0 : ¬ l.length = 0 := fun h => hl (List.eq_nil_of_length_eq_zero h)
    simp only [aappend, ti40, ti3, h1]
    simp [ho, hz, hz0, nbeq, nble, hl0, hl, ACap.low, acells]
    rw [decide_eq_true (show (2 * l.length + 1024) * 8 ≤ 281474976710656 by omega), decide_eq_true (show l.length ≤ 4611686018427387904 by omega)]; rfl
theorem ints_copy {K : AH} {l : List Int} {b : Nat} {v : AV} (hb : K.get b = some (.cells false [])) (hv : IX K v l) (hl : l.length ≤ 1000000) :
    ∃ u L, aappend tC K [40, 40] [.slice b 0 0 (.ex 0) 1, v] = some (u, L) ∧ IntsAt L u l ∧ (∀ c x, K.get c = some x → c < K.next → L.get c = some x) ∧ K.next ≤ L.next ∧ (∀ c o n z w, u = .slice c o n z w → c = b ∨ K.next ≤ c) := by
  rw [aappend_ints hv hl]
  by_cases h : l = []
  · subst h
    rw [if_pos rfl]
    exact ⟨_, _, rfl, .inl ⟨rfl, rfl⟩, fun c x hx _ => hx, Nat.le_refl _, fun c o n z w e => by cases e; exact .inl rfl⟩
  · rw [if_neg h]
    refine ⟨_, _, rfl, .inr ⟨K.next, 0, l.length, false, _, rfl, h, Nat.le_refl _, by rw [AH.get_alloc, if_pos rfl], fun i x hx => by rw [Nat.zero_add, List.getElem?_map, hx]; rfl⟩, fun c x hx hc => by rw [AH.get_alloc, if_neg (by omega)]; exact hx, by rw [AH.next_alloc]; omega, fun c o n z w e => by cases e; exact .inr (Nat.le_refl _)⟩


/-- Texts in a row, whoever made it. -/
def StrsAny (H : AH) (v : AV) (l : List Nm) : Prop :=
  ((v = .nils ∨ ∃ k, v = .empty k) ∧ l = []) ∨ ∃ b c ro vs, v = .slice b 0 l.length c 1 ∧ H.get b = some (.cells ro vs) ∧ ∀ (i : Nat) s, l[i]? = some s → vs[i]? = some (AV.str s)
theorem StrsAny.len {H : AH} {v : AV} {l : List Nm} (h : StrsAny H v l) : lenOfAV v = some l.length := by
  rcases h with ⟨rfl | ⟨k, rfl⟩, rfl⟩ | ⟨b, c, ro, vs, rfl, _⟩ <;> rfl
theorem StrsAt.any {H : AH} {v : AV} {l : List Nm} (h : StrsAt H v l) : StrsAny H v l := h.imp (fun h => ⟨.inl h.1, h.2⟩) id
theorem TextsAt.any {H : AH} {v : AV} {l : List Nm} (h : TextsAt H v l) : StrsAny H v l := by
  rcases h with ⟨rfl | rfl, rfl⟩ | ⟨b, c, vs, rfl, h1, h2⟩
  · exact .inl ⟨.inl rfl, rfl⟩
  · exact .inl ⟨.inr ⟨0, rfl⟩, rfl⟩
  · exact .inr ⟨b, c, true, vs, rfl, h1, h2⟩
theorem StrsAny.keep {H K : AH} {v : AV} {l : List Nm} (h : StrsAny H v l) (hk : ∀ b x, H.get b = some x → K.get b = some x) : StrsAny K v l :=
  h.imp id fun ⟨b, c, ro, vs, h1, h2, h3⟩ => ⟨b, c, ro, vs, h1, hk _ _ h2, h3⟩
theorem StrsAt.keep {H K : AH} {v : AV} {l : List Nm} (h : StrsAt H v l) (hk : ∀ b x, H.get b = some x → K.get b = some x) : StrsAt K v l :=
  h.imp id fun ⟨b, c, ro, vs, h1, h2, h3⟩ => ⟨b, c, ro, vs, h1, hk _ _ h2, h3⟩

theorem list_eq_of_take {l m : List Nm} (h : l.length = m.length) (ht : l.take l.length = m.take l.length) : l = m := by
  rw [List.take_length, h, List.take_length] at ht; exact ht

set_option maxHeartbeats 4000000 in
theorem texts17g (N : Nat) (H : AH) {v u : AV} {l m : List Nm} (h1 : StrsAny H v l) (h2 : StrsAny H u m) (hl : l.length ≤ 1000000) : AC tC N 0 17 [v, u] H fun r K => r = .bool (decide (l = m)) ∧ K = H := by
  refine AC.by (n := 26) (rs := [.tmp 4]) tOK fn17 rfl rfl rfl rfl ?_
  have e0 : (PT.ofList .leaf 0 [v, u]).get 0 = some v := rfl
  have e1 : (PT.ofList .leaf 0 [v, u]).get 1 = some u := rfl
  have l1 := h1.len
  have l2 := h2.len
  by_cases hlm : l.length = m.length
  case neg =>
    have hd : decide (((l.length : Nat) : Int) = ((m.length : Nat) : Int)) = false := decide_eq_false (by omega)
    have hr : decide (l = m) = false := decide_eq_false fun e => hlm (by rw [e])
    rw [hr]
    with_reducible repeat' (first
 | refine AW.seq ?_
 | refine AW.region ?_
 | refine AOs.nil ?_
 | refine AW.ret ?_
 | refine andThen_normal ?_
 | refine andThen_ret ?_
 | refine AW.condT (by simp only [aeval, PT.get_set, Nat.reduceEqDiff, reduceIte]; rfl) (by first | rfl | decide | assumption) ?_
 | ((first
 | refine AOs.op1E tOK (by with_unfolding_all rfl) ?_
 ); refine Step.mk (by simp only [evOp_move, evOp_assign, evOp_binOp, evOp_len, aeval, ofVal, PT.get_set, Nat.reduceEqDiff, reduceIte, Option.map_some, abin_neq, Bool.not_false, eq_self, al37, e0, e1, l1, l2, hd]; rfl) ?_)
 | fail "stop")
    exact fnPost_ret1 (by first | (simp only [PT.get_set, Nat.reduceEqDiff, reduceIte]; rfl) | simp only [PT.get_set, Nat.reduceEqDiff, reduceIte]) ⟨rfl, rfl⟩
  have hd0 : decide (((l.length : Nat) : Int) = ((m.length : Nat) : Int)) = true := decide_eq_true (by omega)
  with_reducible repeat' (first
 | refine AW.seq ?_
 | refine AW.region ?_
 | refine AW.block ?_
 | refine AOs.nil ?_
 | refine AW.skip ?_
 | refine andThen_normal ?_
 | refine AW.condF (by simp only [aeval, PT.get_set, Nat.reduceEqDiff, reduceIte]; rfl) (by first | rfl | decide | assumption) ?_
 | ((first
 | refine AOs.op1E tOK (by with_unfolding_all rfl) ?_
 ); refine Step.mk (by simp only [evOp_move, evOp_assign, evOp_binOp, evOp_len, aeval, ofVal, PT.get_set, Nat.reduceEqDiff, reduceIte, Option.map_some, abin_neq, Bool.not_true, eq_self, al37, e0, e1, l1, l2, hd0]; rfl) ?_)
 | fail "stop")
  refine AW.loop (fun k T K => K = H ∧ T.get 0 = some v ∧ T.get 1 = some u ∧ ∃ i : Nat, i ≤ l.length ∧ k = l.length - i ∧ T.get 5 = some (.int .i64 (i : Nat)) ∧ l.take i = m.take i) ?_ (l.length - 0)
    ⟨rfl, by simp [PT.get_set, e0], by simp [PT.get_set, e1], 0, by omega, rfl, by simp [PT.get_set], rfl⟩
  rintro k T K ⟨rfl, g0, g1, i, hi, rfl, g5, htk⟩
  by_cases hlt : i < l.length
  · have hd := lt_int hlt
    have hlt2 : i < m.length := by omega
    obtain ⟨s, hs⟩ : ∃ s, l[i]? = some s := ⟨_, List.getElem?_eq_getElem hlt⟩
    obtain ⟨t, ht⟩ : ∃ t, m[i]? = some t := ⟨_, List.getElem?_eq_getElem hlt2⟩
    rcases h1 with ⟨_, h1⟩ | ⟨b, c, ro, ws, rfl, hb, hw⟩
    · rw [h1] at hlt; simp at hlt
    rcases h2 with ⟨_, h2⟩ | ⟨b', c', ro', ws', rfl, hb', hw'⟩
    · rw [h2] at hlt2; simp at hlt2
    have q1 : ws[i * 1]? = some (.str s) := by rw [Nat.mul_one]; exact hw i s hs
    have q2 : ws'[i * 1]? = some (.str t) := by rw [Nat.mul_one]; exact hw' i t ht
    by_cases hst : s = t
    · have hd2 : decide (s = t) = true := decide_eq_true hst
      with_reducible repeat' (first
 | refine AW.seq ?_
 | refine AW.region ?_
 | refine AW.block ?_
 | refine AOs.nil ?_
 | refine AW.skip ?_
 | refine andThen_normal ?_
 | refine inBlock_normal ?_
 | refine AW.condT (by simp only [aeval, PT.get_set, Nat.reduceEqDiff, reduceIte]; rfl) (by first | rfl | decide | assumption) ?_
 | refine AW.condF (by simp only [aeval, PT.get_set, Nat.reduceEqDiff, reduceIte]; rfl) (by first | rfl | decide | assumption) ?_
 | refine AW.drawT tOK (by with_unfolding_all rfl) (by simp only [pickAll, Nat.reduceAdd]; rfl) ?_
 | refine DN.nil tOK ?_
 | ((first
 | refine DN.fl1E (by with_unfolding_all rfl) (by with_unfolding_all rfl) ?_
 | refine DN.rd1E (by kernel_rfl) (by with_unfolding_all rfl) ?_
 ); refine Step.mk (by simp only [evOp_move, evOp_binOp, evOp_indexAddr, evOp_load, aeval, PT.get_set, Nat.reduceEqDiff, reduceIte, cellAt, Option.map_some, abin_neqS, Bool.not_true, Nat.zero_add, eq_self, ld9, ix37, g0, g1, g5, hlt, hlt2, hb, hb', q1, q2, hd2]; rfl) ?_; refine Same.mk ?_)
 | ((first
 | refine AOs.op1E tOK (by with_unfolding_all rfl) ?_
 ); refine Step.mk (by simp only [evOp_move, evOp_assign, evOp_binOp, evOp_len, aeval, ofVal, PT.get_set, Nat.reduceEqDiff, reduceIte, Option.map_some, abin_add, abin_lss, eq_self, al37, g0, g5, l1, hd, wrap64_succ (show i < 9223372036854775807 by omega)]; rfl) ?_)
 | fail "stop")
      exact ⟨l.length - (i + 1), by omega, rfl, by simp only [PT.get_set, Nat.reduceEqDiff, reduceIte, g0], by simp only [PT.get_set, Nat.reduceEqDiff, reduceIte, g1], i + 1, by omega, rfl, by simp only [PT.get_set, Nat.reduceEqDiff, reduceIte], by rw [List.take_add_one, List.take_add_one, hs, ht, hst, htk]⟩
    · have hd2 : decide (s = t) = false := decide_eq_false hst
      have hr : decide (l = m) = false := decide_eq_false fun e => by subst e; rw [hs] at ht; exact hst (Option.some.inj ht)
      rw [hr]
      with_reducible repeat' (first
 | refine AW.seq ?_
 | refine AW.region ?_
 | refine AW.block ?_
 | refine AOs.nil ?_
 | refine AW.skip ?_
 | refine AW.ret ?_
 | refine andThen_normal ?_
 | refine andThen_ret ?_
 | refine inBlock_ret ?_
 | refine AW.condT (by simp only [aeval, PT.get_set, Nat.reduceEqDiff, reduceIte]; rfl) (by first | rfl | decide | assumption) ?_
 | refine AW.drawT tOK (by with_unfolding_all rfl) (by simp only [pickAll, Nat.reduceAdd]; rfl) ?_
 | refine DN.nil tOK ?_
 | ((first
 | refine DN.fl1E (by with_unfolding_all rfl) (by with_unfolding_all rfl) ?_
 | refine DN.rd1E (by kernel_rfl) (by with_unfolding_all rfl) ?_
 ); refine Step.mk (by simp only [evOp_move, evOp_binOp, evOp_indexAddr, evOp_load, aeval, PT.get_set, Nat.reduceEqDiff, reduceIte, cellAt, Option.map_some, abin_neqS, Bool.not_false, Nat.zero_add, eq_self, ld9, ix37, g0, g1, g5, hlt, hlt2, hb, hb', q1, q2, hd2]; rfl) ?_; refine Same.mk ?_)
 | ((first
 | refine AOs.op1E tOK (by with_unfolding_all rfl) ?_
 ); refine Step.mk (by simp only [evOp_move, evOp_assign, evOp_binOp, evOp_len, aeval, ofVal, PT.get_set, Nat.reduceEqDiff, reduceIte, Option.map_some, abin_lss, eq_self, al37, g0, g5, l1, hd]; rfl) ?_)
 | fail "stop")
      exact fnPost_ret1 (by first | (simp only [PT.get_set, Nat.reduceEqDiff, reduceIte]; rfl) | simp only [PT.get_set, Nat.reduceEqDiff, reduceIte]) ⟨rfl, rfl⟩
  · have hd := nlt_int hlt
    obtain rfl : i = l.length := by omega
    have hr : decide (l = m) = true := decide_eq_true (list_eq_of_take hlm htk)
    rw [hr]
    with_reducible repeat' (first
 | refine AW.seq ?_
 | refine AW.region ?_
 | refine AOs.nil ?_
 | refine AW.exit ?_
 | refine AW.ret ?_
 | refine andThen_normal ?_
 | refine andThen_exit ?_
 | refine inBlock_hit ?_
 | refine AW.condF (by simp only [aeval, PT.get_set, Nat.reduceEqDiff, reduceIte]; rfl) (by first | rfl | decide | assumption) ?_
 | ((first
 | refine AOs.op1E tOK (by with_unfolding_all rfl) ?_
 ); refine Step.mk (by simp only [evOp_move, evOp_assign, evOp_binOp, evOp_len, aeval, ofVal, PT.get_set, Nat.reduceEqDiff, reduceIte, Option.map_some, abin_lss, eq_self, al37, g0, g5, l1, hd]; rfl) ?_)
 | fail "stop")
    exact fnPost_ret1 (by first | (simp only [PT.get_set, Nat.reduceEqDiff, reduceIte]; rfl) | simp only [PT.get_set, Nat.reduceEqDiff, reduceIte]) ⟨rfl, rfl⟩

/-! Texts put together. -/
/-- A row that began as one of none. -/
def Grow (H : AH) (v : AV) (l : List Nm) : Prop := (∃ b, v = .slice b 0 0 (.ex 0) 1 ∧ H.get b = some (.cells false []) ∧ l = []) ∨ (Acc H v (l.map .str) ∧ l ≠ [])
theorem allOne_strs (l : List Nm) : allOne (l.map AV.str) = true := by
  induction l with
  | nil => rfl
  | cons a l ih => simp only [List.map_cons, allOne]; exact (by rw [show AV.one (.str a) = true from rfl, Bool.true_and]; exact ih)
theorem take_strs {ws : List AV} {l : List Nm} (h : ∀ (i : Nat) s, l[i]? = some s → ws[i]? = some (AV.str s)) : ws.take l.length = l.map .str := by
  apply List.ext_getElem?
  intro i
  rw [List.getElem?_map]
  by_cases hi : i < l.length
  · rw [List.getElem?_take_of_lt hi, List.getElem?_eq_getElem hi, h i _ (List.getElem?_eq_getElem hi)]; rfl
  · rw [List.getElem?_eq_none (by rw [List.length_take]; omega), List.getElem?_eq_none (by omega)]; rfl
theorem aappended_texts {H : AH} {v : AV} {l : List Nm} (h : StrsAny H v l) {j : TI} (hs : j.size = 1) : aappended tC H j 37 v = some (l.length, l.map .str) := by
  have h1 := h.len
  have h2 : acells H 1 l.length v = some (l.map .str) := by
    rcases h with ⟨rfl | ⟨k, rfl⟩, rfl⟩ | ⟨b, c, ro, vs, rfl, h1, h2⟩
    · rfl
    · rfl
    · simp only [acells, Nat.mul_one, h1, List.drop_zero, take_strs h2, nbeq, List.length_map, decide_true, cond_true]
      by_cases h0 : l.length = 0
      · have := List.eq_nil_of_length_eq_zero h0
        subst this; rfl
      · simp [h0]
  rcases h with ⟨rfl | ⟨k, rfl⟩, rfl⟩ | ⟨b, c, ro, vs, rfl, h3, h4⟩
  · simp only [aappended, ti37, h1, hs, h2, Option.map_some]
  · simp only [aappended, ti37, h1, hs, h2, Option.map_some]
  · simp only [aappended, ti37, h1, hs, h2, Option.map_some]
theorem aappend_texts {H : AH} {b : Nat} {v : AV} {l : List Nm} (hv : StrsAny H v l) (hN : l.length ≤ 1000000) :
    aappend tC H [37, 37] [.slice b 0 0 (.ex 0) 1, v] = some (if l = [] then (.slice b 0 0 (.ex 0) 1, H) else (.slice H.next 0 l.length (.lo l.length) 1, H.alloc (.cells false (l.map .str)))) := by
  have h1 := aappended_texts hv (j := ⟨.string, 1, 16, some (.str []), true⟩) rfl
  have ho := allOne_strs l
  have hz := zOK_of (j := ⟨.string, 1, 16, some (.str []), true⟩) rfl rfl rfl
  by_cases hl : l = []
  · subst hl
    simp only [aappend, ti37, ti9, h1]
    simp [nbeq, allOne, hz]
  · have hl0 : ¬ l.length = 0 := fun h => hl (List.eq_nil_of_length_eq_zero h)
    simp only [aappend, ti37, ti9, h1]
    simp [ho, hz, nbeq, nble, hl0, hl, ACap.low, acells]
    rw [decide_eq_true (show (2 * l.length + 1024) * 16 ≤ 281474976710656 by omega), decide_eq_true (show l.length ≤ 4611686018427387904 by omega)]; rfl

theorem Grow.append {H : AH} (hw : WF H) {v u : AV} {l m : List Nm} (h : Grow H v l) (hu : StrsAny H u m) (hl : l.length ≤ 1000000) (hm : m.length ≤ 1000000) :
    ∃ v' H', aappend tC H [37, 37] [v, u] = some (v', H') ∧ Grow H' v' (l ++ m) ∧ H.next ≤ H'.next ∧ (∀ b y, H.get b = some y → (∀ o n c z, v ≠ .slice b o n c z) → H'.get b = some y) ∧ (∀ b o n c z, v' = .slice b o n c z → (∃ o n c z, v = .slice b o n c z) ∨ H.next ≤ b) := by
  rcases h with ⟨b, rfl, hb, rfl⟩ | ⟨ha, hne⟩
  · rw [aappend_texts hu hm]
    by_cases hm0 : m = []
    · subst hm0
      rw [if_pos rfl]
      exact ⟨_, _, rfl, .inl ⟨b, rfl, hb, rfl⟩, Nat.le_refl _, fun b y hy _ => hy, fun b o n c z e => .inl ⟨_, _, _, _, e⟩⟩
    · rw [if_neg hm0]
      exact ⟨_, _, rfl, .inr ⟨.inr ⟨H.next, by rw [List.nil_append, List.length_map], by rw [AH.get_alloc, if_pos rfl]; rfl, by simpa using hm0⟩, by simpa using hm0⟩, by rw [AH.next_alloc]; omega, fun b y hy _ => stay_alloc hw _ b y hy, fun b o n c z e => by cases e; exact .inr (Nat.le_refl _)⟩
  · have hx := aappended_texts hu (j := ⟨.string, 1, 16, some (.str []), true⟩) rfl
    have hx' : aappended tC H ⟨.string, 1, 16, some (.str []), true⟩ 37 u = some ((m.map AV.str).length, m.map .str) := by rw [hx, List.length_map]
    obtain ⟨v', H', q1, q2, q3, q4, q5⟩ := acc_append (C := tC) ti37 rfl ti9 rfl rfl rfl (by decide) hw ha hx' (allOne_strs m) (by rw [List.length_map, List.length_map]; omega)
    refine ⟨v', H', q1, .inr ⟨by rw [List.map_append]; exact q2, by simp [hne]⟩, q3, q4, fun b o n c z e => ?_⟩
    rcases q5 b o n c z e with h | h
    · exact .inl ⟨_, _, _, _, h.trans e⟩
    · exact .inr h
theorem Grow.keep {H K : AH} {v : AV} {l : List Nm} (h : Grow H v l) (hk : ∀ b o n c z, v = .slice b o n c z → ∀ x, H.get b = some x → K.get b = some x) : Grow K v l :=
  h.imp (fun ⟨b, h1, h2, h3⟩ => ⟨b, h1, hk _ _ _ _ _ h1 _ h2, h3⟩) fun ⟨h1, h2⟩ => ⟨h1.keep hk, h2⟩
theorem Grow.len {H : AH} {v : AV} {l : List Nm} (h : Grow H v l) : lenOfAV v = some l.length := by
  rcases h with ⟨b, rfl, _, rfl⟩ | ⟨h, _⟩
  · rfl
  · rw [h.len, List.length_map]
theorem Grow.head {H : AH} {v : AV} {l : List Nm} (h : Grow H v l) {n : Nat} (hn : n ≤ l.length) : ∃ u, aslice tC 37 v none (some (.int .i64 (n : Int))) none = some u ∧ StrsAny H u (l.take n) := by
  have hbn : ∀ d, bnd (some (AV.int .i64 (n : Int))) d = some n := fun d => rfl
  rcases h with ⟨b, rfl, hb, rfl⟩ | ⟨h, hne⟩
  · obtain rfl : n = 0 := by simpa using hn
    refine ⟨.slice b 0 0 (.ex 0) 1, ?_, .inr ⟨b, .ex 0, false, [], by simp, hb, fun i s hi => by simp at hi⟩⟩
    simp only [aslice, ti37, ti9, hbn, show bnd none 0 = some 0 from rfl, nbeq, nble, Nat.le_refl, decide_true, Bool.and_true, cond_true, if_pos]
  · have hlen : (l.take n).length = n := by rw [List.length_take]; omega
    rcases h with ⟨_, h⟩ | ⟨b, rfl, hb, _⟩
    · rw [List.map_eq_nil_iff] at h; exact absurd h hne
    · refine ⟨.slice b 0 n (.lo (l.map AV.str).length) 1, aslice_hi ti37 rfl ti9 rfl (by rw [List.length_map]; exact hn), .inr ⟨b, _, false, _, by rw [hlen], hb, fun i s hi => ?_⟩⟩
      rw [List.getElem?_map]
      have : l[i]? = some s := by
        by_cases hin : i < n
        · rw [List.getElem?_take_of_lt hin] at hi; exact hi
        · rw [List.getElem?_eq_none (by omega)] at hi; cases hi
      rw [this]; rfl

/-! What is opened. -/
theorem open10m (N : Nat) {H : AH} {d : Nat} {M M' : DM} {A : Nat → Prop} {recs : List Nm} (hA : ∀ b, A b → b < H.next) (hD : DiskAt H d M A) (ho : OpenM M recs M') :
    AC tC N 0 10 [.ptr d 0, .str nL] H fun r K => ∃ L A' s, r = .tuple [.ptr L 0, s, .int .i64 0] ∧ DiskAt K d M' A' ∧ (∀ x, A' x → A x ∨ (H.next ≤ x ∧ x < K.next)) ∧ Apart H K A ∧ RowsK K A' s recs := by
  cases ho with
  | whole g b _ mb nm hg hG he hb no hl hs hr hc =>
    refine (open10w N hA hD mb (by omega) nm hg hG he hb no (by omega) hs hr (by rw [hc])).mono fun r K ⟨L, A', s, e, o, hs⟩ => ⟨L, A', s, e, ?_, o.sub, o.ap, hs⟩
    have := o.disk
    rw [hc] at this; exact this
  | cut g w b M1 _ mb nm hg hG hG1 he hb no hl hs hw hr hwr nm1 hc =>
    refine (open10c N hA hD mb (by omega) nm hg hG hG1 he hb no hl hs hw hr hwr nm1 (by rw [hc])).mono fun r K ⟨L, A', s, e, o, hs⟩ => ⟨L, A', s, e, ?_, o.sub, o.ap, hs⟩
    have := o.disk
    rw [hc] at this; exact this
end Go.Proofs.YtgihociajfgohaaGreatDoor

open Go Go.AB Go.Proofs
namespace Go.Proofs.YtgihociajfgohaaGreatDoor
set_option maxRecDepth 100000

/-- A disk that was made since. -/
structure One (H K : AH) (d : Nat) (M : DM) (A : Nat → Prop) : Prop where
  a : DiskAt K d M A
  ra : ∀ x, A x → H.next ≤ x ∧ x < K.next
  keep : ∀ b x, H.get b = some x → K.get b = some x
  next : H.next ≤ K.next
/-- Its log. -/
structure Lo1 (H K : AH) (A : Nat → Prop) (X : Nat) (x : AO) : Prop where
  get : K.get X = some x
  na : ¬ A X
  new : H.next ≤ X
section
variable {H K L : AH} {d : Nat} {M M' : DM} {A A' : Nat → Prop}
theorem One.set (h : One H K d M A) (hw : WF H) {X : Nat} (hX : H.next ≤ X) (hd : DiskAt L d M' A') (sub : ∀ y, A' y → A y ∨ (K.next ≤ y ∧ y < L.next)) (ap : ApartL K L A X) : One H L d M' A' where
  a := hd
  ra y hy := by
    have := ap.2; have := h.next
    rcases sub y hy with hy | hy
    · have := h.ra y hy; omega
    · omega
  keep b y hb := ap.1 b y (h.keep b y hb) (fun e => by have := hw b y hb; omega) (.inl fun e => by have := h.ra b e; have := hw b y hb; omega)
  next := Nat.le_trans h.next ap.2
theorem One.set0 (h : One H K d M A) (hw : WF H) (hd : DiskAt L d M' A') (sub : ∀ y, A' y → A y ∨ (K.next ≤ y ∧ y < L.next)) (ap : Apart K L A) : One H L d M' A' where
  a := hd
  ra y hy := by
    have := ap.2; have := h.next
    rcases sub y hy with hy | hy
    · have := h.ra y hy; omega
    · omega
  keep b y hb := ap.1 b y (h.keep b y hb) (.inl fun e => by have := h.ra b e; have := hw b y hb; omega)
  next := Nat.le_trans h.next ap.2
theorem One.more (h : One H K d M A) (hk : ∀ b x, K.get b = some x → L.get b = some x) (hn : K.next ≤ L.next) : One H L d M A where
  a := h.a.keep ⟨fun b x hb _ => hk b x hb, hn⟩ fun _ => id
  ra x hx := by have := h.ra x hx; omega
  keep b x hb := hk b x (h.keep b x hb)
  next := Nat.le_trans h.next hn
theorem Lo1.more {X : Nat} {x : AO} (h : Lo1 H K A X x) (hk : ∀ b x, K.get b = some x → L.get b = some x) : Lo1 H L A X x := ⟨hk _ _ h.get, h.na, h.new⟩
theorem Lo1.own {X : Nat} {x y : AO} (h : Lo1 H K A X x) (hwK : WF K) (hg : L.get X = some y) (sub : ∀ y, A' y → A y ∨ (K.next ≤ y ∧ y < L.next)) : Lo1 H L A' X y :=
  ⟨hg, fun e => by
    rcases sub _ e with e | e
    · exact h.na e
    · have := hwK _ _ h.get; omega, h.new⟩
theorem Lo1.ap {X : Nat} {x : AO} (h : Lo1 H K A X x) (hwK : WF K) (ap : Apart K L A) (sub : ∀ y, A' y → A y ∨ (K.next ≤ y ∧ y < L.next)) : Lo1 H L A' X x :=
  h.own hwK (ap.1 _ _ h.get (.inl h.na)) sub
theorem Lo1.kp {X : Nat} {x : AO} (h : Lo1 H K A X x) : Kp K A X x := ⟨h.get, h.na⟩
end

theorem MB.write {M : DM} {i : Nat} (h : MB M i) (to : Nm) {b : Nm} (hb : b.length ≤ 20000) : MB (M.write to b).2 (i + 6) := MB.writeFrom hb 6 h
theorem next_MB {M : DM} {i : Nat} (h : MB M i) {C : Nm} (hC : C.length ≤ 20000) : MB (nextM M C).2 (i + 7) := by
  unfold nextM
  split
  · exact (h.write _ hC).remove _
  · exact (h.write _ hC).mono (by omega)
theorem after_short {X C : Nm} {s : Nat} {nx : Bool} {M : DM} (h : After X s C nx M) : M.Short 24 ∧ M.sf.length ≤ 2 ∧ M.notes.length ≤ 2 := by
  have n1 : nf1.length ≤ 24 := by decide
  have n2 : nf2.length ≤ 24 := by decide
  have n3 : tmpL.length ≤ 24 := by decide
  cases h <;> refine ⟨⟨fun p hp => ?_, fun nt hn => ?_⟩, by simp [Q], by simp [Q]⟩
  all_goals first
    | (simp [Q] at hp; subst hp; exact n1)
    | (simp at hp; rcases hp with rfl | rfl; exact n1; exact n2)
    | (simp [Q] at hn; done)
    | (simp at hn; subst hn; exact n3)
    | (simp at hn; rcases hn with rfl | rfl; exact n3; exact n2)
    | (simp at hn; subst hn; exact trivial)

/-- Next, whatever was before. -/
theorem next25m (N : Nat) {H : AH} {d L : Nat} {X : Nm} {s : Nat} {f : Int} {off : Bool} {A : Nat → Prop} {e : Int} {sz cnt : Nat} {v : AV} {ls : List Nm} (hA : ∀ b, A b → b < H.next) (hD : DiskAt H d (Q X s f off) A) (hM : MB (Q X s f off) 1) (hL : Kp H A L (logO e d (1 : Nat) sz cnt))
    (hv : RowsAt H v ls) (hn : ls.length ≤ 30) (hl : ∀ l ∈ ls, l.length ≤ 300) (he : e = 0 → off = false) (hX : X.length ≤ 100000) :
    AC tC N 0 25 [.ptr L 0, v] H fun r K => ∃ y M', r = .int .i64 y ∧ After X s (framesM ls) (decide (y = 0)) M' ∧ MB M' 8 ∧ DiskAt K d M' (AddR A H.next K.next) ∧ ApartL H K A L := by
  have hfl := framesM_le hl
  have hfl2 : ls.length * (300 + 8) ≤ 30 * 308 := Nat.mul_le_mul_right _ hn
  by_cases h0 : e = 0
  · subst h0
    obtain rfl := he rfl
    have af := next_after (X := X) (C := framesM ls) (s := s) (f := f) (by omega) (by omega)
    have mb := next_MB hM (C := framesM ls) (by omega)
    refine (next25 N (g := 1) hA hD hM (by omega) hL (.inl rfl) (.inr (.inl rfl)) hv (by omega) hl).mono fun r K h => ?_
    unfold nextM at af mb
    by_cases hw : ((Q X s f false).write (fileN (1 + 1)) (framesM ls)).1 = 0
    · rw [if_pos hw] at h
      rw [if_pos hw] at af mb
      exact ⟨_, _, h.1, af, mb, h.2.disk, h.2.ap⟩
    · rw [if_neg hw] at h
      rw [if_neg hw] at af mb
      exact ⟨_, _, h.1, af, mb, h.2.disk, h.2.ap⟩
  · refine (next25e N h0 hD hL (.inl rfl) hv (by omega) hl).mono fun r K h => ⟨e, _, h.1, ?_, hM.mono (by omega), h.2.disk, h.2.ap⟩
    rw [decide_eq_false h0]
    exact .a0 f off

/-- One more record, whatever was before. -/
theorem append21m (N : Nat) {H : AH} {d L : Nat} {X : Nm} {s : Nat} {f : Int} {off : Bool} {A : Nat → Prop} {e : Int} {sz cnt : Nat} {v : AV} {l : Nm} (hA : ∀ b, A b → b < H.next) (hD : DiskAt H d (Q X s f off) A) (hM : MB (Q X s f off) 1) (hL : Kp H A L (logO e d (1 : Nat) sz cnt))
    (hv : RowsAt H v [l]) (hl : l.length ≤ 300) (he : e = 0 → off = false) (hX : X.length ≤ 100000) (hsz : sz ≤ 1000000) (hcnt : cnt ≤ 1000000) :
    AC tC N 0 21 [.ptr L 0, v] H fun r K => ∃ y X' f' off' e' sz' cnt', r = .int .i64 y ∧ ((e = 0 ∧ e' = 0 ∧ X' = X ++ frameM l ∧ off' = false) ∨ (e' ≠ 0 ∧ X' = X)) ∧ (-1 ≤ f → -1 ≤ f') ∧ (f' ≤ f ∨ f' = -1) ∧ sz' ≤ sz + 308 ∧ cnt' ≤ cnt + 1 ∧ Left H K A d (Q X' s f' off') L e' 1 sz' cnt' := by
  have ef : framesM [l] = frameM l := by simp [framesM]
  have hfl := frameM_len l
  have hall : ∀ x ∈ [l], x.length ≤ 300 := fun x hx => by simp at hx; rw [hx]; exact hl
  by_cases h0 : e = 0
  · subst h0
    obtain rfl := he rfl
    refine (append21 N (g := 1) hA hD hM (by omega) hL (.inl rfl) hv (by simp) hall (by simp) (by omega) (by omega)).mono fun r K h => ?_
    rw [Q_append (by rw [ef]; omega), ef] at h
    by_cases hf : f = 0
    · rw [if_pos hf] at h
      have h2 := h.2
      rw [if_neg (show ¬ (12 : Int) = 0 by decide)] at h2
      exact ⟨_, _, _, _, _, _, _, h.1, .inr ⟨show (12 : Int) ≠ 0 by decide, rfl⟩, fun _ => Int.le_refl _, .inr rfl, by omega, by omega, h2⟩
    · rw [if_neg hf] at h
      have h2 := h.2
      rw [if_pos rfl] at h2
      exact ⟨_, _, _, _, _, _, _, h.1, .inl ⟨rfl, rfl, rfl, rfl⟩, fdown_ge, .inl fdown_le, by omega, by simp, h2⟩
  · exact (append21e N h0 hD hL hv (by simp) hall).mono fun r K h => ⟨e, X, f, off, e, sz, cnt, h.1, .inr ⟨h0, rfl⟩, id, .inl (Int.le_refl _), by omega, by omega, h.2⟩
end Go.Proofs.YtgihociajfgohaaGreatDoor

open Go Go.AB Go.Proofs
namespace Go.Proofs.YtgihociajfgohaaGreatDoor
set_option maxRecDepth 100000

/-- What is known of temporaries may be less. -/
theorem _root_.Go.AB.AOs.gen {C : Ctx} {N G n : Nat} {T : PT AV} {H : AH} {ops : Array Oper} {l : List Oper} {Q : PT AV → AH → Prop} {l' : List (Nat × AV)} (hl : ∀ p ∈ l', T.get p.1 = some p.2) (h : ∀ T1 : PT AV, (∀ p ∈ l', T1.get p.1 = some p.2) → AOs C N G n ops l T1 H Q) : AOs C N G n ops l T H Q := h T hl

theorem _root_.Go.AB.good_ofN {C : Ctx} {N G : Nat} {T : PT AV} {H : AH} {ops : Array Oper} {i : Nat} {v : AV} {dst : Option Tmp} {op : Op} {type : TypeId} {pos : String} {after : Array Edge} (hq : actOp C { dst, op, type, pos, after, guard := none } = false) (hv : evOp C F0 H (aeval G T) { dst, op, type, pos, after, guard := none } = some (v, H)) (k : Nat) :
    (⟨i, { dst, op, type, pos, after, guard := none }, T, v, k⟩ : Ro).good C N G ops H := good_of hq rfl hv k
theorem _root_.Go.AB.good_ofG {C : Ctx} {N G : Nat} {T : PT AV} {H : AH} {ops : Array Oper} {i j d : Nat} {b want : Bool} {v : AV} {dst : Option Tmp} {op : Op} {type : TypeId} {pos : String} {after : Array Edge} (hd : (ops[j]?).bind (·.dst) = some d) (hb : T.get d = some (.bool b)) (hbw : b = want)
    (hq : actOp C { dst, op, type, pos, after, guard := some (j, want) } = false) (hv : evOp C F0 H (aeval G T) { dst, op, type, pos, after, guard := some (j, want) } = some (v, H)) (k : Nat) :
    (⟨i, { dst, op, type, pos, after, guard := some (j, want) }, T, v, k⟩ : Ro).good C N G ops H := good_of hq (by rw [awanted_guard hd hb, hbw]; cases want <;> rfl) hv k

set_option maxHeartbeats 0 in
theorem keeps5 (N : Nat) (H : AH) {va vb vc vp : AV} {a b c : List Nm} {fuse ch : Int} {parts : List Int} (ha : TextsAt H va a) (hb : TextsAt H vb b) (hc : TextsAt H vc c) (hp : IX H vp parts) (hfz : fuse < 9223372036854775808) :
    AC tC N 0 5 [va, vb, vc, .int .i64 fuse, .int .i64 ch, vp] H fun r _ => r = .bool true := by
  refine AC.wf0 fun hwf => ?_
  refine AC.by (n := 163) (rs := [.tmp 12]) tOK fn5 rfl rfl rfl rfl ?_
  have e0 : (PT.ofList .leaf 0 [va, vb, vc, .int .i64 fuse, .int .i64 ch, vp]).get 0 = some va := rfl
  have e1 : (PT.ofList .leaf 0 [va, vb, vc, .int .i64 fuse, .int .i64 ch, vp]).get 1 = some vb := rfl
  have e2 : (PT.ofList .leaf 0 [va, vb, vc, .int .i64 fuse, .int .i64 ch, vp]).get 2 = some vc := rfl
  have e3 : (PT.ofList .leaf 0 [va, vb, vc, .int .i64 fuse, .int .i64 ch, vp]).get 3 = some (.int .i64 fuse) := rfl
  have e4 : (PT.ofList .leaf 0 [va, vb, vc, .int .i64 fuse, .int .i64 ch, vp]).get 4 = some (.int .i64 ch) := rfl
  have e5 : (PT.ofList .leaf 0 [va, vb, vc, .int .i64 fuse, .int .i64 ch, vp]).get 5 = some vp := rfl
  with_reducible repeat' (first
 | refine AW.seq ?_
 | refine AW.region ?_
 | refine AOs.nil ?_
 | refine andThen_normal ?_
 | ((first
 | refine AOs.op1E tOK (by with_unfolding_all rfl) ?_
 ); refine Step.mk (by simp only [evOp_assign, aeval, ofVal]; rfl) ?_)
 | fail "stop")
  refine AOs.callQ tOK (fs := []) (cs := []) rfl fn11 ok11 rfl (by simp only [List.map_nil, List.append_nil] <;> rfl) (lives11 N H) ?_
  rintro r K ⟨rfl, rfl⟩
  with_reducible repeat' (first
 | refine AW.seq ?_
 | refine AW.region ?_
 | refine AOs.nil ?_
 | refine AW.skip ?_
 | refine andThen_normal ?_
 | refine AW.condF (by simp only [aeval, PT.get_set, Nat.reduceEqDiff, reduceIte]; rfl) (by first | rfl | decide | assumption) ?_
 | ((first
 | refine AOs.op1E tOK (by with_unfolding_all rfl) ?_
 ); refine Step.mk (by simp only [evOp_move, evOp_not, aeval, PT.get_set, Nat.reduceEqDiff, reduceIte, Bool.not_true, eq_self, e0]; rfl) ?_)
 | fail "stop")
  refine AOs.callQ tOK (fs := []) (cs := []) rfl fn19 ok19 rfl (by simp only [List.map_cons, List.map_nil, List.nil_append, List.append_nil, aeval, ofVal, PT.get_set, Nat.reduceEqDiff, reduceIte] <;> rfl) (light19 N K va a ha) ?_
  rintro r H ⟨rfl, x, rfl, hxa⟩
  cases x with
  | false =>
    with_reducible repeat' (first
 | refine AW.seq ?_
 | refine AW.region ?_
 | refine AOs.nil ?_
 | refine AW.ret ?_
 | refine andThen_normal ?_
 | refine andThen_ret ?_
 | refine AOs.guardF (by with_unfolding_all rfl) (by simp only [PT.get_set, Nat.reduceEqDiff, reduceIte]; rfl) (by first | rfl | decide | assumption) (by with_unfolding_all rfl) ?_
 | refine AW.condT (by simp only [aeval, PT.get_set, Nat.reduceEqDiff, reduceIte]; rfl) (by first | rfl | decide | assumption) ?_
 | ((first
 | refine AOs.op1E tOK (by with_unfolding_all rfl) ?_
 ); refine Step.mk (by simp only [evOp_move, evOp_assign, evOp_pick, evOp_not, aeval, ofVal, PT.get_set, Nat.reduceEqDiff, reduceIte, cond_true, Bool.not_false, eq_self]; rfl) ?_)
 | fail "stop")
    exact fnPost_ret1 (by first | (simp only [PT.get_set, Nat.reduceEqDiff, reduceIte]; rfl) | simp only [PT.get_set, Nat.reduceEqDiff, reduceIte]) rfl
  | true =>
  obtain ⟨hal, has⟩ := hxa rfl
  with_reducible repeat' (first
 | refine AOs.guardT (by with_unfolding_all rfl) (by simp only [PT.get_set, Nat.reduceEqDiff, reduceIte]; rfl) (by first | rfl | decide | assumption) ?_
 | ((first
 | refine AOs.op1E tOK (by with_unfolding_all rfl) ?_
 ); refine Step.mk (by simp only [evOp_move, evOp_not, aeval, PT.get_set, Nat.reduceEqDiff, reduceIte, Bool.not_true, eq_self, e1]; rfl) ?_)
 | fail "stop")
  refine AOs.callQ tOK (fs := []) (cs := []) rfl fn19 ok19 rfl (by simp only [List.map_cons, List.map_nil, List.nil_append, List.append_nil, aeval, ofVal, PT.get_set, Nat.reduceEqDiff, reduceIte] <;> rfl) (light19 N H vb b hb) ?_
  rintro r K ⟨rfl, x, rfl, hxb⟩
  cases x with
  | false =>
    with_reducible repeat' (first
 | refine AW.seq ?_
 | refine AW.region ?_
 | refine AOs.nil ?_
 | refine AW.ret ?_
 | refine andThen_normal ?_
 | refine andThen_ret ?_
 | refine AOs.guardT (by with_unfolding_all rfl) (by simp only [PT.get_set, Nat.reduceEqDiff, reduceIte]; rfl) (by first | rfl | decide | assumption) ?_
 | refine AOs.guardF (by with_unfolding_all rfl) (by simp only [PT.get_set, Nat.reduceEqDiff, reduceIte]; rfl) (by first | rfl | decide | assumption) (by with_unfolding_all rfl) ?_
 | refine AW.condT (by simp only [aeval, PT.get_set, Nat.reduceEqDiff, reduceIte]; rfl) (by first | rfl | decide | assumption) ?_
 | ((first
 | refine AOs.op1E tOK (by with_unfolding_all rfl) ?_
 ); refine Step.mk (by simp only [evOp_move, evOp_assign, evOp_pick, evOp_not, aeval, ofVal, PT.get_set, Nat.reduceEqDiff, reduceIte, cond_true, cond_false, Bool.not_false, eq_self]; rfl) ?_)
 | fail "stop")
    exact fnPost_ret1 (by first | (simp only [PT.get_set, Nat.reduceEqDiff, reduceIte]; rfl) | simp only [PT.get_set, Nat.reduceEqDiff, reduceIte]) rfl
  | true =>
  obtain ⟨hbl, hbs⟩ := hxb rfl
  with_reducible repeat' (first
 | refine AOs.guardT (by with_unfolding_all rfl) (by simp only [PT.get_set, Nat.reduceEqDiff, reduceIte]; rfl) (by first | rfl | decide | assumption) ?_
 | ((first
 | refine AOs.op1E tOK (by with_unfolding_all rfl) ?_
 ); refine Step.mk (by simp only [evOp_move, evOp_pick, evOp_not, aeval, ofVal, PT.get_set, Nat.reduceEqDiff, reduceIte, cond_false, Bool.not_true, eq_self, e2]; rfl) ?_)
 | fail "stop")
  refine AOs.callQ tOK (fs := []) (cs := []) rfl fn19 ok19 rfl (by simp only [List.map_cons, List.map_nil, List.nil_append, List.append_nil, aeval, ofVal, PT.get_set, Nat.reduceEqDiff, reduceIte] <;> rfl) (light19 N K vc c hc) ?_
  rintro r H ⟨rfl, x, rfl, hxc⟩
  cases x with
  | false =>
    with_reducible repeat' (first
 | refine AW.seq ?_
 | refine AW.region ?_
 | refine AOs.nil ?_
 | refine AW.ret ?_
 | refine andThen_normal ?_
 | refine andThen_ret ?_
 | refine AOs.guardT (by with_unfolding_all rfl) (by simp only [PT.get_set, Nat.reduceEqDiff, reduceIte]; rfl) (by first | rfl | decide | assumption) ?_
 | refine AOs.guardF (by with_unfolding_all rfl) (by simp only [PT.get_set, Nat.reduceEqDiff, reduceIte]; rfl) (by first | rfl | decide | assumption) (by with_unfolding_all rfl) ?_
 | refine AW.condT (by simp only [aeval, PT.get_set, Nat.reduceEqDiff, reduceIte]; rfl) (by first | rfl | decide | assumption) ?_
 | ((first
 | refine AOs.op1E tOK (by with_unfolding_all rfl) ?_
 ); refine Step.mk (by simp only [evOp_move, evOp_assign, evOp_pick, evOp_not, aeval, ofVal, PT.get_set, Nat.reduceEqDiff, reduceIte, cond_true, cond_false, Bool.not_false, eq_self]; rfl) ?_)
 | fail "stop")
    exact fnPost_ret1 (by first | (simp only [PT.get_set, Nat.reduceEqDiff, reduceIte]; rfl) | simp only [PT.get_set, Nat.reduceEqDiff, reduceIte]) rfl
  | true =>
  obtain ⟨hcl, hcs⟩ := hxc rfl
  have lp := hp.len
  by_cases g4 : 100 < parts.length
  · have d4 : decide ((100 : Int) < (parts.length : Nat)) = true := by simp; omega
    with_reducible repeat' (first
 | refine AW.seq ?_
 | refine AW.region ?_
 | refine AOs.nil ?_
 | refine AW.ret ?_
 | refine andThen_normal ?_
 | refine andThen_ret ?_
 | refine AOs.guardT (by with_unfolding_all rfl) (by simp only [PT.get_set, Nat.reduceEqDiff, reduceIte]; rfl) (by first | rfl | decide | assumption) ?_
 | refine AW.condT (by simp only [aeval, PT.get_set, Nat.reduceEqDiff, reduceIte]; rfl) (by first | rfl | decide | assumption) ?_
 | ((first
 | refine AOs.op1E tOK (by with_unfolding_all rfl) ?_
 ); refine Step.mk (by simp only [evOp_move, evOp_assign, evOp_pick, evOp_binOp, evOp_not, evOp_len, aeval, ofVal, PT.get_set, Nat.reduceEqDiff, reduceIte, Option.map_some, abin_gtr, cond_false, Bool.not_true, eq_self, al40, e5, lp, d4]; rfl) ?_)
 | fail "stop")
    exact fnPost_ret1 (by first | (simp only [PT.get_set, Nat.reduceEqDiff, reduceIte]; rfl) | simp only [PT.get_set, Nat.reduceEqDiff, reduceIte]) rfl
  have d4 : decide ((100 : Int) < (parts.length : Nat)) = false := by simp; omega
  have hfa := framesM_le has
  have hfa2 : a.length * (300 + 8) ≤ 30 * 308 := Nat.mul_le_mul_right _ hal
  have hfc := framesM_le hcs
  have hfc2 : c.length * (300 + 8) ≤ 30 * 308 := Nat.mul_le_mul_right _ hcl
  with_reducible repeat' (first
 | refine AW.seq ?_
 | refine AW.region ?_
 | refine AOs.nil ?_
 | refine AW.skip ?_
 | refine andThen_normal ?_
 | refine AOs.guardT (by with_unfolding_all rfl) (by simp only [PT.get_set, Nat.reduceEqDiff, reduceIte]; rfl) (by first | rfl | decide | assumption) ?_
 | refine AW.condF (by simp only [aeval, PT.get_set, Nat.reduceEqDiff, reduceIte]; rfl) (by first | rfl | decide | assumption) ?_
 | ((first
 | refine AOs.op1E tOK (by with_unfolding_all rfl) ?_
 ); refine Step.mk (by simp only [evOp_move, evOp_pick, evOp_binOp, evOp_not, evOp_len, aeval, ofVal, PT.get_set, Nat.reduceEqDiff, reduceIte, Option.map_some, abin_gtr, cond_false, Bool.not_true, eq_self, al40, e5, lp, d4]; rfl) ?_)
 | fail "stop")
  refine AOs.callQ tOK (fs := []) (cs := []) rfl fn20 ok20 rfl (by simp only [List.map_cons, List.map_nil, List.nil_append, List.append_nil, aeval, ofVal] <;> rfl) (new7 N H (room := 1048576) (by omega) (by omega)).wf ?_
  rintro r K0 ⟨⟨d, rfl, h0, h0k, h0n⟩, wf0⟩
  have o0 : One H K0 d (DM.new 1048576) (AddR (fun _ => False) H.next K0.next) := ⟨h0, fun x hx => hx.elim False.elim id, h0k, h0n⟩
  with_reducible repeat' (first
 | refine AW.seq ?_
 | refine AW.region ?_
 | refine AOs.nil ?_
 | refine AW.skip ?_
 | refine andThen_normal ?_
 | refine AW.condF (by simp only [aeval, PT.get_set, Nat.reduceEqDiff, reduceIte]; rfl) (by first | rfl | decide | assumption) ?_
 | ((first
 | refine AOs.op1E tOK (by with_unfolding_all rfl) ?_
 ); refine Step.mk (by simp only [evOp_move, evOp_assign, evOp_binOp, evOp_extract, aeval, ofVal, PT.get_set, Nat.reduceEqDiff, reduceIte, Option.map_some, abin_neq, decide_true, Bool.not_true, List.getElem?_cons_zero, List.getElem?_cons_succ, eq_self]; rfl) ?_)
 | fail "stop")
  have hnm0 : ∀ s ∈ (DM.new 1048576).names, LName s := fun s hs => by
    have e : (DM.new 1048576).names = [] := rfl
    rw [e] at hs; simp at hs
  have qo := open10a N (fun b hb => (o0.ra b hb).2) o0.a new_MB (by omega) hnm0 rfl (by rw [new_write])
  rw [new_write] at qo
  refine AOs.callQ tOK (fs := []) (cs := []) rfl fn10 ok10 rfl (by simp only [List.map_cons, List.map_nil, List.nil_append, List.append_nil, aeval, ofVal, PT.get_set, Nat.reduceEqDiff, reduceIte] <;> rfl) qo.wf ?_
  rintro r K1 ⟨⟨X, A1, rfl, p1⟩, wf1⟩
  have o1 := o0.set0 hwf p1.disk p1.sub p1.ap
  have x1 : Lo1 H K1 A1 X (logO 0 d 1 (0 : Nat) (0 : Nat)) := ⟨p1.log.1, p1.log.2, Nat.le_trans o0.next p1.new⟩
  with_reducible repeat' (first
 | refine AW.seq ?_
 | refine AW.region ?_
 | refine AOs.nil ?_
 | refine andThen_normal ?_
 | refine AOs.guardT (by with_unfolding_all rfl) (by simp only [PT.get_set, Nat.reduceEqDiff, reduceIte]; rfl) (by first | rfl | decide | assumption) ?_
 | ((first
 | refine AOs.op1E tOK (by with_unfolding_all rfl) ?_
 ); refine Step.mk (by simp only [evOp_move, evOp_assign, evOp_binOp, evOp_extract, aeval, ofVal, PT.get_set, Nat.reduceEqDiff, reduceIte, Option.map_some, abin_neq, decide_true, Bool.not_true, List.getElem?_cons_zero, List.getElem?_cons_succ, eq_self, e0]; rfl) ?_)
 | fail "stop")
  refine AOs.callQ tOK (fs := []) (cs := []) rfl fn22 ok22 rfl (by simp only [List.map_cons, List.map_nil, List.nil_append, List.append_nil, aeval, PT.get_set, Nat.reduceEqDiff, reduceIte] <;> rfl) (recs22 N K1 va a (ha.keep o1.keep) wf1 (by omega)).wf ?_
  rintro rv K2 ⟨⟨sy2, hrv⟩, wf2⟩
  have sy2' : ∀ b x, K1.get b = some x → K2.get b = some x := fun b x hb => sy2.get b x (wf1 b x hb) hb
  have o2 := o1.more sy2' sy2.next
  have x2 := x1.more sy2'
  with_reducible repeat' (first
 | refine AOs.guardT (by with_unfolding_all rfl) (by simp only [PT.get_set, Nat.reduceEqDiff, reduceIte]; rfl) (by first | rfl | decide | assumption) ?_
 | ((first
 | refine AOs.op1E tOK (by with_unfolding_all rfl) ?_
 ); refine Step.mk (by simp only [evOp_move, evOp_assign, evOp_pick, evOp_build, evOp_nilCheck, evOp_binOp, evOp_not, evOp_fieldAddr, evOp_field, evOp_indexAddr, evOp_index, evOp_extract, evOp_makeFunc, evOp_load, evOp_lookup, evOp_store, evOp_mapUpdate, evOp_insert, evOp_range, evOp_makeMap, evOp_len, evOp_append, evOp_copy, evOp_delete, evOp_slice, evOp_convert, evOp_entry, evOp_boxC, boxC_one, boxC_agg, evOp_cap, rangeMapAt, storeAt, one_bool, one_int, one_str, one_nilp, one_ptr, one_nils, one_slice, one_empty, one_nilm, one_map, one_func, one_nilf, one_iface, one_nili, aeval, ofVal, PT.get_set, Nat.reduceEqDiff, reduceIte, lenOfAV_slice, lenOfAV_nils, lenOfAV_empty, cellAt, cellsAt, mapLenAt, lookAt, mapSetAt, mapDelAt, List.map_cons, List.map_nil, Option.map_some, Option.map_none, List.nil_append, List.append_nil, abin_add, abin_sub, abin_mul, abin_lss, abin_leq, abin_gtr, abin_geq, abin_eql, abin_neq, abin_eqlS, abin_neqS, cond_true, cond_false, decide_true, decide_false, Bool.not_true, Bool.not_false, TI.agg, List.getElem?_cons_zero, List.getElem?_cons_succ, Nat.add_zero, Nat.zero_add, Nat.zero_mul, nbeq, nble, nblt, Nat.reduceLeDiff, Nat.reduceLT, Nat.reduceMul, Nat.reduceAdd, Nat.reduceSub, Bool.and_true, Bool.true_and, Bool.and_false, Bool.false_and, List.length_cons, List.length_nil, List.set_cons_zero, List.set_cons_succ, AH.get_set, AH.next_set, eq_self, Int.ofNat_eq_natCast, Int.cast_ofNat_Int, Int.natCast_zero, Int.reduceEq, Int.reduceLT, Int.reduceLE, Int.reduceNeg, ld3, st3, ld4, st4, ld5, st5, al9, ld9, st9, ld20, st20, ld21, st21, ld24, st24, ld27, ne27a, eq27a, ne27b, eq27b, st27, al28, ix28, bs28, ld28, ne28a, eq28a, ne28b, eq28b, ne28c, eq28c, st28, al32, ix32, bs32, ld32, ne32a, eq32a, ne32b, eq32b, ne32c, eq32c, st32, al37, ix37, bs37, ld37, ne37a, eq37a, ne37b, eq37b, ne37c, eq37c, st37, al40, ix40, bs40, ld40, ne40a, eq40a, ne40b, eq40b, ne40c, eq40c, st40, ld42, ne42a, eq42a, ne42b, eq42b, st42, ld47, st47, ld57, st57, ld60, st60, fa63_0, ld63, fa65_0, fa65_1, fa65_2, fa65_3, fa65_4, fa65_5, ld65, an72, am72, ld72, md72, ms72, lk72, ne72a, eq72a, ne72b, eq72b, st72, al73, ix73, bs73, ld73, ne73a, eq73a, ne73b, eq73b, ne73c, eq73c, st73, fa75_0, fa75_1, fa75_2, fa75_3, fa75_4, fa75_5, ld75, ld83, st83, ld85, ne85a, eq85a, ne85b, eq85b, st85, fa87_0, fa87_1, ld87, ld91, st91, ld96, st96, ld104, st104, al116, ix116, bs116, ld116, ne116a, eq116a, ne116b, eq116b, ne116c, eq116c, st116, ld118, st118, ld119, ix119, cv9_32, cv96_3, cv5_96, cv96_5, cv3_96, cv3_118, e0, e1, e2, e3, e4, e5]; rfl) ?_)
 | fail "stop")
  refine AOs.callQ tOK (fs := []) (cs := []) rfl fn21 ok21 rfl (by simp only [List.map_cons, List.map_nil, List.nil_append, List.append_nil, aeval, PT.get_set, Nat.reduceEqDiff, reduceIte] <;> rfl) (appendP N (c := []) (sz := 0) (cnt := 0) (fun b hb => (o2.ra b hb).2) o2.a x2.kp hrv.rows (by omega) has (by simp) (by omega) (by omega)).wf ?_
  rintro r K3 ⟨⟨rfl, p3⟩, wf3⟩
  rw [List.nil_append, Nat.zero_add, Nat.zero_add] at p3
  have o3 := o2.set hwf x2.new p3.disk p3.sub p3.ap
  have x3 := x2.own wf2 p3.log p3.sub
  with_reducible repeat' (first
 | refine AOs.guardT (by with_unfolding_all rfl) (by simp only [PT.get_set, Nat.reduceEqDiff, reduceIte]; rfl) (by first | rfl | decide | assumption) ?_
 | ((first
 | refine AOs.op1E tOK (by with_unfolding_all rfl) ?_
 ); refine Step.mk (by simp only [evOp_move, evOp_pick, evOp_binOp, aeval, ofVal, PT.get_set, Nat.reduceEqDiff, reduceIte, Option.map_some, abin_neq, cond_false, decide_true, Bool.not_true, eq_self]; rfl) ?_)
 | fail "stop")
  have qs := sync23 N (g := 1) (fun b hb => (o3.ra b hb).2) o3.a (P1_MB (c := framesM a) (by omega)) (by omega) x3.kp (.inl rfl)
  rw [Q_sync] at qs
  refine AOs.callQ tOK (fs := []) (cs := []) rfl fn23 ok23 rfl (by simp only [List.map_cons, List.map_nil, List.nil_append, List.append_nil, aeval, PT.get_set, Nat.reduceEqDiff, reduceIte] <;> rfl) qs.wf ?_
  rintro r K4 ⟨⟨rfl, p4⟩, wf4⟩
  have o4 := o3.set hwf x3.new p4.disk p4.sub p4.ap
  have x4 := x3.own wf3 p4.log p4.sub
  with_reducible repeat' (first
 | refine AOs.guardT (by with_unfolding_all rfl) (by simp only [PT.get_set, Nat.reduceEqDiff, reduceIte]; rfl) (by first | rfl | decide | assumption) ?_
 | ((first
 | refine AOs.op1E tOK (by with_unfolding_all rfl) ?_
 ); refine Step.mk (by simp only [evOp_move, evOp_pick, evOp_binOp, aeval, ofVal, PT.get_set, Nat.reduceEqDiff, reduceIte, Option.map_some, abin_neq, cond_false, decide_true, Bool.not_true, eq_self, e3]; rfl) ?_)
 | fail "stop")
  refine AOs.callQ tOK (fs := []) (cs := []) rfl fn24 ok24 rfl (by simp only [List.map_cons, List.map_nil, List.nil_append, List.append_nil, aeval, PT.get_set, Nat.reduceEqDiff, reduceIte] <;> rfl) (fuse19 N K4 (n := fuse) o4.a).wf ?_
  rintro r K5 ⟨⟨rfl, h5, a5⟩, wf5⟩
  rw [Q_fuse] at h5
  have o5 := o4.set0 hwf h5 addR_sub a5
  have x5 := x4.ap wf4 a5 addR_sub
  have hf1 : -1 ≤ max (-1) fuse := by omega
  have hf2 : max (-1) fuse < 9223372036854775808 := by omega
  generalize max (-1) fuse = fz at o5 hf1 hf2
  with_reducible repeat' (first
 | refine AW.seq ?_
 | refine AW.region ?_
 | refine AW.block ?_
 | refine AOs.nil ?_
 | refine AW.skip ?_
 | refine andThen_normal ?_
 | refine AOs.guardT (by with_unfolding_all rfl) (by simp only [PT.get_set, Nat.reduceEqDiff, reduceIte]; rfl) (by first | rfl | decide | assumption) ?_
 | refine AW.condF (by simp only [aeval, PT.get_set, Nat.reduceEqDiff, reduceIte]; rfl) (by first | rfl | decide | assumption) ?_
 | ((first
 | refine AOs.op1E tOK (by with_unfolding_all rfl) ?_
 ); refine Step.mk (by simp only [evOp_assign, evOp_pick, evOp_binOp, aeval, ofVal, PT.get_set, Nat.reduceEqDiff, reduceIte, Option.map_some, abin_neq, cond_false, decide_true, Bool.not_true, eq_self]; rfl) ?_)
 | fail "stop")
  have hlb := hb.len
  refine AW.loop (fun m T K' => T.get 0 = some va ∧ T.get 1 = some vb ∧ T.get 2 = some vc ∧ T.get 4 = some (.int .i64 ch) ∧ T.get 5 = some vp ∧ T.get 13 = some (.ptr d 0) ∧ T.get 15 = some (.ptr X 0) ∧
      ∃ (i : Nat) (A : Nat → Prop) (j : Nat) (f : Int) (off : Bool) (e : Int) (sz cnt : Nat), i ≤ b.length ∧ m = b.length - i ∧ T.get 17 = some (.int .i64 (i : Nat)) ∧ One H K' d (Q (framesM (a ++ b.take j)) (framesM a).length f off) A ∧ Lo1 H K' A X (logO e d (1 : Nat) sz cnt) ∧ j ≤ i ∧ -1 ≤ f ∧ f < 9223372036854775808 ∧ sz ≤ 20000 + 308 * i ∧ cnt ≤ 100 + i ∧ ((e = 0 ∧ off = false ∧ j = i) ∨ e ≠ 0)) ?_ (b.length - 0)
    ⟨by simp [PT.get_set, e0], by simp [PT.get_set, e1], by simp [PT.get_set, e2], by simp [PT.get_set, e4], by simp [PT.get_set, e5], by simp [PT.get_set], by simp [PT.get_set], 0, _, 0, fz, false, 0, (framesM a).length, a.length, by omega, rfl, by simp [PT.get_set], by rw [List.take_zero, List.append_nil]; exact o5, x5, Nat.le_refl _, hf1, hf2, by omega, by omega, .inl ⟨rfl, rfl, rfl⟩⟩
  rintro m T K6 ⟨g0, g1, g2, g4', g5, g13, g15, i, A6, j, f, off, e, sz, cnt, hi, rfl, g17, o6, x6, hj, hf1, hf2, hsz, hcnt, hst⟩
  refine AW.wf0 fun wf6 => ?_
  have hlsl : ∀ l ∈ a ++ b.take j, l.length ≤ 300 := fun l hl => by
    rcases List.mem_append.1 hl with h | h
    · exact has l h
    · exact hbs l (List.mem_of_mem_take h)
  have hfx := framesM_le hlsl
  have hln : (a ++ b.take j).length ≤ 60 := by rw [List.length_append, List.length_take]; omega
  have hfx2 : (a ++ b.take j).length * (300 + 8) ≤ 60 * 308 := Nat.mul_le_mul_right _ hln
  have hsa : (framesM a).length ≤ (framesM (a ++ b.take j)).length := by rw [framesM_app, List.length_append]; omega
  have mq := Q_MB (off := off) hsa (by omega) hf1 hf2
  have hoff : e = 0 → off = false := fun h => by
    rcases hst with ⟨_, h2, _⟩ | h2
    · exact h2
    · exact absurd h h2
  by_cases hil : i < b.length
  · have hd := lt_int hil
    obtain ⟨s, hs⟩ : ∃ s, b[i]? = some s := ⟨_, List.getElem?_eq_getElem hil⟩
    have hsl := hbs s (List.mem_of_getElem? hs)
    rcases hb with ⟨_, hb⟩ | ⟨bb, bc, bvs, rfl, hbb, hbw⟩
    · rw [hb] at hil; simp at hil
    have hbb6 := o6.keep _ _ hbb
    have hw : bvs[i * 1]? = some (.str s) := by rw [Nat.mul_one]; exact hbw i s hs
    generalize hK7 : (K6.alloc (.cells false (bytesAV s))).alloc (.cells false [.slice K6.next 0 s.length (.lo s.length) 1]) = K7
    have hcv : ∀ L : AH, convOp tC L 9 32 (.str s) = some (.slice L.next 0 s.length (.lo s.length) 1, L.alloc (.cells false (bytesAV s))) := fun L => cv9_32 L s
    have sy7 : ∀ b x, K6.get b = some x → K7.get b = some x := fun b x hb => by rw [← hK7]; exact stay_alloc (wf_alloc wf6 _) _ b x (stay_alloc wf6 _ b x hb)
    have wf7 : WF K7 := by rw [← hK7]; exact wf_alloc (wf_alloc wf6 _) _
    have n7 : K7.next = K6.next + 2 := by rw [← hK7]; rfl
    have gb7 : K7.get K6.next = some (.cells false (bytesAV s)) := by rw [← hK7, AH.get_alloc, if_neg (by simp), AH.get_alloc, if_pos rfl]
    have gs7 : K7.get (K6.next + 1) = some (.cells false [.slice K6.next 0 s.length (.lo s.length) 1]) := by rw [← hK7, AH.get_alloc, if_pos (by simp)]
    have o7 := o6.more sy7 (by omega)
    have x7 := x6.more sy7
    have hr7 : RowsAt K7 (.slice (K6.next + 1) 0 1 (.ex 1) 1) [s] := rows_of (ls := [s]) gs7 rfl fun j u l hu hl => by
      match j with
      | 0 =>
        simp at hu hl; subst hu hl
        exact .inr ⟨K6.next, 0, _, false, _, rfl, gb7, by rw [List.drop_zero, List.take_of_length_le (by rw [bytesAV_length]; omega)]⟩
      | j + 1 => simp at hu
    with_reducible repeat' (first
 | refine AW.seq ?_
 | refine AW.region ?_
 | refine AW.block ?_
 | refine AOs.nil ?_
 | refine AW.skip ?_
 | refine andThen_normal ?_
 | refine AW.condT (by simp only [aeval, PT.get_set, Nat.reduceEqDiff, reduceIte]; rfl) (by first | rfl | decide | assumption) ?_
 | ((first
 | refine AOs.op1E tOK (by with_unfolding_all rfl) ?_
 ); refine Step.mk (by simp only [evOp_move, evOp_binOp, evOp_indexAddr, evOp_load, evOp_len, evOp_convert, one_slice, aeval, PT.get_set, Nat.reduceEqDiff, reduceIte, cellAt, Option.map_some, abin_lss, Nat.zero_add, eq_self, ld9, al37, ix37, g1, g15, g17, hlb, hd, hil, hbb6, hw, hcv, bs28_1, AH.next_alloc, hK7]; rfl) ?_)
 | fail "stop")
    refine AOs.callQ tOK (fs := []) (cs := []) rfl fn21 ok21 rfl (by simp only [List.map_cons, List.map_nil, List.nil_append, List.append_nil, aeval, PT.get_set, Nat.reduceEqDiff, reduceIte] <;> rfl) (append21m N (fun b hb => (o7.ra b hb).2) o7.a mq x7.kp hr7 hsl hoff (by omega) (by omega) (by omega)).wf ?_
    rintro r K8 ⟨⟨y, X', f', off', e', sz', cnt', rfl, hstep, hf1', hf2', hsz', hcnt', p8⟩, wf8⟩
    have o8 := o7.set hwf x7.new p8.disk p8.sub p8.ap
    have x8 := x7.own wf7 p8.log p8.sub
    obtain ⟨j', hX', hj', hst'⟩ : ∃ j', X' = framesM (a ++ b.take j') ∧ j' ≤ i + 1 ∧ ((e' = 0 ∧ off' = false ∧ j' = i + 1) ∨ e' ≠ 0) := by
      rcases hstep with ⟨h1, h2, h3, h4⟩ | ⟨h1, h2⟩
      · rcases hst with ⟨_, _, hji⟩ | h5
        · refine ⟨i + 1, ?_, Nat.le_refl _, .inl ⟨h2, h4, rfl⟩⟩
          rw [h3, hji, framesM_app, framesM_app, framesM_take hs, List.append_assoc]
        · exact absurd h1 h5
      · exact ⟨j, h2, by omega, .inr h1⟩
    rw [hX'] at o8
    with_reducible repeat' (first
 | refine AW.region ?_
 | refine AOs.nil ?_
 | refine andThen_normal ?_
 | refine inBlock_normal ?_
 | ((first
 | refine AOs.op1E tOK (by with_unfolding_all rfl) ?_
 ); refine Step.mk (by simp only [evOp_move, evOp_assign, evOp_binOp, aeval, ofVal, PT.get_set, Nat.reduceEqDiff, reduceIte, Option.map_some, abin_add, eq_self, g17]; rfl) ?_)
 | fail "stop")
    refine ⟨b.length - (i + 1), by omega, by simp [PT.get_set, g0], by simp [PT.get_set, g1], by simp [PT.get_set, g2], by simp [PT.get_set, g4'], by simp [PT.get_set, g5], by simp [PT.get_set, g13], by simp [PT.get_set, g15], i + 1, _, j', f', off', e', sz', cnt', by omega, rfl, ?_, o8, x8, hj', hf1' hf1, by omega, by omega, by omega, hst'⟩
    simp only [PT.get_set, Nat.reduceEqDiff, reduceIte, wrap64_succ (show i < 9223372036854775807 by omega)]
  have hd := nlt_int hil
  obtain rfl : i = b.length := by omega
  with_reducible repeat' (first
 | refine AW.seq ?_
 | refine AW.region ?_
 | refine AOs.nil ?_
 | refine AW.exit ?_
 | refine andThen_normal ?_
 | refine andThen_exit ?_
 | refine inBlock_hit ?_
 | refine AW.condF (by simp only [aeval, PT.get_set, Nat.reduceEqDiff, reduceIte]; rfl) (by first | rfl | decide | assumption) ?_
 | ((first
 | refine AOs.op1E tOK (by with_unfolding_all rfl) ?_
 ); refine Step.mk (by simp only [evOp_move, evOp_binOp, evOp_len, aeval, PT.get_set, Nat.reduceEqDiff, reduceIte, Option.map_some, abin_lss, eq_self, al37, g1, g2, g15, g17, hlb, hd]; rfl) ?_)
 | fail "stop")
  refine AOs.callQ tOK (fs := []) (cs := []) rfl fn22 ok22 rfl (by simp only [List.map_cons, List.map_nil, List.nil_append, List.append_nil, aeval, PT.get_set, Nat.reduceEqDiff, reduceIte] <;> rfl) (recs22 N K6 vc c (hc.keep o6.keep) wf6 (by omega)).wf ?_
  rintro rv K7 ⟨⟨sy7, hrc⟩, wf7⟩
  have sy7' : ∀ b x, K6.get b = some x → K7.get b = some x := fun b x hb => sy7.get b x (wf6 b x hb) hb
  have o7 := o6.more sy7' sy7.next
  have x7 := x6.more sy7'
  with_reducible repeat' (first
 | ((first
 | refine AOs.op1E tOK (by with_unfolding_all rfl) ?_
 ); refine Step.mk (by simp only [evOp_move, evOp_assign, evOp_pick, evOp_build, evOp_nilCheck, evOp_binOp, evOp_not, evOp_fieldAddr, evOp_field, evOp_indexAddr, evOp_index, evOp_extract, evOp_makeFunc, evOp_load, evOp_lookup, evOp_store, evOp_mapUpdate, evOp_insert, evOp_range, evOp_makeMap, evOp_len, evOp_append, evOp_copy, evOp_delete, evOp_slice, evOp_convert, evOp_entry, evOp_boxC, boxC_one, boxC_agg, evOp_cap, rangeMapAt, storeAt, one_bool, one_int, one_str, one_nilp, one_ptr, one_nils, one_slice, one_empty, one_nilm, one_map, one_func, one_nilf, one_iface, one_nili, aeval, ofVal, PT.get_set, Nat.reduceEqDiff, reduceIte, lenOfAV_slice, lenOfAV_nils, lenOfAV_empty, cellAt, cellsAt, mapLenAt, lookAt, mapSetAt, mapDelAt, List.map_cons, List.map_nil, Option.map_some, Option.map_none, List.nil_append, List.append_nil, abin_add, abin_sub, abin_mul, abin_lss, abin_leq, abin_gtr, abin_geq, abin_eql, abin_neq, abin_eqlS, abin_neqS, cond_true, cond_false, decide_true, decide_false, Bool.not_true, Bool.not_false, TI.agg, List.getElem?_cons_zero, List.getElem?_cons_succ, Nat.add_zero, Nat.zero_add, Nat.zero_mul, nbeq, nble, nblt, Nat.reduceLeDiff, Nat.reduceLT, Nat.reduceMul, Nat.reduceAdd, Nat.reduceSub, Bool.and_true, Bool.true_and, Bool.and_false, Bool.false_and, List.length_cons, List.length_nil, List.set_cons_zero, List.set_cons_succ, AH.get_set, AH.next_set, eq_self, Int.ofNat_eq_natCast, Int.cast_ofNat_Int, Int.natCast_zero, Int.reduceEq, Int.reduceLT, Int.reduceLE, Int.reduceNeg, ld3, st3, ld4, st4, ld5, st5, al9, ld9, st9, ld20, st20, ld21, st21, ld24, st24, ld27, ne27a, eq27a, ne27b, eq27b, st27, al28, ix28, bs28, ld28, ne28a, eq28a, ne28b, eq28b, ne28c, eq28c, st28, al32, ix32, bs32, ld32, ne32a, eq32a, ne32b, eq32b, ne32c, eq32c, st32, al37, ix37, bs37, ld37, ne37a, eq37a, ne37b, eq37b, ne37c, eq37c, st37, al40, ix40, bs40, ld40, ne40a, eq40a, ne40b, eq40b, ne40c, eq40c, st40, ld42, ne42a, eq42a, ne42b, eq42b, st42, ld47, st47, ld57, st57, ld60, st60, fa63_0, ld63, fa65_0, fa65_1, fa65_2, fa65_3, fa65_4, fa65_5, ld65, an72, am72, ld72, md72, ms72, lk72, ne72a, eq72a, ne72b, eq72b, st72, al73, ix73, bs73, ld73, ne73a, eq73a, ne73b, eq73b, ne73c, eq73c, st73, fa75_0, fa75_1, fa75_2, fa75_3, fa75_4, fa75_5, ld75, ld83, st83, ld85, ne85a, eq85a, ne85b, eq85b, st85, fa87_0, fa87_1, ld87, ld91, st91, ld96, st96, ld104, st104, al116, ix116, bs116, ld116, ne116a, eq116a, ne116b, eq116b, ne116c, eq116c, st116, ld118, st118, ld119, ix119, cv9_32, cv96_3, cv5_96, cv96_5, cv3_96, cv3_118, g0, g1, g2, g4', g5, g13, g15]; rfl) ?_)
 | fail "stop")
  refine AOs.callQ tOK (fs := []) (cs := []) rfl fn25 ok25 rfl (by simp only [List.map_cons, List.map_nil, List.nil_append, List.append_nil, aeval, PT.get_set, Nat.reduceEqDiff, reduceIte] <;> rfl) (next25m N (fun b hb => (o7.ra b hb).2) o7.a mq x7.kp hrc.rows hcl hcs hoff (by omega)).wf ?_
  rintro r K8 ⟨⟨y, M8, rfl, af, mb8, h8, a8⟩, wf8⟩
  have o8 := o7.set hwf x7.new h8 addR_sub a8
  obtain ⟨nx, hnx⟩ : ∃ nx, nx = decide (y = 0) := ⟨_, rfl⟩
  rw [← hnx] at af
  have hnx' := hnx.symm
  -- the crash
  obtain ⟨sh8, sl8, nl8⟩ := after_short af
  have ck8 := DM.kept_len M8 ch
  have fl8 : ∀ (i : Nat) p, M8.files[i]? = some p → p.1.length ≤ 200000 := fun i p h => Nat.le_trans (mb8.files i p h) (by omega)
  obtain ⟨u, L, hcp, hi8, hkL, hnL, hne⟩ := ints_copy (K := K8.alloc (.cells false [])) (b := K8.next) (by rw [AH.get_alloc, if_pos rfl]) (hp.keep fun b x hb => by
    have h1 := o8.keep b x hb
    have := wf8 b x h1
    rw [AH.get_alloc, if_neg (by omega)]; exact h1) (by omega)
  rw [AH.next_alloc] at hnL
  have hkJ : ∀ b x, K8.get b = some x → L.get b = some x := fun b x hb => by
    have := wf8 b x hb
    exact hkL b x (by rw [AH.get_alloc, if_neg (by omega)]; exact hb) (by rw [AH.next_alloc]; omega)
  have o9 := o8.more hkJ (by omega)
  with_reducible repeat' (first
 | refine AW.seq ?_
 | refine AW.region ?_
 | refine AOs.nil ?_
 | refine andThen_normal ?_
 | ((first
 | refine AOs.op1E tOK (by with_unfolding_all rfl) ?_
 ); refine Step.mk (by simp only [evOp_move, evOp_assign, evOp_binOp, evOp_append, aeval, ofVal, PT.get_set, Nat.reduceEqDiff, reduceIte, List.map_cons, List.map_nil, Option.map_some, abin_eql, eq_self, bs40, g4', g5, g13, hnx', hcp]; rfl) ?_)
 | fail "stop")
  refine AOs.wf0 fun wfL => ?_
  refine AOs.callQ tOK (fs := []) (cs := []) rfl fn26 ok26 rfl (by simp only [List.map_cons, List.map_nil, List.nil_append, List.append_nil, aeval, PT.get_set, Nat.reduceEqDiff, reduceIte] <;> rfl) (crash14 N L (ch := ch) (parts := parts) o9.a mb8.ok (by omega) (fun i p h => Nat.le_trans (fl8 i p h) (by omega)) (fun p hp => Nat.le_trans (DM.kept_short sh8 ch p hp) (by omega)) (by omega) (DM.kept_refs mb8.ok ch) hi8 (fun b o n c z e hb => by
    have h1 := o8.ra b hb
    rw [AH.next_alloc] at hne
    rcases hne b o n c z e with h2 | h2 <;> omega)).wf ?_
  rintro r K10 ⟨⟨rfl, h10, a10⟩, wf10⟩
  have o10 := o9.set0 hwf h10 addR_sub a10
  have bk := crash_back af hsa (by omega) (by omega) ch parts
  obtain ⟨recs, M11, M12, om1, om2, hrl, hfin⟩ := back_open rfl bk has hbs hcs hal hbl hcl
  with_reducible repeat' (first
 | refine AW.seq ?_
 | refine AW.region ?_
 | refine AOs.nil ?_
 | refine AW.skip ?_
 | refine andThen_normal ?_
 | refine AW.condF (by simp only [aeval, PT.get_set, Nat.reduceEqDiff, reduceIte]; rfl) (by first | rfl | decide | assumption) ?_
 | ((first
 | refine AOs.op1E tOK (by with_unfolding_all rfl) ?_
 ); refine Step.mk (by simp only [evOp_move, evOp_binOp, aeval, ofVal, PT.get_set, Nat.reduceEqDiff, reduceIte, Option.map_some, abin_neq, decide_true, Bool.not_true, eq_self, g13]; rfl) ?_)
 | fail "stop")
  refine AOs.callQ tOK (fs := []) (cs := []) rfl fn10 ok10 rfl (by simp only [List.map_cons, List.map_nil, List.nil_append, List.append_nil, aeval, ofVal, PT.get_set, Nat.reduceEqDiff, reduceIte] <;> rfl) (open10m N (fun b hb => (o10.ra b hb).2) o10.a om1).wf ?_
  rintro r K11 ⟨⟨L1, A11, sv, rfl, h11, sub11, a11, hsv⟩, wf11⟩
  have o11 := o10.set0 hwf h11 sub11 a11
  with_reducible repeat' (first
 | refine AW.seq ?_
 | refine AW.region ?_
 | refine AOs.nil ?_
 | refine andThen_normal ?_
 | ((first
 | refine AOs.op1E tOK (by with_unfolding_all rfl) ?_
 ); refine Step.mk (by simp only [evOp_move, evOp_assign, evOp_extract, aeval, PT.get_set, Nat.reduceEqDiff, reduceIte, Option.map_some, List.getElem?_cons_zero, List.getElem?_cons_succ, eq_self, g13]; rfl) ?_)
 | fail "stop")
  refine AOs.callQ tOK (fs := []) (cs := []) rfl fn10 ok10 rfl (by simp only [List.map_cons, List.map_nil, List.nil_append, List.append_nil, aeval, ofVal, PT.get_set, Nat.reduceEqDiff, reduceIte] <;> rfl) (open10m N (fun b hb => (o11.ra b hb).2) o11.a om2).wf ?_
  rintro r K12 ⟨⟨L2, A12, tv, rfl, h12, sub12, a12, htv⟩, wf12⟩
  have o12 := o11.set0 hwf h12 sub12 a12
  have hsv12 : RowsAt K12 sv recs := hsv K12 fun b x hb hn => a12.1 b x hb (.inl hn)
  have htv12 : RowsAt K12 tv recs := htv K12 fun b x hb _ => hb
  have hlsv := hsv12.len
  with_reducible repeat' (first
 | refine AW.seq ?_
 | refine AW.region ?_
 | refine AOs.nil ?_
 | refine andThen_normal ?_
 | refine AOs.guardT (by with_unfolding_all rfl) (by simp only [PT.get_set, Nat.reduceEqDiff, reduceIte]; rfl) (by first | rfl | decide | assumption) ?_
 | ((first
 | refine AOs.op1E tOK (by with_unfolding_all rfl) ?_
 ); refine Step.mk (by simp only [evOp_move, evOp_assign, evOp_pick, evOp_binOp, evOp_extract, aeval, ofVal, PT.get_set, Nat.reduceEqDiff, reduceIte, Option.map_some, abin_neq, cond_false, decide_true, Bool.not_true, List.getElem?_cons_zero, List.getElem?_cons_succ, eq_self]; rfl) ?_)
 | fail "stop")
  refine AOs.callQ tOK (fs := []) (cs := []) rfl fn18 ok18 rfl (by simp only [List.map_cons, List.map_nil, List.nil_append, List.append_nil, aeval, PT.get_set, Nat.reduceEqDiff, reduceIte] <;> rfl) (texts18 N K12 hsv12 (by omega)).wf ?_
  rintro r K13 ⟨⟨sx, kx, nx3⟩, wf13⟩
  with_reducible repeat' (first
 | refine AOs.guardT (by with_unfolding_all rfl) (by simp only [PT.get_set, Nat.reduceEqDiff, reduceIte]; rfl) (by first | rfl | decide | assumption) ?_
 | ((first
 | refine AOs.op1E tOK (by with_unfolding_all rfl) ?_
 ); refine Step.mk (by simp only [evOp_move, aeval, PT.get_set, Nat.reduceEqDiff, reduceIte, eq_self]; rfl) ?_)
 | fail "stop")
  refine AOs.callQ tOK (fs := []) (cs := []) rfl fn18 ok18 rfl (by simp only [List.map_cons, List.map_nil, List.nil_append, List.append_nil, aeval, PT.get_set, Nat.reduceEqDiff, reduceIte] <;> rfl) (texts18 N K13 (htv12.keep kx) (by omega)).wf ?_
  rintro r K14 ⟨⟨sy, ky, ny⟩, wf14⟩
  with_reducible repeat' (first
 | refine AOs.guardT (by with_unfolding_all rfl) (by simp only [PT.get_set, Nat.reduceEqDiff, reduceIte]; rfl) (by first | rfl | decide | assumption) ?_
 | ((first
 | refine AOs.op1E tOK (by with_unfolding_all rfl) ?_
 ); refine Step.mk (by simp only [evOp_move, evOp_assign, evOp_pick, evOp_build, evOp_nilCheck, evOp_binOp, evOp_not, evOp_fieldAddr, evOp_field, evOp_indexAddr, evOp_index, evOp_extract, evOp_makeFunc, evOp_load, evOp_lookup, evOp_store, evOp_mapUpdate, evOp_insert, evOp_range, evOp_makeMap, evOp_len, evOp_append, evOp_copy, evOp_delete, evOp_slice, evOp_convert, evOp_entry, evOp_boxC, boxC_one, boxC_agg, evOp_cap, rangeMapAt, storeAt, one_bool, one_int, one_str, one_nilp, one_ptr, one_nils, one_slice, one_empty, one_nilm, one_map, one_func, one_nilf, one_iface, one_nili, aeval, ofVal, PT.get_set, Nat.reduceEqDiff, reduceIte, lenOfAV_slice, lenOfAV_nils, lenOfAV_empty, cellAt, cellsAt, mapLenAt, lookAt, mapSetAt, mapDelAt, List.map_cons, List.map_nil, Option.map_some, Option.map_none, List.nil_append, List.append_nil, abin_add, abin_sub, abin_mul, abin_lss, abin_leq, abin_gtr, abin_geq, abin_eql, abin_neq, abin_eqlS, abin_neqS, cond_true, cond_false, decide_true, decide_false, Bool.not_true, Bool.not_false, TI.agg, List.getElem?_cons_zero, List.getElem?_cons_succ, Nat.add_zero, Nat.zero_add, Nat.zero_mul, nbeq, nble, nblt, Nat.reduceLeDiff, Nat.reduceLT, Nat.reduceMul, Nat.reduceAdd, Nat.reduceSub, Bool.and_true, Bool.true_and, Bool.and_false, Bool.false_and, List.length_cons, List.length_nil, List.set_cons_zero, List.set_cons_succ, AH.get_set, AH.next_set, eq_self, Int.ofNat_eq_natCast, Int.cast_ofNat_Int, Int.natCast_zero, Int.reduceEq, Int.reduceLT, Int.reduceLE, Int.reduceNeg, ld3, st3, ld4, st4, ld5, st5, al9, ld9, st9, ld20, st20, ld21, st21, ld24, st24, ld27, ne27a, eq27a, ne27b, eq27b, st27, al28, ix28, bs28, ld28, ne28a, eq28a, ne28b, eq28b, ne28c, eq28c, st28, al32, ix32, bs32, ld32, ne32a, eq32a, ne32b, eq32b, ne32c, eq32c, st32, al37, ix37, bs37, ld37, ne37a, eq37a, ne37b, eq37b, ne37c, eq37c, st37, al40, ix40, bs40, ld40, ne40a, eq40a, ne40b, eq40b, ne40c, eq40c, st40, ld42, ne42a, eq42a, ne42b, eq42b, st42, ld47, st47, ld57, st57, ld60, st60, fa63_0, ld63, fa65_0, fa65_1, fa65_2, fa65_3, fa65_4, fa65_5, ld65, an72, am72, ld72, md72, ms72, lk72, ne72a, eq72a, ne72b, eq72b, st72, al73, ix73, bs73, ld73, ne73a, eq73a, ne73b, eq73b, ne73c, eq73c, st73, fa75_0, fa75_1, fa75_2, fa75_3, fa75_4, fa75_5, ld75, ld83, st83, ld85, ne85a, eq85a, ne85b, eq85b, st85, fa87_0, fa87_1, ld87, ld91, st91, ld96, st96, ld104, st104, al116, ix116, bs116, ld116, ne116a, eq116a, ne116b, eq116b, ne116c, eq116c, st116, ld118, st118, ld119, ix119, cv9_32, cv96_3, cv5_96, cv96_5, cv3_96, cv3_118, g0, g1, g2, g13]; rfl) ?_)
 | fail "stop")
  refine AOs.callQ tOK (fs := []) (cs := []) rfl fn17 ok17 rfl (by simp only [List.map_cons, List.map_nil, List.nil_append, List.append_nil, aeval, PT.get_set, Nat.reduceEqDiff, reduceIte] <;> rfl) (texts17g N K14 (StrsAt.any (StrsAt.keep sx ky)) (StrsAt.any sy) (by omega)) ?_
  rintro r K15 ⟨rfl, rfl⟩
  have hdt : decide (recs = recs) = true := decide_eq_true rfl
  rw [hdt]
  with_reducible repeat' (first
 | refine AW.seq ?_
 | refine AW.region ?_
 | refine AOs.nil ?_
 | refine AW.skip ?_
 | refine andThen_normal ?_
 | refine AOs.guardT (by with_unfolding_all rfl) (by simp only [PT.get_set, Nat.reduceEqDiff, reduceIte]; rfl) (by first | rfl | decide | assumption) ?_
 | refine AW.condF (by simp only [aeval, PT.get_set, Nat.reduceEqDiff, reduceIte]; rfl) (by first | rfl | decide | assumption) ?_
 | ((first
 | refine AOs.op1E tOK (by with_unfolding_all rfl) ?_
 ); refine Step.mk (by simp only [evOp_move, evOp_pick, evOp_not, aeval, ofVal, PT.get_set, Nat.reduceEqDiff, reduceIte, cond_false, Bool.not_true, eq_self]; rfl) ?_)
 | fail "stop")
  refine AOs.callQ tOK (fs := []) (cs := []) rfl fn18 ok18 rfl (by simp only [List.map_cons, List.map_nil, List.nil_append, List.append_nil, aeval, PT.get_set, Nat.reduceEqDiff, reduceIte] <;> rfl) (texts18 N K15 ((hsv12.keep kx).keep ky) (by omega)).wf ?_
  rintro r K16 ⟨⟨sz3, kz, nz⟩, wf16⟩
  have k16 : ∀ b x, H.get b = some x → K16.get b = some x := fun b x hb => kz b x (ky b x (kx b x (o12.keep b x hb)))
  with_reducible repeat' (first
 | ((first
 | refine AOs.op1E tOK (by with_unfolding_all rfl) ?_
 ); refine Step.mk (by simp only [evOp_move, aeval, PT.get_set, Nat.reduceEqDiff, reduceIte, g2]; rfl) ?_)
 | fail "stop")
  refine AOs.callQ tOK (fs := []) (cs := []) rfl fn17 ok17 rfl (by simp only [List.map_cons, List.map_nil, List.nil_append, List.append_nil, aeval, PT.get_set, Nat.reduceEqDiff, reduceIte] <;> rfl) (texts17g N K16 (StrsAt.any sz3) (hc.keep k16).any (by omega)) ?_
  rintro r K17 ⟨rfl, rfl⟩
  by_cases hrc : recs = c
  · have hd2 : decide (recs = c) = true := decide_eq_true hrc
    rw [hd2]
    with_reducible repeat' (first
 | refine AW.seq ?_
 | refine AW.region ?_
 | refine AOs.nil ?_
 | refine AW.ret ?_
 | refine andThen_normal ?_
 | refine andThen_ret ?_
 | refine AW.condT (by simp only [aeval, PT.get_set, Nat.reduceEqDiff, reduceIte]; rfl) (by first | rfl | decide | assumption) ?_
 | ((first
 | refine AOs.op1E tOK (by with_unfolding_all rfl) ?_
 ); refine Step.mk (by simp only [evOp_assign, aeval, ofVal]; rfl) ?_)
 | fail "stop")
    exact fnPost_ret1 (by first | (simp only [PT.get_set, Nat.reduceEqDiff, reduceIte]; rfl) | simp only [PT.get_set, Nat.reduceEqDiff, reduceIte]) rfl
  have hd2 : decide (recs = c) = false := decide_eq_false hrc
  rw [hd2]
  obtain ⟨rfl, hra, hrb, hrt⟩ := hfin.resolve_left hrc
  refine AOs.gen (l' := [(0, va), (1, vb), (18, .bool false), (20, sv), (132, .bool false)]) (by
    intro p hp
    simp only [List.mem_cons, List.not_mem_nil, or_false] at hp
    rcases hp with rfl | rfl | rfl | rfl | rfl <;> simp only [PT.get_set, Nat.reduceEqDiff, reduceIte, g0, g1]) ?_
  intro T1 hT
  have t0 : T1.get 0 = some va := hT (0, va) (by simp)
  have t1 : T1.get 1 = some vb := hT (1, vb) (by simp)
  have t18 : T1.get 18 = some (.bool false) := hT (18, .bool false) (by simp)
  have t20 : T1.get 20 = some sv := hT (20, sv) (by simp)
  have t132 : T1.get 132 = some (.bool false) := hT (132, .bool false) (by simp)
  clear hT g0 g1 g2 g13 g15
  -- all
  have haK := (ha.keep k16).any
  have hbK := (hb.keep k16).any
  generalize hK18 : K17.alloc (.cells false []) = K18
  have wf18 : WF K18 := by rw [← hK18]; exact wf_alloc wf16 _
  have k18 : ∀ b x, K17.get b = some x → K18.get b = some x := fun b x hb => by rw [← hK18]; exact stay_alloc wf16 _ b x hb
  have gr0 : Grow K18 (.slice K17.next 0 0 (.ex 0) 1) [] := .inl ⟨_, rfl, by rw [← hK18, AH.get_alloc, if_pos rfl], rfl⟩
  obtain ⟨v1, K19, ap1, gr1, n19, k19, b19⟩ := gr0.append wf18 (haK.keep k18) (by simp) (by omega)
  have k19' : ∀ b x, K17.get b = some x → K19.get b = some x := fun b x hb => k19 b x (k18 b x hb) fun o n c z e => by cases e; have := wf16 _ _ hb; omega
  have b19' : ∀ b o n c z, v1 = .slice b o n c z → K17.next ≤ b := fun b o n c z e => by
    rcases b19 b o n c z e with ⟨_, _, _, _, e⟩ | h
    · cases e; exact Nat.le_refl _
    · have : K18.next = K17.next + 1 := by rw [← hK18]; rfl
      omega
  with_reducible repeat' (first
 | refine AW.seq ?_
 | refine AW.region ?_
 | refine AOs.nil ?_
 | refine AW.skip ?_
 | refine andThen_normal ?_
 | refine AW.condF (by simp only [aeval, t132]; rfl) (by first | rfl | decide | assumption) ?_
 | ((first
 | refine AOs.op1E tOK (by with_unfolding_all rfl) ?_
 ); refine Step.mk (by simp only [evOp_move, evOp_append, aeval, PT.get_set, Nat.reduceEqDiff, reduceIte, List.map_cons, List.map_nil, eq_self, bs37, t0, t1, hK18, ap1]; rfl) ?_)
 | fail "stop")
  refine AOs.wf0 fun wf19 => ?_
  obtain ⟨v2, K20, ap2, gr2, n20, k20, b20⟩ := gr1.append wf19 (hbK.keep k19') (by simp; omega) (by omega)
  have k20' : ∀ b x, K17.get b = some x → K20.get b = some x := fun b x hb => k20 b x (k19' b x hb) fun o n c z e => by have := b19' _ _ _ _ _ e; have := wf16 _ _ hb; omega
  have hl2 := gr2.len
  have hla := ha.len
  rw [List.nil_append] at gr2 hl2
  have q1 : decide (((a.length : Nat) : Int) ≤ ((recs.length : Nat) : Int)) = true := decide_eq_true (by omega)
  have q2 : decide (((recs.length : Nat) : Int) ≤ (((a ++ b).length : Nat) : Int)) = true := decide_eq_true (by omega)
  have kL : ∀ b x, K12.get b = some x → K20.get b = some x := fun b x hb => k20' b x (kz b x (ky b x (kx b x hb)))
  with_reducible repeat' (first
 | refine AW.seq ?_
 | refine AOs.nil ?_
 | refine andThen_normal ?_
 | ((first
 | refine AOs.op1E tOK (by with_unfolding_all rfl) ?_
 ); refine Step.mk (by simp only [evOp_assign, evOp_append, aeval, PT.get_set, Nat.reduceEqDiff, reduceIte, List.map_cons, List.map_nil, eq_self, ap2]; rfl) ?_)
 | fail "stop")
  refine AW.drawN tOK (Qs := []) [0, 1, 2, 3, 4, 5, 6, 7, 8, 9, 10, 11, 12, 13, 14, 15, 16, 17, 19, 20, 21, 22, 18, 23, 24, 25] (by kernel_rfl) (by simp only [pickL, List.getElem?_cons_zero, List.getElem?_cons_succ]; rfl) ?_
  obtain ⟨w, hw, hwA⟩ := gr2.head (n := recs.length) (by omega)
  have hsv20 : RowsAt K20 sv recs := hsv K20 fun b x hb hn => kL b x (a12.1 b x hb (.inl hn))
  with_reducible repeat' (first
 | ((first
 | refine DN.fl1E (by with_unfolding_all rfl) (by with_unfolding_all rfl) ?_
 | refine DN.flTE (by with_unfolding_all rfl) (by simp only [PT.get_set, Nat.reduceEqDiff, reduceIte]; rfl) (by first | rfl | decide | assumption) (by with_unfolding_all rfl) (by with_unfolding_all rfl) ?_
 | refine DN.rdTE (by with_unfolding_all rfl) (by simp only [PT.get_set, Nat.reduceEqDiff, reduceIte]; rfl) (by first | rfl | decide | assumption) (by kernel_rfl) (by with_unfolding_all rfl) ?_
 ); refine Step.mk (by simp only [evOp_move, evOp_pick, evOp_binOp, evOp_not, evOp_len, evOp_slice, aeval, ofVal, PT.get_set, Nat.reduceEqDiff, reduceIte, Option.map_some, Option.map_none, abin_leq, abin_geq, cond_true, Bool.not_false, eq_self, al28, al37, t0, t18, t20, hlsv, hla, hl2, q1, q2, hw]; rfl) ?_; refine Same.mk ?_)
 | fail "stop")
  refine DN.callGP tOK (b := true) (fs := []) (cs := []) (by with_unfolding_all rfl) (by first | (simp only [PT.get_set, Nat.reduceEqDiff, reduceIte]; rfl) | simp only [PT.get_set, Nat.reduceEqDiff, reduceIte]) rfl rfl fn18 ok18 rfl (by simp only [List.map_cons, List.map_nil, List.nil_append, List.append_nil, aeval, PT.get_set, Nat.reduceEqDiff, reduceIte] <;> rfl) (texts18 N K20 hsv20 (by omega)) ?_
  rintro r K21 ⟨s21, k21, n21⟩
  constructor
  · repeat' (first | exact good_nil | with_reducible refine good_cons ?_ ?_ | with_reducible refine good_ofN (by kernel_rfl) (by simp only [evOp_move, evOp_assign, evOp_pick, evOp_build, evOp_nilCheck, evOp_binOp, evOp_not, evOp_fieldAddr, evOp_field, evOp_indexAddr, evOp_index, evOp_extract, evOp_makeFunc, evOp_load, evOp_lookup, evOp_store, evOp_mapUpdate, evOp_insert, evOp_range, evOp_makeMap, evOp_len, evOp_append, evOp_copy, evOp_delete, evOp_slice, evOp_convert, evOp_entry, evOp_boxC, boxC_one, boxC_agg, evOp_cap, rangeMapAt, storeAt, one_bool, one_int, one_str, one_nilp, one_ptr, one_nils, one_slice, one_empty, one_nilm, one_map, one_func, one_nilf, one_iface, one_nili, aeval, ofVal, PT.get_set, Nat.reduceEqDiff, reduceIte, lenOfAV_slice, lenOfAV_nils, lenOfAV_empty, cellAt, cellsAt, mapLenAt, lookAt, mapSetAt, mapDelAt, List.map_cons, List.map_nil, Option.map_some, Option.map_none, List.nil_append, List.append_nil, abin_add, abin_sub, abin_mul, abin_lss, abin_leq, abin_gtr, abin_geq, abin_eql, abin_neq, abin_eqlS, abin_neqS, cond_true, cond_false, decide_true, decide_false, Bool.not_true, Bool.not_false, TI.agg, List.getElem?_cons_zero, List.getElem?_cons_succ, Nat.add_zero, Nat.zero_add, Nat.zero_mul, nbeq, nble, nblt, Nat.reduceLeDiff, Nat.reduceLT, Nat.reduceMul, Nat.reduceAdd, Nat.reduceSub, Bool.and_true, Bool.true_and, Bool.and_false, Bool.false_and, List.length_cons, List.length_nil, List.set_cons_zero, List.set_cons_succ, AH.get_set, AH.next_set, eq_self, Int.ofNat_eq_natCast, Int.cast_ofNat_Int, Int.natCast_zero, Int.reduceEq, Int.reduceLT, Int.reduceLE, Int.reduceNeg, ld3, st3, ld4, st4, ld5, st5, al9, ld9, st9, ld20, st20, ld21, st21, ld24, st24, ld27, ne27a, eq27a, ne27b, eq27b, st27, al28, ix28, bs28, ld28, ne28a, eq28a, ne28b, eq28b, ne28c, eq28c, st28, al32, ix32, bs32, ld32, ne32a, eq32a, ne32b, eq32b, ne32c, eq32c, st32, al37, ix37, bs37, ld37, ne37a, eq37a, ne37b, eq37b, ne37c, eq37c, st37, al40, ix40, bs40, ld40, ne40a, eq40a, ne40b, eq40b, ne40c, eq40c, st40, ld42, ne42a, eq42a, ne42b, eq42b, st42, ld47, st47, ld57, st57, ld60, st60, fa63_0, ld63, fa65_0, fa65_1, fa65_2, fa65_3, fa65_4, fa65_5, ld65, an72, am72, ld72, md72, ms72, lk72, ne72a, eq72a, ne72b, eq72b, st72, al73, ix73, bs73, ld73, ne73a, eq73a, ne73b, eq73b, ne73c, eq73c, st73, fa75_0, fa75_1, fa75_2, fa75_3, fa75_4, fa75_5, ld75, ld83, st83, ld85, ne85a, eq85a, ne85b, eq85b, st85, fa87_0, fa87_1, ld87, ld91, st91, ld96, st96, ld104, st104, al116, ix116, bs116, ld116, ne116a, eq116a, ne116b, eq116b, ne116c, eq116c, st116, ld118, st118, ld119, ix119, cv9_32, cv96_3, cv5_96, cv96_5, cv3_96, cv3_118, t0, t18, t20, hlsv, hla, hl2, q1, q2, hw] <;> rfl) 1 | with_reducible refine good_ofG (by with_unfolding_all rfl) (by simp only [t0, t18, t20, hlsv, hla, hl2, q1, q2, hw, PT.get_set, Nat.reduceEqDiff, reduceIte] <;> rfl) (by first | rfl | decide | assumption) (by kernel_rfl) (by simp only [evOp_move, evOp_assign, evOp_pick, evOp_build, evOp_nilCheck, evOp_binOp, evOp_not, evOp_fieldAddr, evOp_field, evOp_indexAddr, evOp_index, evOp_extract, evOp_makeFunc, evOp_load, evOp_lookup, evOp_store, evOp_mapUpdate, evOp_insert, evOp_range, evOp_makeMap, evOp_len, evOp_append, evOp_copy, evOp_delete, evOp_slice, evOp_convert, evOp_entry, evOp_boxC, boxC_one, boxC_agg, evOp_cap, rangeMapAt, storeAt, one_bool, one_int, one_str, one_nilp, one_ptr, one_nils, one_slice, one_empty, one_nilm, one_map, one_func, one_nilf, one_iface, one_nili, aeval, ofVal, PT.get_set, Nat.reduceEqDiff, reduceIte, lenOfAV_slice, lenOfAV_nils, lenOfAV_empty, cellAt, cellsAt, mapLenAt, lookAt, mapSetAt, mapDelAt, List.map_cons, List.map_nil, Option.map_some, Option.map_none, List.nil_append, List.append_nil, abin_add, abin_sub, abin_mul, abin_lss, abin_leq, abin_gtr, abin_geq, abin_eql, abin_neq, abin_eqlS, abin_neqS, cond_true, cond_false, decide_true, decide_false, Bool.not_true, Bool.not_false, TI.agg, List.getElem?_cons_zero, List.getElem?_cons_succ, Nat.add_zero, Nat.zero_add, Nat.zero_mul, nbeq, nble, nblt, Nat.reduceLeDiff, Nat.reduceLT, Nat.reduceMul, Nat.reduceAdd, Nat.reduceSub, Bool.and_true, Bool.true_and, Bool.and_false, Bool.false_and, List.length_cons, List.length_nil, List.set_cons_zero, List.set_cons_succ, AH.get_set, AH.next_set, eq_self, Int.ofNat_eq_natCast, Int.cast_ofNat_Int, Int.natCast_zero, Int.reduceEq, Int.reduceLT, Int.reduceLE, Int.reduceNeg, ld3, st3, ld4, st4, ld5, st5, al9, ld9, st9, ld20, st20, ld21, st21, ld24, st24, ld27, ne27a, eq27a, ne27b, eq27b, st27, al28, ix28, bs28, ld28, ne28a, eq28a, ne28b, eq28b, ne28c, eq28c, st28, al32, ix32, bs32, ld32, ne32a, eq32a, ne32b, eq32b, ne32c, eq32c, st32, al37, ix37, bs37, ld37, ne37a, eq37a, ne37b, eq37b, ne37c, eq37c, st37, al40, ix40, bs40, ld40, ne40a, eq40a, ne40b, eq40b, ne40c, eq40c, st40, ld42, ne42a, eq42a, ne42b, eq42b, st42, ld47, st47, ld57, st57, ld60, st60, fa63_0, ld63, fa65_0, fa65_1, fa65_2, fa65_3, fa65_4, fa65_5, ld65, an72, am72, ld72, md72, ms72, lk72, ne72a, eq72a, ne72b, eq72b, st72, al73, ix73, bs73, ld73, ne73a, eq73a, ne73b, eq73b, ne73c, eq73c, st73, fa75_0, fa75_1, fa75_2, fa75_3, fa75_4, fa75_5, ld75, ld83, st83, ld85, ne85a, eq85a, ne85b, eq85b, st85, fa87_0, fa87_1, ld87, ld91, st91, ld96, st96, ld104, st104, al116, ix116, bs116, ld116, ne116a, eq116a, ne116b, eq116b, ne116c, eq116c, st116, ld118, st118, ld119, ix119, cv9_32, cv96_3, cv5_96, cv96_5, cv3_96, cv3_118, t0, t18, t20, hlsv, hla, hl2, q1, q2, hw] <;> rfl) 1 | fail "stop")
  with_reducible repeat' (first
 | ((first
 | refine DN.rdTE (by with_unfolding_all rfl) (by simp only [PT.get_set, Nat.reduceEqDiff, reduceIte]; rfl) (by first | rfl | decide | assumption) (by kernel_rfl) (by with_unfolding_all rfl) ?_
 ); refine Step.mk (by simp only [evOp_move, evOp_assign, evOp_pick, evOp_build, evOp_nilCheck, evOp_binOp, evOp_not, evOp_fieldAddr, evOp_field, evOp_indexAddr, evOp_index, evOp_extract, evOp_makeFunc, evOp_load, evOp_lookup, evOp_store, evOp_mapUpdate, evOp_insert, evOp_range, evOp_makeMap, evOp_len, evOp_append, evOp_copy, evOp_delete, evOp_slice, evOp_convert, evOp_entry, evOp_boxC, boxC_one, boxC_agg, evOp_cap, rangeMapAt, storeAt, one_bool, one_int, one_str, one_nilp, one_ptr, one_nils, one_slice, one_empty, one_nilm, one_map, one_func, one_nilf, one_iface, one_nili, aeval, ofVal, PT.get_set, Nat.reduceEqDiff, reduceIte, lenOfAV_slice, lenOfAV_nils, lenOfAV_empty, cellAt, cellsAt, mapLenAt, lookAt, mapSetAt, mapDelAt, List.map_cons, List.map_nil, Option.map_some, Option.map_none, List.nil_append, List.append_nil, abin_add, abin_sub, abin_mul, abin_lss, abin_leq, abin_gtr, abin_geq, abin_eql, abin_neq, abin_eqlS, abin_neqS, cond_true, cond_false, decide_true, decide_false, Bool.not_true, Bool.not_false, TI.agg, List.getElem?_cons_zero, List.getElem?_cons_succ, Nat.add_zero, Nat.zero_add, Nat.zero_mul, nbeq, nble, nblt, Nat.reduceLeDiff, Nat.reduceLT, Nat.reduceMul, Nat.reduceAdd, Nat.reduceSub, Bool.and_true, Bool.true_and, Bool.and_false, Bool.false_and, List.length_cons, List.length_nil, List.set_cons_zero, List.set_cons_succ, AH.get_set, AH.next_set, eq_self, Int.ofNat_eq_natCast, Int.cast_ofNat_Int, Int.natCast_zero, Int.reduceEq, Int.reduceLT, Int.reduceLE, Int.reduceNeg, ld3, st3, ld4, st4, ld5, st5, al9, ld9, st9, ld20, st20, ld21, st21, ld24, st24, ld27, ne27a, eq27a, ne27b, eq27b, st27, al28, ix28, bs28, ld28, ne28a, eq28a, ne28b, eq28b, ne28c, eq28c, st28, al32, ix32, bs32, ld32, ne32a, eq32a, ne32b, eq32b, ne32c, eq32c, st32, al37, ix37, bs37, ld37, ne37a, eq37a, ne37b, eq37b, ne37c, eq37c, st37, al40, ix40, bs40, ld40, ne40a, eq40a, ne40b, eq40b, ne40c, eq40c, st40, ld42, ne42a, eq42a, ne42b, eq42b, st42, ld47, st47, ld57, st57, ld60, st60, fa63_0, ld63, fa65_0, fa65_1, fa65_2, fa65_3, fa65_4, fa65_5, ld65, an72, am72, ld72, md72, ms72, lk72, ne72a, eq72a, ne72b, eq72b, st72, al73, ix73, bs73, ld73, ne73a, eq73a, ne73b, eq73b, ne73c, eq73c, st73, fa75_0, fa75_1, fa75_2, fa75_3, fa75_4, fa75_5, ld75, ld83, st83, ld85, ne85a, eq85a, ne85b, eq85b, st85, fa87_0, fa87_1, ld87, ld91, st91, ld96, st96, ld104, st104, al116, ix116, bs116, ld116, ne116a, eq116a, ne116b, eq116b, ne116c, eq116c, st116, ld118, st118, ld119, ix119, cv9_32, cv96_3, cv5_96, cv96_5, cv3_96, cv3_118, t0, t18, t20, hlsv, hla, hl2, q1, q2, hw]; rfl) ?_; refine Same.mk ?_)
 | fail "stop")
  refine DN.callG tOK (b := true) (fs := []) (cs := []) (by with_unfolding_all rfl) (by first | (simp only [PT.get_set, Nat.reduceEqDiff, reduceIte]; rfl) | simp only [PT.get_set, Nat.reduceEqDiff, reduceIte]) rfl rfl fn17 ok17 rfl (by simp only [List.map_cons, List.map_nil, List.nil_append, List.append_nil, aeval, PT.get_set, Nat.reduceEqDiff, reduceIte] <;> rfl) (texts17g N K21 (StrsAt.any s21) (hwA.keep k21) (by omega)) (by kernel_rfl) ?_
  rintro r K22 ⟨rfl, rfl⟩
  have hd9 : decide (recs = List.take recs.length (a ++ b)) = true := decide_eq_true hrt.symm
  with_reducible repeat' (first
 | refine AW.ret ?_
 | refine andThen_normal ?_
 | refine DN.nil tOK ?_
 | ((first
 | refine DN.fl1E (by with_unfolding_all rfl) (by with_unfolding_all rfl) ?_
 ); refine Step.mk (by simp only [evOp_assign, evOp_pick, aeval, ofVal, PT.get_set, Nat.reduceEqDiff, reduceIte, cond_true, eq_self, hd9]; rfl) ?_; refine Same.mk ?_)
 | fail "stop")
  exact fnPost_ret1 (by first | (simp only [PT.get_set, Nat.reduceEqDiff, reduceIte]; rfl) | simp only [PT.get_set, Nat.reduceEqDiff, reduceIte]) rfl
end Go.Proofs.YtgihociajfgohaaGreatDoor

open Go Go.AB Go.Proofs
namespace Go.Proofs.YtgihociajfgohaaGreatDoor
set_option maxRecDepth 100000

theorem hasAll_cons {X : Type} {P : Program} {H : AH} {k : Nat} {t : TypeId} {ts : List TypeId} {ds : List (DataW X)} {xs : List AV} (h : HasAll P H k (t :: ts) ds xs) : ∃ (d : DataW X) (ds' : List (DataW X)) (a : AV) (xs' : List AV), xs = a :: xs' ∧ Has P H k t d [a] ∧ HasAll P H k ts ds' xs' := by
  cases ds with
  | nil => exact h.elim
  | cons d ds =>
    obtain ⟨a, xs', h1, h2, h3⟩ := h
    exact ⟨d, ds, a, xs', h1, h2, h3⟩
theorem hasAll_nil {X : Type} {P : Program} {H : AH} {k : Nat} {ds : List (DataW X)} {xs : List AV} (h : HasAll P H k [] ds xs) : xs = [] := by
  cases ds with
  | nil => exact h
  | cons d ds => exact h.elim

section
variable {X : Type} {H : AH}
theorem u37 : Tryz.prog.underlying 37 = some (.slice 9) := by kernel_rfl
theorem u40 : Tryz.prog.underlying 40 = some (.slice 3) := by kernel_rfl
theorem u9 : Tryz.prog.underlying 9 = some .string := by kernel_rfl
theorem u3 : Tryz.prog.underlying 3 = some (.int .i64) := by kernel_rfl
theorem c9 : Tryz.prog.cellsOf 9 = 1 := by kernel_rfl
theorem c3 : Tryz.prog.cellsOf 3 = 1 := by kernel_rfl

theorem has_int {k : Nat} {d : DataW X} {v : AV} (h : Has Tryz.prog H (k + 1) 3 d [v]) : ∃ m, v = .int .i64 m ∧ m < 9223372036854775808 := by
  unfold Has at h
  rw [u3] at h
  obtain ⟨m, _, hw, e⟩ := h
  cases e
  refine ⟨m, rfl, ?_⟩
  simp [Lit.wf, IntKind.min, IntKind.max, IntKind.signed, IntKind.bits] at hw
  omega

theorem has_texts {k : Nat} {d : DataW X} {v : AV} (h : Has Tryz.prog H (k + 2) 37 d [v]) : ∃ l, TextsAt H v l := by
  unfold Has at h
  rw [u37] at h
  rcases h with ⟨_, e⟩ | ⟨_, e⟩ | ⟨b, es, sp, vs, rfl, _, e, hb, hl, hx⟩
  · cases e; exact ⟨[], .inl ⟨.inl rfl, rfl⟩⟩
  · cases e; exact ⟨[], .inl ⟨.inr rfl, rfl⟩⟩
  · cases e
    rw [c9] at hl hx
    have key : ∀ i, i < es.length → ∃ s, vs[i]? = some (AV.str s) := by
      intro i hi
      obtain ⟨x, hxi⟩ : ∃ x, (es ++ sp)[i]? = some x := ⟨_, List.getElem?_eq_getElem (by rw [List.length_append]; omega)⟩
      have h1 := hx i x hxi
      unfold Has at h1
      rw [u9] at h1
      obtain ⟨s, _, _, e⟩ := h1
      have e0 := congrArg (fun l : List AV => l[0]?) e
      simp only [List.getElem?_take, List.getElem?_drop] at e0
      exact ⟨s, by simpa using e0⟩
    refine ⟨(List.range es.length).map fun i => (match vs[i]? with | some (AV.str s) => s | _ => []), .inr ⟨b, _, vs, by simp [c9]; rfl, hb, fun i s hs => ?_⟩⟩
    have hi : i < es.length := by
      have := (List.getElem?_eq_some_iff.1 hs).1
      simpa using this
    obtain ⟨t, ht⟩ := key i hi
    rw [List.getElem?_map, List.getElem?_range hi] at hs
    simp only [Option.map_some, Option.some.injEq, ht] at hs
    subst hs
    exact ht

theorem has_ints {k : Nat} {d : DataW X} {v : AV} (h : Has Tryz.prog H (k + 2) 40 d [v]) : ∃ l, IX H v l := by
  unfold Has at h
  rw [u40] at h
  rcases h with ⟨_, e⟩ | ⟨_, e⟩ | ⟨b, es, sp, vs, rfl, _, e, hb, hl, hx⟩
  · cases e; exact ⟨[], .inl ⟨.inl rfl, rfl⟩⟩
  · cases e; exact ⟨[], .inl ⟨.inr rfl, rfl⟩⟩
  · cases e
    rw [c3] at hl hx
    have key : ∀ i, i < es.length → ∃ m, vs[i]? = some (AV.int .i64 m) := by
      intro i hi
      obtain ⟨x, hxi⟩ : ∃ x, (es ++ sp)[i]? = some x := ⟨_, List.getElem?_eq_getElem (by rw [List.length_append]; omega)⟩
      have h1 := hx i x hxi
      unfold Has at h1
      rw [u3] at h1
      obtain ⟨m, _, _, e⟩ := h1
      have e0 := congrArg (fun l : List AV => l[0]?) e
      simp only [List.getElem?_take, List.getElem?_drop] at e0
      exact ⟨m, by simpa using e0⟩
    refine ⟨(List.range es.length).map fun i => (match vs[i]? with | some (AV.int .i64 m) => m | _ => 0), .inr ⟨b, _, true, vs, by simp [c3]; rfl, hb, ?_⟩⟩
    apply List.ext_getElem?
    intro i
    simp only [List.map_map, List.getElem?_map, List.length_map, List.length_range]
    by_cases hi : i < es.length
    · obtain ⟨m, hm⟩ := key i hi
      rw [List.getElem?_take_of_lt hi, List.getElem?_range hi, hm]
      simp [hm]
    · rw [List.getElem?_eq_none (by rw [List.length_take]; omega), List.getElem?_eq_none (by rw [List.length_range]; omega)]; rfl
end

/-- The law, of whatever arguments. -/
theorem law5_all {X : Type} {ds : List (DataW X)} (N : Nat) (H : AH) (xs : List AV) (hlt : ∀ b o, H.get b = some o → b < H.next) (h : HasAll Tryz.prog H 8 [37, 37, 37, 3, 3, 40] ds xs) : AC tC N 0 5 xs H fun r _ => r = .bool true := by
  obtain ⟨d1, _, a1, _, rfl, h1, h⟩ := hasAll_cons h
  obtain ⟨d2, _, a2, _, rfl, h2, h⟩ := hasAll_cons h
  obtain ⟨d3, _, a3, _, rfl, h3, h⟩ := hasAll_cons h
  obtain ⟨d4, _, a4, _, rfl, h4, h⟩ := hasAll_cons h
  obtain ⟨d5, _, a5, _, rfl, h5, h⟩ := hasAll_cons h
  obtain ⟨d6, _, a6, _, rfl, h6, h⟩ := hasAll_cons h
  obtain rfl := hasAll_nil h
  obtain ⟨a, ha⟩ := has_texts h1
  obtain ⟨b, hb⟩ := has_texts h2
  obtain ⟨c, hc⟩ := has_texts h3
  obtain ⟨m, rfl, hm⟩ := has_int h4
  obtain ⟨n, rfl, _⟩ := has_int h5
  obtain ⟨l, hl⟩ := has_ints h6
  exact keeps5 N H ha hb hc hl hm
end Go.Proofs.YtgihociajfgohaaGreatDoor
