/- Log: LogPure walked, where the listed variables lie as the program lays them; no other condition. -/
import Derived.Test.YtgihociajfgohaaGreatDoorPureLib
import Derived.Test.YtgihociajfgohaaGreatDoorHeap5
import Derived.Stop.LaidErr
import Derived.LaidSub
import Derived.Lib.LaidTab
set_option linter.unusedSimpArgs false
set_option linter.unusedVariables false
open Go Go.AB Go.Proofs
namespace Go.Proofs.YtgihociajfgohaaGreatDoor
set_option maxRecDepth 100000

/-- Texts in a row, whoever made it. -/
def StrsV (H : AH) (v : AV) (l : List Nm) : Prop :=
  ((v = .nils ∨ ∃ k, v = .empty k) ∧ l = []) ∨ ∃ b c ro vs, v = .slice b 0 l.length c 1 ∧ H.get b = some (.cells ro vs) ∧ ∀ (i : Nat) s, l[i]? = some s → vs[i]? = some (AV.str s)
theorem StrsV.len {H : AH} {v : AV} {l : List Nm} (h : StrsV H v l) : lenOfAV v = some l.length := by
  rcases h with ⟨rfl | ⟨k, rfl⟩, rfl⟩ | ⟨b, c, ro, vs, rfl, _⟩ <;> rfl
theorem StrsAt.v {H : AH} {v : AV} {l : List Nm} (h : StrsAt H v l) : StrsV H v l := h.imp (fun h => ⟨.inl h.1, h.2⟩) id
theorem StrsV.keep {H K : AH} {v : AV} {l : List Nm} (h : StrsV H v l) (hk : ∀ b x, H.get b = some x → K.get b = some x) : StrsV K v l :=
  h.imp id fun ⟨b, c, ro, vs, h1, h2, h3⟩ => ⟨b, c, ro, vs, h1, hk _ _ h2, h3⟩
theorem list_eqV {l m : List Nm} (h : l.length = m.length) (ht : l.take l.length = m.take l.length) : l = m := by
  rw [List.take_length, h, List.take_length] at ht; exact ht

set_option maxHeartbeats 4000000 in
theorem texts17v (N : Nat) (H : AH) {v u : AV} {l m : List Nm} (h1 : StrsV H v l) (h2 : StrsV H u m) (hl : l.length ≤ 1000000) : AC tC N 0 17 [v, u] H fun r K => r = .bool (decide (l = m)) ∧ K = H := by
  refine AC.by (n := 26) (rs := [.tmp 4]) tOK fn17 rfl rfl rfl rfl ?_
  have e0 : (PT.ofList .leaf 0 [v, u]).get 0 = some v := rfl
  have e1 : (PT.ofList .leaf 0 [v, u]).get 1 = some u := rfl
  have l1 := h1.len
  have l2 := h2.len
  by_cases hlm : l.length = m.length
  case neg =>
    have hd : decide (((l.length : Nat) : Int) = ((m.length : Nat) : Int)) = false := decide_eq_false (by omega)
    have hr : decide (l = m) = false := decide_eq_false fun e => hlm (by rw [e])
    rw [hr]
    with_reducible repeat' (first
      | refine AW.seq ?_
      | refine AW.region ?_
      | refine AOs.nil ?_
      | refine AW.ret ?_
      | refine andThen_normal ?_
      | refine andThen_ret ?_
      | refine AW.condT (by simp only [aeval, PT.get_set, Nat.reduceEqDiff, reduceIte]; rfl) (by first | rfl | decide | assumption) ?_
      | ((first
          | refine AOs.op1E tOK (by with_unfolding_all rfl) ?_
          ); refine Step.mk (by simp only [evOp_move, evOp_assign, evOp_binOp, evOp_len, aeval, ofVal, PT.get_set, Nat.reduceEqDiff, reduceIte, Option.map_some, abin_neq, Bool.not_false, eq_self, al37, e0, e1, l1, l2, hd]; rfl) ?_)
      | fail "stop")
    exact fnPost_ret1 (by first | (simp only [PT.get_set, Nat.reduceEqDiff, reduceIte]; rfl) | simp only [PT.get_set, Nat.reduceEqDiff, reduceIte]) ⟨rfl, rfl⟩
  have hd0 : decide (((l.length : Nat) : Int) = ((m.length : Nat) : Int)) = true := decide_eq_true (by omega)
  with_reducible repeat' (first
    | refine AW.seq ?_
    | refine AW.region ?_
    | refine AW.block ?_
    | refine AOs.nil ?_
    | refine AW.skip ?_
    | refine andThen_normal ?_
    | refine AW.condF (by simp only [aeval, PT.get_set, Nat.reduceEqDiff, reduceIte]; rfl) (by first | rfl | decide | assumption) ?_
    | ((first
        | refine AOs.op1E tOK (by with_unfolding_all rfl) ?_
        ); refine Step.mk (by simp only [evOp_move, evOp_assign, evOp_binOp, evOp_len, aeval, ofVal, PT.get_set, Nat.reduceEqDiff, reduceIte, Option.map_some, abin_neq, Bool.not_true, eq_self, al37, e0, e1, l1, l2, hd0]; rfl) ?_)
    | fail "stop")
  refine AW.loop (fun k T K => K = H ∧ T.get 0 = some v ∧ T.get 1 = some u ∧ ∃ i : Nat, i ≤ l.length ∧ k = l.length - i ∧ T.get 5 = some (.int .i64 (i : Nat)) ∧ l.take i = m.take i) ?_ (l.length - 0)
    ⟨rfl, by simp [PT.get_set, e0], by simp [PT.get_set, e1], 0, by omega, rfl, by simp [PT.get_set], rfl⟩
  rintro k T K ⟨rfl, g0, g1, i, hi, rfl, g5, htk⟩
  by_cases hlt : i < l.length
  · have hd := lt_int hlt
    have hlt2 : i < m.length := by omega
    obtain ⟨s, hs⟩ : ∃ s, l[i]? = some s := ⟨_, List.getElem?_eq_getElem hlt⟩
    obtain ⟨t, ht⟩ : ∃ t, m[i]? = some t := ⟨_, List.getElem?_eq_getElem hlt2⟩
    rcases h1 with ⟨_, h1⟩ | ⟨b, c, ro, ws, rfl, hb, hw⟩
    · rw [h1] at hlt; simp at hlt
    rcases h2 with ⟨_, h2⟩ | ⟨b', c', ro', ws', rfl, hb', hw'⟩
    · rw [h2] at hlt2; simp at hlt2
    have q1 : ws[i * 1]? = some (.str s) := by rw [Nat.mul_one]; exact hw i s hs
    have q2 : ws'[i * 1]? = some (.str t) := by rw [Nat.mul_one]; exact hw' i t ht
    by_cases hst : s = t
    · have hd2 : decide (s = t) = true := decide_eq_true hst
      with_reducible repeat' (first
        | refine AW.seq ?_
        | refine AW.region ?_
        | refine AW.block ?_
        | refine AOs.nil ?_
        | refine AW.skip ?_
        | refine andThen_normal ?_
        | refine inBlock_normal ?_
        | refine AW.condT (by simp only [aeval, PT.get_set, Nat.reduceEqDiff, reduceIte]; rfl) (by first | rfl | decide | assumption) ?_
        | refine AW.condF (by simp only [aeval, PT.get_set, Nat.reduceEqDiff, reduceIte]; rfl) (by first | rfl | decide | assumption) ?_
        | refine AW.drawT tOK (by with_unfolding_all rfl) (by simp only [pickAll, Nat.reduceAdd]; rfl) ?_
        | refine DN.nil tOK ?_
        | ((first
            | refine DN.fl1E (by with_unfolding_all rfl) (by with_unfolding_all rfl) ?_
            | refine DN.rd1E (by kernel_rfl) (by with_unfolding_all rfl) ?_
            ); refine Step.mk (by simp only [evOp_move, evOp_binOp, evOp_indexAddr, evOp_load, aeval, PT.get_set, Nat.reduceEqDiff, reduceIte, cellAt, Option.map_some, abin_neqS, Bool.not_true, Nat.zero_add, eq_self, ld9, ix37, g0, g1, g5, hlt, hlt2, hb, hb', q1, q2, hd2]; rfl) ?_; refine Same.mk ?_)
        | ((first
            | refine AOs.op1E tOK (by with_unfolding_all rfl) ?_
            ); refine Step.mk (by simp only [evOp_move, evOp_assign, evOp_binOp, evOp_len, aeval, ofVal, PT.get_set, Nat.reduceEqDiff, reduceIte, Option.map_some, abin_add, abin_lss, eq_self, al37, g0, g5, l1, hd, wrap64_succ (show i < 9223372036854775807 by omega)]; rfl) ?_)
        | fail "stop")
      exact ⟨l.length - (i + 1), by omega, rfl, by simp only [PT.get_set, Nat.reduceEqDiff, reduceIte, g0], by simp only [PT.get_set, Nat.reduceEqDiff, reduceIte, g1], i + 1, by omega, rfl, by simp only [PT.get_set, Nat.reduceEqDiff, reduceIte], by rw [List.take_add_one, List.take_add_one, hs, ht, hst, htk]⟩
    · have hd2 : decide (s = t) = false := decide_eq_false hst
      have hr : decide (l = m) = false := decide_eq_false fun e => by subst e; rw [hs] at ht; exact hst (Option.some.inj ht)
      rw [hr]
      with_reducible repeat' (first
        | refine AW.seq ?_
        | refine AW.region ?_
        | refine AW.block ?_
        | refine AOs.nil ?_
        | refine AW.skip ?_
        | refine AW.ret ?_
        | refine andThen_normal ?_
        | refine andThen_ret ?_
        | refine inBlock_ret ?_
        | refine AW.condT (by simp only [aeval, PT.get_set, Nat.reduceEqDiff, reduceIte]; rfl) (by first | rfl | decide | assumption) ?_
        | refine AW.drawT tOK (by with_unfolding_all rfl) (by simp only [pickAll, Nat.reduceAdd]; rfl) ?_
        | refine DN.nil tOK ?_
        | ((first
            | refine DN.fl1E (by with_unfolding_all rfl) (by with_unfolding_all rfl) ?_
            | refine DN.rd1E (by kernel_rfl) (by with_unfolding_all rfl) ?_
            ); refine Step.mk (by simp only [evOp_move, evOp_binOp, evOp_indexAddr, evOp_load, aeval, PT.get_set, Nat.reduceEqDiff, reduceIte, cellAt, Option.map_some, abin_neqS, Bool.not_false, Nat.zero_add, eq_self, ld9, ix37, g0, g1, g5, hlt, hlt2, hb, hb', q1, q2, hd2]; rfl) ?_; refine Same.mk ?_)
        | ((first
            | refine AOs.op1E tOK (by with_unfolding_all rfl) ?_
            ); refine Step.mk (by simp only [evOp_move, evOp_assign, evOp_binOp, evOp_len, aeval, ofVal, PT.get_set, Nat.reduceEqDiff, reduceIte, Option.map_some, abin_lss, eq_self, al37, g0, g5, l1, hd]; rfl) ?_)
        | fail "stop")
      exact fnPost_ret1 (by first | (simp only [PT.get_set, Nat.reduceEqDiff, reduceIte]; rfl) | simp only [PT.get_set, Nat.reduceEqDiff, reduceIte]) ⟨rfl, rfl⟩
  · have hd := nlt_int hlt
    obtain rfl : i = l.length := by omega
    have hr : decide (l = m) = true := decide_eq_true (list_eqV hlm htk)
    rw [hr]
    with_reducible repeat' (first
      | refine AW.seq ?_
      | refine AW.region ?_
      | refine AOs.nil ?_
      | refine AW.exit ?_
      | refine AW.ret ?_
      | refine andThen_normal ?_
      | refine andThen_exit ?_
      | refine inBlock_hit ?_
      | refine AW.condF (by simp only [aeval, PT.get_set, Nat.reduceEqDiff, reduceIte]; rfl) (by first | rfl | decide | assumption) ?_
      | ((first
          | refine AOs.op1E tOK (by with_unfolding_all rfl) ?_
          ); refine Step.mk (by simp only [evOp_move, evOp_assign, evOp_binOp, evOp_len, aeval, ofVal, PT.get_set, Nat.reduceEqDiff, reduceIte, Option.map_some, abin_lss, eq_self, al37, g0, g5, l1, hd]; rfl) ?_)
      | fail "stop")
    exact fnPost_ret1 (by first | (simp only [PT.get_set, Nat.reduceEqDiff, reduceIte]; rfl) | simp only [PT.get_set, Nat.reduceEqDiff, reduceIte]) ⟨rfl, rfl⟩


theorem fn11 : tC.fn 11 = some Tryz.f11 := by kernel_rfl
theorem ok11 : fnOk Tryz.f11 = true := by kernel_rfl

theorem scan_few : ∀ (f : Nat) (b : Nm), 8 * (scanM f b).1.length ≤ b.length
  | 0, b => by simp [scanM]
  | f + 1, b => by
    unfold scanM
    split
    · simp
    · split
      · simp
      · split
        · simp
        · rename_i h1 h2 h3
          have h0 : (unframeM b).2.2 = 0 := Decidable.byContradiction h3
          have hu := unframe_ok h0
          have ih := scan_few f (b.drop (unframeM b).2.1)
          rw [List.length_drop] at ih
          simp only [List.length_cons]; omega

set_option maxHeartbeats 16000000 in
theorem pure4 (N : Nat) (H : AH) (hG : Gl H) (s file : Nm) (g : Int) {v : AV} {b : Nm} (hb : BE H v b) : AC tC N 5 4 [.str s, .str file, .int .i64 g, v] H fun r _ => r = .bool true := by
  refine AC.wf0 fun hwf => ?_
  refine AC.by (n := 110) (rs := [.tmp 8]) tOK fn4 rfl rfl rfl rfl ?_
  have e0 : (PT.ofList .leaf 0 [AV.str s, AV.str file, AV.int .i64 g, v]).get 0 = some (.str s) := rfl
  have e1 : (PT.ofList .leaf 0 [AV.str s, AV.str file, AV.int .i64 g, v]).get 1 = some (.str file) := rfl
  have e2 : (PT.ofList .leaf 0 [AV.str s, AV.str file, AV.int .i64 g, v]).get 2 = some (.int .i64 g) := rfl
  have e3 : (PT.ofList .leaf 0 [AV.str s, AV.str file, AV.int .i64 g, v]).get 3 = some v := rfl
  have hlb := hb.bytes.len
  with_reducible repeat' (first
    | refine AW.seq ?_
    | refine AW.region ?_
    | refine AOs.nil ?_
    | refine andThen_normal ?_
    | ((first
        | refine AOs.op1E tOK (by with_unfolding_all rfl) ?_
        ); refine Step.mk (by simp only [evOp_assign, aeval, ofVal]; rfl) ?_)
    | fail "stop")
  refine AOs.callQ tOK (fs := []) (cs := []) rfl fn11 ok11 rfl (by simp only [List.map_nil, List.append_nil] <;> rfl) (AC.up (lives11 N H)) ?_
  rintro r K ⟨rfl, rfl⟩
  by_cases h1 : 3000 < s.length
  · have d1 : decide ((3000 : Int) < (s.length : Nat)) = true := decide_eq_true (by omega)
    with_reducible repeat' (first
      | refine AW.seq ?_
      | refine AW.region ?_
      | refine AOs.nil ?_
      | refine AW.skip ?_
      | refine AW.ret ?_
      | refine andThen_normal ?_
      | refine andThen_ret ?_
      | refine AOs.guardF (by with_unfolding_all rfl) (by simp only [PT.get_set, Nat.reduceEqDiff, reduceIte]; rfl) (by first | rfl | decide | assumption) (by with_unfolding_all rfl) ?_
      | refine AW.condT (by simp only [aeval, PT.get_set, Nat.reduceEqDiff, reduceIte]; rfl) (by first | rfl | decide | assumption) ?_
      | refine AW.condF (by simp only [aeval, PT.get_set, Nat.reduceEqDiff, reduceIte]; rfl) (by first | rfl | decide | assumption) ?_
      | ((first
          | refine AOs.op1E tOK (by with_unfolding_all rfl) ?_
          ); refine Step.mk (by simp only [evOp_move, evOp_assign, evOp_pick, evOp_binOp, evOp_not, evOp_len, aeval, ofVal, PT.get_set, Nat.reduceEqDiff, reduceIte, Option.map_some, abin_gtr, cond_true, Bool.not_true, eq_self, al9, e0, d1]; rfl) ?_)
      | fail "stop")
    exact fnPost_ret1 (by first | (simp only [PT.get_set, Nat.reduceEqDiff, reduceIte]; rfl) | simp only [PT.get_set, Nat.reduceEqDiff, reduceIte]) rfl
  have d1 : decide ((3000 : Int) < (s.length : Nat)) = false := decide_eq_false (by omega)
  by_cases h2 : 3000 < file.length
  · have d2 : decide ((3000 : Int) < (file.length : Nat)) = true := decide_eq_true (by omega)
    with_reducible repeat' (first
      | refine AW.seq ?_
      | refine AW.region ?_
      | refine AOs.nil ?_
      | refine AW.skip ?_
      | refine AW.ret ?_
      | refine andThen_normal ?_
      | refine andThen_ret ?_
      | refine AOs.guardT (by with_unfolding_all rfl) (by simp only [PT.get_set, Nat.reduceEqDiff, reduceIte]; rfl) (by first | rfl | decide | assumption) ?_
      | refine AOs.guardF (by with_unfolding_all rfl) (by simp only [PT.get_set, Nat.reduceEqDiff, reduceIte]; rfl) (by first | rfl | decide | assumption) (by with_unfolding_all rfl) ?_
      | refine AW.condT (by simp only [aeval, PT.get_set, Nat.reduceEqDiff, reduceIte]; rfl) (by first | rfl | decide | assumption) ?_
      | refine AW.condF (by simp only [aeval, PT.get_set, Nat.reduceEqDiff, reduceIte]; rfl) (by first | rfl | decide | assumption) ?_
      | ((first
          | refine AOs.op1E tOK (by with_unfolding_all rfl) ?_
          ); refine Step.mk (by simp only [evOp_move, evOp_assign, evOp_pick, evOp_binOp, evOp_not, evOp_len, aeval, ofVal, PT.get_set, Nat.reduceEqDiff, reduceIte, Option.map_some, abin_gtr, cond_true, cond_false, Bool.not_true, eq_self, al9, e0, e1, d1, d2]; rfl) ?_)
      | fail "stop")
    exact fnPost_ret1 (by first | (simp only [PT.get_set, Nat.reduceEqDiff, reduceIte]; rfl) | simp only [PT.get_set, Nat.reduceEqDiff, reduceIte]) rfl
  have d2 : decide ((3000 : Int) < (file.length : Nat)) = false := decide_eq_false (by omega)
  by_cases h3 : 3000 < b.length
  · have d3 : decide ((3000 : Int) < (b.length : Nat)) = true := decide_eq_true (by omega)
    with_reducible repeat' (first
      | refine AW.seq ?_
      | refine AW.region ?_
      | refine AOs.nil ?_
      | refine AW.skip ?_
      | refine AW.ret ?_
      | refine andThen_normal ?_
      | refine andThen_ret ?_
      | refine AOs.guardT (by with_unfolding_all rfl) (by simp only [PT.get_set, Nat.reduceEqDiff, reduceIte]; rfl) (by first | rfl | decide | assumption) ?_
      | refine AW.condT (by simp only [aeval, PT.get_set, Nat.reduceEqDiff, reduceIte]; rfl) (by first | rfl | decide | assumption) ?_
      | refine AW.condF (by simp only [aeval, PT.get_set, Nat.reduceEqDiff, reduceIte]; rfl) (by first | rfl | decide | assumption) ?_
      | ((first
          | refine AOs.op1E tOK (by with_unfolding_all rfl) ?_
          ); refine Step.mk (by simp only [evOp_move, evOp_assign, evOp_pick, evOp_binOp, evOp_not, evOp_len, aeval, ofVal, PT.get_set, Nat.reduceEqDiff, reduceIte, Option.map_some, abin_gtr, cond_false, Bool.not_true, eq_self, al9, al32, e0, e1, e3, d1, d2, hlb, d3]; rfl) ?_)
      | fail "stop")
    exact fnPost_ret1 (by first | (simp only [PT.get_set, Nat.reduceEqDiff, reduceIte]; rfl) | simp only [PT.get_set, Nat.reduceEqDiff, reduceIte]) rfl
  have d3 : decide ((3000 : Int) < (b.length : Nat)) = false := decide_eq_false (by omega)
  with_reducible repeat' (first
    | refine AW.seq ?_
    | refine AW.region ?_
    | refine AOs.nil ?_
    | refine AW.skip ?_
    | refine andThen_normal ?_
    | refine AOs.guardT (by with_unfolding_all rfl) (by simp only [PT.get_set, Nat.reduceEqDiff, reduceIte]; rfl) (by first | rfl | decide | assumption) ?_
    | refine AW.condF (by simp only [aeval, PT.get_set, Nat.reduceEqDiff, reduceIte]; rfl) (by first | rfl | decide | assumption) ?_
    | ((first
        | refine AOs.op1E tOK (by with_unfolding_all rfl) ?_
        ); refine Step.mk (by simp only [evOp_move, evOp_pick, evOp_binOp, evOp_not, evOp_len, aeval, ofVal, PT.get_set, Nat.reduceEqDiff, reduceIte, Option.map_some, abin_gtr, cond_false, Bool.not_true, eq_self, al9, al32, e0, e1, e2, e3, d1, d2, hlb, d3]; rfl) ?_)
    | fail "stop")
  refine AOs.callQ tOK (fs := []) (cs := []) rfl fn9 ok9 rfl (by simp only [List.map_cons, List.map_nil, List.nil_append, List.append_nil, aeval, PT.get_set, Nat.reduceEqDiff, reduceIte] <;> rfl) (file9g N K hG s g (by omega)) ?_
  rintro r K ⟨rfl, rfl⟩
  with_reducible repeat' (first
    | refine AW.seq ?_
    | refine AW.region ?_
    | refine AOs.nil ?_
    | refine andThen_normal ?_
    | ((first
        | refine AOs.op1E tOK (by with_unfolding_all rfl) ?_
        ); refine Step.mk (by simp only [evOp_move, evOp_assign, evOp_extract, aeval, PT.get_set, Nat.reduceEqDiff, reduceIte, Option.map_some, List.getElem?_cons_zero, List.getElem?_cons_succ, eq_self, e0, e2]; rfl) ?_)
    | fail "stop")
  refine AOs.callQ tOK (fs := []) (cs := []) rfl fn12 ok12 rfl (by simp only [List.map_cons, List.map_nil, List.nil_append, List.append_nil, aeval, PT.get_set, Nat.reduceEqDiff, reduceIte] <;> rfl) (AC.up (reffile12 N K s g (by omega))) ?_
  rintro r K ⟨rfl, rfl⟩
  with_reducible repeat' (first
    | refine AW.seq ?_
    | refine AW.region ?_
    | refine AOs.nil ?_
    | refine andThen_normal ?_
    | ((first
        | refine AOs.op1E tOK (by with_unfolding_all rfl) ?_
        ); refine Step.mk (by simp only [evOp_move, evOp_assign, evOp_extract, aeval, PT.get_set, Nat.reduceEqDiff, reduceIte, Option.map_some, List.getElem?_cons_zero, List.getElem?_cons_succ, eq_self, e0, e1]; rfl) ?_)
    | fail "stop")
  refine AOs.callQ tOK (fs := []) (cs := []) rfl fn8 ok8 rfl (by simp only [List.map_cons, List.map_nil, List.nil_append, List.append_nil, aeval, PT.get_set, Nat.reduceEqDiff, reduceIte] <;> rfl) (of8g N K hG s file (by omega) (by omega)) ?_
  rintro r K ⟨rfl, rfl⟩
  with_reducible repeat' (first
    | refine AW.seq ?_
    | refine AW.region ?_
    | refine AOs.nil ?_
    | refine andThen_normal ?_
    | ((first
        | refine AOs.op1E tOK (by with_unfolding_all rfl) ?_
        ); refine Step.mk (by simp only [evOp_move, evOp_assign, evOp_extract, aeval, PT.get_set, Nat.reduceEqDiff, reduceIte, Option.map_some, List.getElem?_cons_zero, List.getElem?_cons_succ, eq_self, e0, e1]; rfl) ?_)
    | fail "stop")
  refine AOs.callQ tOK (fs := []) (cs := []) rfl fn13 ok13 rfl (by simp only [List.map_cons, List.map_nil, List.nil_append, List.append_nil, aeval, PT.get_set, Nat.reduceEqDiff, reduceIte] <;> rfl) (AC.up (refof13 N K s file (by omega) (by omega))) ?_
  rintro r K ⟨rfl, rfl⟩
  obtain ⟨fl, hfl⟩ : ∃ fl, fl = fileM s g := ⟨_, rfl⟩
  obtain ⟨om, hom⟩ : ∃ om, om = ofM s file := ⟨_, rfl⟩
  rw [← hfl, ← hom]
  with_reducible repeat' (first
    | refine AW.seq ?_
    | refine AW.region ?_
    | refine AOs.nil ?_
    | refine andThen_normal ?_
    | ((first
        | refine AOs.op1E tOK (by with_unfolding_all rfl) ?_
        ); refine Step.mk (by simp only [evOp_move, evOp_assign, evOp_extract, aeval, PT.get_set, Nat.reduceEqDiff, reduceIte, Option.map_some, List.getElem?_cons_zero, List.getElem?_cons_succ, eq_self, e3]; rfl) ?_)
    | fail "stop")
  refine AOs.callQ tOK (fs := []) (cs := []) rfl fn15 ok15 rfl (by simp only [List.map_cons, List.map_nil, List.nil_append, List.append_nil, aeval, PT.get_set, Nat.reduceEqDiff, reduceIte] <;> rfl) (AC.up (own15 N K hb (by omega))) ?_
  rintro vo K1 ⟨hvo, hk1, hn1⟩
  with_reducible repeat' (first
    | ((first
        | refine AOs.op1E tOK (by with_unfolding_all rfl) ?_
        ); refine Step.mk (by simp only [evOp_move, evOp_assign, evOp_pick, evOp_build, evOp_nilCheck, evOp_binOp, evOp_not, evOp_fieldAddr, evOp_field, evOp_indexAddr, evOp_index, evOp_extract, evOp_makeFunc, evOp_load, evOp_lookup, evOp_store, evOp_mapUpdate, evOp_insert, evOp_range, evOp_makeMap, evOp_len, evOp_append, evOp_copy, evOp_delete, evOp_slice, evOp_convert, evOp_entry, evOp_boxC, boxC_one, boxC_agg, evOp_cap, rangeMapAt, storeAt, one_bool, one_int, one_str, one_nilp, one_ptr, one_nils, one_slice, one_empty, one_nilm, one_map, one_func, one_nilf, one_iface, one_nili, aeval, ofVal, PT.get_set, Nat.reduceEqDiff, reduceIte, lenOfAV_slice, lenOfAV_nils, lenOfAV_empty, cellAt, cellsAt, mapLenAt, lookAt, mapSetAt, mapDelAt, List.map_cons, List.map_nil, Option.map_some, Option.map_none, List.nil_append, List.append_nil, abin_add, abin_sub, abin_mul, abin_lss, abin_leq, abin_gtr, abin_geq, abin_eql, abin_neq, abin_eqlS, abin_neqS, cond_true, cond_false, decide_true, decide_false, Bool.not_true, Bool.not_false, TI.agg, List.getElem?_cons_zero, List.getElem?_cons_succ, Nat.add_zero, Nat.zero_add, Nat.zero_mul, nbeq, nble, nblt, Nat.reduceLeDiff, Nat.reduceLT, Nat.reduceMul, Nat.reduceAdd, Nat.reduceSub, Bool.and_true, Bool.true_and, Bool.and_false, Bool.false_and, List.length_cons, List.length_nil, List.set_cons_zero, List.set_cons_succ, AH.get_set, AH.next_set, eq_self, Int.ofNat_eq_natCast, Int.cast_ofNat_Int, Int.natCast_zero, Int.reduceEq, Int.reduceLT, Int.reduceLE, Int.reduceNeg, ld3, st3, ld4, st4, ld5, st5, al9, ld9, st9, ld20, st20, ld21, st21, ld24, st24, ld27, ne27a, eq27a, ne27b, eq27b, st27, al28, ix28, bs28, ld28, ne28a, eq28a, ne28b, eq28b, ne28c, eq28c, st28, al32, ix32, bs32, ld32, ne32a, eq32a, ne32b, eq32b, ne32c, eq32c, st32, al37, ix37, bs37, ld37, ne37a, eq37a, ne37b, eq37b, ne37c, eq37c, st37, al40, ix40, bs40, ld40, ne40a, eq40a, ne40b, eq40b, ne40c, eq40c, st40, ld42, ne42a, eq42a, ne42b, eq42b, st42, ld47, st47, ld57, st57, ld60, st60, fa63_0, ld63, fa65_0, fa65_1, fa65_2, fa65_3, fa65_4, fa65_5, ld65, an72, am72, ld72, md72, ms72, lk72, ne72a, eq72a, ne72b, eq72b, st72, al73, ix73, bs73, ld73, ne73a, eq73a, ne73b, eq73b, ne73c, eq73c, st73, fa75_0, fa75_1, fa75_2, fa75_3, fa75_4, fa75_5, ld75, ld83, st83, ld85, ne85a, eq85a, ne85b, eq85b, st85, fa87_0, fa87_1, ld87, ld91, st91, ld96, st96, ld104, st104, al116, ix116, bs116, ld116, ne116a, eq116a, ne116b, eq116b, ne116c, eq116c, st116, ld118, st118, ld119, ix119, cv9_32, cv96_3, cv5_96, cv96_5, cv3_96, cv3_118, ld99, st99, cv5_3, cv3_5, cv3_99, cv96_99, e0, e1, e2, e3]; rfl) ?_)
    | fail "stop")
  refine AOs.callQ tOK (fs := []) (cs := []) rfl fn14 ok14 rfl (by simp only [List.map_cons, List.map_nil, List.nil_append, List.append_nil, aeval, PT.get_set, Nat.reduceEqDiff, reduceIte] <;> rfl) (AC.up (scan14f N K1 hvo (by omega))) ?_
  rintro r K2 ⟨sv, rfl, hsv, hs1, hk2, hn2⟩
  with_reducible repeat' (first
    | refine AW.seq ?_
    | refine AW.region ?_
    | refine AOs.nil ?_
    | refine andThen_normal ?_
    | ((first
        | refine AOs.op1E tOK (by with_unfolding_all rfl) ?_
        ); refine Step.mk (by simp only [evOp_move, evOp_assign, evOp_extract, aeval, PT.get_set, Nat.reduceEqDiff, reduceIte, Option.map_some, List.getElem?_cons_zero, List.getElem?_cons_succ, eq_self, e3]; rfl) ?_)
    | fail "stop")
  refine AOs.callQ tOK (fs := []) (cs := []) rfl fn16 ok16 rfl (by simp only [List.map_cons, List.map_nil, List.nil_append, List.append_nil, aeval, PT.get_set, Nat.reduceEqDiff, reduceIte] <;> rfl) (AC.up (scan16 N K2 (hb.keep fun c x hx => hk2 c x (hk1 c x hx)) (by omega))) ?_
  rintro r K3 ⟨tv, rfl, htv, ht1, hk3, hn3⟩
  have hfew := scan_few (b.length + 1) b
  obtain ⟨sc, hsc⟩ : ∃ sc, sc = scanM (b.length + 1) b := ⟨_, rfl⟩
  rw [← hsc] at hsv htv hfew ⊢
  have q1 : decide (fl.1 = fl.1) = true := decide_eq_true rfl
  have q2 : decide (fl.2 = fl.2) = true := decide_eq_true rfl
  have q3 : decide (om.1 = om.1) = true := decide_eq_true rfl
  have q4 : decide (((sc.2.1 : Nat) : Int) = ((sc.2.1 : Nat) : Int)) = true := decide_eq_true rfl
  have q5 : decide (sc.2.2 = sc.2.2) = true := decide_eq_true rfl
  have qb : ∀ cst, abin tC .eql 4 cst (.bool om.2) (.bool om.2) = some (.bool true) := fun cst => by cases om.2 <;> cases cst <;> rfl
  with_reducible repeat' (first
    | refine AW.seq ?_
    | refine AW.region ?_
    | refine AOs.nil ?_
    | refine andThen_normal ?_
    | refine AOs.guardT (by with_unfolding_all rfl) (by simp only [PT.get_set, Nat.reduceEqDiff, reduceIte]; rfl) (by first | rfl | decide | assumption) ?_
    | ((first
        | refine AOs.op1E tOK (by with_unfolding_all rfl) ?_
        ); refine Step.mk (by simp only [evOp_move, evOp_assign, evOp_pick, evOp_binOp, evOp_extract, aeval, ofVal, PT.get_set, Nat.reduceEqDiff, reduceIte, Option.map_some, abin_eql, abin_eqlS, cond_true, decide_true, List.getElem?_cons_zero, List.getElem?_cons_succ, eq_self, qb]; rfl) ?_)
    | fail "stop")
  refine AOs.callQ tOK (fs := []) (cs := []) rfl fn18 ok18 rfl (by simp only [List.map_cons, List.map_nil, List.nil_append, List.append_nil, aeval, PT.get_set, Nat.reduceEqDiff, reduceIte] <;> rfl) (AC.up (texts18 N K3 (hsv.rows.keep hk3) (by omega))) ?_
  rintro xs K4 ⟨hxs, hk4, hn4⟩
  with_reducible repeat' (first
    | refine AOs.guardT (by with_unfolding_all rfl) (by simp only [PT.get_set, Nat.reduceEqDiff, reduceIte]; rfl) (by first | rfl | decide | assumption) ?_
    | ((first
        | refine AOs.op1E tOK (by with_unfolding_all rfl) ?_
        ); refine Step.mk (by simp only [evOp_move, aeval, PT.get_set, Nat.reduceEqDiff, reduceIte, eq_self]; rfl) ?_)
    | fail "stop")
  refine AOs.callQ tOK (fs := []) (cs := []) rfl fn18 ok18 rfl (by simp only [List.map_cons, List.map_nil, List.nil_append, List.append_nil, aeval, PT.get_set, Nat.reduceEqDiff, reduceIte] <;> rfl) (AC.up (texts18 N K4 (htv.keep hk4) (by omega))) ?_
  rintro ys K5 ⟨hys, hk5, hn5⟩
  with_reducible repeat' (first
    | refine AOs.guardT (by with_unfolding_all rfl) (by simp only [PT.get_set, Nat.reduceEqDiff, reduceIte]; rfl) (by first | rfl | decide | assumption) ?_
    | ((first
        | refine AOs.op1E tOK (by with_unfolding_all rfl) ?_
        ); refine Step.mk (by simp only [evOp_move, evOp_assign, evOp_pick, evOp_build, evOp_nilCheck, evOp_binOp, evOp_not, evOp_fieldAddr, evOp_field, evOp_indexAddr, evOp_index, evOp_extract, evOp_makeFunc, evOp_load, evOp_lookup, evOp_store, evOp_mapUpdate, evOp_insert, evOp_range, evOp_makeMap, evOp_len, evOp_append, evOp_copy, evOp_delete, evOp_slice, evOp_convert, evOp_entry, evOp_boxC, boxC_one, boxC_agg, evOp_cap, rangeMapAt, storeAt, one_bool, one_int, one_str, one_nilp, one_ptr, one_nils, one_slice, one_empty, one_nilm, one_map, one_func, one_nilf, one_iface, one_nili, aeval, ofVal, PT.get_set, Nat.reduceEqDiff, reduceIte, lenOfAV_slice, lenOfAV_nils, lenOfAV_empty, cellAt, cellsAt, mapLenAt, lookAt, mapSetAt, mapDelAt, List.map_cons, List.map_nil, Option.map_some, Option.map_none, List.nil_append, List.append_nil, abin_add, abin_sub, abin_mul, abin_lss, abin_leq, abin_gtr, abin_geq, abin_eql, abin_neq, abin_eqlS, abin_neqS, cond_true, cond_false, decide_true, decide_false, Bool.not_true, Bool.not_false, TI.agg, List.getElem?_cons_zero, List.getElem?_cons_succ, Nat.add_zero, Nat.zero_add, Nat.zero_mul, nbeq, nble, nblt, Nat.reduceLeDiff, Nat.reduceLT, Nat.reduceMul, Nat.reduceAdd, Nat.reduceSub, Bool.and_true, Bool.true_and, Bool.and_false, Bool.false_and, List.length_cons, List.length_nil, List.set_cons_zero, List.set_cons_succ, AH.get_set, AH.next_set, eq_self, Int.ofNat_eq_natCast, Int.cast_ofNat_Int, Int.natCast_zero, Int.reduceEq, Int.reduceLT, Int.reduceLE, Int.reduceNeg, ld3, st3, ld4, st4, ld5, st5, al9, ld9, st9, ld20, st20, ld21, st21, ld24, st24, ld27, ne27a, eq27a, ne27b, eq27b, st27, al28, ix28, bs28, ld28, ne28a, eq28a, ne28b, eq28b, ne28c, eq28c, st28, al32, ix32, bs32, ld32, ne32a, eq32a, ne32b, eq32b, ne32c, eq32c, st32, al37, ix37, bs37, ld37, ne37a, eq37a, ne37b, eq37b, ne37c, eq37c, st37, al40, ix40, bs40, ld40, ne40a, eq40a, ne40b, eq40b, ne40c, eq40c, st40, ld42, ne42a, eq42a, ne42b, eq42b, st42, ld47, st47, ld57, st57, ld60, st60, fa63_0, ld63, fa65_0, fa65_1, fa65_2, fa65_3, fa65_4, fa65_5, ld65, an72, am72, ld72, md72, ms72, lk72, ne72a, eq72a, ne72b, eq72b, st72, al73, ix73, bs73, ld73, ne73a, eq73a, ne73b, eq73b, ne73c, eq73c, st73, fa75_0, fa75_1, fa75_2, fa75_3, fa75_4, fa75_5, ld75, ld83, st83, ld85, ne85a, eq85a, ne85b, eq85b, st85, fa87_0, fa87_1, ld87, ld91, st91, ld96, st96, ld104, st104, al116, ix116, bs116, ld116, ne116a, eq116a, ne116b, eq116b, ne116c, eq116c, st116, ld118, st118, ld119, ix119, cv9_32, cv96_3, cv5_96, cv96_5, cv3_96, cv3_118, ld99, st99, cv5_3, cv3_5, cv3_99, cv96_99, e0, e1, e2, e3]; rfl) ?_)
    | fail "stop")
  have hxs5 : StrsV K5 xs sc.1 := (StrsAt.v hxs).keep hk5
  refine AOs.callQ tOK (fs := []) (cs := []) rfl fn17 ok17 rfl (by simp only [List.map_cons, List.map_nil, List.nil_append, List.append_nil, aeval, PT.get_set, Nat.reduceEqDiff, reduceIte] <;> rfl) (AC.up (texts17v N K5 hxs5 (StrsAt.v hys) (by omega))) ?_
  rintro r K6 ⟨rfl, rfl⟩
  have q6 : decide (sc.1 = sc.1) = true := decide_eq_true rfl
  rw [q6]
  with_reducible repeat' (first
    | refine AOs.nil ?_
    | refine AW.ret ?_
    | refine andThen_normal ?_
    | refine AOs.guardT (by with_unfolding_all rfl) (by simp only [PT.get_set, Nat.reduceEqDiff, reduceIte]; rfl) (by first | rfl | decide | assumption) ?_
    | ((first
        | refine AOs.op1E tOK (by with_unfolding_all rfl) ?_
        ); refine Step.mk (by simp only [evOp_move, evOp_assign, evOp_pick, evOp_binOp, aeval, ofVal, PT.get_set, Nat.reduceEqDiff, reduceIte, Option.map_some, abin_eql, cond_true, decide_true, eq_self]; rfl) ?_)
    | fail "stop")
  exact fnPost_ret1 (by first | (simp only [PT.get_set, Nat.reduceEqDiff, reduceIte]; rfl) | simp only [PT.get_set, Nat.reduceEqDiff, reduceIte]) rfl
end Go.Proofs.YtgihociajfgohaaGreatDoor

open Go Go.AB Go.Proofs Go.RowKit Go.ChangeShapes Go.WideShapes
namespace Go.Proofs.YtgihociajfgohaaGreatDoor
set_option maxRecDepth 100000

theorem hasAll_cons {X : Type} {P : Program} {H : AH} {k : Nat} {t : TypeId} {ts : List TypeId} {ds : List (DataW X)} {xs : List AV} (h : HasAll P H k (t :: ts) ds xs) : ∃ (d : DataW X) (ds' : List (DataW X)) (a : AV) (xs' : List AV), xs = a :: xs' ∧ Has P H k t d [a] ∧ HasAll P H k ts ds' xs' := by
  cases ds with
  | nil => exact h.elim
  | cons d ds =>
    obtain ⟨a, xs', h1, h2, h3⟩ := h
    exact ⟨d, ds, a, xs', h1, h2, h3⟩
theorem hasAll_nil {X : Type} {P : Program} {H : AH} {k : Nat} {ds : List (DataW X)} {xs : List AV} (h : HasAll P H k [] ds xs) : xs = [] := by
  cases ds with
  | nil => exact h
  | cons d ds => exact h.elim

section
variable {X : Type} {H : AH}
theorem u32 : Tryz.prog.underlying 32 = some (.slice 5) := by kernel_rfl
theorem u9 : Tryz.prog.underlying 9 = some .string := by kernel_rfl
theorem u5 : Tryz.prog.underlying 5 = some (.int .u8) := by kernel_rfl
theorem u3 : Tryz.prog.underlying 3 = some (.int .i64) := by kernel_rfl
theorem c5 : Tryz.prog.cellsOf 5 = 1 := by kernel_rfl

theorem has_str {k : Nat} {d : DataW X} {v : AV} (h : Has Tryz.prog H (k + 1) 9 d [v]) : ∃ s, v = .str s ∧ s.length ≤ maxLen := by
  unfold Has at h
  rw [u9] at h
  obtain ⟨s, _, hl, e⟩ := h
  cases e; exact ⟨s, rfl, hl⟩
theorem has_int {k : Nat} {d : DataW X} {v : AV} (h : Has Tryz.prog H (k + 1) 3 d [v]) : ∃ m, v = .int .i64 m := by
  unfold Has at h
  rw [u3] at h
  obtain ⟨m, _, _, e⟩ := h
  cases e; exact ⟨m, rfl⟩
theorem has_bytes {k : Nat} {d : DataW X} {v : AV} (h : Has Tryz.prog H (k + 2) 32 d [v]) : ∃ l, BE H v l := by
  unfold Has at h
  rw [u32] at h
  rcases h with ⟨_, e⟩ | ⟨_, e⟩ | ⟨b, es, sp, vs, rfl, _, e, hb, hl, hx⟩
  · cases e; exact ⟨[], .inr (.inl ⟨rfl, rfl⟩)⟩
  · cases e; exact ⟨[], .inl ⟨0, rfl, rfl⟩⟩
  · cases e
    rw [c5] at hl hx
    have key : ∀ i, i < es.length + sp.length → ∃ c : UInt8, vs[i]? = some (AV.int .u8 (c.toNat : Nat)) := by
      intro i hi
      obtain ⟨x, hxi⟩ : ∃ x, (es ++ sp)[i]? = some x := ⟨_, List.getElem?_eq_getElem (by rw [List.length_append]; omega)⟩
      have h1 := hx i x hxi
      unfold Has at h1
      rw [u5] at h1
      obtain ⟨m, _, hw, e⟩ := h1
      have e0 := congrArg (fun l : List AV => l[0]?) e
      simp only [List.getElem?_take, List.getElem?_drop] at e0
      have hw' : 0 ≤ m ∧ m < 256 := by
        simp [Lit.wf, IntKind.min, IntKind.max, IntKind.signed, IntKind.bits] at hw
        omega
      refine ⟨UInt8.ofNat m.toNat, ?_⟩
      have e1 : (((UInt8.ofNat m.toNat).toNat : Nat) : Int) = m := by simp; omega
      rw [e1]
      simpa using e0
    have hvl : vs.length = es.length + sp.length := by rw [hl, Nat.mul_one]
    have hkind : kind (.cells true vs) = 4 := by
      cases vs with
      | nil => rfl
      | cons a vs =>
        obtain ⟨c, hc⟩ := key 0 (by rw [← hvl]; simp)
        simp at hc
        subst hc
        simp [kind, isU8]
    refine ⟨(List.range es.length).map fun i => (match vs[i]? with | some (AV.int .u8 n) => UInt8.ofNat n.toNat | _ => 0), .inr (.inr ⟨b, 0, _, true, vs, by simp [c5]; rfl, hb, ?_, hkind, by simp [ACap.low]⟩)⟩
    apply List.ext_getElem?
    intro i
    simp only [List.drop_zero, bytesAV, List.map_map, List.getElem?_map, List.length_map, List.length_range]
    by_cases hi : i < es.length
    · obtain ⟨c, hc⟩ := key i (by omega)
      rw [List.getElem?_take_of_lt hi, List.getElem?_range hi, hc]
      simp [hc]
    · rw [List.getElem?_eq_none (by rw [List.length_take]; omega), List.getElem?_eq_none (by rw [List.length_range]; omega)]; rfl
end

/-- The law, of whatever arguments. -/
theorem law4_all {X : Type} {ds : List (DataW X)} (N : Nat) (H : AH) (xs : List AV) (hG : Gl H) (h : HasAll Tryz.prog H 8 [9, 9, 3, 32] ds xs) : AC tC N 5 4 xs H fun r _ => r = .bool true := by
  obtain ⟨d1, _, a1, _, rfl, h1, h⟩ := hasAll_cons h
  obtain ⟨d2, _, a2, _, rfl, h2, h⟩ := hasAll_cons h
  obtain ⟨d3, _, a3, _, rfl, h3, h⟩ := hasAll_cons h
  obtain ⟨d4, _, a4, _, rfl, h4, h⟩ := hasAll_cons h
  obtain rfl := hasAll_nil h
  obtain ⟨s, rfl, hs⟩ := has_str h1
  obtain ⟨f, rfl, _⟩ := has_str h2
  obtain ⟨g, rfl⟩ := has_int h3
  obtain ⟨b, hb⟩ := has_bytes h4
  exact pure4 N H hG s f g hb

/-! Where the call begins. -/
def H5 (t0 t1 : TypeId) : AH := ⟨PT.ofList .leaf 0 [.full [.iface t0 .junk], .full [.iface t1 .junk], .full (Lib.pow10Tab.map fun z => .int .u64 z)], 5⟩
theorem H5_get (t0 t1 : TypeId) (b : Nat) : (H5 t0 t1).get b = ([.full [.iface t0 .junk], .full [.iface t1 .junk], .full (Lib.pow10Tab.map fun z => .int .u64 z)] : List AO)[b]? := PT.get_ofList0 _ _
def ρ5 : Names := fun g => if g < 5 then some ⟨g, 0, 0⟩ else none

theorem var_block {W : World} {n : String} {g : Nat} {cs : Array Value} (hg : Tryz.prog.globalNamed n = some g) (h : W.var? Tryz.prog n = some cs) : ∃ e fr, W.heap[g]? = some (.cells cs e fr) := by
  unfold World.var? at h
  rw [hg] at h
  simp only [Option.bind_some] at h
  split at h
  · rename_i c e fr hb
    cases h
    exact ⟨e, fr, hb⟩
  · cases h

theorem start5 {W : World} {t0 t1 : TypeId} {y0 y1 : Value} {e0 e1 e2 : TypeId} {f0 f1 f2 : Nat × Nat} (h0 : W.heap[0]? = some (.cells #[.iface t0 y0] e0 f0)) (h1 : W.heap[1]? = some (.cells #[.iface t1 y1] e1 f1))
    (h2 : W.heap[2]? = some (.cells (Lib.pow10Tab.map fun z => Value.int .u64 z).toArray e2 f2)) : R W.heap.size 5 ρ5 (H5 t0 t1) W := by
  have lt : ∀ {k : Nat} {o : Obj}, W.heap[k]? = some o → k < W.heap.size := fun h => (Array.getElem?_eq_some_iff.1 h).1
  have cases3 : ∀ b o, (H5 t0 t1).get b = some o → (b = 0 ∧ o = .full [.iface t0 .junk]) ∨ (b = 1 ∧ o = .full [.iface t1 .junk]) ∨ (b = 2 ∧ o = .full (Lib.pow10Tab.map fun z => .int .u64 z)) := fun b o h => by
    rw [H5_get] at h
    match b with
    | 0 => simp at h; exact .inl ⟨rfl, h.symm⟩
    | 1 => simp at h; exact .inr (.inl ⟨rfl, h.symm⟩)
    | 2 => simp at h; exact .inr (.inr ⟨rfl, h.symm⟩)
    | b + 3 => simp at h
  refine ⟨Nat.le_refl _, fun g hg => ⟨0, by simp [ρ5, hg]⟩, fun b o hb => ?_, fun b b' o o' s s' g1 g2 r1 => ?_, fun b hb => ?_, Nat.le_refl _, fun b m l v c hb => ?_, fun b s hs _ => ?_⟩
  · rcases cases3 b o hb with ⟨rfl, rfl⟩ | ⟨rfl, rfl⟩ | ⟨rfl, rfl⟩
    · refine ⟨⟨0, 0, 0⟩, by simp [ρ5], rfl, lt h0, _, _, _, h0, rfl, fun i a ha => ?_⟩
      match i with
      | 0 => simp at ha; subst ha; exact ⟨.iface t0 y0, rfl, by simp only [VR]; exact ⟨y0, rfl, trivial⟩⟩
      | i + 1 => simp at ha
    · refine ⟨⟨1, 0, 0⟩, by simp [ρ5], rfl, lt h1, _, _, _, h1, rfl, fun i a ha => ?_⟩
      match i with
      | 0 => simp at ha; subst ha; exact ⟨.iface t1 y1, rfl, by simp only [VR]; exact ⟨y1, rfl, trivial⟩⟩
      | i + 1 => simp at ha
    · refine ⟨⟨2, 0, 0⟩, by simp [ρ5], rfl, lt h2, _, _, _, h2, by simp, fun i a ha => ?_⟩
      rw [List.getElem?_map] at ha
      cases hz : Lib.pow10Tab[i]? with
      | none => rw [hz] at ha; cases ha
      | some z =>
        rw [hz] at ha
        cases ha
        exact ⟨.int .u64 z, by simp [hz], by simp only [VR]⟩
  · rcases cases3 b o g1 with ⟨rfl, rfl⟩ | ⟨rfl, rfl⟩ | ⟨rfl, rfl⟩ <;> simp [AO.rw] at r1
  · show ρ5 b = none
    unfold ρ5
    rw [if_neg (show ¬ b < 5 from Nat.not_lt.2 hb)]
  · rcases cases3 b _ hb with ⟨_, h⟩ | ⟨_, h⟩ | ⟨_, h⟩ <;> cases h
  · unfold ρ5 at hs
    split at hs
    · cases hs; rfl
    · cases hs

theorem gl5 {t0 t1 : TypeId} {H : AH} (h : ∀ b o, (H5 t0 t1).get b = some o → H.get b = some o) : Gl H :=
  ⟨⟨t0, h 0 _ (by rw [H5_get]; rfl)⟩, ⟨t1, h 1 _ (by rw [H5_get]; rfl)⟩, h 2 _ (by rw [H5_get]; rfl)⟩

/-- The listed variables. -/
def laidPow : String × DataW Unit := ("internal/strconv.uint64pow10", Lib.tabData .u64 Lib.pow10Tab)
theorem row150 (u : TypeId) (h : Tryz.prog.typeName? 3 u = some "*errors.errorString") : u = 150 :=
  typeName_ptr_named (nm := "errors.errorString") (by rw [show "*" ++ "errors.errorString" = "*errors.errorString" by decide]; kernel_rfl) (by kernel_rfl) (by decide) u (by rw [show "*" ++ "errors.errorString" = "*errors.errorString" by decide]; exact h)

theorem vars5 {W : World} {x0 x1 : String × DataW Unit} {b1 b2 : List UInt8}
    (hL : laidMet Tryz.prog [x0, x1, laidPow, ("strconv.ErrRange", .iface "*errors.errorString" (.ptr (.agg [.lit (.string b1)]))), ("strconv.ErrSyntax", .iface "*errors.errorString" (.ptr (.agg [.lit (.string b2)])))] W) :
    ∃ t0 t1, R W.heap.size 5 ρ5 (H5 t0 t1) W := by
  have htab := Lib.tabIs_of_head (g := 2) (t := 155) (e := 99) (n := 20) (by kernel_rfl) (by kernel_rfl) (by kernel_rfl) (by kernel_rfl) (by kernel_rfl) (by kernel_rfl) hL.tail.tail
  obtain ⟨a1, s1, hv1, -, -, -⟩ := laid_sentinel (g := 1) (ti := 57) (tp := 150) (te := 152) (ts := 9) hL.tail.tail.tail (by kernel_rfl) (by kernel_rfl) Tryz.underlying57 row150 Tryz.underlying150 Tryz.underlying152 rfl rfl Tryz.underlying9 (by kernel_rfl) (by kernel_rfl)
  obtain ⟨a0, s0, hv0, -, -, -⟩ := laid_sentinel (g := 0) (ti := 57) (tp := 150) (te := 152) (ts := 9) hL.tail.tail.tail.tail (by kernel_rfl) (by kernel_rfl) Tryz.underlying57 row150 Tryz.underlying150 Tryz.underlying152 rfl rfl Tryz.underlying9 (by kernel_rfl) (by kernel_rfl)
  unfold Lib.TabIs at htab
  obtain ⟨e2, f2, g2⟩ := var_block (g := 2) (by kernel_rfl) htab
  obtain ⟨e1, f1, g1⟩ := var_block (g := 1) (by kernel_rfl) hv1
  obtain ⟨e0, f0, g0⟩ := var_block (g := 0) (by kernel_rfl) hv0
  exact ⟨150, 150, start5 g0 g1 g2⟩

/-- A law, where variables are known. -/
theorem law_true5 {X : Type} {enc : TypeId × Value → X} {f : FuncId} {ts : List TypeId} {ds : List (DataW X)} {W : World} {k : Nat} (hW5 : ∃ t0 t1, R W.heap.size 5 ρ5 (H5 t0 t1) W) (hp : ∀ t ∈ ts, plainT tC.P k t = true ∧ oneT tC.P t = true)
    (h : ∀ (N : Nat) (H : AH) (xs : List AV), Gl H → HasAll tC.P H k ts ds xs → AC tC N 5 f xs H fun r _ => r = .bool true)
    {base : Nat} {vs : List Value} {ps : List MemPlace} (hval : ∀ (j : Nat) t v, ts[j]? = some t → vs[j]? = some v → Value.okWide tC.P W .any base t v) (hA : DataW.TrodAll enc tC.P W 0 (fun _ => true) true ts vs ds ps) :
    Calls tC.P f ⟨vs⟩ W fun e W' => e = .returned (.bool true) ∧ RowKit.Below W.heap.size W W' := by
  obtain ⟨t0, t1, hR5⟩ := hW5
  have hlen : vs.length = ts.length := by
    clear hval h hp
    induction ts generalizing vs ds ps with
    | nil => obtain ⟨h1, _, _⟩ := trodAll_nil hA; simp [h1]
    | cons t ts ih =>
      obtain ⟨v, vs', d, ds', p, q, rfl, rfl, rfl, _, h2⟩ := trodAll_cons hA
      simp [ih h2]
  have hc : ∀ v ∈ vs, v.cells = #[v] := by
    intro v hv
    obtain ⟨j, hj⟩ := List.getElem?_of_mem hv
    have hjl := (List.getElem?_eq_some_iff.1 hj).1
    have hjt : ts[j]? = some (ts[j]'(by omega)) := List.getElem?_eq_getElem (by omega)
    exact cells_one (hp _ (List.mem_of_getElem? hjt)).2 (hval j _ v hjt hj)
  obtain ⟨ρ, H, xs, hm, hv, hh⟩ := imp_all (N := W.heap.size) (G := 5) (k := k) rfl ts vs ds ps hp hc hA _ _ hR5
  refine (h W.heap.size H xs (gl5 hm.get) hh ρ W vs hm.r hv).mono ?_
  rintro e w' ⟨v, ρ', r, H', rfl, rfl, hv', _, hF⟩
  obtain rfl : v = .bool true := hv'
  refine ⟨rfl, hF.os, hF.tape, hF.output, hF.size, fun k hk => hF.keep k hk fun b o s hb hrw hs e => ?_⟩
  obtain ⟨s', h1, h2⟩ := hm.r.obj b o hb
  rw [hs] at h1; cases h1
  have := h2.rwN hrw
  omega
end Go.Proofs.YtgihociajfgohaaGreatDoor
