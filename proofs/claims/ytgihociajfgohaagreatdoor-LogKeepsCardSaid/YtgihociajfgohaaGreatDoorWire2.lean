/- Log: records, frames, the frame at the beginning, all whole frames; no condition. -/
import Derived.Test.YtgihociajfgohaaGreatDoorWire1
import Derived.Test.YtgihociajfgohaaGreatDoorDisk3
set_option linter.unusedSimpArgs false
set_option linter.unusedVariables false
open Go Go.AB Go.Proofs
namespace Go.Proofs.YtgihociajfgohaaGreatDoor

/-- A row of texts in the memory that was there. -/
def TextsAt (H : AH) (v : AV) (l : List (List UInt8)) : Prop :=
  ((v = .nils ∨ v = .empty 0) ∧ l = []) ∨ ∃ b c vs, v = .slice b 0 l.length c 1 ∧ H.get b = some (.cells true vs) ∧ ∀ (i : Nat) s, l[i]? = some s → vs[i]? = some (AV.str s)

theorem TextsAt.len {H : AH} {v : AV} {l : List (List UInt8)} (h : TextsAt H v l) : lenOfAV v = some l.length := by
  rcases h with ⟨rfl | rfl, rfl⟩ | ⟨b, c, vs, rfl, _⟩ <;> rfl

theorem TextsAt.mono {H K : AH} {v : AV} {l : List (List UInt8)} (hlt : ∀ b o, H.get b = some o → b < H.next) (hs : Stays H K) (h : TextsAt H v l) : TextsAt K v l := by
  rcases h with h | ⟨b, c, vs, rfl, h1, h2⟩
  · exact .inl h
  · exact .inr ⟨b, c, vs, rfl, hs.get b _ (hlt b _ h1) h1, h2⟩

set_option maxHeartbeats 1000000 in
theorem light19 (N : Nat) (H : AH) (v : AV) (l : List (List UInt8)) (hl : TextsAt H v l) : AC tC N 0 19 [v, .int .i64 30] H fun r K => K = H ∧ ∃ x, r = .bool x ∧ (x = true → l.length ≤ 30 ∧ ∀ s ∈ l, s.length ≤ 300) := by
  have hlen := hl.len
  refine AC.by (n := 27) (rs := [.tmp 4]) tOK fn19 rfl rfl rfl rfl ?_
  have e0 : (PT.ofList .leaf 0 [v, .int .i64 30]).get 0 = some v := rfl
  have e1 : (PT.ofList .leaf 0 [v, .int .i64 30]).get 1 = some (.int .i64 30) := rfl
  with_reducible repeat' (first
 | refine AW.seq ?_
 | refine AW.region ?_
 | refine AW.block ?_
 | refine AOs.nil ?_
 | refine andThen_normal ?_
 | ((first
 | refine AOs.op1E tOK (by with_unfolding_all rfl) ?_
 ); refine Step.mk (by simp only [evOp_assign, aeval, ofVal]; rfl) ?_)
 | fail "stop")
  refine AW.loop (fun m T K => K = H ∧ T.get 0 = some v ∧ T.get 1 = some (.int .i64 30) ∧ ∃ i : Nat, i ≤ l.length ∧ m = l.length - i ∧ i ≤ 31 ∧ T.get 5 = some (.int .i64 i) ∧ ∀ (j : Nat) s, j < i → l[j]? = some s → s.length ≤ 300) ?_ (l.length - 0) ⟨rfl, by simp [PT.get_set, e0], by simp [PT.get_set, e1], 0, by omega, rfl, by omega, by simp [PT.get_set], fun j s hj => by omega⟩
  rintro m T K ⟨rfl, h0, h1, i, hi, rfl, hi31, h5, hall⟩
  by_cases hlt : i < l.length
  · have hd := lt_int hlt
    by_cases h30 : (i : Int) ≤ 30
    · rcases hl with ⟨_, rfl⟩ | ⟨b, c, vs, rfl, hb, hat⟩
      · simp at hlt
      · obtain ⟨s, hs⟩ : ∃ s, l[i]? = some s := ⟨_, List.getElem?_eq_getElem hlt⟩
        have hvs : vs[i * 1]? = some (AV.str s) := by rw [Nat.mul_one]; exact hat i s hs
        by_cases h300 : (300 : Int) < (s.length : Int)
        · with_reducible repeat' (first
 | refine AW.seq ?_
 | refine AW.region ?_
 | refine AW.block ?_
 | refine AOs.nil ?_
 | refine AW.skip ?_
 | refine AW.ret ?_
 | refine andThen_normal ?_
 | refine andThen_ret ?_
 | refine inBlock_ret ?_
 | refine AOs.guardT (by with_unfolding_all rfl) (by simp only [PT.get_set, Nat.reduceEqDiff, reduceIte]; rfl) (by first | rfl | decide | assumption) ?_
 | refine AW.condT (by simp only [aeval, PT.get_set, Nat.reduceEqDiff, reduceIte]; rfl) (by first | rfl | decide | assumption) ?_
 | ((first
 | refine AOs.op1E tOK (by with_unfolding_all rfl) ?_
 ); refine Step.mk (by simp only [evOp_move, evOp_assign, evOp_pick, evOp_binOp, evOp_indexAddr, evOp_load, evOp_len, aeval, ofVal, PT.get_set, Nat.reduceEqDiff, reduceIte, lenOfAV_slice, cellAt, Option.map_some, abin_lss, abin_leq, abin_gtr, cond_true, decide_true, Nat.zero_add, eq_self, al9, ld9, al37, ix37, h0, h1, h5, hd, h30, h300, hlt, hb, hvs]; rfl) ?_)
 | fail "stop")
          exact fnPost_ret1 (by first | (simp only [PT.get_set, Nat.reduceEqDiff, reduceIte]; rfl) | simp only [PT.get_set, Nat.reduceEqDiff, reduceIte]) ⟨rfl, _, rfl, fun h => by cases h⟩
        · with_reducible repeat' (first
 | refine AW.seq ?_
 | refine AW.region ?_
 | refine AW.block ?_
 | refine AOs.nil ?_
 | refine AW.skip ?_
 | refine andThen_normal ?_
 | refine inBlock_normal ?_
 | refine AOs.guardT (by with_unfolding_all rfl) (by simp only [PT.get_set, Nat.reduceEqDiff, reduceIte]; rfl) (by first | rfl | decide | assumption) ?_
 | refine AW.condT (by simp only [aeval, PT.get_set, Nat.reduceEqDiff, reduceIte]; rfl) (by first | rfl | decide | assumption) ?_
 | refine AW.condF (by simp only [aeval, PT.get_set, Nat.reduceEqDiff, reduceIte]; rfl) (by first | rfl | decide | assumption) ?_
 | ((first
 | refine AOs.op1E tOK (by with_unfolding_all rfl) ?_
 ); refine Step.mk (by simp only [evOp_move, evOp_assign, evOp_pick, evOp_binOp, evOp_indexAddr, evOp_load, evOp_len, aeval, ofVal, PT.get_set, Nat.reduceEqDiff, reduceIte, lenOfAV_slice, cellAt, Option.map_some, abin_add, abin_lss, abin_leq, abin_gtr, cond_true, decide_true, decide_false, Nat.zero_add, eq_self, al9, ld9, al37, ix37, h0, h1, h5, hd, h30, h300, hlt, hb, hvs]; rfl) ?_)
 | fail "stop")
          refine ⟨l.length - (i + 1), by omega, rfl, by simp only [PT.get_set, Nat.reduceEqDiff, reduceIte, h0], by simp only [PT.get_set, Nat.reduceEqDiff, reduceIte, h1], i + 1, by omega, rfl, by omega, ?_, fun j t hj ht => ?_⟩
          · simp only [PT.get_set, Nat.reduceEqDiff, reduceIte, wrap64_succ (show i < 9223372036854775807 by omega)]
          · by_cases e : j = i
            · subst e; rw [hs] at ht; cases ht; omega
            · exact hall j t (by omega) ht
    · with_reducible repeat' (first
 | refine AW.seq ?_
 | refine AW.region ?_
 | refine AOs.nil ?_
 | refine AW.exit ?_
 | refine AW.ret ?_
 | refine andThen_normal ?_
 | refine andThen_exit ?_
 | refine inBlock_hit ?_
 | refine AOs.guardT (by with_unfolding_all rfl) (by simp only [PT.get_set, Nat.reduceEqDiff, reduceIte]; rfl) (by first | rfl | decide | assumption) ?_
 | refine AW.condF (by simp only [aeval, PT.get_set, Nat.reduceEqDiff, reduceIte]; rfl) (by first | rfl | decide | assumption) ?_
 | ((first
 | refine AOs.op1E tOK (by with_unfolding_all rfl) ?_
 ); refine Step.mk (by simp only [evOp_move, evOp_assign, evOp_pick, evOp_binOp, evOp_len, aeval, ofVal, PT.get_set, Nat.reduceEqDiff, reduceIte, Option.map_some, abin_lss, abin_leq, cond_true, decide_false, eq_self, al37, h0, h1, h5, hd, h30, hlen]; rfl) ?_)
 | fail "stop")
      refine fnPost_ret1 (by first | (simp only [PT.get_set, Nat.reduceEqDiff, reduceIte]; rfl) | simp only [PT.get_set, Nat.reduceEqDiff, reduceIte]) ⟨rfl, _, rfl, fun h => ?_⟩
      simp at h; omega
  · have hd := nlt_int hlt
    with_reducible repeat' (first
 | refine AW.seq ?_
 | refine AW.region ?_
 | refine AOs.nil ?_
 | refine AW.exit ?_
 | refine AW.ret ?_
 | refine andThen_normal ?_
 | refine andThen_exit ?_
 | refine inBlock_hit ?_
 | refine AOs.guardF (by with_unfolding_all rfl) (by simp only [PT.get_set, Nat.reduceEqDiff, reduceIte]; rfl) (by first | rfl | decide | assumption) (by with_unfolding_all rfl) ?_
 | refine AW.condF (by simp only [aeval, PT.get_set, Nat.reduceEqDiff, reduceIte]; rfl) (by first | rfl | decide | assumption) ?_
 | ((first
 | refine AOs.op1E tOK (by with_unfolding_all rfl) ?_
 ); refine Step.mk (by simp only [evOp_move, evOp_assign, evOp_pick, evOp_binOp, evOp_len, aeval, ofVal, PT.get_set, Nat.reduceEqDiff, reduceIte, Option.map_some, abin_lss, abin_leq, cond_false, eq_self, al37, h0, h1, h5, hd, hlen]; rfl) ?_)
 | fail "stop")
    refine fnPost_ret1 (by first | (simp only [PT.get_set, Nat.reduceEqDiff, reduceIte]; rfl) | simp only [PT.get_set, Nat.reduceEqDiff, reduceIte]) ⟨rfl, _, rfl, fun h => ⟨by simp at h; omega, fun s hs => ?_⟩⟩
    obtain ⟨j, hj⟩ := List.getElem?_of_mem hs
    have := (List.getElem?_eq_some_iff.1 hj).1
    exact hall j s (by omega) hj

/-- Rows of bytes that a call has made: their heads lie in 'a', each in a block of its own; none below 'n'. -/
def RecsAt (n : Nat) (K : AH) (v : AV) (l : List (List UInt8)) : Prop :=
  (v = .nils ∧ l = []) ∨ ∃ a ws, v = .slice a 0 l.length (.lo l.length) 1 ∧ n ≤ a ∧ a < K.next ∧ K.get a = some (.cells false ws) ∧ ws.length = l.length ∧
    ∀ (i : Nat) s, l[i]? = some s → ∃ b, ws[i]? = some (AV.slice b 0 s.length (.lo s.length) 1) ∧ n ≤ b ∧ b < K.next ∧ b ≠ a ∧ K.get b = some (.cells false (bytesAV s))

theorem take_succ_of {α : Type} {l : List α} {i : Nat} {s : α} (h : l[i]? = some s) : l.take (i + 1) = l.take i ++ [s] := by
  rw [List.take_add_one, h]; rfl

set_option maxHeartbeats 2000000 in
theorem recs22 (N : Nat) (H : AH) (v : AV) (l : List (List UInt8)) (hl : TextsAt H v l) (hlt : ∀ b o, H.get b = some o → b < H.next) (h30 : l.length ≤ 1000000) : AC tC N 0 22 [v] H fun r K => Stays H K ∧ RecsAt H.next K r l := by
  have hlen := hl.len
  refine AC.by (n := 20) (rs := [.tmp 2]) tOK fn22 rfl rfl rfl rfl ?_
  have e0 : (PT.ofList .leaf 0 [v]).get 0 = some v := rfl
  with_reducible repeat' (first
 | refine AW.seq ?_
 | refine AW.region ?_
 | refine AW.block ?_
 | refine AOs.nil ?_
 | refine andThen_normal ?_
 | ((first
 | refine AOs.op1E tOK (by with_unfolding_all rfl) ?_
 ); refine Step.mk (by simp only [evOp_assign, aeval, ofVal]; rfl) ?_)
 | fail "stop")
  refine AW.loop (fun m T K => Stays H K ∧ T.get 0 = some v ∧ ∃ (i : Nat) (o : AV), i ≤ l.length ∧ m = l.length - i ∧ T.get 4 = some (.int .i64 i) ∧ T.get 3 = some o ∧ RecsAt H.next K o (l.take i)) ?_ (l.length - 0) ⟨Stays.refl H, by simp [PT.get_set, e0], 0, .nils, by omega, rfl, by simp [PT.get_set], by simp [PT.get_set], .inl ⟨rfl, by simp⟩⟩
  rintro m T K ⟨hst, h0, i, o, hi, rfl, h4, h3, hr⟩
  by_cases hil : i < l.length
  · have hd := lt_int hil
    rcases hl with ⟨_, rfl⟩ | ⟨b, c, vs, rfl, hb, hat⟩
    · simp at hil
    · obtain ⟨s, hs⟩ : ∃ s, l[i]? = some s := ⟨_, List.getElem?_eq_getElem hil⟩
      have hvs : vs[i * 1]? = some (AV.str s) := by rw [Nat.mul_one]; exact hat i s hs
      have hbK := hst.get b _ (hlt b _ hb) hb
      have hbs : ∀ (F : Fns) (H : AH) (ev : Operand → AV) (x : Operand) (dst : Option Tmp) (ty : TypeId) (pos : String) (after : Array Edge) (guard : Option (Nat × Bool)), (ev x).one = true →
          evOp tC F H ev { dst, op := .buildSlice 28 1 ⟨[(0, x)]⟩, type := ty, pos, after, guard } = some (.slice H.next 0 1 (.ex 1) 1, H.alloc (.cells false [ev x])) := fun F H ev x dst ty pos after guard hv => evOp_buildSlice1 ti28 rfl ti32 rfl rfl rfl hv
      -- the heap behind the new row and the row of one
      have hn := hst.next
      obtain ⟨K1, hK1⟩ : ∃ K1, K.alloc (.cells false (s.map fun b => AV.int .u8 b.toNat)) = K1 := ⟨_, rfl⟩
      obtain ⟨K2, hK2⟩ : ∃ K2, K1.alloc (.cells false [.slice K.next 0 s.length (.lo s.length) 1]) = K2 := ⟨_, rfl⟩
      have n1 : K1.next = K.next + 1 := by rw [← hK1]; rfl
      have n2 : K2.next = K.next + 2 := by rw [← hK2, AH.next_alloc, n1]
      have g2 : K2.get K1.next = some (.cells false [.slice K.next 0 s.length (.lo s.length) 1]) := by rw [← hK2, AH.get_alloc, if_pos rfl]
      have g1 : K2.get K.next = some (.cells false (bytesAV s)) := by rw [← hK2, AH.get_alloc, if_neg (by omega), ← hK1, AH.get_alloc, if_pos rfl]; rfl
      have st2 : Stays K K2 := by rw [← hK2, ← hK1]; exact ((Stays.refl K).alloc _).alloc _
      have ht1 := take_succ_of hs
      rcases hr with ⟨rfl, hl0⟩ | ⟨a, ws, rfl, ha1, ha2, ha3, hw, hws⟩
      · have hi0 : i = 0 := by
          rcases List.take_eq_nil_iff.1 hl0 with h | h
          · exact h
          · rw [h] at hil; simp at hil
        have happ := aappend_nil1 (C := tC) (H := K2) (st := 28) (c := .ex 1) (o := 0) ti28 rfl ti32 rfl rfl rfl g2 rfl rfl (by decide)
        with_reducible repeat' (first
 | refine AW.seq ?_
 | refine AW.region ?_
 | refine AW.block ?_
 | refine AOs.nil ?_
 | refine AW.skip ?_
 | refine andThen_normal ?_
 | refine inBlock_normal ?_
 | refine AW.condT (by simp only [aeval, PT.get_set, Nat.reduceEqDiff, reduceIte]; rfl) (by first | rfl | decide | assumption) ?_
 | ((first
 | refine AOs.op1E tOK (by with_unfolding_all rfl) ?_
 ); refine Step.mk (by simp only [evOp_move, evOp_assign, evOp_binOp, evOp_indexAddr, evOp_load, evOp_len, evOp_append, evOp_convert, one_slice, aeval, ofVal, PT.get_set, Nat.reduceEqDiff, reduceIte, lenOfAV_slice, cellAt, List.map_cons, List.map_nil, Option.map_some, abin_add, abin_lss, Nat.zero_add, eq_self, ld9, al37, ix37, cv9_32, h0, h4, h3, hd, hil, hbK, hvs, hbs, hK1, hK2, happ]; rfl) ?_)
 | fail "stop")
        refine ⟨l.length - (i + 1), by omega, (hst.trans st2).alloc _, by simp only [PT.get_set, Nat.reduceEqDiff, reduceIte, h0], i + 1, .slice K2.next 0 1 (.lo 1) 1, by omega, rfl, ?_, by simp only [PT.get_set, Nat.reduceEqDiff, reduceIte], ?_⟩
        · simp only [PT.get_set, Nat.reduceEqDiff, reduceIte, wrap64_succ (show i < 9223372036854775807 by omega)]
        · rw [ht1, hl0, List.nil_append]
          refine .inr ⟨K2.next, _, rfl, by omega, by simp, by rw [AH.get_alloc, if_pos rfl], rfl, fun k t hk => ?_⟩
          have hk0 : k = 0 := by
            have := (List.getElem?_eq_some_iff.1 hk).1
            simp at this; exact this
          subst hk0
          simp only [List.getElem?_cons_zero, Option.some.injEq] at hk
          subst hk
          exact ⟨K.next, rfl, hn, by simp; omega, by omega, by rw [AH.get_alloc, if_neg (by omega)]; exact g1⟩
      · have hlen' : (l.take i).length = i := by rw [List.length_take]; omega
        rw [hlen'] at hw h3
        have ha4 := st2.get a _ ha2 ha3
        have happ := aappend_lo1 (C := tC) (H := K2) (st := 28) (c := .ex 1) (o := 0) (a := a) (n := i) ti28 rfl ti32 rfl rfl rfl g2 rfl rfl ha4 hw (by show (2 * (i + 1) + 1024) * 24 ≤ _; omega) (by omega)
        with_reducible repeat' (first
 | refine AW.seq ?_
 | refine AW.region ?_
 | refine AW.block ?_
 | refine AOs.nil ?_
 | refine AW.skip ?_
 | refine andThen_normal ?_
 | refine inBlock_normal ?_
 | refine AW.condT (by simp only [aeval, PT.get_set, Nat.reduceEqDiff, reduceIte]; rfl) (by first | rfl | decide | assumption) ?_
 | ((first
 | refine AOs.op1E tOK (by with_unfolding_all rfl) ?_
 ); refine Step.mk (by simp only [evOp_move, evOp_assign, evOp_binOp, evOp_indexAddr, evOp_load, evOp_len, evOp_append, evOp_convert, one_slice, aeval, ofVal, PT.get_set, Nat.reduceEqDiff, reduceIte, lenOfAV_slice, cellAt, List.map_cons, List.map_nil, Option.map_some, abin_add, abin_lss, Nat.zero_add, eq_self, ld9, al37, ix37, cv9_32, h0, h4, h3, hd, hil, hbK, hvs, hbs, hK1, hK2, happ]; rfl) ?_)
 | fail "stop")
        refine ⟨l.length - (i + 1), by omega, ((hst.trans st2).del ha1).alloc _, by simp only [PT.get_set, Nat.reduceEqDiff, reduceIte, h0], i + 1, .slice K2.next 0 (i + 1) (.lo (i + 1)) 1, by omega, rfl, ?_, by simp only [PT.get_set, Nat.reduceEqDiff, reduceIte], ?_⟩
        · simp only [PT.get_set, Nat.reduceEqDiff, reduceIte, wrap64_succ (show i < 9223372036854775807 by omega)]
        · have hl1 : (l.take (i + 1)).length = i + 1 := by rw [List.length_take]; omega
          refine .inr ⟨K2.next, _, by rw [hl1], by omega, by simp, by rw [AH.get_alloc]; exact if_pos rfl, by rw [hl1, List.length_append, hw]; rfl, fun k t hk => ?_⟩
          by_cases hki : k < i
          · rw [ht1, List.getElem?_append_left (by omega)] at hk
            obtain ⟨b', q1, q2, q3, q4, q5⟩ := hws k t hk
            refine ⟨b', by rw [List.getElem?_append_left (by omega)]; exact q1, q2, by simp; omega, by omega, ?_⟩
            rw [AH.get_alloc, if_neg (by show b' ≠ K2.next; omega), AH.get_del, if_neg q4]
            exact st2.get b' _ q3 q5
          · have hk1 : k = i := by
              have := (List.getElem?_eq_some_iff.1 hk).1
              omega
            subst hk1
            rw [ht1, List.getElem?_append_right (by omega), hlen', Nat.sub_self] at hk
            simp only [List.getElem?_cons_zero, Option.some.injEq] at hk
            subst hk
            refine ⟨K.next, by rw [List.getElem?_append_right (by omega), hw, Nat.sub_self]; rfl, hn, by simp; omega, by omega, ?_⟩
            rw [AH.get_alloc, if_neg (by show K.next ≠ K2.next; omega), AH.get_del, if_neg (by omega)]
            exact g1
  · have hd := nlt_int hil
    obtain rfl : i = l.length := by omega
    with_reducible repeat' (first
 | refine AW.seq ?_
 | refine AW.region ?_
 | refine AOs.nil ?_
 | refine AW.exit ?_
 | refine AW.ret ?_
 | refine andThen_normal ?_
 | refine andThen_exit ?_
 | refine inBlock_hit ?_
 | refine AW.condF (by simp only [aeval, PT.get_set, Nat.reduceEqDiff, reduceIte]; rfl) (by first | rfl | decide | assumption) ?_
 | ((first
 | refine AOs.op1E tOK (by with_unfolding_all rfl) ?_
 ); refine Step.mk (by simp only [evOp_move, evOp_assign, evOp_binOp, evOp_len, aeval, PT.get_set, Nat.reduceEqDiff, reduceIte, Option.map_some, abin_lss, eq_self, al37, h0, h4, h3, hd, hlen]; rfl) ?_)
 | fail "stop")
    refine fnPost_ret1 (by first | (simp only [PT.get_set, Nat.reduceEqDiff, reduceIte]; rfl) | simp only [PT.get_set, Nat.reduceEqDiff, reduceIte]) ⟨hst, ?_⟩
    rw [List.take_length] at hr
    exact hr
end Go.Proofs.YtgihociajfgohaaGreatDoor

open Go Go.AB Go.Proofs
namespace Go.Proofs.YtgihociajfgohaaGreatDoor
set_option maxRecDepth 100000

theorem bs28_1 (F : Fns) (H : AH) (ev : Operand → AV) (dst : Option Tmp) (ty : TypeId) (pos : String) (after : Array Edge) (guard : Option (Nat × Bool)) (x : Operand) (hv : (ev x).one = true) :
    evOp tC F H ev { dst, op := .buildSlice 28 1 ⟨[(0, x)]⟩, type := ty, pos, after, guard } = some (.slice H.next 0 1 (.ex 1) 1, H.alloc (.cells false [ev x])) := evOp_buildSlice1 ti28 rfl ti32 rfl rfl rfl hv
theorem bs28_3 (F : Fns) (H : AH) (ev : Operand → AV) (dst : Option Tmp) (ty : TypeId) (pos : String) (after : Array Edge) (guard : Option (Nat × Bool)) (x y z : Operand) (h0 : (ev x).one = true) (h1 : (ev y).one = true) (h2 : (ev z).one = true) :
    evOp tC F H ev { dst, op := .buildSlice 28 3 ⟨[(0, x), (1, y), (2, z)]⟩, type := ty, pos, after, guard } = some (.slice H.next 0 3 (.ex 3) 1, H.alloc (.cells false [ev x, ev y, ev z])) := evOp_buildSlice3 ti28 rfl ti32 rfl rfl rfl h0 h1 h2

theorem stay_alloc {H : AH} (hw : WF H) (o : AO) : ∀ b x, H.get b = some x → (H.alloc o).get b = some x := fun b x hb => by
  rw [AH.get_alloc, if_neg (by have := hw b x hb; omega)]; exact hb
theorem wf_alloc {H : AH} (hw : WF H) (o : AO) : WF (H.alloc o) := fun b x hb => by
  rw [AH.get_alloc] at hb
  split at hb
  · rw [AH.next_alloc]; omega
  · have := hw b x hb; rw [AH.next_alloc]; omega

theorem RecsAt.rows {n : Nat} {K : AH} {v : AV} {l : List (List UInt8)} (h : RecsAt n K v l) : RowsAt K v l := by
  rcases h with ⟨rfl, rfl⟩ | ⟨a, ws, rfl, h1, h2, h3, h4, h5⟩
  · exact .inl ⟨rfl, rfl⟩
  · refine .inr ⟨a, 0, _, _, ws, rfl, h3, fun i s hs => ?_⟩
    obtain ⟨b, q1, q2, q3, q4, q5⟩ := h5 i s hs
    exact ⟨_, by rw [Nat.zero_add, Nat.mul_one]; exact q1, .inr ⟨b, 0, _, _, _, rfl, q5, by rw [List.drop_zero, List.take_of_length_le (by rw [bytesAV_length]; omega)]⟩⟩

theorem rows_of {H : AH} {b : Nat} {us : List AV} {ls : List (List UInt8)} {c : ACap} (h : H.get b = some (.cells false us)) (hl : us.length = ls.length) (hx : ∀ (i : Nat) u l, us[i]? = some u → ls[i]? = some l → BytesAt H u l) : RowsAt H (.slice b 0 ls.length c 1) ls :=
  .inr ⟨b, 0, c, false, us, rfl, h, fun i l hi => by
    have hlt := (List.getElem?_eq_some_iff.1 hi).1
    obtain ⟨u, hu⟩ : ∃ u, us[i]? = some u := ⟨_, List.getElem?_eq_getElem (by omega)⟩
    exact ⟨u, by rw [Nat.zero_add, Nat.mul_one]; exact hu, hx i u l hu hi⟩⟩

set_option maxHeartbeats 2000000 in
theorem put100 (N : Nat) (H : AH) {ub : Nat} {w1 w2 w3 : AV} {l1 l2 l3 : List UInt8} (hu : H.get ub = some (.cells false [w1, w2, w3])) (h1 : BytesAt H w1 l1) (h2 : BytesAt H w2 l2) (h3 : BytesAt H w3 l3) (hl : l1.length + l2.length + l3.length ≤ 1000000000000) :
    AC tC N 0 100 [.nils, .slice ub 0 3 (.ex 3) 1] H fun r K => FB K r (l1 ++ (l2 ++ l3)) ∧ (∀ b x, H.get b = some x → K.get b = some x) ∧ H.next ≤ K.next := by
  refine AC.wf0 fun hwf => ?_
  refine AC.by (n := 10) (rs := [.tmp 4]) tOK fn100 rfl rfl rfl rfl ?_
  have e0 : (PT.ofList .leaf 0 [AV.nils, .slice ub 0 3 (.ex 3) 1]).get 0 = some .nils := rfl
  have e1 : (PT.ofList .leaf 0 [AV.nils, .slice ub 0 3 (.ex 3) 1]).get 1 = some (.slice ub 0 3 (.ex 3) 1) := rfl
  generalize hH1 : H.alloc (.cells false [.nils]) = H1
  have st1 : ∀ b x, H.get b = some x → H1.get b = some x := fun b x hb => by rw [← hH1]; exact stay_alloc hwf _ b x hb
  have wf1 : WF H1 := by rw [← hH1]; exact wf_alloc hwf _
  have g1 : H1.get H.next = some (.cells false [.nils]) := by rw [← hH1, AH.get_alloc, if_pos rfl]
  have ap : aappend tC H1 [28, 28] [.slice H.next 0 1 (.ex 1) 1, .slice ub 0 3 (.ex 3) 1] = some (.slice H1.next 0 4 (.lo 4) 1, H1.alloc (.cells false [.nils, w1, w2, w3])) :=
    aappend_ex1 (us := [w1, w2, w3]) (uc := .ex 3) (uo := 0) ti28 rfl ti32 rfl rfl rfl (by decide) g1 (st1 _ _ hu) rfl (by simp) (by simp [allOne, h1.one, h2.one, h3.one]) (by simp)
  with_reducible repeat' (first
 | refine AW.seq ?_
 | refine AW.region ?_
 | refine AOs.nil ?_
 | refine andThen_normal ?_
 | ((first
 | refine AOs.op1E tOK (by with_unfolding_all rfl) ?_
 ); refine Step.mk (by simp only [evOp_move, evOp_assign, evOp_append, one_nils, aeval, ofVal, PT.get_set, Nat.reduceEqDiff, reduceIte, List.map_cons, List.map_nil, eq_self, e0, e1, bs28_1, hH1, ap]; rfl) ?_)
 | fail "stop")
  generalize hH2 : H1.alloc (.cells false [.nils, w1, w2, w3]) = H2
  have st2 : ∀ b x, H.get b = some x → H2.get b = some x := fun b x hb => by rw [← hH2]; exact stay_alloc wf1 _ b x (st1 b x hb)
  have g2 : H2.get H1.next = some (.cells false [.nils, w1, w2, w3]) := by rw [← hH2, AH.get_alloc, if_pos rfl]
  have hn2 : H.next ≤ H2.next := by rw [← hH2, ← hH1, AH.next_alloc, AH.next_alloc]; omega
  have kp : ∀ {w : AV} {l : List UInt8}, BytesAt H w l → BytesAt H2 w l := fun h => h.keep fun b o c _ x hx => st2 b x hx
  have hr : RowsAt H2 (.slice H1.next 0 4 (.lo 4) 1) [[], l1, l2, l3] := rows_of (ls := [[], l1, l2, l3]) g2 rfl fun i u l hu hl => by
    match i with
    | 0 => simp at hu hl; subst hu hl; exact .inl ⟨.inl rfl, rfl⟩
    | 1 => simp at hu hl; subst hu hl; exact kp h1
    | 2 => simp at hu hl; subst hu hl; exact kp h2
    | 3 => simp at hu hl; subst hu hl; exact kp h3
    | i + 4 => simp at hu
  refine AOs.callQ tOK (fs := []) (cs := []) rfl fn78 ok78 rfl (by simp only [List.map_cons, List.map_nil, List.nil_append, List.append_nil, aeval, PT.get_set, Nat.reduceEqDiff, reduceIte] <;> rfl) (concat78 N H2 hr (by simp) (by simp; omega)) ?_
  rintro r K ⟨hf, hk, hn⟩
  with_reducible repeat' (first
 | refine AOs.nil ?_
 | refine AW.ret ?_
 | refine andThen_normal ?_
 | ((first
 | refine AOs.op1E tOK (by with_unfolding_all rfl) ?_
 ); refine Step.mk (by simp only [evOp_assign, aeval, PT.get_set, Nat.reduceEqDiff, reduceIte, eq_self]; rfl) ?_)
 | fail "stop")
  have e : ([[], l1, l2, l3] : List (List UInt8)).flatten = l1 ++ (l2 ++ l3) := by simp
  rw [e] at hf
  exact fnPost_ret1 (by first | (simp only [PT.get_set, Nat.reduceEqDiff, reduceIte]; rfl) | simp only [PT.get_set, Nat.reduceEqDiff, reduceIte]) ⟨hf, fun b x hb => hk b x (st2 b x hb), by omega⟩

/-- The frame of bytes. -/
def frameM (l : List UInt8) : List UInt8 := fourM l.length ++ (fourM (crcM (fourM l.length ++ l)) ++ l)
theorem frameM_len (l : List UInt8) : (frameM l).length = l.length + 8 := by simp [frameM, fourM_len]; omega

set_option maxHeartbeats 4000000 in
theorem frame77 (N : Nat) (H : AH) {v : AV} {l : List UInt8} (h : BytesAt H v l) (hl : l.length ≤ 4000000) :
    AC tC N 0 77 [v] H fun r K => ∃ f, r = .tuple [f, .int .i64 0] ∧ FB K f (frameM l) ∧ (∀ b x, H.get b = some x → K.get b = some x) ∧ H.next ≤ K.next := by
  refine AC.wf0 fun hwf => ?_
  refine AC.by (n := 21) (rs := [.tmp 2, .tmp 3]) tOK fn77 rfl rfl rfl rfl ?_
  have e0 : (PT.ofList .leaf 0 [v]).get 0 = some v := rfl
  have hlen := h.len
  have hone := h.one
  have hd : decide ((4194304 : Int) < (l.length : Nat)) = false := decide_eq_false (by omega)
  have hw := wrapU32 (n := l.length) (by omega)
  with_reducible repeat' (first
 | refine AW.seq ?_
 | refine AW.region ?_
 | refine AOs.nil ?_
 | refine AW.skip ?_
 | refine andThen_normal ?_
 | refine AW.condF (by simp only [aeval, PT.get_set, Nat.reduceEqDiff, reduceIte]; rfl) (by first | rfl | decide | assumption) ?_
 | ((first
 | refine AOs.op1E tOK (by with_unfolding_all rfl) ?_
 ); refine Step.mk (by simp only [evOp_move, evOp_assign, evOp_binOp, evOp_len, evOp_convert, aeval, ofVal, PT.get_set, Nat.reduceEqDiff, reduceIte, Option.map_some, abin_gtr, eq_self, al32, cv3_96, e0, hlen, hd, cv3_96, hw]; rfl) ?_)
 | fail "stop")
  refine AOs.callQ tOK (fs := []) (cs := []) rfl fn99 ok99 rfl (by simp only [List.map_cons, List.map_nil, List.nil_append, List.append_nil, aeval, PT.get_set, Nat.reduceEqDiff, reduceIte] <;> rfl) (four99 N H (x := l.length)) ?_
  rintro r H1 ⟨rfl, hH1⟩
  have st1 : ∀ b x, H.get b = some x → H1.get b = some x := fun b x hb => by rw [hH1]; exact stay_alloc hwf _ b x hb
  have wf1 : WF H1 := by rw [hH1]; exact wf_alloc hwf _
  have g1 : H1.get H.next = some (.cells false (bytesAV (fourM l.length))) := by rw [hH1, AH.get_alloc, if_pos rfl]
  have n1 : H1.next = H.next + 1 := by rw [hH1, AH.next_alloc]
  generalize hH2 : H1.alloc (.cells false [.slice H.next 0 4 (.ex 4) 1, v]) = H2
  have st2 : ∀ b x, H1.get b = some x → H2.get b = some x := fun b x hb => by rw [← hH2]; exact stay_alloc wf1 _ b x hb
  have wf2 : WF H2 := by rw [← hH2]; exact wf_alloc wf1 _
  have g2 : H2.get H1.next = some (.cells false [.slice H.next 0 4 (.ex 4) 1, v]) := by rw [← hH2, AH.get_alloc, if_pos rfl]
  have n2 : H2.next = H1.next + 1 := by rw [← hH2, AH.next_alloc]
  with_reducible repeat' (first
 | refine AW.seq ?_
 | refine AW.region ?_
 | refine AOs.nil ?_
 | refine andThen_normal ?_
 | ((first
 | refine AOs.op1E tOK (by with_unfolding_all rfl) ?_
 ); refine Step.mk (by simp only [evOp_move, evOp_assign, one_slice, aeval, PT.get_set, Nat.reduceEqDiff, reduceIte, eq_self, e0, bs28_2, hone, hH2]; rfl) ?_)
 | fail "stop")
  have bsz : ∀ K : AH, K.get H.next = some (.cells false (bytesAV (fourM l.length))) → BytesAt K (.slice H.next 0 4 (.ex 4) 1) (fourM l.length) := fun K hk => .inr ⟨H.next, 0, .ex 4, false, _, rfl, hk, by rw [List.drop_zero, List.take_of_length_le (by rw [bytesAV_length]; omega)]⟩
  have r2 : RowsAt H2 (.slice H1.next 0 2 (.ex 2) 1) [fourM l.length, l] := rows_of (ls := [fourM l.length, l]) g2 rfl fun i u l' hu hl' => by
    match i with
    | 0 => simp at hu hl'; subst hu hl'; exact bsz H2 (st2 _ _ g1)
    | 1 => simp at hu hl'; subst hu hl'; exact h.keep fun b o c _ x hx => st2 b x (st1 b x hx)
    | i + 2 => simp at hu
  refine AOs.callQ tOK (fs := []) (cs := []) rfl fn74 ok74 rfl (by simp only [List.map_cons, List.map_nil, List.nil_append, List.append_nil, aeval, PT.get_set, Nat.reduceEqDiff, reduceIte] <;> rfl) (sum74 N H2 r2 (by simp) (fun l' hl' => by
    simp only [List.mem_cons, List.not_mem_nil, or_false] at hl'
    rcases hl' with rfl | rfl
    · rw [fourM_len]; omega
    · omega)) ?_
  have efl : ([fourM l.length, l] : List (List UInt8)).flatten = fourM l.length ++ l := by simp
  rw [efl]
  rintro r K ⟨rfl, rfl⟩
  obtain ⟨cs, hcs⟩ : ∃ cs, cs = crcM (fourM l.length ++ l) := ⟨_, rfl⟩
  rw [← hcs]
  with_reducible repeat' (first
 | ((first
 | refine AOs.op1E tOK (by with_unfolding_all rfl) ?_
 ); refine Step.mk (by simp only [evOp_move, evOp_assign, evOp_pick, evOp_build, evOp_nilCheck, evOp_binOp, evOp_not, evOp_fieldAddr, evOp_field, evOp_indexAddr, evOp_index, evOp_extract, evOp_makeFunc, evOp_load, evOp_lookup, evOp_store, evOp_mapUpdate, evOp_insert, evOp_range, evOp_makeMap, evOp_len, evOp_append, evOp_copy, evOp_delete, evOp_slice, evOp_convert, evOp_entry, evOp_boxC, boxC_one, boxC_agg, evOp_cap, rangeMapAt, storeAt, one_bool, one_int, one_str, one_nilp, one_ptr, one_nils, one_slice, one_empty, one_nilm, one_map, one_func, one_nilf, one_iface, one_nili, aeval, ofVal, PT.get_set, Nat.reduceEqDiff, reduceIte, lenOfAV_slice, lenOfAV_nils, lenOfAV_empty, cellAt, cellsAt, mapLenAt, lookAt, mapSetAt, mapDelAt, List.map_cons, List.map_nil, Option.map_some, Option.map_none, List.nil_append, List.append_nil, abin_add, abin_sub, abin_mul, abin_lss, abin_leq, abin_gtr, abin_geq, abin_eql, abin_neq, abin_eqlS, abin_neqS, cond_true, cond_false, decide_true, decide_false, Bool.not_true, Bool.not_false, TI.agg, List.getElem?_cons_zero, List.getElem?_cons_succ, Nat.add_zero, Nat.zero_add, Nat.zero_mul, nbeq, nble, nblt, Nat.reduceLeDiff, Nat.reduceLT, Nat.reduceMul, Nat.reduceAdd, Nat.reduceSub, Bool.and_true, Bool.true_and, Bool.and_false, Bool.false_and, List.length_cons, List.length_nil, List.set_cons_zero, List.set_cons_succ, AH.get_set, AH.next_set, eq_self, Int.ofNat_eq_natCast, Int.cast_ofNat_Int, Int.natCast_zero, Int.reduceEq, Int.reduceLT, Int.reduceLE, Int.reduceNeg, ld3, st3, ld4, st4, ld5, st5, al9, ld9, st9, ld20, st20, ld21, st21, ld24, st24, ld27, ne27a, eq27a, ne27b, eq27b, st27, al28, ix28, bs28, ld28, ne28a, eq28a, ne28b, eq28b, ne28c, eq28c, st28, al32, ix32, bs32, ld32, ne32a, eq32a, ne32b, eq32b, ne32c, eq32c, st32, al37, ix37, bs37, ld37, ne37a, eq37a, ne37b, eq37b, ne37c, eq37c, st37, al40, ix40, bs40, ld40, ne40a, eq40a, ne40b, eq40b, ne40c, eq40c, st40, ld42, ne42a, eq42a, ne42b, eq42b, st42, ld47, st47, ld57, st57, ld60, st60, fa63_0, ld63, fa65_0, fa65_1, fa65_2, fa65_3, fa65_4, fa65_5, ld65, an72, am72, ld72, md72, ms72, lk72, ne72a, eq72a, ne72b, eq72b, st72, al73, ix73, bs73, ld73, ne73a, eq73a, ne73b, eq73b, ne73c, eq73c, st73, fa75_0, fa75_1, fa75_2, fa75_3, fa75_4, fa75_5, ld75, ld83, st83, ld85, ne85a, eq85a, ne85b, eq85b, st85, fa87_0, fa87_1, ld87, ld91, st91, ld96, st96, ld104, st104, al116, ix116, bs116, ld116, ne116a, eq116a, ne116b, eq116b, ne116c, eq116c, st116, ld118, st118, ld119, ix119, cv9_32, cv96_3, cv5_96, cv96_5, cv3_96, cv3_118, e0]; rfl) ?_)
 | fail "stop")
  refine AOs.callQ tOK (fs := []) (cs := []) rfl fn99 ok99 rfl (by simp only [List.map_cons, List.map_nil, List.nil_append, List.append_nil, aeval, PT.get_set, Nat.reduceEqDiff, reduceIte] <;> rfl) (four99 N K (x := cs)) ?_
  rintro r H3 ⟨rfl, hH3⟩
  have st3 : ∀ b x, K.get b = some x → H3.get b = some x := fun b x hb => by rw [hH3]; exact stay_alloc wf2 _ b x hb
  have wf3 : WF H3 := by rw [hH3]; exact wf_alloc wf2 _
  have g3 : H3.get K.next = some (.cells false (bytesAV (fourM cs))) := by rw [hH3, AH.get_alloc, if_pos rfl]
  have n3 : H3.next = K.next + 1 := by rw [hH3, AH.next_alloc]
  generalize hH4 : H3.alloc (.cells false [.slice H.next 0 4 (.ex 4) 1, .slice K.next 0 4 (.ex 4) 1, v]) = H4
  have st4 : ∀ b x, H3.get b = some x → H4.get b = some x := fun b x hb => by rw [← hH4]; exact stay_alloc wf3 _ b x hb
  have g4 : H4.get H3.next = some (.cells false [.slice H.next 0 4 (.ex 4) 1, .slice K.next 0 4 (.ex 4) 1, v]) := by rw [← hH4, AH.get_alloc, if_pos rfl]
  have n4 : H4.next = H3.next + 1 := by rw [← hH4, AH.next_alloc]
  with_reducible repeat' (first
 | ((first
 | refine AOs.op1E tOK (by with_unfolding_all rfl) ?_
 ); refine Step.mk (by simp only [evOp_move, one_slice, aeval, PT.get_set, Nat.reduceEqDiff, reduceIte, eq_self, e0, bs28_3, hone, hH4]; rfl) ?_)
 | fail "stop")
  refine AOs.callQ tOK (fs := []) (cs := []) rfl fn100 ok100 rfl (by simp only [List.map_cons, List.map_nil, List.nil_append, List.append_nil, aeval, ofVal, PT.get_set, Nat.reduceEqDiff, reduceIte] <;> rfl) (put100 N H4 g4 (bsz H4 (st4 _ _ (st3 _ _ (st2 _ _ g1)))) (.inr ⟨K.next, 0, .ex 4, false, _, rfl, st4 _ _ g3, by rw [fourM_len, List.drop_zero, List.take_of_length_le (by rw [bytesAV_length, fourM_len]; omega)]⟩) (h.keep fun b o c _ x hx => st4 _ _ (st3 _ _ (st2 b x (st1 b x hx)))) (by rw [fourM_len, fourM_len]; omega)) ?_
  rintro r H5 ⟨hf, hk, hn⟩
  with_reducible repeat' (first
 | refine AOs.nil ?_
 | refine AW.ret ?_
 | refine andThen_normal ?_
 | ((first
 | refine AOs.op1E tOK (by with_unfolding_all rfl) ?_
 ); refine Step.mk (by simp only [evOp_assign, aeval, ofVal, PT.get_set, Nat.reduceEqDiff, reduceIte, eq_self]; rfl) ?_)
 | fail "stop")
  refine fnPost_ret2 (by first | (simp only [PT.get_set, Nat.reduceEqDiff, reduceIte]; rfl) | simp only [PT.get_set, Nat.reduceEqDiff, reduceIte]) (by first | (simp only [PT.get_set, Nat.reduceEqDiff, reduceIte]; rfl) | simp only [PT.get_set, Nat.reduceEqDiff, reduceIte]) ⟨r, rfl, ?_, fun b x hb => hk b x (st4 _ _ (st3 _ _ (st2 b x (st1 b x hb)))), by omega⟩
  unfold frameM
  rw [← hcs]; exact hf
end Go.Proofs.YtgihociajfgohaaGreatDoor

open Go Go.AB Go.Proofs
namespace Go.Proofs.YtgihociajfgohaaGreatDoor
set_option maxRecDepth 100000

theorem fnPost_ret3 {C : Ctx} {T : PT AV} {H : AH} {t u v : Nat} {Q : AV → AH → Prop} {a b c : AV} (h : T.get t = some a) (h2 : T.get u = some b) (h3 : T.get v = some c) (hq : Q (.tuple [a, b, c]) H) : fnPost C [.tmp t, .tmp u, .tmp v] Q .ret T H := ⟨[a, b, c], by simp only [aresults, aresult, h, h2, h3], hq⟩

def framesM (ls : List (List UInt8)) : List UInt8 := (ls.map frameM).flatten
theorem framesM_take {ls : List (List UInt8)} {i : Nat} {l : List UInt8} (h : ls[i]? = some l) : framesM (ls.take (i + 1)) = framesM (ls.take i) ++ frameM l := by
  unfold framesM
  rw [List.take_add_one, h, List.map_append, List.flatten_append]; simp
theorem framesM_cons (l : List UInt8) (ls : List (List UInt8)) : framesM (l :: ls) = frameM l ++ framesM ls := rfl
theorem framesM_app (ls ms : List (List UInt8)) : framesM (ls ++ ms) = framesM ls ++ framesM ms := by simp [framesM]
theorem framesM_le {ls : List (List UInt8)} {B : Nat} (h : ∀ l ∈ ls, l.length ≤ B) : (framesM ls).length ≤ ls.length * (B + 8) := by
  induction ls with
  | nil => simp [framesM]
  | cons l ls ih =>
    have h1 := ih fun x hx => h x (List.mem_cons_of_mem _ hx)
    have h2 := h l List.mem_cons_self
    rw [framesM_cons, List.length_append, frameM_len, List.length_cons, Nat.succ_mul]
    omega

theorem Acc.fb {H : AH} {v : AV} {l : List UInt8} (h : Acc H v (bytesAV l)) : FB H v l := by
  rcases h with ⟨rfl, h⟩ | ⟨b, rfl, h1, h2⟩
  · refine .inl ⟨rfl, List.eq_nil_of_length_eq_zero ?_⟩
    have := congrArg List.length h
    rw [bytesAV_length] at this; simpa using this
  · exact .inr ⟨b, 0, _, false, _, by rw [bytesAV_length], h1, by rw [List.drop_zero, List.take_of_length_le (by rw [bytesAV_length]; omega)], kindV_bytes _ _, by simp [ACap.low, bytesAV_length]⟩

set_option maxHeartbeats 2000000 in
theorem frames45 (N : Nat) (H : AH) {v : AV} {ls : List (List UInt8)} (h : RowsAt H v ls) (hn : ls.length ≤ 1000) (hl : ∀ l ∈ ls, l.length ≤ 3000) :
    AC tC N 0 45 [v] H fun r K => ∃ f, r = .tuple [f, .int .i64 0] ∧ FB K f (framesM ls) ∧ (∀ b x, H.get b = some x → K.get b = some x) ∧ H.next ≤ K.next := by
  refine AC.wf0 fun hwf => ?_
  refine AC.by (n := 28) (rs := [.tmp 2, .tmp 3]) tOK fn45 rfl rfl rfl rfl ?_
  have e0 : (PT.ofList .leaf 0 [v]).get 0 = some v := rfl
  have hlen := h.len
  with_reducible repeat' (first
 | refine AW.seq ?_
 | refine AW.region ?_
 | refine AW.block ?_
 | refine AOs.nil ?_
 | refine andThen_normal ?_
 | ((first
 | refine AOs.op1E tOK (by with_unfolding_all rfl) ?_
 ); refine Step.mk (by simp only [evOp_move, evOp_assign, evOp_len, aeval, ofVal, PT.get_set, Nat.reduceEqDiff, reduceIte, Option.map_some, eq_self, al28, e0, hlen]; rfl) ?_)
 | fail "stop")
  refine AW.loop (fun m T K => (∀ b x, H.get b = some x → K.get b = some x) ∧ H.next ≤ K.next ∧ T.get 9 = some v ∧ T.get 10 = some (.int .i64 (ls.length : Nat)) ∧ ∃ (i : Nat) (out : AV), i ≤ ls.length ∧ m = ls.length - i ∧ T.get 11 = some (.int .i64 (i : Nat)) ∧ T.get 4 = some out ∧ Acc K out (bytesAV (framesM (ls.take i))) ∧ ∀ b o n c z, out = .slice b o n c z → H.next ≤ b) ?_ (ls.length - 0)
    ⟨fun b x h => h, Nat.le_refl _, by simp [PT.get_set, e0], by simp [PT.get_set], 0, .nils, by omega, rfl, by simp [PT.get_set], by simp [PT.get_set], .inl ⟨rfl, rfl⟩, fun _ _ _ _ _ e => by cases e⟩
  rintro m T K ⟨hst, hnx, g9, g10, i, out, hi, rfl, g11, g4, hout, hob⟩
  refine AW.wf0 fun hwfK => ?_
  by_cases hil : i < ls.length
  · have hd := lt_int hil
    obtain ⟨l, hli⟩ : ∃ l, ls[i]? = some l := ⟨_, List.getElem?_eq_getElem hil⟩
    have hl1 := hl l (List.mem_of_getElem? hli)
    rcases h with ⟨_, h⟩ | ⟨b, o, c, ro, ws, rfl, hbg, hw⟩
    · rw [h] at hil; simp at hil
    obtain ⟨u, hu, hB⟩ := hw i l hli
    have hbK := hst _ _ hbg
    with_reducible repeat' (first
 | refine AW.seq ?_
 | refine AW.region ?_
 | refine AW.block ?_
 | refine AOs.nil ?_
 | refine AW.skip ?_
 | refine andThen_normal ?_
 | refine AW.condT (by simp only [aeval, PT.get_set, reduceIte]; rfl) (by first | rfl | decide | assumption) ?_
 | ((first
 | refine AOs.op1E tOK (by with_unfolding_all rfl) ?_
 ); refine Step.mk (by simp only [evOp_move, evOp_assign, evOp_binOp, evOp_indexAddr, evOp_load, aeval, PT.get_set, Nat.reduceEqDiff, reduceIte, cellAt, Option.map_some, abin_lss, eq_self, ix28, ld32, g9, g10, g11, hd, hil, hbK, hu]; rfl) ?_)
 | fail "stop")
    refine AOs.callQ tOK (fs := []) (cs := []) rfl fn77 ok77 rfl (by simp only [List.map_cons, List.map_nil, List.nil_append, List.append_nil, aeval, PT.get_set, Nat.reduceEqDiff, reduceIte] <;> rfl) (frame77 N K (hB.keep fun b o c _ x hx => hst b x hx) (by omega)).wf ?_
    rintro r K1 ⟨⟨f, rfl, hf, hk1, hn1⟩, hwf1⟩
    have hl2 := framesM_le (ls := ls.take i) (B := 3000) fun l hl' => hl l (List.mem_of_mem_take hl')
    have hl3 : (ls.take i).length ≤ 1000 := by rw [List.length_take]; omega
    have hl4 : (ls.take i).length * (3000 + 8) ≤ 1000 * 3008 := Nat.mul_le_mul_right _ hl3
    have ho1 : Acc K1 out (bytesAV (framesM (ls.take i))) := hout.keep fun b o n c z _ x hx => hk1 b x hx
    have hap := aappended_bytes (C := tC) (j := ⟨.int .u8, 1, 1, some (.int .u8 (.ofNat 0)), true⟩) ti32 rfl rfl hf.bytes
    rw [← bytesAV_length (frameM l)] at hap
    obtain ⟨out', K2, ha, hacc, hn2, hk2, hb2⟩ := acc_append (C := tC) ti32 rfl ti5 rfl rfl rfl (by decide) hwf1 ho1 hap (bytesAV_one _) (by rw [bytesAV_length, bytesAV_length, frameM_len]; omega)
    with_reducible repeat' (first
 | refine AW.seq ?_
 | refine AW.region ?_
 | refine AOs.nil ?_
 | refine AW.skip ?_
 | refine andThen_normal ?_
 | refine inBlock_normal ?_
 | refine AW.condF (by simp only [aeval, PT.get_set, Nat.reduceEqDiff, reduceIte]; rfl) (by first | rfl | decide | assumption) ?_
 | ((first
 | refine AOs.op1E tOK (by with_unfolding_all rfl) ?_
 ); refine Step.mk (by simp only [evOp_move, evOp_assign, evOp_binOp, evOp_extract, evOp_append, aeval, ofVal, PT.get_set, Nat.reduceEqDiff, reduceIte, List.map_cons, List.map_nil, Option.map_some, abin_add, abin_neq, decide_true, Bool.not_true, List.getElem?_cons_zero, List.getElem?_cons_succ, eq_self, g4, g11, ha]; rfl) ?_)
 | fail "stop")
    rw [← bytesAV_append, ← framesM_take hli] at hacc
    refine ⟨ls.length - (i + 1), by omega, fun b x hb => hk2 b x (hk1 b x (hst b x hb)) fun o n c z e => by have := hob _ _ _ _ _ e; have := hwf b x hb; omega, by omega, by simp [PT.get_set, g9], by simp [PT.get_set, g10], i + 1, out', by omega, rfl, ?_, by simp [PT.get_set], hacc, fun b o n c z e => ?_⟩
    · simp only [PT.get_set, Nat.reduceEqDiff, reduceIte, wrap64_succ (show i < 9223372036854775807 by omega)]
    · rcases hb2 b o n c z e with h | h
      · exact hob b o n c z (h.trans e)
      · omega
  · have hd := nlt_int hil
    obtain rfl : i = ls.length := by omega
    rw [List.take_length] at hout
    with_reducible repeat' (first
 | refine AW.seq ?_
 | refine AW.region ?_
 | refine AOs.nil ?_
 | refine AW.exit ?_
 | refine AW.ret ?_
 | refine andThen_normal ?_
 | refine andThen_exit ?_
 | refine inBlock_hit ?_
 | refine AW.condF (by simp only [aeval, PT.get_set, reduceIte]; rfl) (by first | rfl | decide | assumption) ?_
 | ((first
 | refine AOs.op1E tOK (by with_unfolding_all rfl) ?_
 ); refine Step.mk (by simp only [evOp_move, evOp_assign, evOp_binOp, aeval, ofVal, PT.get_set, Nat.reduceEqDiff, reduceIte, Option.map_some, abin_lss, eq_self, g4, g10, g11, hd]; rfl) ?_)
 | fail "stop")
    exact fnPost_ret2 (by first | (simp only [PT.get_set, Nat.reduceEqDiff, reduceIte]; rfl) | simp only [PT.get_set, Nat.reduceEqDiff, reduceIte]) (by first | (simp only [PT.get_set, Nat.reduceEqDiff, reduceIte]; rfl) | simp only [PT.get_set, Nat.reduceEqDiff, reduceIte]) ⟨out, rfl, Acc.fb hout, hst, hnx⟩

/-- Bytes, or none that are. -/
def BE (H : AH) (v : AV) (l : List UInt8) : Prop := (∃ k, v = .empty k ∧ l = []) ∨ FB H v l
theorem BE.bytes {H : AH} {v : AV} {l : List UInt8} (h : BE H v l) : BytesAt H v l := by
  rcases h with ⟨k, rfl, rfl⟩ | h
  · exact .inl ⟨.inr ⟨k, rfl⟩, rfl⟩
  · exact h.bytes
theorem BE.fb {H : AH} {v : AV} {l : List UInt8} (h : BE H v l) (hl : l ≠ []) : FB H v l := by
  rcases h with ⟨k, _, rfl⟩ | h
  · exact absurd rfl hl
  · exact h
theorem BE.keep {H K : AH} {v : AV} {l : List UInt8} (h : BE H v l) (hk : ∀ b x, H.get b = some x → K.get b = some x) : BE K v l := h.imp id fun h => h.keep fun b x hb _ => hk b x hb

/-- A part of bytes. -/
theorem FB.sub {H : AH} {v : AV} {l : List UInt8} (h : FB H v l) {lo hi : Nat} {hi' : Option AV} (h1 : lo ≤ hi) (h2 : hi ≤ l.length) (hb : bnd hi' l.length = some hi) : ∃ u, aslice tC 32 v (some (.int .i64 (lo : Int))) hi' none = some u ∧ BE H u ((l.drop lo).take (hi - lo)) := by
  have hlo : ∀ d, bnd (some (AV.int .i64 (lo : Int))) d = some lo := fun d => rfl
  rcases h with ⟨rfl, rfl⟩ | ⟨b, o, c, ro, vs, rfl, h3, h4, h5, h6⟩
  · obtain rfl : hi = 0 := by simpa using h2
    obtain rfl : lo = 0 := by omega
    have hb' : bnd hi' 0 = some 0 := hb
    refine ⟨.nils, ?_, .inr (.inl ⟨rfl, by simp⟩)⟩
    simp only [aslice, ti32, ti5, hlo, hb', show bnd none 0 = some 0 from rfl]; rfl
  · have hlen : ((l.drop lo).take (hi - lo)).length = hi - lo := by simp; omega
    have hcells : (vs.drop (o + lo * 1)).take (hi - lo) = bytesAV ((l.drop lo).take (hi - lo)) := by
      have := congrArg (fun z => (z.drop lo).take (hi - lo)) h4
      simp only [List.drop_take, List.drop_drop, List.take_take] at this
      rw [show min (hi - lo) (l.length - lo) = hi - lo by omega] at this
      rw [Nat.mul_one, this]
      simp [bytesAV]
    cases c with
    | ex c =>
      simp only [ACap.low] at h6
      by_cases hc : c = lo
      · refine ⟨.slice b o 0 (.ex 0) 1, ?_, .inr (.inr ⟨b, o, .ex 0, ro, vs, ?_, h3, ?_, h5, ?_⟩)⟩
        · simp only [aslice, ti32, ti5, hlo, hb, nbeq, nble, h1, show hi ≤ c by omega, decide_true, Bool.and_true, cond_true, if_pos hc]
        · rw [hlen, show hi - lo = 0 by omega]
        · rw [hlen, show hi - lo = 0 by omega]; simp [bytesAV]
        · rw [hlen]; omega
      · refine ⟨.slice b (o + lo * 1) (hi - lo) (.ex (c - lo)) 1, ?_, .inr (.inr ⟨b, _, _, ro, vs, by rw [hlen], h3, by rw [hlen]; exact hcells, h5, by rw [hlen]; simp only [ACap.low]; omega⟩)⟩
        simp only [aslice, ti32, ti5, hlo, hb, nbeq, nble, h1, show hi ≤ c by omega, decide_true, Bool.and_true, cond_true, if_neg hc]
    | lo c =>
      simp only [ACap.low] at h6
      by_cases h0 : lo = 0
      · subst h0
        refine ⟨.slice b o hi (.lo c) 1, ?_, .inr (.inr ⟨b, o, .lo c, ro, vs, by rw [hlen]; simp, h3, ?_, h5, by rw [hlen]; simp only [ACap.low]; omega⟩)⟩
        · simp only [aslice, ti32, ti5, hlo, hb, nbeq, nble, h1, show hi ≤ c by omega, decide_true, Bool.and_true, cond_true, if_pos]
        · rw [hlen]; simpa using hcells
      · by_cases hc : c = lo
        · refine ⟨.empty b, ?_, .inl ⟨b, rfl, List.eq_nil_of_length_eq_zero (by rw [hlen]; omega)⟩⟩
          simp only [aslice, ti32, ti5, hlo, hb, nbeq, nble, h1, show hi ≤ c by omega, decide_true, Bool.and_true, cond_true, if_neg h0, if_pos hc]
        · refine ⟨.slice b (o + lo * 1) (hi - lo) (.lo (c - lo)) 1, ?_, .inr (.inr ⟨b, _, _, ro, vs, by rw [hlen], h3, by rw [hlen]; exact hcells, h5, by rw [hlen]; simp only [ACap.low]; omega⟩)⟩
          simp only [aslice, ti32, ti5, hlo, hb, nbeq, nble, h1, show hi ≤ c by omega, decide_true, Bool.and_true, cond_true, if_neg h0, if_neg hc]

theorem FB.head' {H : AH} {v : AV} {l : List UInt8} (h : FB H v l) {n : Nat} (hn : n ≤ l.length) : ∃ u, aslice tC 32 v none (some (.int .i64 (n : Int))) none = some u ∧ FB H u (l.take n) := by
  have hbn : ∀ d, bnd (some (AV.int .i64 (n : Int))) d = some n := fun d => rfl
  rcases h with ⟨rfl, rfl⟩ | ⟨b, o, c, ro, vs, rfl, h1, h2, h3, h4⟩
  · obtain rfl : n = 0 := by simpa using hn
    refine ⟨.nils, ?_, .inl ⟨rfl, rfl⟩⟩
    simp only [aslice, ti32, ti5, hbn, show bnd none 0 = some 0 from rfl]; rfl
  · have hlen : (l.take n).length = n := by rw [List.length_take]; omega
    have hcells : (vs.drop o).take n = bytesAV (l.take n) := by
      have := congrArg (fun z => z.take n) h2
      simp only [List.take_take] at this
      rw [show min n l.length = n by omega] at this
      rw [this]; simp [bytesAV]
    cases c with
    | ex c =>
      simp only [ACap.low] at h4
      by_cases hc : c = 0
      · have hn0 : n = 0 := by omega
        subst hn0
        refine ⟨.slice b o 0 (.ex 0) 1, ?_, .inr ⟨b, o, .ex 0, ro, vs, by simp, h1, by simp [bytesAV], h3, by simp [ACap.low]⟩⟩
        simp only [aslice, ti32, ti5, hbn, show bnd none 0 = some 0 from rfl, nbeq, nble, show (0 : Nat) ≤ c by omega, Nat.le_refl, decide_true, Bool.and_true, cond_true, if_pos hc]
      · refine ⟨.slice b (o + 0 * 1) (n - 0) (.ex (c - 0)) 1, ?_, .inr ⟨b, o + 0 * 1, .ex (c - 0), ro, vs, by rw [hlen]; rfl, h1, by rw [hlen]; simpa using hcells, h3, by rw [hlen]; simp only [ACap.low]; omega⟩⟩
        simp only [aslice, ti32, ti5, hbn, show bnd none 0 = some 0 from rfl, nbeq, nble, show n ≤ c by omega, Nat.zero_le, decide_true, Bool.and_true, cond_true, if_neg hc]
    | lo c =>
      simp only [ACap.low] at h4
      refine ⟨.slice b o n (.lo c) 1, ?_, .inr ⟨b, o, .lo c, ro, vs, by rw [hlen], h1, by rw [hlen]; exact hcells, h3, by rw [hlen]; simp only [ACap.low]; omega⟩⟩
      simp only [aslice, ti32, ti5, hbn, show bnd none 0 = some 0 from rfl, nbeq, nble, show n ≤ c by omega, Nat.zero_le, decide_true, Bool.and_true, cond_true, if_pos]
end Go.Proofs.YtgihociajfgohaaGreatDoor

open Go Go.AB Go.Proofs
namespace Go.Proofs.YtgihociajfgohaaGreatDoor
set_option maxRecDepth 100000

/-- The frame at the beginning: its bytes, how many it takes, an error. -/
def unframeM (b : List UInt8) : List UInt8 × Nat × Int :=
  if b.length < 4 then ([], 0, 5)
  else if 4194304 < toldM b then ([], 0, 4)
  else if b.length < 8 + toldM b then ([], 0, 5)
  else if toldM (b.drop 4) = crcM (b.take 4 ++ (b.drop 8).take (toldM b)) then ((b.drop 8).take (toldM b), 8 + toldM b, 0)
  else ([], 0, 4)

theorem told_take {b : List UInt8} {n : Nat} (h : 4 ≤ n) : toldM (b.take n) = toldM b := by
  unfold toldM
  have : ∀ i, i < 4 → (b.take n).getD i 0 = b.getD i 0 := fun i hi => by
    rw [List.getD_eq_getElem?_getD, List.getD_eq_getElem?_getD, List.getElem?_take_of_lt (by omega)]
  rw [this 0 (by omega), this 1 (by omega), this 2 (by omega), this 3 (by omega)]

set_option maxHeartbeats 1000000 in
theorem clone37e (N : Nat) (H : AH) {v : AV} {l : List UInt8} (h : BE H v l) (hl : l.length ≤ 1000000000000) :
    AC tC N 0 53 [v] H fun r K => BytesAt K r l ∧ (∀ b x, H.get b = some x → K.get b = some x) ∧ H.next ≤ K.next ∧ ∀ b o n c z, r = .slice b o n c z → H.next ≤ b := by
  rcases h with ⟨k, rfl, rfl⟩ | h
  · refine AC.wf0 fun hwf => ?_
    refine AC.by (n := 8) (rs := [.tmp 2]) tOK fn53 rfl rfl rfl rfl ?_
    have e0 : (PT.ofList .leaf 0 [AV.empty k]).get 0 = some (.empty k) := rfl
    have ha := aappend_bytesEx (C := tC) (H := H.alloc (.cells false [])) (st := 32) (b := H.next) (v := .empty k) (l := []) ti32 rfl ti5 rfl rfl rfl rfl (.inl ⟨.inr ⟨k, rfl⟩, rfl⟩) (by simp)
    rw [if_pos rfl] at ha
    with_reducible repeat' (first
 | refine AW.seq ?_
 | refine AW.region ?_
 | refine AOs.nil ?_
 | refine AW.skip ?_
 | refine AW.ret ?_
 | refine andThen_normal ?_
 | refine AW.condF (by simp only [aeval, PT.get_set, Nat.reduceEqDiff, reduceIte]; rfl) (by first | rfl | decide | assumption) ?_
 | ((first
 | refine AOs.op1E tOK (by with_unfolding_all rfl) ?_
 ); refine Step.mk (by simp only [evOp_move, evOp_assign, evOp_binOp, evOp_append, aeval, ofVal, PT.get_set, Nat.reduceEqDiff, reduceIte, List.map_cons, List.map_nil, Option.map_some, eq_self, bs32, eq32c, e0, ha]; rfl) ?_)
 | fail "stop")
    exact fnPost_ret1 (by first | (simp only [PT.get_set, Nat.reduceEqDiff, reduceIte]; rfl) | simp only [PT.get_set, Nat.reduceEqDiff, reduceIte]) ⟨.inr ⟨H.next, 0, .ex 0, false, [], rfl, by rw [AH.get_alloc, if_pos rfl], rfl⟩, fun b x hb => stay_alloc hwf _ b x hb, by rw [AH.next_alloc]; omega, fun _ _ _ _ _ e => by cases e; exact Nat.le_refl _⟩
  · refine AC.wf0 fun hwf => ?_
    refine AC.by (n := 8) (rs := [.tmp 2]) tOK fn53 rfl rfl rfl rfl ?_
    have e0 : (PT.ofList .leaf 0 [v]).get 0 = some v := rfl
    have hst := (Stays.refl H).alloc (.cells false [])
    have ha := aappend_bytesEx (C := tC) (st := 32) (b := H.next) ti32 rfl ti5 rfl rfl rfl rfl (h.bytes.stays hwf hst) hl
    rcases h with ⟨rfl, rfl⟩ | ⟨b, o, c, ro, vs, rfl, h1, h2, h3⟩
    · with_reducible repeat' (first
 | refine AW.seq ?_
 | refine AW.region ?_
 | refine AOs.nil ?_
 | refine AW.ret ?_
 | refine andThen_normal ?_
 | refine andThen_ret ?_
 | refine AW.condT (by simp only [aeval, PT.get_set, Nat.reduceEqDiff, reduceIte]; rfl) (by first | rfl | decide | assumption) ?_
 | ((first
 | refine AOs.op1E tOK (by with_unfolding_all rfl) ?_
 ); refine Step.mk (by simp only [evOp_move, evOp_assign, evOp_binOp, aeval, ofVal, PT.get_set, Nat.reduceEqDiff, reduceIte, Option.map_some, eq_self, eq32b, e0]; rfl) ?_)
 | fail "stop")
      exact fnPost_ret1 (by first | (simp only [PT.get_set, Nat.reduceEqDiff, reduceIte]; rfl) | simp only [PT.get_set, Nat.reduceEqDiff, reduceIte]) ⟨.inl ⟨.inl rfl, rfl⟩, fun _ _ h => h, Nat.le_refl _, fun _ _ _ _ _ e => by cases e⟩
    · by_cases h0 : l = []
      · subst h0
        rw [if_pos rfl] at ha
        simp only [List.length_nil] at e0 ha
        with_reducible repeat' (first
 | refine AW.seq ?_
 | refine AW.region ?_
 | refine AOs.nil ?_
 | refine AW.skip ?_
 | refine AW.ret ?_
 | refine andThen_normal ?_
 | refine AW.condF (by simp only [aeval, PT.get_set, Nat.reduceEqDiff, reduceIte, List.length_nil]; rfl) (by first | rfl | decide | assumption) ?_
 | ((first
 | refine AOs.op1E tOK (by with_unfolding_all rfl) ?_
 ); refine Step.mk (by simp only [evOp_move, evOp_assign, evOp_binOp, evOp_append, aeval, ofVal, PT.get_set, Nat.reduceEqDiff, reduceIte, List.map_cons, List.map_nil, Option.map_some, List.length_nil, eq_self, bs32, eq32a, e0, ha, List.length_nil]; rfl) ?_)
 | fail "stop")
        refine fnPost_ret1 (by first | (simp only [PT.get_set, Nat.reduceEqDiff, reduceIte]; rfl) | simp only [PT.get_set, Nat.reduceEqDiff, reduceIte]) ⟨.inr ⟨H.next, 0, .ex 0, false, [], rfl, by rw [AH.get_alloc, if_pos rfl], rfl⟩, fun b x hx => hst.get b x (hwf b x hx) hx, hst.next, fun _ _ _ _ _ e => by cases e; exact Nat.le_refl _⟩
      · rw [if_neg h0] at ha
        have hst2 := hst.alloc (.cells false (bytesAV l))
        with_reducible repeat' (first
 | refine AW.seq ?_
 | refine AW.region ?_
 | refine AOs.nil ?_
 | refine AW.skip ?_
 | refine AW.ret ?_
 | refine andThen_normal ?_
 | refine AW.condF (by simp only [aeval, PT.get_set, Nat.reduceEqDiff, reduceIte]; rfl) (by first | rfl | decide | assumption) ?_
 | ((first
 | refine AOs.op1E tOK (by with_unfolding_all rfl) ?_
 ); refine Step.mk (by simp only [evOp_move, evOp_assign, evOp_binOp, evOp_append, aeval, ofVal, PT.get_set, Nat.reduceEqDiff, reduceIte, List.map_cons, List.map_nil, Option.map_some, eq_self, bs32, eq32a, e0, ha]; rfl) ?_)
 | fail "stop")
        refine fnPost_ret1 (by first | (simp only [PT.get_set, Nat.reduceEqDiff, reduceIte]; rfl) | simp only [PT.get_set, Nat.reduceEqDiff, reduceIte]) ⟨.inr ⟨H.next + 1, 0, .lo l.length, false, bytesAV l, rfl, by rw [AH.get_alloc, if_pos (by simp)], by simp [bytesAV_length, List.take_of_length_le]⟩, fun b x hx => hst2.get b x (hwf b x hx) hx, hst2.next, fun _ _ _ _ _ e => by cases e; omega⟩

set_option maxHeartbeats 4000000 in
theorem unframe43 (N : Nat) (H : AH) {v : AV} {b : List UInt8} (h : FB H v b) (hl : b.length ≤ 100000000) :
    AC tC N 0 43 [v] H fun r K => ∃ p, r = .tuple [p, .int .i64 ((unframeM b).2.1 : Nat), .int .i64 (unframeM b).2.2] ∧ BytesAt K p (unframeM b).1 ∧ p.one = true ∧ (∀ b x, H.get b = some x → K.get b = some x) ∧ H.next ≤ K.next ∧ ∀ b o n c z, p = .slice b o n c z → H.next ≤ b := by
  refine AC.wf0 fun hwf => ?_
  refine AC.by (n := 36) (rs := [.tmp 2, .tmp 3, .tmp 4]) tOK fn43 rfl rfl rfl rfl ?_
  have e0 : (PT.ofList .leaf 0 [v]).get 0 = some v := rfl
  have hlen := h.bytes.len
  by_cases h4 : b.length < 4
  · have hd : decide ((b.length : Int) < 4) = true := decide_eq_true (by omega)
    have he : unframeM b = ([], 0, 5) := by rw [unframeM, if_pos h4]
    rw [he]
    with_reducible repeat' (first
 | refine AW.seq ?_
 | refine AW.region ?_
 | refine AOs.nil ?_
 | refine AW.ret ?_
 | refine andThen_normal ?_
 | refine andThen_ret ?_
 | refine AW.condT (by simp only [aeval, PT.get_set, Nat.reduceEqDiff, reduceIte]; rfl) (by first | rfl | decide | assumption) ?_
 | ((first
 | refine AOs.op1E tOK (by with_unfolding_all rfl) ?_
 ); refine Step.mk (by simp only [evOp_move, evOp_assign, evOp_binOp, evOp_len, aeval, ofVal, PT.get_set, Nat.reduceEqDiff, reduceIte, Option.map_some, abin_lss, eq_self, al32, e0, hlen, hd]; rfl) ?_)
 | fail "stop")
    exact fnPost_ret3 (by first | (simp only [PT.get_set, Nat.reduceEqDiff, reduceIte]; rfl) | simp only [PT.get_set, Nat.reduceEqDiff, reduceIte]) (by first | (simp only [PT.get_set, Nat.reduceEqDiff, reduceIte]; rfl) | simp only [PT.get_set, Nat.reduceEqDiff, reduceIte]) (by first | (simp only [PT.get_set, Nat.reduceEqDiff, reduceIte]; rfl) | simp only [PT.get_set, Nat.reduceEqDiff, reduceIte]) ⟨_, rfl, .inl ⟨.inl rfl, rfl⟩, rfl, fun _ _ h => h, Nat.le_refl _, fun _ _ _ _ _ e => by cases e⟩
  have hd : decide ((b.length : Int) < 4) = false := decide_eq_false (by omega)
  with_reducible repeat' (first
 | refine AW.seq ?_
 | refine AW.region ?_
 | refine AOs.nil ?_
 | refine AW.skip ?_
 | refine andThen_normal ?_
 | refine AW.condF (by simp only [aeval, PT.get_set, Nat.reduceEqDiff, reduceIte]; rfl) (by first | rfl | decide | assumption) ?_
 | ((first
 | refine AOs.op1E tOK (by with_unfolding_all rfl) ?_
 ); refine Step.mk (by simp only [evOp_move, evOp_assign, evOp_binOp, evOp_len, aeval, ofVal, PT.get_set, Nat.reduceEqDiff, reduceIte, Option.map_some, abin_lss, eq_self, al32, e0, hlen, hd]; rfl) ?_)
 | fail "stop")
  refine AOs.callQ tOK (fs := []) (cs := []) rfl fn73 ok73 rfl (by simp only [List.map_cons, List.map_nil, List.nil_append, List.append_nil, aeval, PT.get_set, Nat.reduceEqDiff, reduceIte] <;> rfl) (told73 N H h.bytes (by omega)) ?_
  rintro r K ⟨rfl, rfl⟩
  obtain ⟨sz, hsz⟩ : ∃ sz, sz = toldM b := ⟨_, rfl⟩
  have hszl : sz < 4294967296 := by rw [hsz]; exact toldM_lt b
  rw [← hsz]
  by_cases h5 : 4194304 < sz
  · have hd2 : decide ((4194304 : Int) < (sz : Nat)) = true := decide_eq_true (by omega)
    have he : unframeM b = ([], 0, 4) := by rw [unframeM, if_neg h4, ← hsz, if_pos h5]
    rw [he]
    with_reducible repeat' (first
 | refine AW.seq ?_
 | refine AW.region ?_
 | refine AOs.nil ?_
 | refine AW.ret ?_
 | refine andThen_normal ?_
 | refine andThen_ret ?_
 | refine AW.condT (by simp only [aeval, PT.get_set, Nat.reduceEqDiff, reduceIte]; rfl) (by first | rfl | decide | assumption) ?_
 | ((first
 | refine AOs.op1E tOK (by with_unfolding_all rfl) ?_
 ); refine Step.mk (by simp only [evOp_move, evOp_assign, evOp_binOp, aeval, ofVal, PT.get_set, Nat.reduceEqDiff, reduceIte, Option.map_some, abin_gtr, eq_self, hd2]; rfl) ?_)
 | fail "stop")
    exact fnPost_ret3 (by first | (simp only [PT.get_set, Nat.reduceEqDiff, reduceIte]; rfl) | simp only [PT.get_set, Nat.reduceEqDiff, reduceIte]) (by first | (simp only [PT.get_set, Nat.reduceEqDiff, reduceIte]; rfl) | simp only [PT.get_set, Nat.reduceEqDiff, reduceIte]) (by first | (simp only [PT.get_set, Nat.reduceEqDiff, reduceIte]; rfl) | simp only [PT.get_set, Nat.reduceEqDiff, reduceIte]) ⟨_, rfl, .inl ⟨.inl rfl, rfl⟩, rfl, fun _ _ h => h, Nat.le_refl _, fun _ _ _ _ _ e => by cases e⟩
  have hd2 : decide ((4194304 : Int) < (sz : Nat)) = false := decide_eq_false (by omega)
  have hw1 : IntKind.i64.wrap ((sz : Nat) : Int) = (sz : Nat) := wrap64 (by omega) (by omega)
  have hw2 : IntKind.i64.wrap (8 + ((sz : Nat) : Int)) = ((8 + sz : Nat) : Int) := by rw [wrap64 (by omega) (by omega)]; omega
  by_cases h6 : b.length < 8 + sz
  · have hd3 : decide ((b.length : Int) < ((8 + sz : Nat) : Int)) = true := decide_eq_true (by omega)
    have he : unframeM b = ([], 0, 5) := by rw [unframeM, if_neg h4, ← hsz, if_neg h5, if_pos h6]
    rw [he]
    with_reducible repeat' (first
 | refine AW.seq ?_
 | refine AW.region ?_
 | refine AOs.nil ?_
 | refine AW.skip ?_
 | refine AW.ret ?_
 | refine andThen_normal ?_
 | refine andThen_ret ?_
 | refine AW.condT (by simp only [aeval, PT.get_set, Nat.reduceEqDiff, reduceIte]; rfl) (by first | rfl | decide | assumption) ?_
 | refine AW.condF (by simp only [aeval, PT.get_set, Nat.reduceEqDiff, reduceIte]; rfl) (by first | rfl | decide | assumption) ?_
 | ((first
 | refine AOs.op1E tOK (by with_unfolding_all rfl) ?_
 ); refine Step.mk (by simp only [evOp_move, evOp_assign, evOp_binOp, evOp_len, evOp_convert, aeval, ofVal, PT.get_set, Nat.reduceEqDiff, reduceIte, Option.map_some, abin_add, abin_lss, abin_gtr, eq_self, al32, cv96_3, e0, hlen, hd2, cv96_3, hw1, hw2, hd3]; rfl) ?_)
 | fail "stop")
    exact fnPost_ret3 (by first | (simp only [PT.get_set, Nat.reduceEqDiff, reduceIte]; rfl) | simp only [PT.get_set, Nat.reduceEqDiff, reduceIte]) (by first | (simp only [PT.get_set, Nat.reduceEqDiff, reduceIte]; rfl) | simp only [PT.get_set, Nat.reduceEqDiff, reduceIte]) (by first | (simp only [PT.get_set, Nat.reduceEqDiff, reduceIte]; rfl) | simp only [PT.get_set, Nat.reduceEqDiff, reduceIte]) ⟨_, rfl, .inl ⟨.inl rfl, rfl⟩, rfl, fun _ _ h => h, Nat.le_refl _, fun _ _ _ _ _ e => by cases e⟩
  have hd3 : decide ((b.length : Int) < ((8 + sz : Nat) : Int)) = false := decide_eq_false (by omega)
  obtain ⟨u4, hs4, hu4⟩ := h.sub (lo := 4) (hi := b.length) (hi' := none) (by omega) (Nat.le_refl _) rfl
  have hu4' : BytesAt K u4 (b.drop 4) := by
    have := hu4.bytes
    rwa [List.take_of_length_le (by simp)] at this
  obtain ⟨u3, hs3, hu3⟩ := h.head' (n := 4) (by omega)
  obtain ⟨u8, hs8, hu8⟩ := h.sub (lo := 8) (hi := 8 + sz) (hi' := some (.int .i64 ((8 + sz : Nat) : Int))) (by omega) (by omega) rfl
  rw [show 8 + sz - 8 = sz by omega] at hu8
  have hs4' : aslice tC 32 v (some (.int .i64 4)) none none = some u4 := hs4
  have hs3' : aslice tC 32 v none (some (.int .i64 4)) none = some u3 := hs3
  have hs8' : aslice tC 32 v (some (.int .i64 8)) (some (.int .i64 ((8 + sz : Nat) : Int))) none = some u8 := hs8
  with_reducible repeat' (first
 | refine AW.seq ?_
 | refine AW.region ?_
 | refine AOs.nil ?_
 | refine AW.skip ?_
 | refine andThen_normal ?_
 | refine AW.condF (by simp only [aeval, PT.get_set, Nat.reduceEqDiff, reduceIte]; rfl) (by first | rfl | decide | assumption) ?_
 | ((first
 | refine AOs.op1E tOK (by with_unfolding_all rfl) ?_
 ); refine Step.mk (by simp only [evOp_move, evOp_assign, evOp_binOp, evOp_len, evOp_convert, aeval, ofVal, PT.get_set, Nat.reduceEqDiff, reduceIte, Option.map_some, abin_add, abin_lss, abin_gtr, eq_self, al32, cv96_3, e0, hlen, hd2, cv96_3, hw1, hw2, hd3]; rfl) ?_)
 | fail "stop")
  refine AW.drawN tOK (Qs := [2]) [0, 1, 2, 3, 4, 5, 6, 7, 8, 9, 10] (by kernel_rfl) (by simp only [pickL, List.getElem?_cons_zero, List.getElem?_cons_succ]; rfl) ?_
  with_reducible repeat' (first
 | ((first
 | refine DN.fl1E (by with_unfolding_all rfl) (by with_unfolding_all rfl) ?_
 | refine DN.rd1E (by kernel_rfl) (by with_unfolding_all rfl) ?_
 ); refine Step.mk (by simp only [evOp_move, evOp_slice, aeval, ofVal, PT.get_set, Nat.reduceEqDiff, reduceIte, Option.map_some, Option.map_none, eq_self, e0, hs4']; rfl) ?_; refine Same.mk ?_)
 | fail "stop")
  have htold : ∀ L : AH, (∀ b x, K.get b = some x → L.get b = some x) → AC tC N 0 73 [u4] L fun r K => r = .int .u32 (toldM (b.drop 4) : Nat) ∧ K = L := fun L hL => told73 N L (hu4'.keep fun b o c _ x hx => hL b x hx) (by rw [List.length_drop]; omega)
  refine DN.callQ (fs := []) (cs := []) rfl fn73 ok73 rfl (by simp only [List.map_cons, List.map_nil, List.nil_append, List.append_nil, aeval, PT.get_set, Nat.reduceEqDiff, reduceIte] <;> rfl) (htold K fun _ _ h => h) ?_
  generalize hK1 : K.alloc (.cells false [u3, u8]) = K1
  have st1 : ∀ b x, K.get b = some x → K1.get b = some x := fun b x hb => by rw [← hK1]; exact stay_alloc hwf _ b x hb
  have g1 : K1.get K.next = some (.cells false [u3, u8]) := by rw [← hK1, AH.get_alloc, if_pos rfl]
  have n1 : K1.next = K.next + 1 := by rw [← hK1, AH.next_alloc]
  have o3 := hu3.bytes.one
  have o8 := hu8.bytes.one
  with_reducible repeat' (first
 | ((first
 | refine DN.fl1E (by with_unfolding_all rfl) (by with_unfolding_all rfl) ?_
 | refine DN.rd1E (by kernel_rfl) (by with_unfolding_all rfl) ?_
 ); refine Step.mk (by simp only [evOp_move, evOp_slice, aeval, ofVal, PT.get_set, Nat.reduceEqDiff, reduceIte, Option.map_some, Option.map_none, eq_self, e0, hs3', hs8']; rfl) ?_; refine Same.mk ?_)
 | fail "stop")
  refine DN.actP tOK (by kernel_rfl) (by simp only [aeval, PT.get_set, Nat.reduceEqDiff, reduceIte, eq_self, bs28_2, o3, o8, hK1]; rfl) rfl ?_ ?_
  · repeat' (first | exact good_nil | refine good_cons ?_ ?_ | exact good_of (by kernel_rfl) rfl (by simp only [evOp_slice, aeval, ofVal, PT.get_set, Nat.reduceEqDiff, reduceIte, Option.map_some, Option.map_none, eq_self, hs3', hs8', hs4'] <;> rfl) 1 | fail "stop")
    exact good_callQ (fs := []) (cs := []) rfl fn73 ok73 (by simp only [List.map_cons, List.map_nil, List.nil_append, List.append_nil, aeval, PT.get_set, Nat.reduceEqDiff, reduceIte] <;> rfl) (htold K1 st1) 1
  have r2 : RowsAt K1 (.slice K.next 0 2 (.ex 2) 1) [b.take 4, (b.drop 8).take sz] := rows_of (ls := [b.take 4, (b.drop 8).take sz]) g1 rfl fun i u l' hu hl' => by
    match i with
    | 0 => simp at hu hl'; subst hu hl'; exact hu3.bytes.keep fun b o c _ x hx => st1 b x hx
    | 1 => simp at hu hl'; subst hu hl'; exact hu8.bytes.keep fun b o c _ x hx => st1 b x hx
    | i + 2 => simp at hu
  refine DN.call tOK (fs := []) (cs := []) rfl fn74 ok74 rfl (by simp only [List.map_cons, List.map_nil, List.nil_append, List.append_nil, aeval, PT.get_set, Nat.reduceEqDiff, reduceIte] <;> rfl) (sum74 N K1 r2 (by simp) (fun l' hl' => by
    simp only [List.mem_cons, List.not_mem_nil, or_false] at hl'
    rcases hl' with rfl | rfl <;> (simp only [List.length_take, List.length_drop]; omega))) (by with_unfolding_all rfl) ?_
  rintro r K2 ⟨rfl, rfl⟩
  have efl : ([b.take 4, (b.drop 8).take sz] : List (List UInt8)).flatten = b.take 4 ++ (b.drop 8).take sz := by simp
  rw [efl]
  by_cases hs : toldM (b.drop 4) = crcM (b.take 4 ++ (b.drop 8).take sz)
  · have hd4 : decide (((toldM (b.drop 4) : Nat) : Int) = ((crcM (b.take 4 ++ (b.drop 8).take sz) : Nat) : Int)) = true := decide_eq_true (by rw [hs])
    have he : unframeM b = ((b.drop 8).take sz, 8 + sz, 0) := by rw [unframeM, if_neg h4, ← hsz, if_neg h5, if_neg h6, if_pos hs]
    rw [he]
    with_reducible repeat' (first
 | refine AW.seq ?_
 | refine AW.region ?_
 | refine AW.skip ?_
 | refine andThen_normal ?_
 | refine AW.condF (by simp only [aeval, PT.get_set, Nat.reduceEqDiff, reduceIte]; rfl) (by first | rfl | decide | assumption) ?_
 | refine DN.nil tOK ?_
 | ((first
 | refine DN.fl1E (by with_unfolding_all rfl) (by with_unfolding_all rfl) ?_
 ); refine Step.mk (by simp only [evOp_binOp, aeval, PT.get_set, Nat.reduceEqDiff, reduceIte, Option.map_some, abin_neq, Bool.not_true, eq_self, hd4]; rfl) ?_; refine Same.mk ?_)
 | ((first
 | refine AOs.op1E tOK (by with_unfolding_all rfl) ?_
 ); refine Step.mk (by simp only [evOp_move, evOp_slice, aeval, ofVal, PT.get_set, Nat.reduceEqDiff, reduceIte, Option.map_some, Option.map_none, eq_self, e0, hs8']; rfl) ?_)
 | fail "stop")
    refine AOs.callQ tOK (fs := []) (cs := []) rfl fn53 ok53 rfl (by simp only [List.map_cons, List.map_nil, List.nil_append, List.append_nil, aeval, PT.get_set, Nat.reduceEqDiff, reduceIte] <;> rfl) (clone37e N K2 (hu8.keep st1) (by simp only [List.length_take, List.length_drop]; omega)) ?_
    rintro r K3 ⟨hr, hk3, hn3, hf3⟩
    with_reducible repeat' (first
 | refine AOs.nil ?_
 | refine AW.ret ?_
 | refine andThen_normal ?_
 | ((first
 | refine AOs.op1E tOK (by with_unfolding_all rfl) ?_
 ); refine Step.mk (by simp only [evOp_move, evOp_assign, aeval, ofVal, PT.get_set, Nat.reduceEqDiff, reduceIte, eq_self]; rfl) ?_)
 | fail "stop")
    exact fnPost_ret3 (by first | (simp only [PT.get_set, Nat.reduceEqDiff, reduceIte]; rfl) | simp only [PT.get_set, Nat.reduceEqDiff, reduceIte]) (by first | (simp only [PT.get_set, Nat.reduceEqDiff, reduceIte]; rfl) | simp only [PT.get_set, Nat.reduceEqDiff, reduceIte]) (by first | (simp only [PT.get_set, Nat.reduceEqDiff, reduceIte]; rfl) | simp only [PT.get_set, Nat.reduceEqDiff, reduceIte]) ⟨r, rfl, hr, hr.one, fun b x hb => hk3 b x (st1 b x hb), by omega, fun b o n c z e => by have := hf3 b o n c z e; omega⟩
  · have hd4 : decide (((toldM (b.drop 4) : Nat) : Int) = ((crcM (b.take 4 ++ (b.drop 8).take sz) : Nat) : Int)) = false := decide_eq_false (by omega)
    have he : unframeM b = ([], 0, 4) := by rw [unframeM, if_neg h4, ← hsz, if_neg h5, if_neg h6, if_neg hs]
    rw [he]
    with_reducible repeat' (first
 | refine AW.seq ?_
 | refine AW.region ?_
 | refine AOs.nil ?_
 | refine AW.ret ?_
 | refine andThen_normal ?_
 | refine andThen_ret ?_
 | refine AW.condT (by simp only [aeval, PT.get_set, Nat.reduceEqDiff, reduceIte]; rfl) (by first | rfl | decide | assumption) ?_
 | refine DN.nil tOK ?_
 | ((first
 | refine DN.fl1E (by with_unfolding_all rfl) (by with_unfolding_all rfl) ?_
 ); refine Step.mk (by simp only [evOp_binOp, aeval, PT.get_set, Nat.reduceEqDiff, reduceIte, Option.map_some, abin_neq, Bool.not_false, eq_self, hd4]; rfl) ?_; refine Same.mk ?_)
 | ((first
 | refine AOs.op1E tOK (by with_unfolding_all rfl) ?_
 ); refine Step.mk (by simp only [evOp_assign, aeval, ofVal]; rfl) ?_)
 | fail "stop")
    exact fnPost_ret3 (by first | (simp only [PT.get_set, Nat.reduceEqDiff, reduceIte]; rfl) | simp only [PT.get_set, Nat.reduceEqDiff, reduceIte]) (by first | (simp only [PT.get_set, Nat.reduceEqDiff, reduceIte]; rfl) | simp only [PT.get_set, Nat.reduceEqDiff, reduceIte]) (by first | (simp only [PT.get_set, Nat.reduceEqDiff, reduceIte]; rfl) | simp only [PT.get_set, Nat.reduceEqDiff, reduceIte]) ⟨_, rfl, .inl ⟨.inl rfl, rfl⟩, rfl, st1, by omega, fun _ _ _ _ _ e => by cases e⟩
end Go.Proofs.YtgihociajfgohaaGreatDoor

open Go Go.AB Go.Proofs
namespace Go.Proofs.YtgihociajfgohaaGreatDoor
set_option maxRecDepth 100000

def scanM : Nat → List UInt8 → List (List UInt8) × Nat × Int
  | 0, _ => ([], 0, 0)
  | f + 1, b => if b = [] then ([], 0, 0) else if (unframeM b).2.2 = 5 then ([], 0, 0) else if (unframeM b).2.2 ≠ 0 then ([], 0, 4)
    else ((unframeM b).1 :: (scanM f (b.drop (unframeM b).2.1)).1, (unframeM b).2.1 + (scanM f (b.drop (unframeM b).2.1)).2.1, (scanM f (b.drop (unframeM b).2.1)).2.2)

theorem unframe_ok {b : List UInt8} (h : (unframeM b).2.2 = 0) : 8 ≤ (unframeM b).2.1 ∧ (unframeM b).2.1 ≤ b.length := by
  unfold unframeM at h ⊢
  split at h
  · simp at h
  · rename_i h1
    rw [if_neg h1]
    split at h
    · simp at h
    · rename_i h2
      rw [if_neg h2]
      split at h
      · simp at h
      · rename_i h3
        rw [if_neg h3]
        split at h
        · rename_i h4
          rw [if_pos h4]; simp only; omega
        · simp at h
theorem unframe_cases (b : List UInt8) : (unframeM b).2.2 = 5 ∨ (unframeM b).2.2 = 4 ∨ (unframeM b).2.2 = 0 := by
  unfold unframeM
  split
  · exact .inl rfl
  · split
    · exact .inr (.inl rfl)
    · split
      · exact .inl rfl
      · split
        · exact .inr (.inr rfl)
        · exact .inr (.inl rfl)

/-- Rows of bytes that were put together by append. -/
structure AccR (H : AH) (v : AV) (us : List AV) (ls : List (List UInt8)) : Prop where
  acc : Acc H v us
  len : us.length = ls.length
  row : ∀ (i : Nat) l, ls[i]? = some l → ∃ u, us[i]? = some u ∧ BytesAt H u l ∧ ∀ b o n c z, u = .slice b o n c z → ∀ o' n' c' z', v ≠ .slice b o' n' c' z'

theorem AccR.nil (H : AH) : AccR H .nils [] [] := ⟨.inl ⟨rfl, rfl⟩, rfl, fun i l h => by simp at h⟩
theorem AccR.keep {H K : AH} {v : AV} {us : List AV} {ls : List (List UInt8)} (h : AccR H v us ls) (hk : ∀ b x, H.get b = some x → K.get b = some x) : AccR K v us ls :=
  ⟨h.acc.keep fun b _ _ _ _ _ x hx => hk b x hx, h.len, fun i l hi => let ⟨u, h1, h2, h3⟩ := h.row i l hi; ⟨u, h1, h2.keep fun b _ _ _ x hx => hk b x hx, h3⟩⟩
theorem AccR.rows {H : AH} {v : AV} {us : List AV} {ls : List (List UInt8)} (h : AccR H v us ls) : RowsAt H v ls := by
  rcases h.acc with ⟨rfl, h1⟩ | ⟨b, rfl, h1, h2⟩
  · have := h.len
    rw [h1] at this
    exact .inl ⟨rfl, List.eq_nil_of_length_eq_zero this.symm⟩
  · refine .inr ⟨b, 0, _, false, us, by rw [h.len], h1, fun i l hi => ?_⟩
    obtain ⟨u, q1, q2, _⟩ := h.row i l hi
    exact ⟨u, by rw [Nat.zero_add, Nat.mul_one]; exact q1, q2⟩

end Go.Proofs.YtgihociajfgohaaGreatDoor
