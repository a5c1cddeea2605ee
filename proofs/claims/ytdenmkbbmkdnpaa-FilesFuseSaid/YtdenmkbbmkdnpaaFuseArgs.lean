/- Files: calls among the arguments, Pick, are the calls few and short; no condition. -/
import Derived.Test.YtdenmkbbmkdnpaaKeepsArgs
set_option linter.unusedSimpArgs false
set_option linter.unusedVariables false
open Go Go.AB Go.Proofs
namespace Go.Proofs.Ytdenmkbbmkdnpaa
set_option maxRecDepth 100000

/-- A call. -/
structure ActM where
  kind : Int
  name : Nm
  to : Nm
  bytes : List UInt8
  n : Int
  parts : List Int

def ActV (H : AH) (a : ActM) (vb vp : AV) (c : List AV) : Prop := c = [.int .i64 a.kind, .str a.name, .str a.to, vb, .int .i64 a.n, vp] ∧ BX H vb a.bytes ∧ IX H vp a.parts
def ActsAt (H : AH) (v : AV) (l : List ActM) : Prop :=
  ((v = .nils ∨ v = .empty 0) ∧ l = []) ∨ ∃ b c vs, v = .slice b 0 l.length c 6 ∧ H.get b = some (.cells true vs) ∧ ∀ (i : Nat) a, l[i]? = some a → ∃ vb vp, ActV H a vb vp ((vs.drop (i * 6)).take 6)

theorem ActV.keep {H K : AH} {a : ActM} {vb vp : AV} {c : List AV} (h : ActV H a vb vp c) (hk : ∀ b x, H.get b = some x → K.get b = some x) : ActV K a vb vp c := ⟨h.1, h.2.1.keep fun b x hb _ => hk b x hb, h.2.2.keep hk⟩
theorem ActsAt.keep {H K : AH} {v : AV} {l : List ActM} (h : ActsAt H v l) (hk : ∀ b x, H.get b = some x → K.get b = some x) : ActsAt K v l := by
  rcases h with h | ⟨b, c, vs, h1, h2, h3⟩
  · exact .inl h
  · exact .inr ⟨b, c, vs, h1, hk _ _ h2, fun i a ha => let ⟨vb, vp, h⟩ := h3 i a ha; ⟨vb, vp, h.keep hk⟩⟩
theorem ActsAt.len {H : AH} {v : AV} {l : List ActM} (h : ActsAt H v l) : lenOfAV v = some l.length := by
  rcases h with ⟨rfl | rfl, rfl⟩ | ⟨b, c, vs, rfl, _⟩ <;> rfl

theorem u9' : Try.prog.underlying 9 = some .string := by kernel_rfl
theorem c9 : Try.prog.cellsOf 9 = 1 := by kernel_rfl
theorem c22 : Try.prog.cellsOf 22 = 1 := by kernel_rfl
theorem c23 : Try.prog.cellsOf 23 = 1 := by kernel_rfl
theorem c47 : Try.prog.cellsOf 47 = 6 := by kernel_rfl
theorem u43 : Try.prog.underlying 43 = some (.slice 47) := by kernel_rfl
theorem u47 : ∃ f0 f1 f2 f3 f4 f5, Try.prog.underlying 47 = some (.struct #[f0, f1, f2, f3, f4, f5]) ∧ (f0.type = 3 ∧ f0.offset = 0) ∧ (f1.type = 9 ∧ f1.offset = 1) ∧ (f2.type = 9 ∧ f2.offset = 2) ∧ (f3.type = 22 ∧ f3.offset = 3) ∧ (f4.type = 3 ∧ f4.offset = 4) ∧ (f5.type = 23 ∧ f5.offset = 5) :=
  ⟨_, _, _, _, _, _, Try.underlying47, ⟨rfl, rfl⟩, ⟨rfl, rfl⟩, ⟨rfl, rfl⟩, ⟨rfl, rfl⟩, ⟨rfl, rfl⟩, rfl, rfl⟩

section
variable {X : Type} {H : AH}
theorem has_int {k : Nat} {d : DataW X} {xs : List AV} (h : Has Try.prog H (k + 1) 3 d xs) : ∃ n, xs = [.int .i64 n] := by
  unfold Has at h
  rw [u3] at h
  obtain ⟨m, _, _, rfl⟩ := h
  exact ⟨m, rfl⟩
theorem has_str {k : Nat} {d : DataW X} {xs : List AV} (h : Has Try.prog H (k + 1) 9 d xs) : ∃ s, xs = [.str s] := by
  unfold Has at h
  rw [u9] at h
  obtain ⟨m, _, _, rfl⟩ := h
  exact ⟨m, rfl⟩

theorem has_act {k : Nat} {d : DataW X} {xs : List AV} (h : Has Try.prog H (k + 3) 47 d xs) : ∃ a vb vp, ActV H a vb vp xs := by
  obtain ⟨f0, f1, f2, f3, f4, f5, hu, ⟨t0, o0⟩, ⟨t1, o1⟩, ⟨t2, o2⟩, ⟨t3, o3⟩, ⟨t4, o4⟩, t5, o5⟩ := u47
  unfold Has at h
  rw [hu] at h
  obtain ⟨ds, _, hl, hd, hf⟩ := h
  rw [c47] at hl
  match xs, hl, ds, hd with
  | [a0, a1, a2, a3, a4, a5], _, [x0, x1, x2, x3, x4, x5], _ =>
    have h0 := hf 0 f0 x0 (by simp) (by simp)
    have h1 := hf 1 f1 x1 (by simp) (by simp)
    have h2 := hf 2 f2 x2 (by simp) (by simp)
    have h3 := hf 3 f3 x3 (by simp) (by simp)
    have h4 := hf 4 f4 x4 (by simp) (by simp)
    have h5 := hf 5 f5 x5 (by simp) (by simp)
    rw [t0, o0, c3] at h0
    rw [t1, o1, c9] at h1
    rw [t2, o2, c9] at h2
    rw [t3, o3, c22] at h3
    rw [t4, o4, c3] at h4
    rw [t5, o5, c23] at h5
    obtain ⟨n0, e0⟩ := has_int h0
    obtain ⟨n1, e1⟩ := has_str h1
    obtain ⟨n2, e2⟩ := has_str h2
    obtain ⟨v3, n3, e3, b3⟩ := has_bytes h3
    obtain ⟨n4, e4⟩ := has_int h4
    obtain ⟨v5, n5, e5, b5⟩ := has_ints h5
    simp at e0 e1 e2 e3 e4 e5
    exact ⟨⟨n0, n1, n2, n3, n4, n5⟩, v3, v5, by rw [e0, e1, e2, e3, e4, e5], b3, b5⟩

theorem list_of {α : Type} {P : Nat → α → Prop} : ∀ n, (∀ i, i < n → ∃ a, P i a) → ∃ l : List α, l.length = n ∧ ∀ i a, l[i]? = some a → P i a
  | 0, _ => ⟨[], rfl, fun i a h => by simp at h⟩
  | n + 1, h => by
    obtain ⟨l, h1, h2⟩ := list_of n fun i hi => h i (by omega)
    obtain ⟨a, ha⟩ := h n (by omega)
    refine ⟨l ++ [a], by simp [h1], fun i x hx => ?_⟩
    by_cases hi : i < n
    · rw [List.getElem?_append_left (by omega)] at hx; exact h2 i x hx
    · have hi2 : i < n + 1 := by
        have := (List.getElem?_eq_some_iff.1 hx).1
        simp [h1] at this; omega
      obtain rfl : i = n := by omega
      rw [List.getElem?_append_right (by omega), h1, Nat.sub_self] at hx
      simp at hx; subst hx; exact ha

theorem has_acts {k : Nat} {d : DataW X} {xs : List AV} (h : Has Try.prog H (k + 4) 43 d xs) : ∃ v l, xs = [v] ∧ ActsAt H v l := by
  unfold Has at h
  rw [u43] at h
  rcases h with ⟨_, rfl⟩ | ⟨_, rfl⟩ | ⟨b, es, sp, vs, rfl, _, rfl, hb, hl, hx⟩
  · exact ⟨.nils, [], rfl, .inl ⟨.inl rfl, rfl⟩⟩
  · exact ⟨.empty 0, [], rfl, .inl ⟨.inr rfl, rfl⟩⟩
  · rw [c47] at hl hx
    obtain ⟨l, h1, h2⟩ := list_of (P := fun i a => ∃ vb vp, ActV H a vb vp ((vs.drop (i * 6)).take 6)) es.length fun i hi => by
      obtain ⟨x, hxi⟩ : ∃ x, (es ++ sp)[i]? = some x := ⟨_, List.getElem?_eq_getElem (by simp; omega)⟩
      exact has_act (hx i x hxi)
    exact ⟨_, l, rfl, .inr ⟨b, _, vs, by rw [h1, c47], hb, h2⟩⟩
end

/-- What a row's cells are. -/
theorem cells6 {vs : List AV} {i : Nat} {a0 a1 a2 a3 a4 a5 : AV} (h : (vs.drop i).take 6 = [a0, a1, a2, a3, a4, a5]) : vs[i]? = some a0 ∧ vs[i + 1]? = some a1 ∧ vs[i + 2]? = some a2 ∧ vs[i + 3]? = some a3 ∧ vs[i + 4]? = some a4 ∧ vs[i + 5]? = some a5 := by
  have k : ∀ j, j < 6 → vs[i + j]? = [a0, a1, a2, a3, a4, a5][j]? := fun j hj => by
    rw [← h, List.getElem?_take_of_lt hj, List.getElem?_drop]
  exact ⟨k 0 (by omega), k 1 (by omega), k 2 (by omega), k 3 (by omega), k 4 (by omega), k 5 (by omega)⟩

def pickM (x : Int) (m : Nat) : Nat := (x % (m : Int)).toNat
theorem pickM_lt {x : Int} {m : Nat} (h : 0 < m) : pickM x m < m := by
  have h1 := Int.emod_nonneg x (show (m : Int) ≠ 0 by omega)
  have h2 := Int.emod_lt_of_pos x (show (0 : Int) < (m : Int) by omega)
  unfold pickM; omega

set_option maxHeartbeats 1000000 in
theorem pick23 (N : Nat) (H : AH) {x : Int} {m : Nat} (h0 : 0 < m) (h1 : m ≤ 1000) : AC tC N 0 23 [.int .i64 x, .int .i64 (m : Int)] H fun r K => r = .int .i64 (pickM x m : Nat) ∧ K = H := by
  refine AC.by (n := 14) (rs := [.tmp 4]) tOK fn23 rfl rfl rfl rfl ?_
  have e0 : (PT.ofList .leaf 0 [AV.int .i64 x, .int .i64 (m : Int)]).get 0 = some (.int .i64 x) := rfl
  have e1 : (PT.ofList .leaf 0 [AV.int .i64 x, .int .i64 (m : Int)]).get 1 = some (.int .i64 (m : Int)) := rfl
  have hr : ∀ cst t, abin tC .rem t cst (.int .i64 x) (.int .i64 (m : Int)) = some (.int .i64 (x.tmod m)) := fun cst t => abin_rem (by omega)
  have a1 := Int.emod_nonneg x (show (m : Int) ≠ 0 by omega)
  have a2 := Int.emod_lt_of_pos x (show (0 : Int) < (m : Int) by omega)
  have a3 := Int.tmod_eq_emod (a := x) (b := (m : Int))
  have a4 : ((m : Int)).natAbs = m := Int.natAbs_natCast m
  by_cases hc : 0 ≤ x ∨ (m : Int) ∣ x
  · rw [if_pos hc] at a3
    have hd : decide (x.tmod (m : Int) < 0) = false := decide_eq_false (by omega)
    with_reducible repeat' (first
      | refine AW.seq ?_
      | refine AW.region ?_
      | refine AOs.nil ?_
      | refine AW.skip ?_
      | refine AW.ret ?_
      | refine andThen_normal ?_
      | refine AW.condF (by simp only [aeval, PT.get_set, Nat.reduceEqDiff, reduceIte]; rfl) (by first | rfl | decide | assumption) ?_
      | ((first
          | refine AOs.op1E tOK (by with_unfolding_all rfl) ?_
          ); refine Step.mk (by simp only [evOp_move, evOp_assign, evOp_binOp, aeval, ofVal, PT.get_set, Nat.reduceEqDiff, reduceIte, Option.map_some, abin_lss, eq_self, e0, e1, hr, hd]; rfl) ?_)
      | fail "stop")
    exact fnPost_ret1 (by first | (simp only [PT.get_set, Nat.reduceEqDiff, reduceIte]; rfl) | simp only [PT.get_set, Nat.reduceEqDiff, reduceIte]) ⟨by unfold pickM; congr 1; omega, rfl⟩
  · rw [if_neg hc, a4] at a3
    have hd : decide (x.tmod (m : Int) < 0) = true := decide_eq_true (by omega)
    have hw : IntKind.i64.wrap (x.tmod (m : Int) + (m : Int)) = (pickM x m : Nat) := by
      rw [wrap64 (by omega) (by omega)]; unfold pickM; omega
    with_reducible repeat' (first
      | refine AW.seq ?_
      | refine AW.region ?_
      | refine AOs.nil ?_
      | refine AW.ret ?_
      | refine andThen_normal ?_
      | refine AW.condT (by simp only [aeval, PT.get_set, Nat.reduceEqDiff, reduceIte]; rfl) (by first | rfl | decide | assumption) ?_
      | ((first
          | refine AOs.op1E tOK (by with_unfolding_all rfl) ?_
          ); refine Step.mk (by simp only [evOp_move, evOp_assign, evOp_binOp, aeval, ofVal, PT.get_set, Nat.reduceEqDiff, reduceIte, Option.map_some, abin_add, abin_lss, eq_self, e0, e1, hr, hd, hw]; rfl) ?_)
      | fail "stop")
    exact fnPost_ret1 (by first | (simp only [PT.get_set, Nat.reduceEqDiff, reduceIte]; rfl) | simp only [PT.get_set, Nat.reduceEqDiff, reduceIte]) ⟨rfl, rfl⟩
end Go.Proofs.Ytdenmkbbmkdnpaa

open Go Go.AB Go.Proofs
namespace Go.Proofs.Ytdenmkbbmkdnpaa
set_option maxRecDepth 100000

def ActM.few (a : ActM) : Prop := a.name.length ≤ 3000 ∧ a.to.length ≤ 3000 ∧ a.bytes.length ≤ 3000 ∧ a.parts.length ≤ 3000

theorem addW (a b : Nat) (h : a + b ≤ 1000000) : IntKind.i64.wrap ((a : Int) + (b : Int)) = ((a + b : Nat) : Int) := by rw [wrap64 (by omega) (by omega)]; omega

set_option maxHeartbeats 4000000 in
theorem small22 (N : Nat) (H : AH) {v : AV} {l : List ActM} (h : ActsAt H v l) (hll : l.length ≤ 9223372036854775807) : AC tC N 0 22 [v] H fun r K => K = H ∧ ∃ b, r = .bool b ∧ (b = true → l.length ≤ 200 ∧ ∀ a ∈ l, a.few) := by
  refine AC.by (n := 59) (rs := [.tmp 2]) tOK fn22 rfl rfl rfl rfl ?_
  have e0 : (PT.ofList .leaf 0 [v]).get 0 = some v := rfl
  have hl := h.len
  with_reducible repeat' (first
    | refine AW.seq ?_
    | refine AW.region ?_
    | refine AW.block ?_
    | refine AOs.nil ?_
    | refine andThen_normal ?_
    | ((first
        | refine AOs.op1E tOK (by with_unfolding_all rfl) ?_
        ); refine Step.mk (by simp only [evOp_assign, aeval, ofVal]; rfl) ?_)
    | fail "stop")
  refine AW.loop (fun m T K => K = H ∧ T.get 0 = some v ∧ ∃ i n : Nat, i ≤ l.length ∧ m = l.length - i ∧ T.get 4 = some (.int .i64 (i : Nat)) ∧ T.get 3 = some (.int .i64 (n : Nat)) ∧ n ≤ 20000 ∧ (n ≤ 3000 → ∀ (j : Nat) a, j < i → l[j]? = some a → a.few)) ?_ (l.length - 0)
    ⟨rfl, by simp [PT.get_set, e0], 0, 0, by omega, rfl, by simp [PT.get_set], by simp [PT.get_set], by omega, fun _ j a hj => by omega⟩
  rintro m T K ⟨rfl, g0, i, n, hi, rfl, g4, g3, hn, hall⟩
  by_cases hlt : i < l.length
  · have hd := lt_int hlt
    by_cases h2 : i ≤ 200
    · have hd2 : decide ((i : Int) ≤ 200) = true := decide_eq_true (by omega)
      by_cases h3 : n ≤ 3000
      · have hd3 : decide ((n : Int) ≤ 3000) = true := decide_eq_true (by omega)
        obtain ⟨a, ha⟩ : ∃ a, l[i]? = some a := ⟨_, List.getElem?_eq_getElem hlt⟩
        rcases h with ⟨_, h⟩ | ⟨b, c, vs, rfl, hb, hx⟩
        · rw [h] at hlt; simp at hlt
        obtain ⟨vb, vp, hcs, hB, hP⟩ := hx i a ha
        obtain ⟨c0, c1, c2, c3, c4, c5⟩ := cells6 hcs
        have lb := hB.bytes.len
        have lp := hP.len
        have hmin : ∀ k : Nat, min (k : Int) 3001 = ((min k 3001 : Nat) : Int) := fun k => by omega
        have w1 := addW n (min a.name.length 3001) (by omega)
        have w2 := addW (n + min a.name.length 3001) (min a.to.length 3001) (by omega)
        have w3 := addW (n + min a.name.length 3001 + min a.to.length 3001) (min a.bytes.length 3001) (by omega)
        have w4 := addW (n + min a.name.length 3001 + min a.to.length 3001 + min a.bytes.length 3001) (min a.parts.length 3001) (by omega)
        with_reducible repeat' (first
          | refine AW.seq ?_
          | refine AW.region ?_
          | refine AW.block ?_
          | refine AOs.nil ?_
          | refine AW.skip ?_
          | refine andThen_normal ?_
          | refine inBlock_normal ?_
          | refine AOs.guardT (by with_unfolding_all rfl) (by simp only [PT.get_set, Nat.reduceEqDiff, reduceIte]; rfl) (by first | rfl | decide | assumption) ?_
          | refine AW.condT (by simp only [aeval, PT.get_set, Nat.reduceEqDiff, reduceIte]; rfl) (by first | rfl | decide | assumption) ?_
          | refine AW.drawT tOK (by with_unfolding_all rfl) (by simp only [pickAll, Nat.reduceAdd]; rfl) ?_
          | refine DN.nil tOK ?_
          | ((first
              | refine DN.fl1E (by with_unfolding_all rfl) (by with_unfolding_all rfl) ?_
              | refine DN.rd1E (by kernel_rfl) (by with_unfolding_all rfl) ?_
              ); refine Step.mk (by simp only [evOp_move, evOp_assign, evOp_binOp, evOp_fieldAddr, evOp_indexAddr, evOp_load, evOp_len, aeval, ofVal, PT.get_set, Nat.reduceEqDiff, reduceIte, cellAt, Option.map_some, abin_add, Nat.zero_add, eq_self, al9, ld9, al22, ld22, al23, ld23, ix43, fa47_1, fa47_2, fa47_3, fa47_5, g0, g3, g4, hlt, hb, c1, c2, c3, c5, lb, lp, evOp_min2, min2V_int, Option.isSome_some, hmin, w1, w2, w3, w4]; rfl) ?_; refine Same.mk ?_)
          | ((first
              | refine AOs.op1E tOK (by with_unfolding_all rfl) ?_
              ); refine Step.mk (by simp only [evOp_move, evOp_assign, evOp_pick, evOp_binOp, evOp_len, aeval, ofVal, PT.get_set, Nat.reduceEqDiff, reduceIte, lenOfAV_slice, Option.map_some, abin_add, abin_lss, abin_leq, cond_true, eq_self, al43, g0, g3, g4, hd, hd2, hd3, wrap64_succ (show i < 9223372036854775807 by omega)]; rfl) ?_)
          | fail "stop")
        refine ⟨l.length - (i + 1), by omega, rfl, by simp only [PT.get_set, Nat.reduceEqDiff, reduceIte, g0], i + 1, n + min a.name.length 3001 + min a.to.length 3001 + min a.bytes.length 3001 + min a.parts.length 3001, by omega, rfl, ?_, ?_, by omega, fun h j x hj hx => ?_⟩
        · simp only [PT.get_set, Nat.reduceEqDiff, reduceIte]
        · simp only [PT.get_set, Nat.reduceEqDiff, reduceIte]
        · by_cases hji : j = i
          · subst hji
            rw [ha] at hx; cases hx
            exact ⟨by omega, by omega, by omega, by omega⟩
          · exact hall h3 j x (by omega) hx
      · have hd3 : decide ((n : Int) ≤ 3000) = false := decide_eq_false (by omega)
        by_cases h5 : l.length ≤ 200
        · have hd5 : decide ((l.length : Int) ≤ 200) = true := decide_eq_true (by omega)
          with_reducible repeat' (first
            | refine AW.seq ?_
            | refine AW.region ?_
            | refine AOs.nil ?_
            | refine AW.exit ?_
            | refine AW.ret ?_
            | refine andThen_normal ?_
            | refine andThen_exit ?_
            | refine inBlock_hit ?_
            | refine AOs.guardT (by with_unfolding_all rfl) (by simp only [PT.get_set, Nat.reduceEqDiff, reduceIte]; rfl) (by first | rfl | decide | assumption) ?_
            | refine AW.condF (by simp only [aeval, PT.get_set, Nat.reduceEqDiff, reduceIte]; rfl) (by first | rfl | decide | assumption) ?_
            | ((first
                | refine AOs.op1E tOK (by with_unfolding_all rfl) ?_
                ); refine Step.mk (by simp only [evOp_move, evOp_assign, evOp_pick, evOp_binOp, evOp_len, aeval, ofVal, PT.get_set, Nat.reduceEqDiff, reduceIte, Option.map_some, abin_lss, abin_leq, cond_true, eq_self, al43, g0, g3, g4, hd, hd2, hd3, hl, hd5]; rfl) ?_)
            | fail "stop")
          exact fnPost_ret1 (by first | (simp only [PT.get_set, Nat.reduceEqDiff, reduceIte]; rfl) | simp only [PT.get_set, Nat.reduceEqDiff, reduceIte]) ⟨rfl, _, rfl, fun h => by cases h⟩
        · have hd5 : decide ((l.length : Int) ≤ 200) = false := decide_eq_false (by omega)
          with_reducible repeat' (first
            | refine AW.seq ?_
            | refine AW.region ?_
            | refine AOs.nil ?_
            | refine AW.exit ?_
            | refine AW.ret ?_
            | refine andThen_normal ?_
            | refine andThen_exit ?_
            | refine inBlock_hit ?_
            | refine AOs.guardT (by with_unfolding_all rfl) (by simp only [PT.get_set, Nat.reduceEqDiff, reduceIte]; rfl) (by first | rfl | decide | assumption) ?_
            | refine AOs.guardF (by with_unfolding_all rfl) (by simp only [PT.get_set, Nat.reduceEqDiff, reduceIte]; rfl) (by first | rfl | decide | assumption) (by with_unfolding_all rfl) ?_
            | refine AW.condF (by simp only [aeval, PT.get_set, Nat.reduceEqDiff, reduceIte]; rfl) (by first | rfl | decide | assumption) ?_
            | ((first
                | refine AOs.op1E tOK (by with_unfolding_all rfl) ?_
                ); refine Step.mk (by simp only [evOp_move, evOp_assign, evOp_pick, evOp_binOp, evOp_len, aeval, ofVal, PT.get_set, Nat.reduceEqDiff, reduceIte, Option.map_some, abin_lss, abin_leq, cond_true, cond_false, eq_self, al43, g0, g3, g4, hd, hd2, hd3, hl, hd5]; rfl) ?_)
            | fail "stop")
          exact fnPost_ret1 (by first | (simp only [PT.get_set, Nat.reduceEqDiff, reduceIte]; rfl) | simp only [PT.get_set, Nat.reduceEqDiff, reduceIte]) ⟨rfl, _, rfl, fun h => by cases h⟩
    · have hd2 : decide ((i : Int) ≤ 200) = false := decide_eq_false (by omega)
      have hd5 : decide ((l.length : Int) ≤ 200) = false := decide_eq_false (by omega)
      with_reducible repeat' (first
        | refine AW.seq ?_
        | refine AW.region ?_
        | refine AOs.nil ?_
        | refine AW.exit ?_
        | refine AW.ret ?_
        | refine andThen_normal ?_
        | refine andThen_exit ?_
        | refine inBlock_hit ?_
        | refine AOs.guardT (by with_unfolding_all rfl) (by simp only [PT.get_set, Nat.reduceEqDiff, reduceIte]; rfl) (by first | rfl | decide | assumption) ?_
        | refine AOs.guardF (by with_unfolding_all rfl) (by simp only [PT.get_set, Nat.reduceEqDiff, reduceIte]; rfl) (by first | rfl | decide | assumption) (by with_unfolding_all rfl) ?_
        | refine AW.condF (by simp only [aeval, PT.get_set, Nat.reduceEqDiff, reduceIte]; rfl) (by first | rfl | decide | assumption) ?_
        | ((first
            | refine AOs.op1E tOK (by with_unfolding_all rfl) ?_
            ); refine Step.mk (by simp only [evOp_move, evOp_assign, evOp_pick, evOp_binOp, evOp_len, aeval, ofVal, PT.get_set, Nat.reduceEqDiff, reduceIte, Option.map_some, abin_lss, abin_leq, cond_true, cond_false, eq_self, al43, g0, g4, hd, hd2, hl, hd5]; rfl) ?_)
        | fail "stop")
      exact fnPost_ret1 (by first | (simp only [PT.get_set, Nat.reduceEqDiff, reduceIte]; rfl) | simp only [PT.get_set, Nat.reduceEqDiff, reduceIte]) ⟨rfl, _, rfl, fun h => by cases h⟩
  · have hd := nlt_int hlt
    obtain rfl : i = l.length := by omega
    by_cases h5 : l.length ≤ 200
    · have hd5 : decide ((l.length : Int) ≤ 200) = true := decide_eq_true (by omega)
      by_cases h3 : n ≤ 3000
      · have hd3 : decide ((n : Int) ≤ 3000) = true := decide_eq_true (by omega)
        with_reducible repeat' (first
          | refine AW.seq ?_
          | refine AW.region ?_
          | refine AOs.nil ?_
          | refine AW.exit ?_
          | refine AW.ret ?_
          | refine andThen_normal ?_
          | refine andThen_exit ?_
          | refine inBlock_hit ?_
          | refine AOs.guardT (by with_unfolding_all rfl) (by simp only [PT.get_set, Nat.reduceEqDiff, reduceIte]; rfl) (by first | rfl | decide | assumption) ?_
          | refine AOs.guardF (by with_unfolding_all rfl) (by simp only [PT.get_set, Nat.reduceEqDiff, reduceIte]; rfl) (by first | rfl | decide | assumption) (by with_unfolding_all rfl) ?_
          | refine AW.condF (by simp only [aeval, PT.get_set, Nat.reduceEqDiff, reduceIte]; rfl) (by first | rfl | decide | assumption) ?_
          | ((first
              | refine AOs.op1E tOK (by with_unfolding_all rfl) ?_
              ); refine Step.mk (by simp only [evOp_move, evOp_assign, evOp_pick, evOp_binOp, evOp_len, aeval, ofVal, PT.get_set, Nat.reduceEqDiff, reduceIte, Option.map_some, abin_lss, abin_leq, cond_true, cond_false, eq_self, al43, g0, g3, g4, hd, hl, hd5, hd3]; rfl) ?_)
          | fail "stop")
        exact fnPost_ret1 (by first | (simp only [PT.get_set, Nat.reduceEqDiff, reduceIte]; rfl) | simp only [PT.get_set, Nat.reduceEqDiff, reduceIte]) ⟨rfl, _, rfl, fun _ => ⟨h5, fun a ha => by
          obtain ⟨j, hj, hja⟩ := List.mem_iff_getElem.1 ha
          exact hall h3 j a hj (by rw [List.getElem?_eq_getElem hj, hja])⟩⟩
      · have hd3 : decide ((n : Int) ≤ 3000) = false := decide_eq_false (by omega)
        with_reducible repeat' (first
          | refine AW.seq ?_
          | refine AW.region ?_
          | refine AOs.nil ?_
          | refine AW.exit ?_
          | refine AW.ret ?_
          | refine andThen_normal ?_
          | refine andThen_exit ?_
          | refine inBlock_hit ?_
          | refine AOs.guardT (by with_unfolding_all rfl) (by simp only [PT.get_set, Nat.reduceEqDiff, reduceIte]; rfl) (by first | rfl | decide | assumption) ?_
          | refine AOs.guardF (by with_unfolding_all rfl) (by simp only [PT.get_set, Nat.reduceEqDiff, reduceIte]; rfl) (by first | rfl | decide | assumption) (by with_unfolding_all rfl) ?_
          | refine AW.condF (by simp only [aeval, PT.get_set, Nat.reduceEqDiff, reduceIte]; rfl) (by first | rfl | decide | assumption) ?_
          | ((first
              | refine AOs.op1E tOK (by with_unfolding_all rfl) ?_
              ); refine Step.mk (by simp only [evOp_move, evOp_assign, evOp_pick, evOp_binOp, evOp_len, aeval, ofVal, PT.get_set, Nat.reduceEqDiff, reduceIte, Option.map_some, abin_lss, abin_leq, cond_true, cond_false, eq_self, al43, g0, g3, g4, hd, hl, hd5, hd3]; rfl) ?_)
          | fail "stop")
        exact fnPost_ret1 (by first | (simp only [PT.get_set, Nat.reduceEqDiff, reduceIte]; rfl) | simp only [PT.get_set, Nat.reduceEqDiff, reduceIte]) ⟨rfl, _, rfl, fun h => by cases h⟩
    · have hd5 : decide ((l.length : Int) ≤ 200) = false := decide_eq_false (by omega)
      with_reducible repeat' (first
        | refine AW.seq ?_
        | refine AW.region ?_
        | refine AOs.nil ?_
        | refine AW.exit ?_
        | refine AW.ret ?_
        | refine andThen_normal ?_
        | refine andThen_exit ?_
        | refine inBlock_hit ?_
        | refine AOs.guardF (by with_unfolding_all rfl) (by simp only [PT.get_set, Nat.reduceEqDiff, reduceIte]; rfl) (by first | rfl | decide | assumption) (by with_unfolding_all rfl) ?_
        | refine AW.condF (by simp only [aeval, PT.get_set, Nat.reduceEqDiff, reduceIte]; rfl) (by first | rfl | decide | assumption) ?_
        | ((first
            | refine AOs.op1E tOK (by with_unfolding_all rfl) ?_
            ); refine Step.mk (by simp only [evOp_move, evOp_assign, evOp_pick, evOp_binOp, evOp_len, aeval, ofVal, PT.get_set, Nat.reduceEqDiff, reduceIte, Option.map_some, abin_lss, abin_leq, cond_false, eq_self, al43, g0, g4, hd, hl, hd5]; rfl) ?_)
        | fail "stop")
      exact fnPost_ret1 (by first | (simp only [PT.get_set, Nat.reduceEqDiff, reduceIte]; rfl) | simp only [PT.get_set, Nat.reduceEqDiff, reduceIte]) ⟨rfl, _, rfl, fun h => by cases h⟩
end Go.Proofs.Ytdenmkbbmkdnpaa
