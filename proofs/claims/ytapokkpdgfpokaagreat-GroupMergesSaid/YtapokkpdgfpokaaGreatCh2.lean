/- Group: checks of labels, changes, vectors, the program's and the document's; no condition. -/
import Derived.Test.YtapokkpdgfpokaaGreatCh1
set_option linter.unusedSimpArgs false
set_option linter.unusedVariables false
set_option maxRecDepth 100000
open Go Go.AB Go.Proofs
namespace Go.Proofs.YtapokkpdgfpokaaGreat
set_option maxRecDepth 100000

def lastN (l : Ls) (i : Nat) : Nm := ((l.take i).getLast?.map (·.1)).getD []
theorem lastN_succ {l : Ls} {i : Nat} {x : Lb} (h : l[i]? = some x) : lastN l (i + 1) = x.1 := by
  unfold lastN; rw [getLast_take h]; rfl
theorem checkM_bad {l : Ls} {i : Nat} {x : Lb} (h8 : ¬ 8 < l.length) (h : l[i]? = some x) (hb : (labB x && decide (lastN l i < x.1)) = false) : checkM l = 2 := by
  unfold checkM
  rw [if_neg h8, if_neg (by rw [okFrom_bad h [] hb]; simp)]
theorem okFrom_good {l : Ls} {i : Nat} {x : Lb} (h : l[i]? = some x) (ho : okFrom [] (l.take i) = true) (hb : (labB x && decide (lastN l i < x.1)) = true) : okFrom [] (l.take (i + 1)) = true := by
  rw [okFrom_take h, ho, Bool.true_and]; exact hb

set_option maxHeartbeats 4000000 in
theorem check29 (N : Bd) (H : AH) {v : AV} {l : Ls} (hv : LabelsAt H v l) : AC tC N 0 29 [v] H fun r K => r = .int .i64 (checkM l) ∧ K = H := by
  refine AC.quiet rfl ?_
  refine AC.wf0 fun hwf => ?_
  refine AC.by (n := 39) (rs := [.tmp 2]) tOK fn29 rfl rfl rfl rfl ?_
  have e0 : (PT.ofList .leaf 0 [v]).get 0 = some v := rfl
  have hl := hv.len
  by_cases h8 : 8 < l.length
  · have d1 : decide ((8 : Int) < ((l.length : Nat) : Int)) = true := decide_eq_true (by omega)
    have hr : checkM l = 3 := by unfold checkM; rw [if_pos h8]
    rw [hr]
    refine zs4 @al29 @e0 @hl @d1 ?_
    exact fr1 ⟨rfl, fun _ _ h => h⟩
  have d1 : decide ((8 : Int) < ((l.length : Nat) : Int)) = false := decide_eq_false (by omega)
  refine zs4 @al29 @e0 @hl @d1 ?_
  refine AW.loop (fun m T K => (∀ b x, H.get b = some x → K.get b = some x) ∧ H.next ≤ K.next ∧ T.get 9 = some v ∧ T.get 10 = some (.int .i64 (l.length : Nat)) ∧ ∃ i : Nat, i ≤ l.length ∧ m = l.length - i ∧ T.get 11 = some (.int .i64 (i : Nat)) ∧ T.get 3 = some (.str (lastN l i)) ∧ okFrom [] (l.take i) = true) ?_ (l.length - 0)
    ⟨fun b x h => h, Nat.le_refl _, by simp [PT.get_set, e0], by simp [PT.get_set], 0, by omega, rfl, by simp [PT.get_set], by simp [PT.get_set, lastN], rfl⟩
  rintro m T K ⟨hk, hn, g9, g10, i, hi, rfl, g11, g3, hok⟩
  refine AW.wf0 fun wfK => ?_
  by_cases hil : i < l.length
  · have hd := lt_int hil
    obtain ⟨x, hx⟩ : ∃ x, l[i]? = some x := ⟨_, List.getElem?_eq_getElem hil⟩
    obtain ⟨ab, ao, ac, aro, avs, rfl, ag, ax, _, _⟩ := (hv.keep (KS.of hk hn)).at hx
    generalize hK1 : (K.alloc (.cells false [.str [], .str []])).set K.next (.cells false [.str x.1, .str x.2]) = K1
    have hst : astore tC (K.alloc (.cells false [.str [], .str []])) 71 (.ptr K.next 0) (.agg [.str x.1, .str x.2]) = some K1 := by
      rw [← hK1]; exact stA71 (x := .str []) (y := .str []) (by rw [AH.get_alloc, if_pos rfl]) x.1 x.2
    have n1 : K1.next = K.next + 1 := by rw [← hK1]; rfl
    have k1 : ∀ b x, K.get b = some x → K1.get b = some x := fun b z hz => by
      have := wfK b z hz
      rw [← hK1, AH.get_set, if_neg (by omega), AH.get_alloc, if_neg (by omega)]; exact hz
    have q1 : K1.get K.next = some (.cells false [.str x.1, .str x.2]) := by rw [← hK1, AH.get_set, if_pos rfl]
    refine zt8 @g9 @g10 @g11 @hd @hil @ag @ax (And.intro @al71 (And.intro @hst @q1)) ?_
    refine AOs.cq tOK fn63 ok63 (name63 N K1 x.1) ?_
    rintro r K2 ⟨rfl, rfl⟩
    have keepf : ∀ b x, H.get b = some x → K2.get b = some x := fun b z hz => k1 b z (hk b z hz)
    cases hnm : nameB x.1 with
    | false =>
      rw [checkM_bad h8 hx (by simp [labB, hnm])]
      refine zs0 ?_
      exact fr1 ⟨rfl, keepf⟩
    | true =>
    cases hlt : decide (lastN l i < x.1) with
    | false =>
      rw [checkM_bad h8 hx (by rw [hlt, Bool.and_false])]
      refine zs6 @ld9 @fa71_0 @g3 @q1 @leqS @hlt ?_
      exact fr1 ⟨rfl, keepf⟩
    | true =>
    cases hem : decide (x.2 = []) with
    | true =>
      rw [checkM_bad h8 hx (by have := of_decide_eq_true hem; simp [labB, this])]
      refine zt5 @g3 @q1 @leqS @hlt @hem ?_
      exact fr1 ⟨rfl, keepf⟩
    | false =>
    by_cases h64 : 64 < x.2.length
    · have d2 : decide ((64 : Int) < ((x.2.length : Nat) : Int)) = true := decide_eq_true (by omega)
      rw [checkM_bad h8 hx (by simp [labB]; intro _ _ h; omega)]
      refine zt6 @g3 @q1 @leqS @hlt @hem @d2 ?_
      exact fr1 ⟨rfl, keepf⟩
    · have d2 : decide ((64 : Int) < ((x.2.length : Nat) : Int)) = false := decide_eq_false (by omega)
      have hb : (labB x && decide (lastN l i < x.1)) = true := by
        have := of_decide_eq_false hem
        rw [hlt]; simp [labB, hnm, this]; omega
      refine zt7 @g11 @g3 @q1 @leqS @hlt @hem @d2 ?_
      refine ⟨l.length - (i + 1), by omega, keepf, by omega, by simp [PT.get_set, g9], by simp [PT.get_set, g10], i + 1, by omega, rfl, ?_, ?_, okFrom_good hx hok hb⟩
      · simp only [PT.get_set, Nat.reduceEqDiff, reduceIte, wrap64_succ (show i < 9223372036854775807 by omega)]
      · rw [lastN_succ hx]; simp only [PT.get_set, Nat.reduceEqDiff, reduceIte]
  · have hd := nlt_int hil
    obtain rfl : i = l.length := by omega
    rw [List.take_length] at hok
    have hr : checkM l = 0 := by unfold checkM; rw [if_neg h8, if_pos hok]
    rw [hr]
    refine zs3 @g10 @g11 @hd ?_
    exact fr1 ⟨rfl, hk⟩

/-- Two sets compared, where both may be. -/
def compM (a b : Ls) : Int := if checkM a ≠ 0 ∨ checkM b ≠ 0 then 0 else orderM a b

theorem checkM_len {l : Ls} (h : checkM l = 0) : l.length ≤ 8 := by
  unfold checkM at h
  by_cases h8 : 8 < l.length
  · rw [if_pos h8] at h; cases h
  · omega

theorem compare40 (N : Bd) (H : AH) {v u : AV} {a b : Ls} (ha : LabelsAt H v a) (hb : LabelsAt H u b) : AC tC N 0 40 [v, u] H fun r K => r = .int .i64 (compM a b) ∧ K = H := by
  refine AC.by (n := 16) (rs := [.tmp 4]) tOK fn40 rfl rfl rfl rfl ?_
  have e0 : (PT.ofList .leaf 0 [v, u]).get 0 = some v := rfl
  have e1 : (PT.ofList .leaf 0 [v, u]).get 1 = some u := rfl
  refine zs1 @e0 ?_
  refine AOs.cq tOK fn29 ok29 (check29 N H ha) ?_
  rintro r K ⟨rfl, rfl⟩
  unfold compM
  by_cases h1 : checkM a = 0
  · have d1 : decide (checkM a = 0) = true := decide_eq_true h1
    refine zs2 @e1 @d1 ?_
    refine AOs.cq tOK fn29 ok29 (check29 N K hb) ?_
    rintro r K ⟨rfl, rfl⟩
    by_cases h2 : checkM b = 0
    · have d2 : decide (checkM b = 0) = true := decide_eq_true h2
      rw [if_neg (by omega)]
      refine zs3 @e0 @e1 @d2 ?_
      refine AOs.cq tOK fn71 ok71 (compare71 N K ha hb (by have := checkM_len h1; omega)) ?_
      rintro r K ⟨rfl, rfl⟩
      refine zs0 ?_
      exact fr1 ⟨rfl, rfl⟩
    · have d2 : decide (checkM b = 0) = false := decide_eq_false h2
      rw [if_pos (.inr h2)]
      refine zs1 @d2 ?_
      exact fr1 ⟨rfl, rfl⟩
  · have d1 : decide (checkM a = 0) = false := decide_eq_false h1
    rw [if_pos (.inl h1)]
    refine zs1 @d1 ?_
    exact fr1 ⟨rfl, rfl⟩

/-! Values. -/
theorem num30 (N : Bd) (H : AH) (n : Int) (o : Bool) : AC tC N 0 30 [.agg [.int .i64 n, .bool o]] H fun r K => r = .int .i64 (numM n o) ∧ K = H := by
  refine AC.quiet rfl ?_
  refine AC.wf0 fun hwf => ?_
  refine AC.by (n := 10) (rs := [.tmp 2]) tOK fn30 rfl rfl rfl rfl ?_
  have e0 : (PT.ofList .leaf 0 [AV.agg [.int .i64 n, .bool o]]).get 0 = some (.agg [.int .i64 n, .bool o]) := rfl
  generalize hK1 : H.alloc (.cells false [.int .i64 n, .bool o]) = K1
  have s1 : ∀ b z, H.get b = some z → K1.get b = some z := fun b z hb => by rw [← hK1]; exact stay_alloc hwf _ b z hb
  have p0 : K1.get H.next = some (.cells false [.int .i64 n, .bool o]) := by rw [← hK1, AH.get_alloc, if_pos rfl]
  unfold numM
  cases o with
  | false =>
    rw [if_neg (by simp)]
    refine zs5 @ld4 @fa31_1 @e0 @hK1 @p0 ?_
    exact fr1 ⟨rfl, s1⟩
  | true =>
    by_cases h : n = 0
    · have d1 : decide (n = 0) = true := decide_eq_true h
      rw [if_neg (by simp [h])]
      refine zs8 @ld2 @ld4 @fa31_0 @fa31_1 @e0 @hK1 @p0 @d1 ?_
      exact fr1 ⟨rfl, s1⟩
    · have d1 : decide (n = 0) = false := decide_eq_false h
      rw [if_pos ⟨rfl, h⟩]
      refine zs8 @ld2 @ld4 @fa31_0 @fa31_1 @e0 @hK1 @p0 @d1 ?_
      exact fr1 ⟨rfl, s1⟩
theorem bd31 : abuild tC 31 [] = some (.agg [.int .i64 0, .bool false]) := by kernel_rfl
theorem aeqV (n m : Int) (o p : Bool) : aeq tC 8 31 (.agg [.int .i64 n, .bool o]) (.agg [.int .i64 m, .bool p]) = some ((n == m) && (o == p)) := by
  unfold aeq
  rw [ti31]
  simp only [cond_true, aeqGo, apart, ti2, ti4, TI.agg]
  cases h : n == m <;> simp [h, aeq, ti2, ti4, List.drop, List.take]
  cases o == p <;> rfl
theorem neV (t : Bool) (n m : Int) (o p : Bool) : abin tC .neq 31 t (.agg [.int .i64 n, .bool o]) (.agg [.int .i64 m, .bool p]) = some (.bool !((n == m) && (o == p))) := by
  unfold abin
  simp only [aeqV, eqRes, Option.map_some]
theorem tk1_3 (x y z : AV) : List.take 2 (List.drop 1 [x, y, z]) = [y, z] := rfl
theorem tk1_4 (x y z u : AV) : List.take 2 (List.drop 1 [x, y, z, u]) = [y, z] := rfl

/-- A change's, a result's cells. -/
def chC (u : AV) (c : Ch) : List AV := [u, .int .i64 c.2.1, .bool c.2.2.1, .bool c.2.2.2]
def rsC (u : AV) (r : Rs) : List AV := [u, .int .i64 r.2.1, .bool r.2.2]

set_option maxHeartbeats 4000000 in
theorem change9 (N : Bd) (H : AH) {u : AV} {c : Ch} (hu : LabelsAt H u c.1) (hs : ∀ x ∈ c.1, x.1.length ≤ 1000000) : AC tC N 0 9 [.agg (chC u c)] H fun r K => r = .int .i64 (chgM c) ∧ K = H := by
  refine AC.quiet rfl ?_
  refine AC.wf0 fun hwf => ?_
  obtain ⟨ls, n, o, g⟩ := c
  refine AC.by (n := 24) (rs := [.tmp 2]) tOK fn9 rfl rfl rfl rfl ?_
  have e0 : (PT.ofList .leaf 0 [AV.agg (chC u (ls, n, o, g))]).get 0 = some (.agg [u, .int .i64 n, .bool o, .bool g]) := rfl
  generalize hK1 : H.alloc (.cells false [u, .int .i64 n, .bool o, .bool g]) = K1
  have s1 : ∀ b z, H.get b = some z → K1.get b = some z := fun b z hb => by rw [← hK1]; exact stay_alloc hwf _ b z hb
  have p0 : K1.get H.next = some (.cells false [u, .int .i64 n, .bool o, .bool g]) := by rw [← hK1, AH.get_alloc, if_pos rfl]
  have n1 : K1.next = H.next + 1 := by rw [← hK1]; rfl
  have huK := hu.keep (KS.of s1 (by omega))
  refine zs5 @ld29 @fa33_0 @e0 @hK1 @p0 ?_
  refine AOs.cq tOK fn29 ok29 (check29 N K1 huK) ?_
  rintro r K2 ⟨rfl, rfl⟩
  unfold chgM
  simp only
  by_cases h1 : checkM ls = 0
  case neg =>
    have d1 : decide (checkM ls = 0) = false := decide_eq_false h1
    rw [if_pos h1]
    refine zs1 @d1 ?_
    exact fr1 ⟨rfl, s1⟩
  have d1 : decide (checkM ls = 0) = true := decide_eq_true h1
  rw [if_neg (by omega)]
  refine zs5 @ld31 @fa33_1 @p0 @d1 @tk1_4 ?_
  refine AOs.cq tOK fn30 ok30 (num30 N K2 n o) ?_
  rintro r K3 ⟨rfl, rfl⟩
  by_cases h2 : numM n o = 0
  case neg =>
    have d2 : decide (numM n o = 0) = false := decide_eq_false h2
    rw [if_pos (.inl h2)]
    with_reducible repeat' first | refine za ?_ | refine AOs.guardU wu (by simp only [PT.get_set, Nat.reduceEqDiff, reduceIte]; rfl) wu wu ?_ | (refine AOs.o1 tOK ?_; refine zr1 @d2 ?_) | fail
    exact fr1 ⟨rfl, s1⟩
  have d2 : decide (numM n o = 0) = true := decide_eq_true h2
  cases g with
  | false =>
    rw [if_neg (by simp [h2])]
    refine zs4 @ld4 @fa33_2 @p0 @d2 ?_
    exact fr1 ⟨rfl, s1⟩
  | true =>
    by_cases h3 : n = 0 ∧ o = false
    · obtain ⟨rfl, rfl⟩ := h3
      have q : ((0 : Int) == 0 && false == false) = true := rfl
      rw [if_neg (by simp [h2])]
      refine zt6 @p0 @d2 @bd31 @tk1_4 @neV @q ?_
      exact fr1 ⟨rfl, s1⟩
    · have q : ((n == 0) && (o == false)) = false := by
        cases o <;> simp_all
      rw [if_pos (.inr ⟨rfl, h3⟩)]
      refine zt6 @p0 @d2 @bd31 @tk1_4 @neV @q ?_
      exact fr1 ⟨rfl, s1⟩

set_option maxHeartbeats 2000000 in
theorem right65 (N : Bd) (H : AH) {u : AV} {r : Rs} (hu : LabelsAt H u r.1) : AC tC N 0 65 [.agg (rsC u r)] H fun x K => x = .bool (rightM r) ∧ K = H := by
  refine AC.quiet rfl ?_
  refine AC.wf0 fun hwf => ?_
  obtain ⟨ls, n, o⟩ := r
  refine AC.by (n := 13) (rs := [.tmp 2]) tOK fn65 rfl rfl rfl rfl ?_
  have e0 : (PT.ofList .leaf 0 [AV.agg (rsC u (ls, n, o))]).get 0 = some (.agg [u, .int .i64 n, .bool o]) := rfl
  generalize hK1 : H.alloc (.cells false [u, .int .i64 n, .bool o]) = K1
  have s1 : ∀ b z, H.get b = some z → K1.get b = some z := fun b z hb => by rw [← hK1]; exact stay_alloc hwf _ b z hb
  have p0 : K1.get H.next = some (.cells false [u, .int .i64 n, .bool o]) := by rw [← hK1, AH.get_alloc, if_pos rfl]
  have n1 : K1.next = H.next + 1 := by rw [← hK1]; rfl
  have huK := hu.keep (KS.of s1 (by omega))
  refine zs5 @ld29 @fa58_0 @e0 @hK1 @p0 ?_
  refine AOs.cq tOK fn29 ok29 (check29 N K1 huK) ?_
  rintro x K2 ⟨rfl, rfl⟩
  unfold rightM
  simp only
  by_cases h1 : checkM ls = 0
  case neg =>
    have d1 : decide (checkM ls = 0) = false := decide_eq_false h1
    rw [d1]
    refine zs1 @d1 ?_
    exact fr1 ⟨rfl, s1⟩
  have d1 : decide (checkM ls = 0) = true := decide_eq_true h1
  rw [d1]
  refine zs5 @ld31 @fa58_1 @p0 @d1 @tk1_3 ?_
  refine AOs.cq tOK fn30 ok30 (num30 N K2 n o) ?_
  rintro x K3 ⟨rfl, rfl⟩
  refine zs0 ?_
  exact fr1 ⟨rfl, s1⟩

/-- A vector in a heap. -/
def VecAt (H : AH) (v : AV) (l : List Rs) : Prop :=
  (l = [] ∧ lenOfAV v = some 0 ∧ v.one = true) ∨ ∃ b o c ro vs, v = .slice b o l.length c 3 ∧ H.get b = some (.cells ro vs) ∧ l ≠ [] ∧ ∀ i r, l[i]? = some r → ∃ u, (vs.drop (o + i * 3)).take 3 = rsC u r ∧ LabelsAt H u r.1
theorem VecAt.len {H : AH} {v : AV} {l : List Rs} (h : VecAt H v l) : lenOfAV v = some l.length := by
  rcases h with ⟨rfl, h, _⟩ | ⟨b, o, c, ro, vs, rfl, _⟩
  · exact h
  · rfl
theorem VecAt.one {H : AH} {v : AV} {l : List Rs} (h : VecAt H v l) : v.one = true := by
  rcases h with ⟨_, _, h⟩ | ⟨b, o, c, ro, vs, rfl, _⟩
  · exact h
  · rfl
theorem VecAt.keep {H K : AH} {v : AV} {l : List Rs} (h : VecAt H v l) (hk : ∀ b x, H.get b = some x → K.get b = some x) (hn : H.next ≤ K.next) : VecAt K v l := by
  rcases h with h | ⟨b, o, c, ro, vs, rfl, h1, h2, h3⟩
  · exact .inl h
  · exact .inr ⟨b, o, c, ro, vs, rfl, hk _ _ h1, h2, fun i r hi => let ⟨u, h4, h5⟩ := h3 i r hi; ⟨u, h4, h5.keep (KS.of hk hn)⟩⟩
theorem get_of_take {vs : List AV} {k : Nat} {n : Nat} {cs : List AV} (h : (vs.drop k).take n = cs) {j : Nat} {x : AV} (hj : cs[j]? = some x) : vs[k + j]? = some x := by
  have hlt : j < cs.length := (List.getElem?_eq_some_iff.1 hj).1
  rw [← h] at hj hlt
  rw [List.length_take] at hlt
  rw [List.getElem?_take_of_lt (by omega), List.getElem?_drop] at hj
  exact hj
theorem VecAt.at {H : AH} {v : AV} {l : List Rs} (h : VecAt H v l) {i : Nat} {r : Rs} (hi : l[i]? = some r) :
    ∃ b o c ro vs u, v = .slice b o l.length c 3 ∧ H.get b = some (.cells ro vs) ∧ LabelsAt H u r.1 ∧ (vs.drop (o + i * 3)).take 3 = rsC u r ∧ vs[o + i * 3]? = some u ∧ (vs.drop (o + i * 3 + 1)).take 2 = [.int .i64 r.2.1, .bool r.2.2] := by
  rcases h with ⟨rfl, _⟩ | ⟨b, o, c, ro, vs, rfl, h1, _, h2⟩
  · simp at hi
  · obtain ⟨u, h3, h4⟩ := h2 i r hi
    exact ⟨b, o, c, ro, vs, u, rfl, h1, h4, h3, get_of_take h3 (j := 0) rfl, take2 (get_of_take h3 (j := 1) rfl) (get_of_take h3 (j := 2) rfl)⟩

theorem al58 (K : AH) (ev : Operand → AV) (d : Nat) (ty : TypeId) (pos : String) (after : Array Edge) : evOp tC F0 K ev { dst := some d, op := .alloc 58, type := ty, pos, after, guard := none } = some (.ptr K.next 0, K.alloc (.cells false [.nils, .int .i64 0, .bool false])) := evOp_alloc ti58 rfl rfl
theorem stA58 {K : AH} {b : Nat} {x y z : AV} (hb : K.get b = some (.cells false [x, y, z])) {u : AV} (hu : u.one = true) (r : Rs) : astore tC K 58 (.ptr b 0) (.agg (rsC u r)) = some (K.set b (.cells false (rsC u r))) := by
  have := astore_agg (cs := rsC u r) (o := 0) ti58 hb rfl (by simp [allOne, rsC, hu, one_int, one_bool]) (by simp [rsC])
  rw [this]; rfl

def prevL (l : List Rs) (i : Nat) : Option Ls := ((l.take i).getLast?.map fun r => some r.1).getD none
def nextB (p : Option Ls) (r : Rs) : Bool := rightM r && (match p with | none => true | some q => decide (orderM q r.1 < 0))
theorem prevL_succ {l : List Rs} {i : Nat} {r : Rs} (h : l[i]? = some r) : prevL l (i + 1) = some r.1 := by
  unfold prevL; rw [getLast_take h]; rfl
theorem prevL_of {l : List Rs} {i : Nat} {r : Rs} (hi : 0 < i) (h : l[i - 1]? = some r) : prevL l i = some r.1 := by
  have := prevL_succ h
  rwa [Nat.sub_add_cancel hi] at this
theorem okVec_take {l : List Rs} {i : Nat} {r : Rs} (h : l[i]? = some r) : okVec none (l.take (i + 1)) = (okVec none (l.take i) && nextB (prevL l i) r) := by
  rw [List.take_add_one, h, okVec_app]
  show (_ && okVec (prevL l i) [r]) = _
  unfold nextB
  cases prevL l i <;> simp [okVec]
theorem okVec_bad {l : List Rs} {i : Nat} {r : Rs} (h : l[i]? = some r) (hb : nextB (prevL l i) r = false) : okVec none l = false := by
  have h1 : okVec none (l.take (i + 1)) = false := by rw [okVec_take h, hb, Bool.and_false]
  have h2 := okVec_app (l.take (i + 1)) (l.drop (i + 1)) none
  rw [List.take_append_drop, h1, Bool.false_and] at h2
  exact h2
theorem okVec_right {l : List Rs} {i : Nat} {r : Rs} (hi : 0 < i) (h : l[i - 1]? = some r) (ho : okVec none (l.take i) = true) : rightM r = true := by
  have := okVec_take h
  rw [Nat.sub_add_cancel hi, ho] at this
  have h2 : nextB (prevL l (i - 1)) r = true := by
    cases hb : nextB (prevL l (i - 1)) r with
    | true => rfl
    | false => rw [hb, Bool.and_false] at this; cases this
  unfold nextB at h2
  simp only [Bool.and_eq_true] at h2
  exact h2.1
theorem vecM_bad {l : List Rs} {i : Nat} {r : Rs} (h8 : ¬ 4096 < l.length) (h : l[i]? = some r) (hb : nextB (prevL l i) r = false) : vecM l = 2 := by
  unfold vecM
  rw [if_neg h8, if_neg (by rw [okVec_bad h hb]; simp)]
theorem compM_right {a b : Rs} (ha : rightM a = true) (hb : rightM b = true) : compM a.1 b.1 = orderM a.1 b.1 := by
  unfold rightM at ha hb
  simp only [Bool.and_eq_true, decide_eq_true_eq] at ha hb
  unfold compM
  rw [if_neg (by omega)]

set_option maxHeartbeats 8000000 in
theorem vector33 (N : Bd) (H : AH) {v : AV} {l : List Rs} (hv : VecAt H v l) : AC tC N 0 33 [v] H fun r K => r = .int .i64 (vecM l) ∧ K = H := by
  refine AC.quiet rfl ?_
  refine AC.wf0 fun hwf => ?_
  refine AC.by (n := 35) (rs := [.tmp 2]) tOK fn33 rfl rfl rfl rfl ?_
  have e0 : (PT.ofList .leaf 0 [v]).get 0 = some v := rfl
  have hl := hv.len
  by_cases h8 : 4096 < l.length
  · have d1 : decide ((4096 : Int) < ((l.length : Nat) : Int)) = true := decide_eq_true (by omega)
    have hr : vecM l = 3 := by unfold vecM; rw [if_pos h8]
    rw [hr]
    refine zs4 @al22 @e0 @hl @d1 ?_
    exact fr1 ⟨rfl, fun _ _ h => h⟩
  have d1 : decide ((4096 : Int) < ((l.length : Nat) : Int)) = false := decide_eq_false (by omega)
  refine zs4 @al22 @e0 @hl @d1 ?_
  refine AW.loop (fun m T K => (∀ b x, H.get b = some x → K.get b = some x) ∧ H.next ≤ K.next ∧ T.get 0 = some v ∧ T.get 8 = some v ∧ T.get 9 = some (.int .i64 (l.length : Nat)) ∧ ∃ i : Nat, i ≤ l.length ∧ m = l.length - i ∧ T.get 10 = some (.int .i64 (i : Nat)) ∧ okVec none (l.take i) = true) ?_ (l.length - 0)
    ⟨fun b x h => h, Nat.le_refl _, by simp [PT.get_set, e0], by simp [PT.get_set, e0], by simp [PT.get_set], 0, by omega, rfl, by simp [PT.get_set], rfl⟩
  rintro m T K ⟨hk, hn, g0, g8, g9, i, hi, rfl, g10, hok⟩
  refine AW.wf0 fun wfK => ?_
  by_cases hil : i < l.length
  · have hd := lt_int hil
    obtain ⟨x, hx⟩ : ∃ x, l[i]? = some x := ⟨_, List.getElem?_eq_getElem hil⟩
    obtain ⟨ab, ao, ac, aro, avs, u, rfl, ag, hu, ax, _, _⟩ := (hv.keep hk hn).at hx
    generalize hK1 : (K.alloc (.cells false [.nils, .int .i64 0, .bool false])).set K.next (.cells false (rsC u x)) = K1
    have hst : astore tC (K.alloc (.cells false [.nils, .int .i64 0, .bool false])) 58 (.ptr K.next 0) (.agg (rsC u x)) = some K1 := by
      rw [← hK1]; exact stA58 (x := .nils) (y := .int .i64 0) (z := .bool false) (by rw [AH.get_alloc, if_pos rfl]) hu.one x
    have n1 : K1.next = K.next + 1 := by rw [← hK1]; rfl
    have k1 : ∀ b x, K.get b = some x → K1.get b = some x := fun b z hz => by
      have := wfK b z hz
      rw [← hK1, AH.get_set, if_neg (by omega), AH.get_alloc, if_neg (by omega)]; exact hz
    have q1 : K1.get K.next = some (.cells false (rsC u x)) := by rw [← hK1, AH.get_set, if_pos rfl]
    have huK := hu.keep (KS.of k1 (by omega))
    have keepf : ∀ b x, H.get b = some x → K1.get b = some x := fun b z hz => k1 b z (hk b z hz)
    have t3 : List.take 3 (List.drop 0 (rsC u x)) = rsC u x := rfl
    have t3l : (rsC u x).length = 3 := rfl
    have q0 : (rsC u x)[0]? = some u := rfl
    have fin : ∀ {T' : PT AV} {K' : AH}, (∀ b x, H.get b = some x → K'.get b = some x) → H.next ≤ K'.next → (T'.get 0 = some (.slice ab ao l.length ac 3)) → (T'.get 8 = some (.slice ab ao l.length ac 3)) → T'.get 9 = some (.int .i64 (l.length : Nat)) → T'.get 10 = some (.int .i64 ((i + 1 : Nat) : Int)) → okVec none (l.take (i + 1)) = true →
        ∃ m', m' < l.length - i ∧ (∀ b x, H.get b = some x → K'.get b = some x) ∧ H.next ≤ K'.next ∧ T'.get 0 = some (.slice ab ao l.length ac 3) ∧ T'.get 8 = some (.slice ab ao l.length ac 3) ∧ T'.get 9 = some (.int .i64 (l.length : Nat)) ∧ ∃ i : Nat, i ≤ l.length ∧ m' = l.length - i ∧ T'.get 10 = some (.int .i64 (i : Nat)) ∧ okVec none (l.take i) = true :=
      fun h1 h2 h3 h4 h5 h6 h7 => ⟨l.length - (i + 1), by omega, h1, h2, h3, h4, h5, i + 1, by omega, rfl, h6, h7⟩
    cases hrt : rightM x with
    | false =>
      rw [vecM_bad h8 hx (by simp [nextB, hrt])]
      refine zs8 @ix22 @ld58 @g8 @g9 @g10 @hd @hil (And.intro @ag (And.intro @ax (And.intro @t3l (And.intro @al58 @hst)))) ?_
      refine AW.drawN tOK (Qs := [1, 15]) [0, 1, 2, 3, 4, 5, 6, 7, 8, 9, 10, 11, 12, 13, 14, 15, 16, 17, 18] (by kernel_rfl) pk1 ?_
      with_reducible repeat' first | (refine DN.rd1E (by kernel_rfl) wu ?_; refine zr4 @ld58 @q1 @t3 @t3l ?_; refine Same.mk ?_) | fail
      refine DN.callQ (fs := []) (cs := []) rfl fn65 ok65 rfl ar1 (right65 N K1 huK) ?_
      with_reducible repeat' first | refine za ?_ | refine AW.condT (by simp only [aeval, PT.get_set, Nat.reduceEqDiff, reduceIte, hrt]; rfl) (by first | rfl | decide | assumption) ?_ | refine DN.nil tOK ?_ | refine DN.guardUA wu (by simp only [PT.get_set, Nat.reduceEqDiff, reduceIte, hrt]; rfl) wu wu ?_ | refine DN.guardFA wu (by simp only [PT.get_set, Nat.reduceEqDiff, reduceIte, hrt]; rfl) (by first | rfl | decide | assumption) wu ?_ | (refine DN.fl1E wu wu ?_; refine zr1 @hrt ?_; refine Same.mk ?_) | (refine AOs.o1 tOK ?_; refine zr1 @hrt ?_) | fail
      exact fr1 ⟨rfl, keepf⟩
    | true =>
    by_cases hi0 : i = 0
    · have d3 : decide ((0 : Int) < ((i : Nat) : Int)) = false := decide_eq_false (by omega)
      have hb : okVec none (l.take (i + 1)) = true := by
        rw [okVec_take hx, hok, hi0]
        simp [nextB, hrt, prevL]
      refine zs8 @ix22 @ld58 @g8 @g9 @g10 @hd @hil (And.intro @ag (And.intro @ax (And.intro @t3l (And.intro @al58 @hst)))) ?_
      refine AW.drawN tOK (Qs := [1, 15]) [0, 1, 2, 3, 4, 5, 6, 7, 8, 9, 10, 11, 12, 13, 14, 15, 16, 17, 18] (by kernel_rfl) pk1 ?_
      with_reducible repeat' first | (refine DN.rd1E (by kernel_rfl) wu ?_; refine zr4 @ld58 @q1 @t3 @t3l ?_; refine Same.mk ?_) | fail
      refine DN.callQ (fs := []) (cs := []) rfl fn65 ok65 rfl ar1 (right65 N K1 huK) ?_
      with_reducible repeat' first | refine zb ?_ | refine AW.condF (by simp only [aeval, PT.get_set, Nat.reduceEqDiff, reduceIte, hrt]; rfl) (by first | rfl | decide | assumption) ?_ | refine DN.nil tOK ?_ | refine DN.guardFA wu (by simp only [PT.get_set, Nat.reduceEqDiff, reduceIte, hrt]; rfl) (by first | rfl | decide | assumption) wu ?_ | ((first | refine DN.fl1E wu wu ?_ | refine DN.flTE wu (by simp only [PT.get_set, Nat.reduceEqDiff, reduceIte, hrt]; rfl) (by first | rfl | decide | assumption) wu wu ?_); refine zr2 @hrt @d3 ?_; refine Same.mk ?_) | (refine AOs.o1 tOK ?_; refine zr2 @g10 @hrt ?_) | fail
      refine fin keepf (by omega) (by simp only [PT.get_set, Nat.reduceEqDiff, reduceIte, g0]) (by simp only [PT.get_set, Nat.reduceEqDiff, reduceIte, g8]) (by simp only [PT.get_set, Nat.reduceEqDiff, reduceIte, g9]) ?_ hb
      simp only [PT.get_set, Nat.reduceEqDiff, reduceIte, wrap64_succ (show i < 9223372036854775807 by omega)]
    · have d3 : decide ((0 : Int) < ((i : Nat) : Int)) = true := decide_eq_true (by omega)
      have him : i - 1 < l.length := by omega
      obtain ⟨y, hy⟩ : ∃ y, l[i - 1]? = some y := ⟨_, List.getElem?_eq_getElem him⟩
      have w1 : IntKind.i64.wrap (((i : Nat) : Int) - 1) = ((i - 1 : Nat) : Int) := by rw [wrap64 (by omega) (by omega)]; omega
      obtain ⟨ab', ao', ac', aro', avs', u', e, ag', hu', az, ay, _⟩ := ((hv.keep hk hn).keep k1 (by omega)).at hy
      cases e
      have ag1 := k1 _ _ ag
      rw [ag1] at ag'; cases ag'
      have hpv := prevL_of (show 0 < i by omega) hy
      have hcm := compM_right (okVec_right (show 0 < i by omega) hy hok) hrt
      have hnb : nextB (prevL l i) x = decide (orderM y.1 x.1 < 0) := by rw [hpv]; simp [nextB, hrt]
      refine zs8 @ix22 @ld58 @g8 @g9 @g10 @hd @hil (And.intro @ag (And.intro @ax (And.intro @t3l (And.intro @al58 @hst)))) ?_
      refine AW.drawN tOK (Qs := [1, 15]) [0, 1, 2, 3, 4, 5, 6, 7, 8, 9, 10, 11, 12, 13, 14, 15, 16, 17, 18] (by kernel_rfl) pk1 ?_
      with_reducible repeat' first | (refine DN.rd1E (by kernel_rfl) wu ?_; refine zr4 @ld58 @q1 @t3 @t3l ?_; refine Same.mk ?_) | fail
      refine DN.callQ (fs := []) (cs := []) rfl fn65 ok65 rfl ar1 (right65 N K1 huK) ?_
      with_reducible repeat' first | ((first | refine DN.fl1E wu wu ?_ | refine DN.flTE wu (by simp only [PT.get_set, Nat.reduceEqDiff, reduceIte, hrt]; rfl) (by first | rfl | decide | assumption) wu wu ?_ | refine DN.rdTE wu (by simp only [PT.get_set, Nat.reduceEqDiff, reduceIte, hrt]; rfl) (by first | rfl | decide | assumption) (by kernel_rfl) wu ?_); refine zr8 @ix22 @ld29 @fa58_0 @g0 @q1 @q0 @hrt (And.intro @d3 (And.intro @w1 (And.intro @him (And.intro @ag1 @ay)))) ?_; refine Same.mk ?_) | fail
      refine DN.callQG wu gt1 rfl (fs := []) (cs := []) rfl fn40 ok40 rfl ar1 (compare40 N K1 hu' huK) ?_
      rw [hcm]
      by_cases ho : orderM y.1 x.1 < 0
      · have d4 : decide ((0 : Int) ≤ orderM y.1 x.1) = false := decide_eq_false (by omega)
        have hb : okVec none (l.take (i + 1)) = true := by rw [okVec_take hx, hok, hnb, decide_eq_true ho]; rfl
        with_reducible repeat' first | refine zb ?_ | refine DN.nil tOK ?_ | ((first | refine DN.fl1E wu wu ?_ | refine DN.flTE wu (by simp only [PT.get_set, Nat.reduceEqDiff, reduceIte]; rfl) (by first | rfl | decide | assumption) wu wu ?_); refine zr1 @d4 ?_; refine Same.mk ?_) | (refine AOs.o1 tOK ?_; refine zr1 @g10 ?_) | fail
        refine fin keepf (by omega) (by simp only [PT.get_set, Nat.reduceEqDiff, reduceIte, g0]) (by simp only [PT.get_set, Nat.reduceEqDiff, reduceIte, g8]) (by simp only [PT.get_set, Nat.reduceEqDiff, reduceIte, g9]) ?_ hb
        simp only [PT.get_set, Nat.reduceEqDiff, reduceIte, wrap64_succ (show i < 9223372036854775807 by omega)]
      · have d4 : decide ((0 : Int) ≤ orderM y.1 x.1) = true := decide_eq_true (by omega)
        rw [vecM_bad h8 hx (by rw [hnb]; exact decide_eq_false ho)]
        with_reducible repeat' first | refine za ?_ | refine DN.nil tOK ?_ | ((first | refine DN.fl1E wu wu ?_ | refine DN.flTE wu (by simp only [PT.get_set, Nat.reduceEqDiff, reduceIte]; rfl) (by first | rfl | decide | assumption) wu wu ?_); refine zr1 @d4 ?_; refine Same.mk ?_) | (refine AOs.o1 tOK ?_; refine zr0 ?_) | fail
        exact fr1 ⟨rfl, keepf⟩
  · have hd := nlt_int hil
    obtain rfl : i = l.length := by omega
    rw [List.take_length] at hok
    have hr : vecM l = 0 := by unfold vecM; rw [if_neg h8, if_pos hok]
    rw [hr]
    refine zs3 @g9 @g10 @hd ?_
    exact fr1 ⟨rfl, hk⟩

/-- Names that are short. -/
def Short (l : Ls) : Prop := ∀ x ∈ l, x.1.length ≤ 1000000

/-! Changes in a heap. -/
def ChsAt (H : AH) (v : AV) (l : List Ch) : Prop :=
  (l = [] ∧ lenOfAV v = some 0 ∧ v.one = true) ∨ ∃ b o c ro vs, v = .slice b o l.length c 4 ∧ H.get b = some (.cells ro vs) ∧ l ≠ [] ∧ ∀ i r, l[i]? = some r → ∃ u, (vs.drop (o + i * 4)).take 4 = chC u r ∧ LabelsAt H u r.1
theorem ChsAt.len {H : AH} {v : AV} {l : List Ch} (h : ChsAt H v l) : lenOfAV v = some l.length := by
  rcases h with ⟨rfl, h, _⟩ | ⟨b, o, c, ro, vs, rfl, _⟩
  · exact h
  · rfl
theorem ChsAt.keep {H K : AH} {v : AV} {l : List Ch} (h : ChsAt H v l) (hk : ∀ b x, H.get b = some x → K.get b = some x) (hn : H.next ≤ K.next) : ChsAt K v l := by
  rcases h with h | ⟨b, o, c, ro, vs, rfl, h1, h2, h3⟩
  · exact .inl h
  · exact .inr ⟨b, o, c, ro, vs, rfl, hk _ _ h1, h2, fun i r hi => let ⟨u, h4, h5⟩ := h3 i r hi; ⟨u, h4, h5.keep (KS.of hk hn)⟩⟩
theorem ChsAt.at {H : AH} {v : AV} {l : List Ch} (h : ChsAt H v l) {i : Nat} {r : Ch} (hi : l[i]? = some r) :
    ∃ b o c ro vs u, v = .slice b o l.length c 4 ∧ H.get b = some (.cells ro vs) ∧ LabelsAt H u r.1 ∧ (vs.drop (o + i * 4)).take 4 = chC u r ∧ vs[o + i * 4]? = some u := by
  rcases h with ⟨rfl, _⟩ | ⟨b, o, c, ro, vs, rfl, h1, _, h2⟩
  · simp at hi
  · obtain ⟨u, h3, h4⟩ := h2 i r hi
    exact ⟨b, o, c, ro, vs, u, rfl, h1, h4, h3, get_of_take h3 (j := 0) rfl⟩
theorem al33 (K : AH) (ev : Operand → AV) (d : Nat) (ty : TypeId) (pos : String) (after : Array Edge) : evOp tC F0 K ev { dst := some d, op := .alloc 33, type := ty, pos, after, guard := none } = some (.ptr K.next 0, K.alloc (.cells false [.nils, .int .i64 0, .bool false, .bool false])) := evOp_alloc ti33 rfl rfl
theorem stA33 {K : AH} {b : Nat} {x y z w : AV} (hb : K.get b = some (.cells false [x, y, z, w])) {u : AV} (hu : u.one = true) (r : Ch) : astore tC K 33 (.ptr b 0) (.agg (chC u r)) = some (K.set b (.cells false (chC u r))) := by
  have := astore_agg (cs := chC u r) (o := 0) ti33 hb rfl (by simp [allOne, chC, hu, one_int, one_bool]) (by simp [chC])
  rw [this]; rfl

/-- The first error. -/
def firstM : List Ch → Int
  | [] => 0
  | c :: cs => if chgM c ≠ 0 then chgM c else firstM cs
theorem firstM_drop {l : List Ch} {i : Nat} {c : Ch} (h : l[i]? = some c) : firstM (l.drop i) = if chgM c ≠ 0 then chgM c else firstM (l.drop (i + 1)) := by
  rw [List.drop_eq_getElem_cons (List.getElem?_eq_some_iff.1 h).1, firstM]
  rw [List.getElem?_eq_getElem (List.getElem?_eq_some_iff.1 h).1] at h
  rw [Option.some.inj h]

set_option maxHeartbeats 4000000 in
theorem checked34 (N : Bd) (H : AH) {v : AV} {l : List Ch} (hv : ChsAt H v l) (hs : ∀ r ∈ l, Short r.1) (hl : l.length ≤ 1000000) : AC tC N 0 34 [v] H fun r K => r = .int .i64 (firstM l) ∧ K = H := by
  refine AC.quiet rfl ?_
  refine AC.wf0 fun hwf => ?_
  refine AC.by (n := 18) (rs := [.tmp 2]) tOK fn34 rfl rfl rfl rfl ?_
  have e0 : (PT.ofList .leaf 0 [v]).get 0 = some v := rfl
  have hln := hv.len
  refine zs3 @al23 @e0 @hln ?_
  refine AW.loop (fun m T K => (∀ b x, H.get b = some x → K.get b = some x) ∧ H.next ≤ K.next ∧ T.get 6 = some v ∧ T.get 7 = some (.int .i64 (l.length : Nat)) ∧ ∃ i : Nat, i ≤ l.length ∧ m = l.length - i ∧ T.get 8 = some (.int .i64 (i : Nat)) ∧ firstM l = firstM (l.drop i)) ?_ (l.length - 0)
    ⟨fun b x h => h, Nat.le_refl _, by simp [PT.get_set, e0], by simp [PT.get_set], 0, by omega, rfl, by simp [PT.get_set], by simp⟩
  rintro m T K ⟨hk, hn, g6, g7, i, hi, rfl, g8, hf⟩
  refine AW.wf0 fun wfK => ?_
  by_cases hil : i < l.length
  · have hd := lt_int hil
    obtain ⟨x, hx⟩ : ∃ x, l[i]? = some x := ⟨_, List.getElem?_eq_getElem hil⟩
    obtain ⟨ab, ao, ac, aro, avs, u, rfl, ag, hu, ax, _⟩ := (hv.keep hk hn).at hx
    generalize hK1 : (K.alloc (.cells false [.nils, .int .i64 0, .bool false, .bool false])).set K.next (.cells false (chC u x)) = K1
    have hst : astore tC (K.alloc (.cells false [.nils, .int .i64 0, .bool false, .bool false])) 33 (.ptr K.next 0) (.agg (chC u x)) = some K1 := by
      rw [← hK1]; exact stA33 (x := .nils) (y := .int .i64 0) (z := .bool false) (w := .bool false) (by rw [AH.get_alloc, if_pos rfl]) hu.one x
    have n1 : K1.next = K.next + 1 := by rw [← hK1]; rfl
    have k1 : ∀ b x, K.get b = some x → K1.get b = some x := fun b z hz => by
      have := wfK b z hz
      rw [← hK1, AH.get_set, if_neg (by omega), AH.get_alloc, if_neg (by omega)]; exact hz
    have q1 : K1.get K.next = some (.cells false (chC u x)) := by rw [← hK1, AH.get_set, if_pos rfl]
    have huK := hu.keep (KS.of k1 (by omega))
    have keepf : ∀ b x, H.get b = some x → K1.get b = some x := fun b z hz => k1 b z (hk b z hz)
    have t4 : List.take 4 (List.drop 0 (chC u x)) = chC u x := rfl
    have t4l : (chC u x).length = 4 := rfl
    have hf2 := hf.trans (firstM_drop hx)
    refine zs8 @ix23 @ld33 @g6 @g7 @g8 @hd @hil (And.intro @ag (And.intro @ax (And.intro @t4 (And.intro @t4l (And.intro @al33 (And.intro @hst @q1)))))) ?_
    refine AOs.cq tOK fn9 ok9 (change9 N K1 huK (hs x (List.mem_of_getElem? hx))) ?_
    rintro r K2 ⟨rfl, rfl⟩
    by_cases hc : chgM x = 0
    · have d1 : decide (chgM x = 0) = true := decide_eq_true hc
      rw [if_neg (by omega)] at hf2
      refine zs2 @g8 @d1 ?_
      refine ⟨l.length - (i + 1), by omega, keepf, by omega, by simp [PT.get_set, g6], by simp [PT.get_set, g7], i + 1, by omega, rfl, ?_, hf2⟩
      simp only [PT.get_set, Nat.reduceEqDiff, reduceIte, wrap64_succ (show i < 9223372036854775807 by omega)]
    · have d1 : decide (chgM x = 0) = false := decide_eq_false hc
      rw [if_pos hc] at hf2
      refine zs1 @d1 ?_
      exact fnPost_ret1 gt1 ⟨by rw [hf2], keepf⟩
  · have hd := nlt_int hil
    obtain rfl : i = l.length := by omega
    rw [List.drop_length] at hf
    refine zs3 @g7 @g8 @hd ?_
    exact fnPost_ret1 gt1 ⟨by rw [hf]; rfl, hk⟩
end Go.Proofs.YtapokkpdgfpokaaGreat
