/- Group: what is the same, few and small; what changed, both ways; no condition. -/
import Derived.Test.YtapokkpdgfpokaaGreatCh2
set_option linter.unusedSimpArgs false
set_option linter.unusedVariables false
set_option maxRecDepth 100000
open Go Go.AB Go.Proofs
namespace Go.Proofs.YtapokkpdgfpokaaGreat
set_option maxRecDepth 100000

theorem beqL_self (s : Nm) : beqL s s = true := by rw [beqL_eq]; exact decide_eq_true rfl
theorem neL (t : Bool) (p : Lb) : abin tC .neq 71 t (.agg [.str p.1, .str p.2]) (.agg [.str p.1, .str p.2]) = some (.bool false) := by
  have h : aeq tC 8 71 (.agg [.str p.1, .str p.2]) (.agg [.str p.1, .str p.2]) = some true := by
    unfold aeq
    rw [ti71]
    simp only [cond_true, aeqGo, apart, ti9, TI.agg]
    simp [aeq, ti9, beqL_self]
  unfold abin
  simp only [h, eqRes, Option.map_some, Bool.not_true]

set_option maxHeartbeats 2000000 in
theorem same39 (N : Bd) (H : AH) {v u : AV} {l : Ls} (hv : LabelsAt H v l) (hu : LabelsAt H u l) (hl : l.length ≤ 1000000) : AC tC N 0 39 [v, u] H fun r K => r = .bool true ∧ K = H := by
  refine AC.by (n := 26) (rs := [.tmp 4]) tOK fn39 rfl rfl rfl rfl ?_
  have e0 : (PT.ofList .leaf 0 [v, u]).get 0 = some v := rfl
  have e1 : (PT.ofList .leaf 0 [v, u]).get 1 = some u := rfl
  have l1 := hv.len
  have l2 := hu.len
  have d0 : decide (((l.length : Nat) : Int) = ((l.length : Nat) : Int)) = true := decide_eq_true rfl
  refine zs5 @al29 @e0 @e1 @l1 @l2 ?_
  refine AW.loop (fun m T K => K = H ∧ T.get 0 = some v ∧ T.get 1 = some u ∧ ∃ i : Nat, i ≤ l.length ∧ m = l.length - i ∧ T.get 5 = some (.int .i64 (i : Nat))) ?_ (l.length - 0)
    ⟨rfl, by simp [PT.get_set, e0], by simp [PT.get_set, e1], 0, by omega, rfl, by simp [PT.get_set]⟩
  rintro m T K ⟨rfl, g0, g1, i, hi, rfl, g5⟩
  by_cases hil : i < l.length
  · have hd := lt_int hil
    obtain ⟨x, hx⟩ : ∃ x, l[i]? = some x := ⟨_, List.getElem?_eq_getElem hil⟩
    obtain ⟨ab, ao, ac, aro, avs, rfl, ag, ax, _, _⟩ := hv.at hx
    obtain ⟨bb, bo, bc, bro, bvs, rfl, bg, bx, _, _⟩ := hu.at hx
    with_reducible repeat' first | refine za ?_ | refine AW.drawT tOK wu (by simp only [pickAll, Nat.reduceAdd]; rfl) ?_ | refine DN.nil tOK ?_ | (refine zd ?_; refine zr8 @ix29 @ld71 @g0 @g1 @g5 @hil @ag (And.intro @ax (And.intro @bg (And.intro @bx @neL))) ?_; refine Same.mk ?_) | (refine AOs.o1 tOK ?_; refine zr5 @al29 @g0 @g5 @l1 @hd ?_) | fail
    refine ⟨l.length - (i + 1), by omega, rfl, by simp [PT.get_set, g0], by simp [PT.get_set, g1], i + 1, by omega, rfl, ?_⟩
    simp only [PT.get_set, Nat.reduceEqDiff, reduceIte, wrap64_succ (show i < 9223372036854775807 by omega)]
  · have hd := nlt_int hil
    refine zs5 @al29 @g0 @g5 @l1 @hd ?_
    exact fr1 ⟨rfl, rfl⟩

set_option maxHeartbeats 4000000 in
theorem same16 (N : Bd) (H : AH) {v u : AV} {l : List Rs} (hv : VecAt H v l) (hu : VecAt H u l) (hl : l.length ≤ 1000000) (hs : ∀ r ∈ l, r.1.length ≤ 1000000) : AC tC N 0 16 [v, u] H fun r K => r = .bool true ∧ K = H := by
  refine AC.by (n := 42) (rs := [.tmp 4]) tOK fn16 rfl rfl rfl rfl ?_
  have e0 : (PT.ofList .leaf 0 [v, u]).get 0 = some v := rfl
  have e1 : (PT.ofList .leaf 0 [v, u]).get 1 = some u := rfl
  have l1 := hv.len
  have l2 := hu.len
  have d0 : decide (((l.length : Nat) : Int) = ((l.length : Nat) : Int)) = true := decide_eq_true rfl
  refine zs5 @al22 @e0 @e1 @l1 @l2 ?_
  refine AW.loop (fun m T K => K = H ∧ T.get 0 = some v ∧ T.get 1 = some u ∧ ∃ i : Nat, i ≤ l.length ∧ m = l.length - i ∧ T.get 5 = some (.int .i64 (i : Nat))) ?_ (l.length - 0)
    ⟨rfl, by simp [PT.get_set, e0], by simp [PT.get_set, e1], 0, by omega, rfl, by simp [PT.get_set]⟩
  rintro m T K ⟨rfl, g0, g1, i, hi, rfl, g5⟩
  by_cases hil : i < l.length
  · have hd := lt_int hil
    obtain ⟨x, hx⟩ : ∃ x, l[i]? = some x := ⟨_, List.getElem?_eq_getElem hil⟩
    obtain ⟨ab, ao, ac, aro, avs, au, rfl, ag, hau, _, ax, ay⟩ := hv.at hx
    obtain ⟨bb, bo, bc, bro, bvs, bu, rfl, bg, hbu, _, bx, bz⟩ := hu.at hx
    have q : ((x.2.1 == x.2.1) && (x.2.2 == x.2.2)) = true := by simp
    refine zs5 @al22 @g0 @g5 @l1 @hd ?_
    refine AW.drawN tOK (Qs := [10]) [0, 1, 2, 3, 4, 5, 6, 7, 8, 9, 10, 11, 12, 13, 14, 15, 16, 17, 18, 19, 20, 21, 22, 23, 24] (by kernel_rfl) pk1 ?_
    with_reducible repeat' first | (refine zd ?_; refine zr8 @ix22 @ld29 @fa58_0 @g0 @g1 @g5 @hil (And.intro @ag (And.intro @ax (And.intro @bg @bx))) ?_; refine Same.mk ?_) | fail
    refine DN.callQ (fs := []) (cs := []) rfl fn39 ok39 rfl ar1 (same39 N K hau hbu (hs x (List.mem_of_getElem? hx))) ?_
    with_reducible repeat' first | refine zb ?_ | refine DN.nil tOK ?_ | ((first | refine DN.fl1E wu wu ?_ | refine DN.flTE wu (by simp only [PT.get_set, Nat.reduceEqDiff, reduceIte]; rfl) (by first | rfl | decide | assumption) wu wu ?_ | refine DN.rdTE wu (by simp only [PT.get_set, Nat.reduceEqDiff, reduceIte]; rfl) (by first | rfl | decide | assumption) (by kernel_rfl) wu ?_); refine zr8 @ix22 @ld31 @fa58_1 @g0 @g1 @g5 @hil (And.intro @ag (And.intro @ay (And.intro @bg (And.intro @bz (And.intro @neV @q))))) ?_; refine Same.mk ?_) | (refine AOs.o1 tOK ?_; refine zr1 @g5 ?_) | fail
    refine ⟨l.length - (i + 1), by omega, rfl, by simp [PT.get_set, g0], by simp [PT.get_set, g1], i + 1, by omega, rfl, ?_⟩
    simp only [PT.get_set, Nat.reduceEqDiff, reduceIte, wrap64_succ (show i < 9223372036854775807 by omega)]
  · have hd := nlt_int hil
    refine zs5 @al22 @g0 @g5 @l1 @hd ?_
    exact fr1 ⟨rfl, rfl⟩

def Light (l : Ls) : Prop := l.length ≤ 30 ∧ ∀ p ∈ l, p.1.length ≤ 300
theorem Light.short {l : Ls} (h : Light l) : Short l := fun x hx => by have := h.2 x hx; omega
theorem mem_take_succ {α : Type} {l : List α} {i : Nat} {x y : α} (h : l[i]? = some x) (hy : y ∈ l.take (i + 1)) : y ∈ l.take i ∨ y = x := by
  rw [List.take_add_one, h] at hy
  simpa using hy

set_option maxHeartbeats 2000000 in
theorem light28 (N : Bd) (H : AH) {v : AV} {l : Ls} (hv : LabelsAt H v l) : AC tC N 0 28 [v] H fun r K => (∃ x, r = .bool x ∧ (x = true → Light l)) ∧ K = H := by
  have hlen := hv.len
  refine AC.by (n := 33) (rs := [.tmp 2]) tOK fn28 rfl rfl rfl rfl ?_
  have e0 : (PT.ofList .leaf 0 [v]).get 0 = some v := rfl
  refine zs0 ?_
  refine AW.loop (fun m T K => K = H ∧ T.get 0 = some v ∧ ∃ i : Nat, i ≤ l.length ∧ m = l.length - i ∧ i ≤ 31 ∧ T.get 3 = some (.int .i64 i) ∧ ∀ p ∈ l.take i, p.1.length ≤ 300) ?_ (l.length - 0) ⟨rfl, by simp [PT.get_set, e0], 0, by omega, rfl, by omega, by simp [PT.get_set], by simp⟩
  rintro m T K ⟨rfl, h0, i, hi, rfl, hi31, h3, hall⟩
  have fin : ∀ (hlt : ¬ (i < l.length ∧ i ≤ 30)), (decide (((l.length : Nat) : Int) ≤ 30) = true → Light l) := fun hlt hd => by
    have h30 : l.length ≤ 30 := by have := of_decide_eq_true hd; omega
    refine ⟨h30, fun p hp => hall p ?_⟩
    rw [List.take_of_length_le (by omega)]; exact hp
  by_cases hlt : i < l.length
  · have hd := lt_int hlt
    obtain ⟨p, hp⟩ : ∃ p, l[i]? = some p := ⟨_, List.getElem?_eq_getElem hlt⟩
    obtain ⟨b, o, c, ro, vs, rfl, hb, _, hs1, hs2⟩ := hv.at hp
    by_cases h30 : i ≤ 30
    · have d30 : decide (((i : Nat) : Int) ≤ 30) = true := decide_eq_true (by omega)
      by_cases hn : 300 < p.1.length
      · have d1 : decide ((300 : Int) < ((p.1.length : Nat) : Int)) = true := decide_eq_true (by omega)
        refine zt8 @h0 @h3 @hd @d30 @d1 @hlt @hb @hs1 ?_
        exact fnPost_ret1 gt1 ⟨⟨_, rfl, fun h => by cases h⟩, rfl⟩
      · have d1 : decide ((300 : Int) < ((p.1.length : Nat) : Int)) = false := decide_eq_false (by omega)
        by_cases ht : 300 < p.2.length
        · have d2 : decide ((300 : Int) < ((p.2.length : Nat) : Int)) = true := decide_eq_true (by omega)
          refine zt8 @h0 @h3 @hd @d30 @d1 @d2 @hlt (And.intro @hb (And.intro @hs1 @hs2)) ?_
          exact fnPost_ret1 gt1 ⟨⟨_, rfl, fun h => by cases h⟩, rfl⟩
        · have d2 : decide ((300 : Int) < ((p.2.length : Nat) : Int)) = false := decide_eq_false (by omega)
          refine zt8 @h0 @h3 @hd @d30 @d1 @d2 @hlt (And.intro @hb (And.intro @hs1 @hs2)) ?_
          refine ⟨l.length - (i + 1), by omega, rfl, by simp only [PT.get_set, Nat.reduceEqDiff, reduceIte, h0], i + 1, by omega, rfl, by omega, ?_, fun y hy => ?_⟩
          · simp only [PT.get_set, Nat.reduceEqDiff, reduceIte, wrap64_succ (show i < 9223372036854775807 by omega)]
          · rcases mem_take_succ hp hy with h | rfl
            · exact hall y h
            · omega
    · have d30 : decide (((i : Nat) : Int) ≤ 30) = false := decide_eq_false (by omega)
      refine zs5 @al29 @h0 @h3 @hd @d30 ?_
      exact fnPost_ret1 gt1 ⟨⟨_, rfl, fin (by omega)⟩, rfl⟩
  · have hd := nlt_int hlt
    refine zs5 @al29 @h0 @h3 @hd @hlen ?_
    exact fnPost_ret1 gt1 ⟨⟨_, rfl, fin (by omega)⟩, rfl⟩

set_option maxHeartbeats 2000000 in
theorem light8 (N : Bd) (H : AH) {v : AV} {l : List Ch} (hv : ChsAt H v l) : AC tC N 0 8 [v, .int .i64 40] H fun r K => (∃ x, r = .bool x ∧ (x = true → l.length ≤ 40 ∧ ∀ p ∈ l, Light p.1)) ∧ K = H := by
  have hlen := hv.len
  refine AC.by (n := 28) (rs := [.tmp 4]) tOK fn8 rfl rfl rfl rfl ?_
  have e0 : (PT.ofList .leaf 0 [v, AV.int .i64 40]).get 0 = some v := rfl
  have e1 : (PT.ofList .leaf 0 [v, AV.int .i64 40]).get 1 = some (.int .i64 40) := rfl
  refine zs0 ?_
  refine AW.loop (fun m T K => K = H ∧ T.get 0 = some v ∧ T.get 1 = some (.int .i64 40) ∧ ∃ i : Nat, i ≤ l.length ∧ m = l.length - i ∧ i ≤ 41 ∧ T.get 5 = some (.int .i64 i) ∧ ∀ p ∈ l.take i, Light p.1) ?_ (l.length - 0) ⟨rfl, by simp [PT.get_set, e0], by simp [PT.get_set, e1], 0, by omega, rfl, by omega, by simp [PT.get_set], by simp⟩
  rintro m T K ⟨rfl, h0, h1, i, hi, rfl, hi41, h5, hall⟩
  have fin : ∀ (hlt : ¬ (i < l.length ∧ i ≤ 40)), (decide (((l.length : Nat) : Int) ≤ 40) = true → l.length ≤ 40 ∧ ∀ p ∈ l, Light p.1) := fun hlt hd => by
    have h40 : l.length ≤ 40 := by have := of_decide_eq_true hd; omega
    refine ⟨h40, fun p hp => hall p ?_⟩
    rw [List.take_of_length_le (by omega)]; exact hp
  by_cases hlt : i < l.length
  · have hd := lt_int hlt
    obtain ⟨p, hp⟩ : ∃ p, l[i]? = some p := ⟨_, List.getElem?_eq_getElem hlt⟩
    obtain ⟨b, o, c, ro, vs, u, rfl, hb, hu, _, hs1⟩ := hv.at hp
    by_cases h40 : i ≤ 40
    · have d40 : decide (((i : Nat) : Int) ≤ 40) = true := decide_eq_true (by omega)
      refine zt8 @h0 @h1 @h5 @hd @d40 @hlt @hb @hs1 ?_
      refine AOs.cq tOK fn28 ok28 (light28 N K hu) ?_
      rintro r K1 ⟨⟨x, rfl, hx⟩, rfl⟩
      cases x
      · refine zs0 ?_
        exact fnPost_ret1 gt1 ⟨⟨_, rfl, fun h => by cases h⟩, rfl⟩
      · refine zs1 @h5 ?_
        refine ⟨l.length - (i + 1), by omega, rfl, by simp only [PT.get_set, Nat.reduceEqDiff, reduceIte, h0], by simp only [PT.get_set, Nat.reduceEqDiff, reduceIte, h1], i + 1, by omega, rfl, by omega, ?_, fun y hy => ?_⟩
        · simp only [PT.get_set, Nat.reduceEqDiff, reduceIte, wrap64_succ (show i < 9223372036854775807 by omega)]
        · rcases mem_take_succ hp hy with h | rfl
          · exact hall y h
          · exact hx rfl
    · have d40 : decide (((i : Nat) : Int) ≤ 40) = false := decide_eq_false (by omega)
      refine zs7 @al23 @h0 @h1 @h5 @hd @d40 @hlen ?_
      exact fnPost_ret1 gt1 ⟨⟨_, rfl, fin (by omega)⟩, rfl⟩
  · have hd := nlt_int hlt
    refine zs6 @al23 @h0 @h1 @h5 @hd @hlen ?_
    exact fnPost_ret1 gt1 ⟨⟨_, rfl, fin (by omega)⟩, rfl⟩

section
variable {C : Ctx} {F : Fns} {H : AH} {ev : Operand → AV} {dst : Option Tmp} {ty : TypeId} {pos : String} {after : Array Edge} {guard : Option (Nat × Bool)}
theorem evOp_buildSlice1z {t e : TypeId} {i j : TI} {z : AV} {x : Operand} {cs : List AV} (ht : C.ti t = some i) (hd : i.d = .slice e) (he : C.ti e = some j) (hz : j.zero = some z) (hzj : notJunk z = true) (hzl : z.cells.length = j.size) (hj0 : j.size ≠ 0) (hj : j.size ≤ 16777216) (hv : ev x = .agg cs) (hc : cs.length = j.size) :
    evOp C F H ev { dst, op := .buildSlice t 1 ⟨[(0, x)]⟩, type := ty, pos, after, guard } = some (.slice H.next 0 1 (.ex 1) j.size, H.alloc (.cells false cs)) := by
  have hzs : zerosOf z.cells 1 = z.cells := by simp [zerosOf]
  have hsp : splice z.cells 0 cs = cs := by simp [splice, hc, hzl]
  have h0 : ¬ (1 * j.size = 0) := by omega
  have h1 : decide (j.size ≤ 16777216) = true := decide_eq_true hj
  have hle : decide (j.size ≤ j.size) = true := decide_eq_true (Nat.le_refl _)
  have hac : (AV.agg cs).cells = cs := rfl
  have hnj : notJunk (.agg cs) = true := rfl
  simp only [evOp, pureOp, readOp, newOp, ht, hd, he, hz, hzj, hzl, nbeq, nble, h0, if_false, Nat.one_mul, h1, hj0, decide_true, Bool.and_true, Bool.true_and, cond_true, List.map_cons, List.map_nil, hzs, afill, hv, hac, hnj, hc, Option.map_some, Nat.zero_mul, Nat.zero_add, hle, hsp]
end

section
variable {C : Ctx} {H : AH} {st xt e : TypeId} {i j : TI} {z : AV}
theorem zOK_ofz (hz : j.zero = some z) (hzj : notJunk z = true) (hzl : z.cells.length = j.size) : zOK j = true := by
  simp [zOK, hz, hzj, hzl]
theorem acells_slice {b o m z' : Nat} {c : ACap} {n z : Nat} {ro : Bool} {vs cs : List AV} (hb : H.get b = some (.cells ro vs)) (hv : (vs.drop o).take (n * z) = cs) (hc : cs.length = n * z) : acells H z n (.slice b o m c z') = some cs := by
  unfold acells
  by_cases h : n * z = 0
  · have : cs = [] := List.eq_nil_of_length_eq_zero (by omega)
    simp only [nbeq, h, decide_true, cond_true, this]
  · simp only [nbeq, h, decide_false, cond_false, hb, hv, hc, decide_true, cond_true]
theorem aappended_z {b o n z' : Nat} {c : ACap} {ro : Bool} {vs cs : List AV} {xi : TI} (hx : C.ti xt = some xi) (hxd : xi.d = .slice e) (hb : H.get b = some (.cells ro vs)) (hv : (vs.drop o).take (n * j.size) = cs) (hc : cs.length = n * j.size) :
    aappended C H j xt (.slice b o n c z') = some (n, cs) := by
  simp only [aappended, hx, hxd, lenOfAV, acells_slice hb hv hc, Option.map_some]

/-- A row that was put together by append, nothing beside it in its block. -/
def AccZ (z : Nat) (H : AH) (v : AV) (n : Nat) (vs : List AV) : Prop := (v = .nils ∧ vs = [] ∧ n = 0) ∨ ∃ b, v = .slice b 0 n (.lo n) z ∧ H.get b = some (.cells false vs) ∧ vs.length = n * z ∧ n ≠ 0
theorem accz_append {v x : AV} {n m : Nat} {vs cs : List AV} (ht : C.ti st = some i) (hd : i.d = .slice e) (he : C.ti e = some j) (hz : j.zero = some z) (hzj : notJunk z = true) (hzl : z.cells.length = j.size) (hj : j.bytes ≤ 64) (hw : WF H)
    (h : AccZ j.size H v n vs) (hx : aappended C H j xt x = some (m, cs)) (hc : cs.length = m * j.size) (hm : m ≠ 0) (ho : allOne cs = true) (hN : n + m ≤ 1000000000) :
    ∃ H', aappend C H [st, xt] [v, x] = some (.slice H.next 0 (n + m) (.lo (n + m)) j.size, H') ∧ H'.get H.next = some (.cells false (vs ++ cs)) ∧ H'.next = H.next + 1 ∧ (∀ b y, H.get b = some y → (∀ o n c z, v ≠ .slice b o n c z) → H'.get b = some y) := by
  have hb1 : (2 * m + 1024) * j.bytes ≤ (2 * 1000000000 + 1024) * 64 := Nat.mul_le_mul (by omega) hj
  have hb2 : (2 * (n + m) + 1024) * j.bytes ≤ (2 * 1000000000 + 1024) * 64 := Nat.mul_le_mul (by omega) hj
  have d1 : decide ((2 * m + 1024) * j.bytes ≤ 281474976710656) = true := decide_eq_true (by omega)
  have d2 : decide ((2 * (n + m) + 1024) * j.bytes ≤ 281474976710656) = true := decide_eq_true (by omega)
  have d3 : decide (m ≤ 4611686018427387904) = true := decide_eq_true (by omega)
  have d4 : decide (n + m ≤ 4611686018427387904) = true := decide_eq_true (by omega)
  have hzk := zOK_ofz hz hzj hzl
  rcases h with ⟨rfl, rfl, rfl⟩ | ⟨b, rfl, h1, h2, h3⟩
  · refine ⟨H.alloc (.cells false cs), ?_, by rw [AH.get_alloc, if_pos rfl, List.nil_append], AH.next_alloc _ _, fun b y hy _ => stay_alloc hw _ b y hy⟩
    simp only [aappend, ht, hd, he, hx, ho, hc, hzk, nbeq, nble, d1, d3, decide_true, Bool.true_and, cond_true, Nat.zero_add]
    rw [if_neg hm]
  · have hne : ¬ n + m ≤ n := by omega
    refine ⟨(H.del b).alloc (.cells false (vs ++ cs)), ?_, by rw [AH.get_alloc, if_pos (show H.next = (H.del b).next from rfl)], rfl, fun k y hy hk => ?_⟩
    · simp only [aappend, ht, hd, he, hx, ho, hc, hzk, nbeq, nble, d2, d4, decide_true, Bool.true_and, cond_true]
      rw [if_neg hm]
      simp only [ACap.low, hne, if_false, h1, Nat.zero_add, h2, decide_true, Bool.true_and, cond_true, List.drop_zero]
    · have hkb : k ≠ b := fun e => hk _ _ _ _ (by rw [e])
      rw [AH.get_alloc, if_neg (by show ¬ k = H.next; have := hw k y hy; omega), AH.get_del, if_neg hkb]; exact hy
/-- Appended to an empty row that was built: anew. -/
theorem append_ex0 {b m : Nat} {x : AV} {cs : List AV} (ht : C.ti st = some i) (hd : i.d = .slice e) (he : C.ti e = some j) (hz : j.zero = some z) (hzj : notJunk z = true) (hzl : z.cells.length = j.size) (hj : j.bytes ≤ 64)
    (hx : aappended C H j xt x = some (m, cs)) (hc : cs.length = m * j.size) (ho : allOne cs = true) (hN : m ≤ 1000000000) :
    aappend C H [st, xt] [.slice b 0 0 (.ex 0) j.size, x] = if m = 0 then some (.slice b 0 0 (.ex 0) j.size, H) else some (.slice H.next 0 m (.lo m) j.size, H.alloc (.cells false cs)) := by
  have hb1 : (2 * m + 1024) * j.bytes ≤ (2 * 1000000000 + 1024) * 64 := Nat.mul_le_mul (by omega) hj
  have d1 : decide ((2 * m + 1024) * j.bytes ≤ 281474976710656) = true := decide_eq_true (by omega)
  have d3 : decide (m ≤ 4611686018427387904) = true := decide_eq_true (by omega)
  have hzk := zOK_ofz hz hzj hzl
  simp only [aappend, ht, hd, he, hx, ho, hc, hzk, nbeq, nble, decide_true, Bool.true_and, cond_true]
  by_cases hm : m = 0
  · rw [if_pos hm, if_pos hm]
  · rw [if_neg hm, if_neg hm]
    have hne : ¬ 0 + m ≤ 0 := by omega
    simp only [Nat.zero_add, d1, d3, decide_true, Bool.true_and, cond_true, ACap.low, show ¬ m ≤ 0 by omega, if_false, acells, Nat.zero_mul, nbeq, Option.map_some, List.nil_append]
end

theorem isStr_one : ∀ (l : List AV), l.all isStr = true → allOne l = true
  | [], _ => rfl
  | a :: l, h => by
    simp only [List.all_cons, Bool.and_eq_true] at h
    rw [allOne, isStr_one l h.2, Bool.and_true]
    cases a <;> simp [isStr] at h <;> rfl

/-- The texts of labels, two by two. -/
theorem labs_len {vs : List AV} {o : Nat} : ∀ {l : Ls}, (l ≠ [] → ∀ i p, l[i]? = some p → vs[o + i * 2]? = some (.str p.1) ∧ vs[o + i * 2 + 1]? = some (.str p.2)) → l ≠ [] → o + l.length * 2 ≤ vs.length := fun {l} h hl => by
  have hpos : 0 < l.length := by
    cases l with
    | nil => exact absurd rfl hl
    | cons a l => simp
  have := (h hl (l.length - 1) _ (List.getElem?_eq_getElem (by omega))).2
  have := (List.getElem?_eq_some_iff.1 this).1
  omega
/-- Labels appended to an empty row: theirs is a block of their own, or nothing. -/
theorem labs_append {H : AH} {b : Nat} {u : AV} {l : Ls} (hw : WF H) (h : LabelsAt H u l) (hN : l.length ≤ 1000000) :
    ∃ v' H', aappend tC H [29, 29] [.slice b 0 0 (.ex 0) 2, u] = some (v', H') ∧ LabelsAt H' v' l ∧ H.next ≤ H'.next ∧ (∀ b y, H.get b = some y → H'.get b = some y) ∧ WF H' := by
  rcases h with ⟨rfl, h1, h2⟩ | ⟨ub, uo, uc, ro, vs, rfl, hb, hs, hne, hl⟩
  · have hx : aappended tC H ⟨.struct #[{ name := "Name", type := 9, offset := 0, embedded := false, tag := "", pkgPath := "", byteOffset := 0 }, { name := "Text", type := 9, offset := 1, embedded := false, tag := "", pkgPath := "", byteOffset := 16 }], 2, 32, (some (.agg [.str [], .str []])), true⟩ 29 u = some (0, []) := by
      simp only [aappended, ti29]
      cases u <;> simp [lenOfAV, AV.one] at h1 h2
      all_goals first
        | (subst h1; simp [acells, lenOfAV, nbeq])
        | simp [acells, lenOfAV, nbeq]
    have := append_ex0 (C := tC) (b := b) ti29 rfl ti71 rfl rfl rfl (by decide) hx rfl rfl (by omega)
    rw [if_pos rfl] at this
    exact ⟨_, _, this, .inl ⟨rfl, rfl, rfl⟩, Nat.le_refl _, fun b y hy => hy, hw⟩
  · have hlen := labs_len (fun _ => hl) hne
    have hl0 : l.length ≠ 0 := fun e => hne (List.eq_nil_of_length_eq_zero e)
    have hcl : ((vs.drop uo).take (l.length * 2)).length = l.length * 2 := by rw [List.length_take, List.length_drop]; omega
    have hx := aappended_z (C := tC) (H := H) (j := ⟨.struct #[{ name := "Name", type := 9, offset := 0, embedded := false, tag := "", pkgPath := "", byteOffset := 0 }, { name := "Text", type := 9, offset := 1, embedded := false, tag := "", pkgPath := "", byteOffset := 16 }], 2, 32, (some (.agg [.str [], .str []])), true⟩) (xt := 29) (n := l.length) (z' := 2) (c := uc) ti29 rfl hb rfl hcl
    have hone : allOne ((vs.drop uo).take (l.length * 2)) = true := isStr_one _ (by
      rw [List.all_eq_true] at hs ⊢
      exact fun x hx => hs x (List.mem_of_mem_drop (List.mem_of_mem_take hx)))
    have := append_ex0 (C := tC) (b := b) ti29 rfl ti71 rfl rfl rfl (by decide) hx hcl hone (by omega)
    rw [if_neg hl0] at this
    have this : aappend tC H [29, 29] [.slice b 0 0 (.ex 0) 2, .slice ub uo l.length uc 2] = some (.slice H.next 0 l.length (.lo l.length) 2, H.alloc (.cells false ((vs.drop uo).take (l.length * 2)))) := this
    refine ⟨_, _, this, .inr ⟨H.next, 0, .lo l.length, false, _, rfl, by rw [AH.get_alloc, if_pos rfl], ?_, hne, fun i p hi => ?_⟩, by rw [AH.next_alloc]; omega, fun b y hy => stay_alloc hw _ b y hy, wf_alloc hw _⟩
    · rw [List.all_eq_true] at hs ⊢
      exact fun x hx => hs x (List.mem_of_mem_drop (List.mem_of_mem_take hx))
    · have hil := (List.getElem?_eq_some_iff.1 hi).1
      obtain ⟨h3, h4⟩ := hl i p hi
      rw [List.getElem?_take_of_lt (by omega), List.getElem?_take_of_lt (by omega), List.getElem?_drop, List.getElem?_drop, Nat.zero_add]
      exact ⟨h3, by rw [← Nat.add_assoc]; exact h4⟩

/-- A slice's room is not less than its length. -/
def capOK : AV → Prop
  | .slice _ _ n c _ => n ≤ c.low
  | _ => True
theorem vec_tail {H : AH} {v : AV} {l : List Rs} (h : VecAt H v l) (hc : capOK v) (hl : 0 < l.length) : ∃ v', aslice tC 22 v (some (.int .i64 1)) none none = some v' ∧ VecAt H v' (l.drop 1) ∧ capOK v' := by
  rcases h with ⟨rfl, _⟩ | ⟨b, o, c, ro, vs, rfl, h1, h2, h3⟩
  · simp at hl
  · have hc : l.length ≤ c.low := hc
    have hd1 : decide (1 ≤ l.length) = true := decide_eq_true hl
    have hmore : (l.length = 1 → l.drop 1 = []) := fun e => List.eq_nil_of_length_eq_zero (by rw [List.length_drop]; omega)
    have tail : l.length ≠ 1 → ∀ c', VecAt H (.slice b (o + 1 * 3) (l.length - 1) c' 3) (l.drop 1) := fun hn c' => .inr ⟨b, o + 1 * 3, c', ro, vs, by rw [List.length_drop], h1, fun e => hn (by have := congrArg List.length e; rw [List.length_drop] at this; simp at this; omega), fun i r hi => by
      rw [List.getElem?_drop] at hi
      obtain ⟨u, h4, h5⟩ := h3 _ _ hi
      exact ⟨u, by rw [show o + 1 * 3 + i * 3 = o + (1 + i) * 3 by omega]; exact h4, h5⟩⟩
    cases c with
    | ex c =>
      have hc : l.length ≤ c := hc
      have hd2 : decide (l.length ≤ c) = true := decide_eq_true hc
      by_cases e : c = 1
      · refine ⟨.slice b o 0 (.ex 0) 3, ?_, .inl ⟨hmore (by omega), rfl, rfl⟩, Nat.le_refl _⟩
        simp only [aslice, ti22, ti58, bnd, nble, nbeq, hd1, hd2, decide_true, Bool.true_and, cond_true, e, if_true]
        simp [hd1, hd2]
        subst e; rw [hd2]; rfl
      · refine ⟨.slice b (o + 1 * 3) (l.length - 1) (.ex (c - 1)) 3, ?_, ?_, by show l.length - 1 ≤ c - 1; omega⟩
        · simp only [aslice, ti22, ti58, bnd, nble, nbeq, hd1, hd2, decide_true, Bool.true_and, cond_true]
          simp [e]
          rw [hd1, hd2]; rfl
        · by_cases e1 : l.length = 1
          · exact .inl ⟨hmore e1, by simp [e1, lenOfAV], rfl⟩
          · exact tail e1 _
    | lo c =>
      have hc : l.length ≤ c := hc
      have hd2 : decide (l.length ≤ c) = true := decide_eq_true hc
      by_cases e : c = 1
      · refine ⟨.empty b, ?_, .inl ⟨hmore (by omega), rfl, rfl⟩, trivial⟩
        simp only [aslice, ti22, ti58, bnd, nble, nbeq, hd1, hd2, decide_true, Bool.true_and, cond_true]
        simp [e]
        subst e; rw [hd1, hd2]; rfl
      · refine ⟨.slice b (o + 1 * 3) (l.length - 1) (.lo (c - 1)) 3, ?_, ?_, by show l.length - 1 ≤ c - 1; omega⟩
        · simp only [aslice, ti22, ti58, bnd, nble, nbeq, hd1, hd2, decide_true, Bool.true_and, cond_true]
          simp [e]
          rw [hd1, hd2]; rfl
        · by_cases e1 : l.length = 1
          · exact .inl ⟨hmore e1, by simp [e1, lenOfAV], rfl⟩
          · exact tail e1 _

def goneC (r : Rs) : Ch := (r.1, 0, false, true)
def hereC (r : Rs) : Ch := (r.1, r.2.1, r.2.2, false)
/-- What changed. -/
def changesM : List Rs → List Rs → List Ch
  | [], [] => []
  | [], s :: ss => hereC s :: changesM [] ss
  | r :: rs, [] => goneC r :: changesM rs []
  | r :: rs, s :: ss =>
    if orderM r.1 s.1 < 0 then goneC r :: changesM rs (s :: ss)
    else if orderM r.1 s.1 = 0 then (if r.2 = s.2 then changesM rs ss else hereC s :: changesM rs ss)
    else hereC s :: changesM (r :: rs) ss
termination_by a b => a.length + b.length
def diffM (a b : List Rs) : List Ch := if vecM a ≠ 0 ∨ vecM b ≠ 0 then [] else changesM a b

theorem okVec_all : ∀ {l : List Rs} {p : Option Ls}, okVec p l = true → ∀ r ∈ l, rightM r = true
  | [], _, _, r, hr => by cases hr
  | x :: xs, p, h, r, hr => by
    simp only [okVec, Bool.and_eq_true] at h
    rcases List.mem_cons.1 hr with rfl | hr
    · exact h.1.1
    · exact okVec_all h.2 r hr
theorem vecM_zero {l : List Rs} (h : vecM l = 0) : l.length ≤ 4096 ∧ okVec none l = true := by
  unfold vecM at h
  split at h
  · cases h
  · rename_i h8
    split at h
    · rename_i ho; exact ⟨by omega, ho⟩
    · cases h

theorem bd33g {u : AV} (hu : u.one = true) : abuild tC 33 [(0, u), (2, .bool true)] = some (.agg [u, .int .i64 0, .bool false, .bool true]) := by
  obtain ⟨h1, h2⟩ := cells_of_one hu
  simp only [abuild, ti33]
  have a1 : ∀ cs, (AV.agg cs).cells = cs := fun _ => rfl
  have a2 : ∀ cs, notJunk (AV.agg cs) = true := fun _ => rfl
  have a3 : ∀ b, (AV.bool b).cells = [.bool b] := fun _ => rfl
  have a4 : ∀ b, notJunk (AV.bool b) = true := fun _ => rfl
  simp [afill, h1, h2, a1, a2, a3, a4, splice, ti29, ti31, ti4, nbeq, nble]
theorem bd33h {u : AV} (hu : u.one = true) (n : Int) (o : Bool) : abuild tC 33 [(0, u), (1, .agg [.int .i64 n, .bool o])] = some (.agg [u, .int .i64 n, .bool o, .bool false]) := by
  obtain ⟨h1, h2⟩ := cells_of_one hu
  simp only [abuild, ti33]
  have a1 : ∀ cs, (AV.agg cs).cells = cs := fun _ => rfl
  have a2 : ∀ cs, notJunk (AV.agg cs) = true := fun _ => rfl
  simp [afill, h1, h2, a1, a2, splice, ti29, ti31, ti4, nbeq, nble]
theorem bs23_1 (F : Fns) (H : AH) (ev : Operand → AV) (dst : Option Tmp) (ty : TypeId) (pos : String) (after : Array Edge) (guard : Option (Nat × Bool)) (x : Operand) (a b c d : AV) (hx : ev x = .agg [a, b, c, d]) :
    evOp tC F H ev { dst, op := .buildSlice 23 1 ⟨[(0, x)]⟩, type := ty, pos, after, guard } = some (.slice H.next 0 1 (.ex 1) 4, H.alloc (.cells false [a, b, c, d])) := evOp_buildSlice1z (cs := [a, b, c, d]) ti23 rfl ti33 rfl rfl rfl (by decide) (by decide) hx rfl

/-- Changes that were put together, in a block of their own. -/
def AccC (n0 : Nat) (K : AH) (w : AV) (out : List Ch) : Prop :=
  (w = .nils ∧ out = []) ∨ ∃ b vs, w = .slice b 0 out.length (.lo out.length) 4 ∧ n0 ≤ b ∧ K.get b = some (.cells false vs) ∧ vs.length = out.length * 4 ∧ out ≠ [] ∧ ∀ i r, out[i]? = some r → ∃ u, (vs.drop (i * 4)).take 4 = chC u r ∧ LabelsAt K u r.1
theorem AccC.chs {n0 : Nat} {K : AH} {w : AV} {out : List Ch} (h : AccC n0 K w out) : ChsAt K w out := by
  rcases h with ⟨rfl, rfl⟩ | ⟨b, vs, rfl, h1, h2, h3, h4, h5⟩
  · exact .inl ⟨rfl, rfl, rfl⟩
  · exact .inr ⟨b, 0, _, false, vs, rfl, h2, h4, fun i r hi => by rw [Nat.zero_add]; exact h5 i r hi⟩
theorem AccC.keep {n0 : Nat} {H K : AH} {w : AV} {out : List Ch} (h : AccC n0 H w out) (hk : ∀ b x, H.get b = some x → K.get b = some x) (hn : H.next ≤ K.next) : AccC n0 K w out := by
  rcases h with h | ⟨b, vs, rfl, h1, h2, h3, h4, h5⟩
  · exact .inl h
  · exact .inr ⟨b, vs, rfl, h1, hk _ _ h2, h3, h4, fun i r hi => let ⟨u, h6, h7⟩ := h5 i r hi; ⟨u, h6, h7.keep (KS.of hk hn)⟩⟩
theorem accC_append {n0 k : Nat} {K : AH} {w u : AV} {out : List Ch} {c : Ch} (hw : WF K) (hn : n0 ≤ K.next) (h : AccC n0 K w out) (hu : LabelsAt K u c.1) (hk : K.get k = some (.cells false (chC u c))) (hN : out.length ≤ 1000000) :
    ∃ w' K', aappend tC K [23, 23] [w, .slice k 0 1 (.ex 1) 4] = some (w', K') ∧ AccC n0 K' w' (out ++ [c]) ∧ K.next ≤ K'.next ∧ (∀ b y, b < n0 → K.get b = some y → K'.get b = some y) := by
  have hx := aappended_z (C := tC) (H := K) (j := ⟨.struct #[{ name := "Labels", type := 29, offset := 0, embedded := false, tag := "", pkgPath := "", byteOffset := 0 }, { name := "Value", type := 31, offset := 1, embedded := true, tag := "", pkgPath := "", byteOffset := 24 }, { name := "Gone", type := 4, offset := 3, embedded := false, tag := "", pkgPath := "", byteOffset := 40 }], 4, 48, (some (.agg [.nils, .int Go.IntKind.i64 (.ofNat 0), .bool false, .bool false])), true⟩) (xt := 23) (n := 1) (z' := 4) (c := .ex 1) (o := 0) (cs := chC u c) ti23 rfl hk rfl rfl
  have hone : allOne (chC u c) = true := by simp [allOne, chC, hu.one, one_int, one_bool]
  have fin : ∀ (vs : List AV), AccZ 4 K w out.length vs → (∀ b o n c z, w = .slice b o n c z → n0 ≤ b) → (∀ L, KS K L → ∀ i r, out[i]? = some r → ∃ u, (vs.drop (i * 4)).take 4 = chC u r ∧ LabelsAt L u r.1) → (∀ b ro ws, K.get b = some (.cells ro ws) → ws ≠ [] → (ws.all isStr = true ∨ ro = true) → ∀ o n c z, w ≠ .slice b o n c z) → vs.length = out.length * 4 →
      ∃ w' K', aappend tC K [23, 23] [w, .slice k 0 1 (.ex 1) 4] = some (w', K') ∧ AccC n0 K' w' (out ++ [c]) ∧ K.next ≤ K'.next ∧ (∀ b y, b < n0 → K.get b = some y → K'.get b = some y) := fun vs ha hb hl hs hvl => by
    obtain ⟨K', e1, e2, e3, e4⟩ := accz_append (C := tC) (st := 23) (xt := 23) (m := 1) ti23 rfl ti33 rfl rfl rfl (by decide) hw ha hx rfl (by decide) hone (by omega)
    have hks : KS K K' := ⟨fun b ro ws h1 h2 h3 => e4 b _ h1 (hs b ro ws h1 h2 h3), by omega⟩
    refine ⟨_, K', e1, .inr ⟨K.next, vs ++ chC u c, by simp, hn, e2, by simp [hvl, chC]; omega, by simp, fun i r hi => ?_⟩, by omega, fun b y hb2 hy => e4 b y hy fun o n c z e => by have := hb b o n c z e; omega⟩
    by_cases hil : i < out.length
    · rw [List.getElem?_append_left hil] at hi
      obtain ⟨u', h6, h7⟩ := hl K' hks i r hi
      refine ⟨u', ?_, h7⟩
      rw [List.drop_append_of_le_length (by omega), List.take_append_of_le_length (by rw [List.length_drop]; omega)]
      exact h6
    · have hi2 : i = out.length := by
        have := (List.getElem?_eq_some_iff.1 hi).1
        simp at this; omega
      subst hi2
      rw [List.getElem?_append_right (Nat.le_refl _), Nat.sub_self] at hi
      cases Option.some.inj hi
      refine ⟨u, ?_, hu.keep hks⟩
      rw [← hvl, List.drop_left]; rfl
  rcases h with ⟨rfl, rfl⟩ | ⟨b, vs, rfl, h1, h2, h3, h4, h5⟩
  · exact fin [] (.inl ⟨rfl, rfl, rfl⟩) (fun _ _ _ _ _ e => by cases e) (fun L _ i r hi => by simp at hi) (fun _ _ _ _ _ _ _ _ _ _ e => by cases e) rfl
  · have hz : out.length ≠ 0 := fun e => h4 (List.eq_nil_of_length_eq_zero e)
    refine fin vs (.inr ⟨b, rfl, h2, h3, hz⟩) (fun _ _ _ _ _ e => by cases e; exact h1) (fun L hL i r hi => let ⟨u, h6, h7⟩ := h5 i r hi; ⟨u, h6, h7.keep hL⟩) (fun b' ro ws g1 g2 g3 o n c z e => ?_) h3
    cases e
    rw [h2] at g1; cases g1
    rcases g3 with g3 | g3
    · obtain ⟨u', h6, _⟩ := h5 0 _ (List.getElem?_eq_getElem (by omega))
      have h7 := get_of_take h6 (j := 1) rfl
      have := List.all_eq_true.1 g3 _ (List.mem_of_getElem? h7)
      cases this
    · cases g3

set_option maxHeartbeats 2000000 in
theorem clone41 (N : Bd) (H : AH) {u : AV} {l : Ls} (hu : LabelsAt H u l) (hl : l.length ≤ 1000000) : AC tC N 0 41 [u] H fun r K => LabelsAt K r l ∧ H.next ≤ K.next ∧ ∀ b y, H.get b = some y → K.get b = some y := by
  refine AC.wf0 fun hwf => ?_
  refine AC.by (n := 8) (rs := [.tmp 2]) tOK fn41 rfl rfl rfl rfl ?_
  have e0 : (PT.ofList .leaf 0 [u]).get 0 = some u := rfl
  have hw1 := wf_alloc hwf (.cells false [])
  have hs := hu.keep (KS.of (stay_alloc hwf (.cells false [])) (by rw [AH.next_alloc]; omega))
  obtain ⟨v', H', ha, hl', hn, hst, _⟩ := labs_append (b := H.next) hw1 hs hl
  have fin : LabelsAt H' v' l ∧ H.next ≤ H'.next ∧ ∀ b y, H.get b = some y → H'.get b = some y := ⟨hl', Nat.le_trans (by rw [AH.next_alloc]; omega) hn, fun b y hy => hst b y (stay_alloc hwf _ b y hy)⟩
  cases u with
  | nils =>
    refine zs2 @eq29b @e0 ?_
    exact fr1 ⟨hu, Nat.le_refl _, fun _ _ h => h⟩
  | slice b o n c z =>
    refine zs4 @bs29 @eq29a @e0 @ha ?_
    exact fr1 fin
  | empty b =>
    refine zs4 @bs29 @eq29c @e0 @ha ?_
    exact fr1 fin
  | _ => have := hu.len; cases this

/-- The head of a vector. -/
theorem VecAt.head {H : AH} {v : AV} {r : Rs} {rs : List Rs} (h : VecAt H v (r :: rs)) :
    ∃ b o c ro vs u, v = .slice b o (rs.length + 1) c 3 ∧ H.get b = some (.cells ro vs) ∧ LabelsAt H u r.1 ∧ vs[o]? = some u ∧ (vs.drop (o + 1)).take 2 = [.int .i64 r.2.1, .bool r.2.2] ∧ (∀ k, aindexAddr tC 22 (.slice b o (rs.length + 1) c 3) (.int k 0) = some (.ptr b o)) := by
  obtain ⟨b, o, c, ro, vs, u, e, h1, h2, _, h3, h4⟩ := h.at (i := 0) (r := r) rfl
  rw [Nat.zero_mul, Nat.add_zero] at h3 h4
  refine ⟨b, o, c, ro, vs, u, e, h1, h2, h3, h4, fun k => ?_⟩
  have := ix22 b o (rs.length + 1) 3 0 c k (by omega)
  rwa [Nat.zero_mul, Nat.add_zero] at this

set_option maxHeartbeats 16000000 in
theorem changes14 (N : Bd) (H : AH) {v u : AV} {a b : List Rs} (ha : VecAt H v a) (hb : VecAt H u b) (ca : capOK v) (cb : capOK u) (hs : ∀ r, r ∈ a ∨ r ∈ b → Short r.1 ∧ r.1.length ≤ 1000000) : AC tC N 0 14 [v, u] H fun r K => ChsAt K r (diffM a b) ∧ H.next ≤ K.next ∧ ∀ b y, H.get b = some y → K.get b = some y := by
  refine AC.wf0 fun hwf => ?_
  refine AC.by (n := 90) (rs := [.tmp 4]) tOK fn14 rfl rfl rfl rfl ?_
  have e0 : (PT.ofList .leaf 0 [v, u]).get 0 = some v := rfl
  have e1 : (PT.ofList .leaf 0 [v, u]).get 1 = some u := rfl
  have nil0 : ∀ K, ChsAt K .nils [] := fun K => .inl ⟨rfl, rfl, rfl⟩
  refine zs1 @e0 ?_
  refine AOs.cq tOK fn33 ok33 (vector33 N H ha) ?_
  rintro r K ⟨rfl, rfl⟩
  by_cases h1 : vecM a = 0
  case neg =>
    have d1 : decide (vecM a = 0) = false := decide_eq_false h1
    refine zs1 @d1 ?_
    exact fnPost_ret1 gt1 ⟨by rw [diffM, if_pos (.inl h1)]; exact nil0 _, Nat.le_refl _, fun _ _ h => h⟩
  have d1 : decide (vecM a = 0) = true := decide_eq_true h1
  refine zs2 @e1 @d1 ?_
  refine AOs.cq tOK fn33 ok33 (vector33 N K hb) ?_
  rintro r K2 ⟨rfl, rfl⟩
  by_cases h2 : vecM b = 0
  case neg =>
    have d2 : decide (vecM b = 0) = false := decide_eq_false h2
    refine zs1 @d2 ?_
    exact fnPost_ret1 gt1 ⟨by rw [diffM, if_pos (.inr h2)]; exact nil0 _, Nat.le_refl _, fun _ _ h => h⟩
  have d2 : decide (vecM b = 0) = true := decide_eq_true h2
  have hdf : diffM a b = changesM a b := by rw [diffM, if_neg (by omega)]
  have ⟨la, oa⟩ := vecM_zero h1
  have ⟨lb, ob⟩ := vecM_zero h2
  rw [hdf]
  refine zs1 @d2 ?_
  refine AW.loop (fun m T K => (∀ b y, K2.get b = some y → K.get b = some y) ∧ K2.next ≤ K.next ∧ ∃ a' b' out va vb w, m = a'.length + b'.length ∧ T.get 0 = some va ∧ T.get 1 = some vb ∧ T.get 5 = some w ∧ VecAt K2 va a' ∧ VecAt K2 vb b' ∧ capOK va ∧ capOK vb ∧ (∀ r ∈ a', rightM r = true) ∧ (∀ r ∈ b', rightM r = true) ∧ (∀ r, r ∈ a' ∨ r ∈ b' → Short r.1 ∧ r.1.length ≤ 1000000) ∧ out.length + a'.length + b'.length ≤ 8192 ∧ AccC K2.next K w out ∧ changesM a b = out ++ changesM a' b') ?_ (a.length + b.length)
    ⟨fun b y h => h, Nat.le_refl _, a, b, [], v, u, .nils, rfl, by simp [PT.get_set, e0], by simp [PT.get_set, e1], by simp [PT.get_set], ha, hb, ca, cb, okVec_all oa, okVec_all ob, hs, by simp; omega, .inl ⟨rfl, rfl⟩, rfl⟩
  rintro m T K ⟨hk, hn, a', b', out, va, vb, w, rfl, g0, g1, g5, hva, hvb, cva, cvb, ra, rb, hsh, hN, hacc, hch⟩
  refine AW.wf0 fun wfK => ?_
  have lva := hva.len
  have lvb := hvb.len
  match a', b', hva, hvb, lva, lvb, ra, rb, hsh, hN, hch with
  | [], [], hva, hvb, lva, lvb, ra, rb, hsh, hN, hch =>
    have lva : lenOfAV va = some 0 := lva
    have lvb : lenOfAV vb = some 0 := lvb
    have z1 : decide ((0 : Int) < 0) = false := by decide
    refine zs6 @al22 @g0 @g1 @g5 @lva @lvb ?_
    exact fnPost_ret1 gt1 ⟨by rw [hch, show changesM [] [] = [] by simp [changesM], List.append_nil]; exact hacc.chs, hn, hk⟩
  | r :: rs, [], hva, hvb, lva, lvb, ra, rb, hsh, hN, hch =>
    have lva : lenOfAV va = some (rs.length + 1) := lva
    have lvb : lenOfAV vb = some 0 := lvb
    have z1 : decide ((0 : Int) < ((rs.length + 1 : Nat) : Int)) = true := decide_eq_true (by omega)
    have z2 : decide (((rs.length + 1 : Nat) : Int) = 0) = false := decide_eq_false (by omega)
    have z3 : decide ((-1 : Int) < 0) = true := by decide
    have z4 : decide ((0 : Int) < -1) = false := by decide
    have z5 : decide ((-1 : Int) ≤ 0) = true := by decide
    have z6 : decide ((0 : Int) ≤ -1) = false := by decide
    have z7 : decide ((-1 : Int) = 0) = false := by decide
    obtain ⟨ab, ao, ac, aro, avs, au, rfl, ag, hau, ax, ay, aix⟩ := hva.head
    have agK := hk _ _ ag
    refine zs8 @al22 @ld29 @fa58_0 @g0 @g1 @g5 @lva (And.intro @lvb (And.intro @z1 (And.intro @z2 (And.intro @aix (And.intro @agK @ax))))) ?_
    refine AOs.cq tOK fn41 ok41 (clone41 N K (hau.keep (KS.of hk hn)) (hsh r (.inl (List.mem_cons_self))).2).wf ?_
    rintro lu K3 ⟨⟨hlu, n3, k3⟩, wf3⟩
    have hbd := bd33g hlu.one
    have bsf := fun dst ty pos after guard x (ev : Operand → AV) hx => bs23_1 F0 K3 ev dst ty pos after guard x lu (.int .i64 0) (.bool false) (.bool true) hx
    generalize hK4 : K3.alloc (.cells false [lu, .int .i64 0, .bool false, .bool true]) = K4 at bsf
    have st4 : ∀ b y, K3.get b = some y → K4.get b = some y := by rw [← hK4]; exact stay_alloc wf3 _
    have n4 : K4.next = K3.next + 1 := by rw [← hK4]; rfl
    have wf4 : WF K4 := by rw [← hK4]; exact wf_alloc wf3 _
    have g4 : K4.get K3.next = some (.cells false [lu, .int .i64 0, .bool false, .bool true]) := by rw [← hK4, AH.get_alloc, if_pos rfl]
    have acc4 := hacc.keep (fun b y hy => st4 b y (k3 b y hy)) (by omega)
    have hlu4 := hlu.keep (KS.of st4 (by omega))
    obtain ⟨w', K5, happ, acc5, n5, k5⟩ := accC_append (c := goneC r) (u := lu) wf4 (by omega) acc4 hlu4 g4 (by omega)
    obtain ⟨va', hsl, hva', cva'⟩ := vec_tail hva cva (by simp)
    with_reducible repeat' first | refine za ?_ | refine AW.drawG tOK (F0_ok _ _ _) QuietF0 (by kernel_rfl) (fun m hm => ?_) | refine QO.nil ?_ | refine QO.guardT wu (by simp only [PT.get_set, Nat.reduceEqDiff, reduceIte]; rfl) (by first | rfl | decide | assumption) ?_ | refine QO.guardF wu (by simp only [PT.get_set, Nat.reduceEqDiff, reduceIte]; rfl) (by first | rfl | decide | assumption) wu ?_ | refine Same.mk ?_ | ((first | refine AOs.o1 tOK ?_ | refine QO.op1E wu ?_); refine zu5 @g0 @hbd @bsf @happ @hsl ?_) | fail
    refine ⟨_, ?_, fun b y hy => k5 b y (hwf b y hy) (st4 b y (k3 b y (hk b y hy))), by dsimp only; omega, rs, _, out ++ [goneC r], va', _, w', rfl, gt1, (by simp only [PT.get_set, Nat.reduceEqDiff, reduceIte, g1]), gt1, hva', hvb, cva', cvb, fun x hx => ra x (List.mem_cons_of_mem _ hx), rb, fun x hx => hsh x (hx.imp_left (List.mem_cons_of_mem _)), ?_, acc5.keep (fun _ _ h => h) (by dsimp only; omega), ?_⟩
    · simp
    · simp at hN ⊢; omega
    · rw [hch]; simp [changesM]
  | [], s :: ss, hva, hvb, lva, lvb, ra, rb, hsh, hN, hch =>
    have lva : lenOfAV va = some 0 := lva
    have lvb : lenOfAV vb = some (ss.length + 1) := lvb
    have z1 : decide ((0 : Int) < ((ss.length + 1 : Nat) : Int)) = true := decide_eq_true (by omega)
    have z2 : decide ((0 : Int) < 0) = false := by decide
    have z3 : decide ((1 : Int) < 0) = false := by decide
    have z4 : decide ((0 : Int) < 1) = true := by decide
    have z5 : decide ((1 : Int) ≤ 0) = false := by decide
    have z6 : decide ((0 : Int) ≤ 1) = true := by decide
    have z7 : decide ((0 : Int) = 0) = true := by decide
    obtain ⟨bb, bo, bc, bro, bvs, bu, rfl, bg, hbu, bx, by_, bix⟩ := hvb.head
    refine zs6 @al22 @g0 @g1 @lva @lvb @z1 ?_
    refine AW.drawG tOK (F0_ok _ _ _) QuietF0 (by kernel_rfl) (fun m hm => ?_)
    with_reducible repeat' first | refine zb ?_ | refine QO.nil ?_ | refine QO.guardU wu (by simp only [PT.get_set, Nat.reduceEqDiff, reduceIte]; rfl) wu wu ?_ | refine QO.guardF wu (by simp only [PT.get_set, Nat.reduceEqDiff, reduceIte]; rfl) (by first | rfl | decide | assumption) wu ?_ | refine Same.mk ?_ | (refine QO.op1E wu ?_; refine zr0 ?_) | fail
    have wfm : WF ⟨K.t, m⟩ := fun b o h => Nat.lt_of_lt_of_le (wfK b o h) hm
    have hkm : ∀ b y, K2.get b = some y → (⟨K.t, m⟩ : AH).get b = some y := hk
    have haccm := hacc.keep (K := ⟨K.t, m⟩) (fun _ _ h => h) hm
    have hnm : K2.next ≤ (⟨K.t, m⟩ : AH).next := Nat.le_trans hn hm
    generalize (⟨K.t, m⟩ : AH) = Km at wfm hkm haccm hnm ⊢
    have bgm := hkm _ _ bg
    refine AW.drawN tOK (Qs := []) [0, 1, 2, 3, 4, 6, 7, 8, 9, 5, 10, 11, 12, 13] (by kernel_rfl) pk1 ?_
    with_reducible repeat' first | (refine zd ?_; refine zu6 @g1 @g5 @bix @bgm @bx @by_ ?_; refine Same.mk ?_) | fail
    refine DN.callP tOK (fs := []) (cs := []) rfl fn41 ok41 rfl ar1 (clone41 N Km (hbu.keep (KS.of hkm hnm)) (hsh s (.inr (List.mem_cons_self))).2).wf ?_
    rintro lu K3 ⟨⟨hlu, n3, k3⟩, wf3⟩
    have bg3 := k3 _ _ bgm
    constructor
    · exact zg (And.intro @g0 (And.intro @g1 (And.intro @g5 (And.intro @bix (And.intro @bg3 (And.intro @bx @by_))))))
    have hbd := bd33h hlu.one s.2.1 s.2.2
    have bsf := fun dst ty pos after guard x (ev : Operand → AV) hx => bs23_1 F0 K3 ev dst ty pos after guard x lu (.int .i64 s.2.1) (.bool s.2.2) (.bool false) hx
    generalize hK4 : K3.alloc (.cells false [lu, .int .i64 s.2.1, .bool s.2.2, .bool false]) = K4 at bsf
    have st4 : ∀ b y, K3.get b = some y → K4.get b = some y := by rw [← hK4]; exact stay_alloc wf3 _
    have n4 : K4.next = K3.next + 1 := by rw [← hK4]; rfl
    have wf4 : WF K4 := by rw [← hK4]; exact wf_alloc wf3 _
    have g4 : K4.get K3.next = some (.cells false [lu, .int .i64 s.2.1, .bool s.2.2, .bool false]) := by rw [← hK4, AH.get_alloc, if_pos rfl]
    have acc4 := haccm.keep (fun b y hy => st4 b y (k3 b y hy)) (by omega)
    have hlu4 := hlu.keep (KS.of st4 (by omega))
    obtain ⟨w', K5, happ, acc5, n5, k5⟩ := accC_append (c := hereC s) (u := lu) wf4 (by omega) acc4 hlu4 g4 (by simp at hN; omega)
    obtain ⟨vb', hsl, hvb', cvb'⟩ := vec_tail hvb cvb (by simp)
    with_reducible repeat' first | refine za ?_ | refine DN.nil tOK ?_ | (refine zd ?_; refine zr3 @hbd @bsf @happ ?_; refine Same.mk ?_) | ((first | refine AOs.o1 tOK ?_ | refine DN.actE tOK (by kernel_rfl) wu wu ?_); refine zu4 @g1 @bsf @happ @hsl ?_) | fail
    refine ⟨_, ?_, fun b y hy => k5 b y (hwf b y hy) (st4 b y (k3 b y (hkm b y hy))), by omega, _, ss, out ++ [hereC s], _, vb', w', rfl, (by simp only [PT.get_set, Nat.reduceEqDiff, reduceIte, g0]), gt1, gt1, hva, hvb', cva, cvb', ra, fun x hx => rb x (List.mem_cons_of_mem _ hx), fun x hx => hsh x (hx.imp_right (List.mem_cons_of_mem _)), ?_, acc5, ?_⟩
    · simp
    · simp at hN ⊢; omega
    · rw [hch]; simp [changesM]
  | r :: rs, s :: ss, hva, hvb, lva, lvb, ra, rb, hsh, hN, hch =>
    have lva : lenOfAV va = some (rs.length + 1) := lva
    have lvb : lenOfAV vb = some (ss.length + 1) := lvb
    have z1 : decide ((0 : Int) < ((rs.length + 1 : Nat) : Int)) = true := decide_eq_true (by omega)
    have z2 : decide (((rs.length + 1 : Nat) : Int) = 0) = false := decide_eq_false (by omega)
    have z3 : decide (((ss.length + 1 : Nat) : Int) = 0) = false := decide_eq_false (by omega)
    obtain ⟨ab, ao, ac, aro, avs, au, rfl, ag, hau, ax, ay, aix⟩ := hva.head
    obtain ⟨bb, bo, bc, bro, bvs, bu, rfl, bg, hbu, bx, by_, bix⟩ := hvb.head
    have agK := hk _ _ ag
    have bgK := hk _ _ bg
    have hcm := compM_right (ra r List.mem_cons_self) (rb s List.mem_cons_self)
    refine zs8 @al22 @g0 @g1 @lva @lvb @z1 @z2 @z3 ?_
    refine AW.drawN tOK (Qs := [8]) [0, 1, 2, 3, 4, 5, 6, 7, 8, 9] (by kernel_rfl) pk1 ?_
    with_reducible repeat' first | (refine zd ?_; refine zr8 @ld29 @fa58_0 @g0 @g1 @aix @agK @ax (And.intro @bix (And.intro @bgK @bx)) ?_; refine Same.mk ?_) | fail
    refine DN.callQ (fs := []) (cs := []) rfl fn40 ok40 rfl ar1 (compare40 N K (hau.keep (KS.of hk hn)) (hbu.keep (KS.of hk hn))) ?_
    rw [hcm]
    by_cases hlt : orderM r.1 s.1 < 0
    · have y1 : decide (orderM r.1 s.1 < 0) = true := decide_eq_true hlt
      have y2 : decide ((0 : Int) < orderM r.1 s.1) = false := decide_eq_false (by omega)
      have y3 : decide (orderM r.1 s.1 = 0) = false := decide_eq_false (by omega)
      have y4 : decide (orderM r.1 s.1 ≤ 0) = true := decide_eq_true (by omega)
      have y5 : decide ((0 : Int) ≤ orderM r.1 s.1) = false := decide_eq_false (by omega)
      with_reducible repeat' first | refine za ?_ | refine DN.nil tOK ?_ | (refine DN.fl1E wu wu ?_; refine zr0 ?_; refine Same.mk ?_) | (refine AOs.o1 tOK ?_; refine zr8 @ld29 @fa58_0 @g0 @g5 @y1 @aix @agK @ax ?_) | fail
      refine AOs.cq tOK fn41 ok41 (clone41 N K (hau.keep (KS.of hk hn)) (hsh r (.inl (List.mem_cons_self))).2).wf ?_
      rintro lu K3 ⟨⟨hlu, n3, k3⟩, wf3⟩
      have hbd := bd33g hlu.one
      have bsf := fun dst ty pos after guard x (ev : Operand → AV) hx => bs23_1 F0 K3 ev dst ty pos after guard x lu (.int .i64 0) (.bool false) (.bool true) hx
      generalize hK4 : K3.alloc (.cells false [lu, .int .i64 0, .bool false, .bool true]) = K4 at bsf
      have st4 : ∀ b y, K3.get b = some y → K4.get b = some y := by rw [← hK4]; exact stay_alloc wf3 _
      have n4 : K4.next = K3.next + 1 := by rw [← hK4]; rfl
      have wf4 : WF K4 := by rw [← hK4]; exact wf_alloc wf3 _
      have g4 : K4.get K3.next = some (.cells false [lu, .int .i64 0, .bool false, .bool true]) := by rw [← hK4, AH.get_alloc, if_pos rfl]
      have acc4 := hacc.keep (fun b y hy => st4 b y (k3 b y hy)) (by omega)
      have hlu4 := hlu.keep (KS.of st4 (by omega))
      obtain ⟨w', K5, happ, acc5, n5, k5⟩ := accC_append (c := goneC r) (u := lu) wf4 (by omega) acc4 hlu4 g4 (by omega)
      obtain ⟨va', hsl, hva', cva'⟩ := vec_tail hva cva (by simp)
      with_reducible repeat' first | refine za ?_ | refine AW.drawG tOK (F0_ok _ _ _) QuietF0 (by kernel_rfl) (fun m hm => ?_) | refine QO.nil ?_ | refine QO.guardT wu (by simp only [PT.get_set, Nat.reduceEqDiff, reduceIte]; rfl) (by first | rfl | decide | assumption) ?_ | refine QO.guardF wu (by simp only [PT.get_set, Nat.reduceEqDiff, reduceIte]; rfl) (by first | rfl | decide | assumption) wu ?_ | refine Same.mk ?_ | ((first | refine AOs.o1 tOK ?_ | refine QO.op1E wu ?_); refine zr8 @g0 @y2 @y3 @y4 @y5 @hbd @bsf (And.intro @happ @hsl) ?_) | fail
      refine ⟨_, ?_, fun b y hy => k5 b y (hwf b y hy) (st4 b y (k3 b y (hk b y hy))), by dsimp only; omega, rs, _, out ++ [goneC r], va', _, w', rfl, gt1, (by simp only [PT.get_set, Nat.reduceEqDiff, reduceIte, g1]), gt1, hva', hvb, cva', cvb, fun x hx => ra x (List.mem_cons_of_mem _ hx), rb, fun x hx => hsh x (hx.imp_left (List.mem_cons_of_mem _)), ?_, acc5.keep (fun _ _ h => h) (by dsimp only; omega), ?_⟩
      · simp
      · simp at hN ⊢; omega
      · rw [hch]; simp [changesM, hlt]
    have y1 : decide (orderM r.1 s.1 < 0) = false := decide_eq_false hlt
    have y5 : decide ((0 : Int) ≤ orderM r.1 s.1) = true := decide_eq_true (by omega)
    by_cases h0 : orderM r.1 s.1 = 0
    · have y2 : decide ((0 : Int) < orderM r.1 s.1) = false := decide_eq_false (by omega)
      have y3 : decide (orderM r.1 s.1 = 0) = true := decide_eq_true h0
      have y4 : decide (orderM r.1 s.1 ≤ 0) = true := decide_eq_true (by omega)
      obtain ⟨va', hsla, hva', cva'⟩ := vec_tail hva cva (by simp)
      by_cases hv : r.2 = s.2
      · obtain ⟨vb', hslb, hvb', cvb'⟩ := vec_tail hvb cvb (by simp)
        have hsla : aslice tC 22 (.slice ab ao (rs.length + 1) ac 3) (some (.int .i64 1)) none none = some va' := hsla
        have hslb : aslice tC 22 (.slice bb bo (ss.length + 1) bc 3) (some (.int .i64 1)) none none = some vb' := hslb
        have q : ((r.2.1 == s.2.1) && (r.2.2 == s.2.2)) = true := by rw [hv]; simp
        with_reducible repeat' first | refine za ?_ | refine DN.nil tOK ?_ | (refine DN.fl1E wu wu ?_; refine zr0 ?_; refine Same.mk ?_) | (refine AOs.o1 tOK ?_; refine zr1 @y1 ?_) | fail
        refine AW.drawG tOK (F0_ok _ _ _) QuietF0 (by kernel_rfl) (fun m hm => ?_)
        have agm : AH.get { t := K.t, next := m } ab = some (.cells aro avs) := agK
        have bgm' : AH.get { t := K.t, next := m } bb = some (.cells bro bvs) := bgK
        with_reducible repeat' first | refine za ?_ | refine QO.nil ?_ | refine QO.guardT wu (by simp only [PT.get_set, Nat.reduceEqDiff, reduceIte]; rfl) (by first | rfl | decide | assumption) ?_ | refine Same.mk ?_ | ((first | refine AOs.o1 tOK ?_ | refine QO.op1E wu ?_); refine zr8 @ld31 @fa58_1 @agm @bgm' @g0 @g1 @y2 (And.intro @y3 (And.intro @y4 (And.intro @y5 (And.intro @aix (And.intro @ay (And.intro @bix (And.intro @by_ (And.intro @neV (And.intro @q (And.intro @hsla @hslb)))))))))) ?_) | fail
        refine ⟨_, ?_, hk, by dsimp only; omega, rs, ss, out, va', vb', w, rfl, gt1, gt1, (by simp only [PT.get_set, Nat.reduceEqDiff, reduceIte, g5]), hva', hvb', cva', cvb', fun x hx => ra x (List.mem_cons_of_mem _ hx), fun x hx => rb x (List.mem_cons_of_mem _ hx), fun x hx => hsh x (hx.imp (List.mem_cons_of_mem _) (List.mem_cons_of_mem _)), ?_, hacc.keep (fun _ _ h => h) (by dsimp only; omega), ?_⟩
        · simp; omega
        · simp at hN ⊢; omega
        · rw [hch]; simp [changesM, h0, hv]
      · have q : ((r.2.1 == s.2.1) && (r.2.2 == s.2.2)) = false := by
          cases hq : ((r.2.1 == s.2.1) && (r.2.2 == s.2.2)) with
          | false => rfl
          | true =>
            simp only [Bool.and_eq_true, beq_iff_eq] at hq
            exact absurd (Prod.ext hq.1 hq.2) hv
        with_reducible repeat' first | refine za ?_ | refine DN.nil tOK ?_ | (refine DN.fl1E wu wu ?_; refine zr0 ?_; refine Same.mk ?_) | (refine AOs.o1 tOK ?_; refine zr1 @y1 ?_) | fail
        refine AW.drawG tOK (F0_ok _ _ _) QuietF0 (by kernel_rfl) (fun m hm => ?_)
        have agm : AH.get { t := K.t, next := m } ab = some (.cells aro avs) := agK
        have bgm' : AH.get { t := K.t, next := m } bb = some (.cells bro bvs) := bgK
        with_reducible repeat' first | refine zb ?_ | refine QO.nil ?_ | refine QO.guardT wu (by simp only [PT.get_set, Nat.reduceEqDiff, reduceIte]; rfl) (by first | rfl | decide | assumption) ?_ | refine Same.mk ?_ | (refine QO.op1E wu ?_; refine zr8 @ld31 @fa58_1 @agm @bgm' @g0 @g1 @y2 (And.intro @y3 (And.intro @aix (And.intro @ay (And.intro @bix (And.intro @by_ (And.intro @neV @q)))))) ?_) | fail
        have wfm : WF ⟨K.t, m⟩ := fun b o h => Nat.lt_of_lt_of_le (wfK b o h) hm
        have hkm : ∀ b y, K2.get b = some y → (⟨K.t, m⟩ : AH).get b = some y := hk
        have haccm := hacc.keep (K := ⟨K.t, m⟩) (fun _ _ h => h) hm
        have hnm : K2.next ≤ (⟨K.t, m⟩ : AH).next := Nat.le_trans hn hm
        generalize (⟨K.t, m⟩ : AH) = Km at wfm hkm haccm hnm ⊢
        have bgm := hkm _ _ bg
        refine AW.drawN tOK (Qs := []) [0, 1, 2, 3, 4, 6, 7, 8, 9, 5, 10, 11, 12, 13] (by kernel_rfl) pk1 ?_
        with_reducible repeat' first | (refine zd ?_; refine zu6 @g1 @g5 @bix @bgm @bx @by_ ?_; refine Same.mk ?_) | fail
        refine DN.callP tOK (fs := []) (cs := []) rfl fn41 ok41 rfl ar1 (clone41 N Km (hbu.keep (KS.of hkm hnm)) (hsh s (.inr (List.mem_cons_self))).2).wf ?_
        rintro lu K3 ⟨⟨hlu, n3, k3⟩, wf3⟩
        have bg3 := k3 _ _ bgm
        constructor
        · exact zg (And.intro @g0 (And.intro @g1 (And.intro @g5 (And.intro @bix (And.intro @bg3 (And.intro @bx @by_))))))
        have hbd := bd33h hlu.one s.2.1 s.2.2
        have bsf := fun dst ty pos after guard x (ev : Operand → AV) hx => bs23_1 F0 K3 ev dst ty pos after guard x lu (.int .i64 s.2.1) (.bool s.2.2) (.bool false) hx
        generalize hK4 : K3.alloc (.cells false [lu, .int .i64 s.2.1, .bool s.2.2, .bool false]) = K4 at bsf
        have st4 : ∀ b y, K3.get b = some y → K4.get b = some y := by rw [← hK4]; exact stay_alloc wf3 _
        have n4 : K4.next = K3.next + 1 := by rw [← hK4]; rfl
        have wf4 : WF K4 := by rw [← hK4]; exact wf_alloc wf3 _
        have g4 : K4.get K3.next = some (.cells false [lu, .int .i64 s.2.1, .bool s.2.2, .bool false]) := by rw [← hK4, AH.get_alloc, if_pos rfl]
        have acc4 := haccm.keep (fun b y hy => st4 b y (k3 b y hy)) (by omega)
        have hlu4 := hlu.keep (KS.of st4 (by omega))
        obtain ⟨w', K5, happ, acc5, n5, k5⟩ := accC_append (c := hereC s) (u := lu) wf4 (by omega) acc4 hlu4 g4 (by simp at hN; omega)
        obtain ⟨vb', hsl, hvb', cvb'⟩ := vec_tail hvb cvb (by simp)
        with_reducible repeat' first | refine za ?_ | refine DN.nil tOK ?_ | (refine zd ?_; refine zr3 @hbd @bsf @happ ?_; refine Same.mk ?_) | ((first | refine AOs.o1 tOK ?_ | refine DN.actE tOK (by kernel_rfl) wu wu ?_); refine zr8 @g0 @g1 @y4 @y5 @hsla @bsf @happ @hsl ?_) | fail
        refine ⟨_, ?_, fun b y hy => k5 b y (hwf b y hy) (st4 b y (k3 b y (hkm b y hy))), by omega, rs, ss, out ++ [hereC s], va', vb', w', rfl, gt1, gt1, gt1, hva', hvb', cva', cvb', fun x hx => ra x (List.mem_cons_of_mem _ hx), fun x hx => rb x (List.mem_cons_of_mem _ hx), fun x hx => hsh x (hx.imp (List.mem_cons_of_mem _) (List.mem_cons_of_mem _)), ?_, acc5, ?_⟩
        · simp; omega
        · simp at hN ⊢; omega
        · rw [hch]; simp [changesM, h0, hv]
    · have y2 : decide ((0 : Int) < orderM r.1 s.1) = true := decide_eq_true (by omega)
      have y3 : decide (orderM r.1 s.1 = 0) = false := decide_eq_false h0
      have y4 : decide (orderM r.1 s.1 ≤ 0) = false := decide_eq_false (by omega)
      with_reducible repeat' first | refine za ?_ | refine DN.nil tOK ?_ | (refine DN.fl1E wu wu ?_; refine zr0 ?_; refine Same.mk ?_) | (refine AOs.o1 tOK ?_; refine zr1 @y1 ?_) | fail
      refine AW.drawG tOK (F0_ok _ _ _) QuietF0 (by kernel_rfl) (fun m hm => ?_)
      with_reducible repeat' first | refine zb ?_ | refine QO.nil ?_ | refine QO.guardU wu (by simp only [PT.get_set, Nat.reduceEqDiff, reduceIte]; rfl) wu wu ?_ | refine QO.guardF wu (by simp only [PT.get_set, Nat.reduceEqDiff, reduceIte]; rfl) (by first | rfl | decide | assumption) wu ?_ | refine Same.mk ?_ | (refine QO.op1E wu ?_; refine zr1 @y2 ?_) | fail
      have wfm : WF ⟨K.t, m⟩ := fun b o h => Nat.lt_of_lt_of_le (wfK b o h) hm
      have hkm : ∀ b y, K2.get b = some y → (⟨K.t, m⟩ : AH).get b = some y := hk
      have haccm := hacc.keep (K := ⟨K.t, m⟩) (fun _ _ h => h) hm
      have hnm : K2.next ≤ (⟨K.t, m⟩ : AH).next := Nat.le_trans hn hm
      generalize (⟨K.t, m⟩ : AH) = Km at wfm hkm haccm hnm ⊢
      have bgm := hkm _ _ bg
      refine AW.drawN tOK (Qs := []) [0, 1, 2, 3, 4, 6, 7, 8, 9, 5, 10, 11, 12, 13] (by kernel_rfl) pk1 ?_
      with_reducible repeat' first | (refine zd ?_; refine zu6 @g1 @g5 @bix @bgm @bx @by_ ?_; refine Same.mk ?_) | fail
      refine DN.callP tOK (fs := []) (cs := []) rfl fn41 ok41 rfl ar1 (clone41 N Km (hbu.keep (KS.of hkm hnm)) (hsh s (.inr (List.mem_cons_self))).2).wf ?_
      rintro lu K3 ⟨⟨hlu, n3, k3⟩, wf3⟩
      have bg3 := k3 _ _ bgm
      constructor
      · exact zg (And.intro @g0 (And.intro @g1 (And.intro @g5 (And.intro @bix (And.intro @bg3 (And.intro @bx @by_))))))
      have hbd := bd33h hlu.one s.2.1 s.2.2
      have bsf := fun dst ty pos after guard x (ev : Operand → AV) hx => bs23_1 F0 K3 ev dst ty pos after guard x lu (.int .i64 s.2.1) (.bool s.2.2) (.bool false) hx
      generalize hK4 : K3.alloc (.cells false [lu, .int .i64 s.2.1, .bool s.2.2, .bool false]) = K4 at bsf
      have st4 : ∀ b y, K3.get b = some y → K4.get b = some y := by rw [← hK4]; exact stay_alloc wf3 _
      have n4 : K4.next = K3.next + 1 := by rw [← hK4]; rfl
      have wf4 : WF K4 := by rw [← hK4]; exact wf_alloc wf3 _
      have g4 : K4.get K3.next = some (.cells false [lu, .int .i64 s.2.1, .bool s.2.2, .bool false]) := by rw [← hK4, AH.get_alloc, if_pos rfl]
      have acc4 := haccm.keep (fun b y hy => st4 b y (k3 b y hy)) (by omega)
      have hlu4 := hlu.keep (KS.of st4 (by omega))
      obtain ⟨w', K5, happ, acc5, n5, k5⟩ := accC_append (c := hereC s) (u := lu) wf4 (by omega) acc4 hlu4 g4 (by simp at hN; omega)
      obtain ⟨vb', hsl, hvb', cvb'⟩ := vec_tail hvb cvb (by simp)
      with_reducible repeat' first | refine za ?_ | refine DN.nil tOK ?_ | (refine zd ?_; refine zr3 @hbd @bsf @happ ?_; refine Same.mk ?_) | ((first | refine AOs.o1 tOK ?_ | refine DN.actE tOK (by kernel_rfl) wu wu ?_); refine zr6 @g1 @y4 @y5 @bsf @happ @hsl ?_) | fail
      refine ⟨_, ?_, fun b y hy => k5 b y (hwf b y hy) (st4 b y (k3 b y (hkm b y hy))), by omega, r :: rs, ss, out ++ [hereC s], _, vb', w', rfl, (by simp only [PT.get_set, Nat.reduceEqDiff, reduceIte, g0]), gt1, gt1, hva, hvb', cva, cvb', ra, fun x hx => rb x (List.mem_cons_of_mem _ hx), fun x hx => hsh x (hx.imp_right (List.mem_cons_of_mem _)), ?_, acc5, ?_⟩
      · simp
      · simp at hN ⊢; omega
      · rw [hch]; simp [changesM, h0, hlt]

theorem drop_cons {α : Type} {l : List α} {i : Nat} {x : α} (h : l[i]? = some x) : l.drop i = x :: l.drop (i + 1) := by
  rw [List.drop_eq_getElem_cons (List.getElem?_eq_some_iff.1 h).1]
  rw [List.getElem?_eq_getElem (List.getElem?_eq_some_iff.1 h).1] at h
  rw [Option.some.inj h]

end Go.Proofs.YtapokkpdgfpokaaGreat
