/- What the rows of a region are, by their places. -/
import Derived.Test.YtgihociajfgohaaGreatDoorAb18
namespace Go.AB
set_option linter.unusedSimpArgs false

theorem Fr.allocAt {ρ0 ρ : Names} {H0 H H2 : AH} {w0 w : World} (hF : Fr ρ0 H0 w0 ρ H w) (ob : Obj) (d : Nat) (o : AO) (s : Seg) (b : Nat) (hb : H0.next ≤ b) (hs : s.blk = w.heap.size)
    (hget : ∀ k, H2.get k = if k = b then some o else H.get k) (hn : H2.next = H.next) : Fr ρ0 H0 w0 (ρ.put b s) H2 { w with heap := w.heap.push ob, drawn := d } where
  same k hk := by
    have : k ≠ b := by omega
    rw [show (ρ.put b s) k = ρ k by simp [Names.put, this]]
    exact hF.same k hk
  next := by rw [hn]; exact hF.next
  size := by have := hF.size; simp; omega
  keep k hk hno := by
    have := hF.size
    show (w.heap.push ob)[k]? = _
    rw [Array.getElem?_push, if_neg (by omega)]
    exact hF.keep k hk hno
  own k o1 s1 g1 r1 e1 := by
    rw [hget] at g1
    have := hF.size
    split at g1
    · rename_i hk
      subst hk
      rw [Names.put_same] at e1; cases e1
      left; omega
    · rename_i hk
      rw [show (ρ.put b s) k = ρ k by simp [Names.put, hk]] at e1
      exact hF.own k o1 s1 g1 r1 e1
  dom k o1 hk g1 := by
    rw [hget, if_neg (by omega)] at g1
    exact hF.dom k o1 hk g1
  os := hF.os
  tape := hF.tape
  output := hF.output

def Tof (rs : List Row) (T' : PT AV) (k : Nat) : PT AV :=
  match rs[k]? with
  | some r => r.T
  | none => T'

def Sof (rs : List Row) (s' : Stage) (k : Nat) : Stage :=
  match rs[k]? with
  | some r => r.s
  | none => s'

def KindOK (C : Ctx) (F : Fns) (G n0 : Nat) (ops : Array Oper) (news : List (Nat × AO)) (r : Row) : Prop :=
  (r.kd = .skip ∧ awanted ops r.T r.o = some false ∧ r.v = .tuple []) ∨
  (awanted ops r.T r.o = some true ∧ (
    (r.kd = .pure ∧ pureOp C (aeval G r.T) r.o = some r.v) ∨
    (r.kd = .read ∧ readOp C (viewOf n0 news r.anc r.s) (aeval G r.T) r.o = some r.v) ∨
    (∃ ao mk, r.kd = .new ao ∧ newOp C (aeval G r.T) r.o = some (ao, mk) ∧ r.v = mk (n0 + r.i)) ∨
    (∃ H', r.kd = .chain H' ∧ chainOp C F (viewOf n0 news r.anc r.s) (aeval G r.T) r.o = some (r.v, H') ∧ r.s.done &&& r.anc = r.s.done)))

theorem mkRow_spec {C : Ctx} {F : Fns} {G n0 : Nat} {ops : Array Oper} {news : List (Nat × AO)} {i anc : Nat} {T : PT AV} {s : Stage} {o : Oper} {r : Row} (h : mkRow C F G n0 ops news i anc T s o = some r) :
    r.o = o ∧ r.i = i ∧ r.anc = anc ∧ r.T = T ∧ r.s = s ∧ KindOK C F G n0 ops news r := by
  unfold mkRow at h
  split at h
  · cases h
  · rename_i hw
    simp only [Option.some.injEq] at h; subst h
    exact ⟨rfl, rfl, rfl, rfl, rfl, .inl ⟨rfl, hw, rfl⟩⟩
  · rename_i hw
    split at h
    · rename_i v hv
      simp only [Option.some.injEq] at h; subst h
      exact ⟨rfl, rfl, rfl, rfl, rfl, .inr ⟨hw, .inl ⟨rfl, hv⟩⟩⟩
    · split at h
      · rename_i v hv
        simp only [Option.some.injEq] at h; subst h
        exact ⟨rfl, rfl, rfl, rfl, rfl, .inr ⟨hw, .inr (.inl ⟨rfl, hv⟩)⟩⟩
      · split at h
        · rename_i ao mk hv
          simp only [Option.some.injEq] at h; subst h
          exact ⟨rfl, rfl, rfl, rfl, rfl, .inr ⟨hw, .inr (.inr (.inl ⟨ao, mk, rfl, hv, rfl⟩))⟩⟩
        · split at h
          · rename_i v H' hv
            cases hb : Nat.beq (s.done &&& anc) s.done
            · rw [hb] at h; cases h
            · rw [hb] at h
              simp only [cond_true, Option.some.injEq] at h; subst h
              exact ⟨rfl, rfl, rfl, rfl, rfl, .inr ⟨hw, .inr (.inr (.inr ⟨H', rfl, hv, Nat.eq_of_beq_eq_true hb⟩))⟩⟩
          · cases h

theorem mkRows_spec {C : Ctx} {F : Fns} {G n n0 : Nat} {ops : Array Oper} : ∀ {l : List (Oper × Nat)} {i : Nat} {news nw : List (Nat × AO)} {T T' : PT AV} {s s' : Stage} {rs : List Row},
    mkRows C F G n n0 ops l i news T s = some (rs, nw, T', s') →
    rs.length = l.length ∧ nw = news ++ rs.flatMap newsOf ∧ Tof rs T' 0 = T ∧ Sof rs s' 0 = s ∧
    ∀ k o anc, l[k]? = some (o, anc) → ∃ r, rs[k]? = some r ∧ mkRow C F G n0 ops (news ++ (rs.take k).flatMap newsOf) (i + k) anc (Tof rs T' k) (Sof rs s' k) o = some r ∧
      Tof rs T' (k + 1) = aput n (Tof rs T' k) o.dst r.v ∧ Sof rs s' (k + 1) = stageOf r
  | [], i, news, nw, T, T', s, s', rs, h => by
    simp only [mkRows, Option.some.injEq, Prod.mk.injEq] at h
    obtain ⟨rfl, rfl, rfl, rfl⟩ := h
    refine ⟨rfl, by simp, rfl, rfl, fun k o anc hk => by simp at hk⟩
  | (o, anc) :: l, i, news, nw, T, T', s, s', rs, h => by
    simp only [mkRows] at h
    split at h
    · cases h
    · rename_i r hr
      split at h
      · cases h
      · rename_i rs' x hx
        obtain ⟨nw', T'', s''⟩ := x
        simp only [Option.some.injEq, Prod.mk.injEq] at h
        obtain ⟨rfl, rfl, rfl, rfl⟩ := h
        obtain ⟨h1, h2, h3, h4, h5⟩ := mkRows_spec hx
        obtain ⟨g1, g2, g3, g4, g5, _⟩ := mkRow_spec hr
        refine ⟨by simp [h1], by rw [h2]; simp, by simp [Tof, g4], by simp [Sof, g5], fun k o' anc' hk => ?_⟩
        cases k with
        | zero =>
          simp at hk
          obtain ⟨rfl, rfl⟩ := hk
          refine ⟨r, by simp, ?_, ?_, ?_⟩
          · simpa [Tof, Sof, g4, g5] using hr
          · have : Tof (r :: rs') T'' (0 + 1) = Tof rs' T'' 0 := by simp [Tof]
            rw [this, h3]; simp [Tof, g4]
          · have : Sof (r :: rs') s'' (0 + 1) = Sof rs' s'' 0 := by simp [Sof]
            rw [this, h4]
        | succ k =>
          obtain ⟨r', q1, q2, q3, q4⟩ := h5 k o' anc' (by simpa using hk)
          refine ⟨r', by simpa using q1, ?_, ?_, ?_⟩
          · have e1 : Tof (r :: rs') T'' (k + 1) = Tof rs' T'' k := by simp [Tof]
            have e2 : Sof (r :: rs') s'' (k + 1) = Sof rs' s'' k := by simp [Sof]
            rw [e1, e2, show i + (k + 1) = i + 1 + k by omega]
            simpa using q2
          · have e1 : Tof (r :: rs') T'' (k + 1) = Tof rs' T'' k := by simp [Tof]
            have e2 : Tof (r :: rs') T'' (k + 1 + 1) = Tof rs' T'' (k + 1) := by simp [Tof]
            rw [e1, e2]; exact q3
          · have e2 : Sof (r :: rs') s'' (k + 1 + 1) = Sof rs' s'' (k + 1) := by simp [Sof]
            rw [e2]; exact q4

/-- An operation waits for earlier ones alone. -/
theorem anc_lt {ops : Array Oper} (hD : DrawOK ops) : ∀ (i j : Nat), ((Region.before ops).getD i 0).testBit j = true → j < i := by
  intro i
  induction i using Nat.strongRecOn with
  | ind i ih =>
    intro j h
    obtain ⟨o, ho, e, he, hb, h⟩ := before_spec ops h
    have := hD.edges i o ho e he hb
    rcases h with h | ⟨h, _⟩
    · omega
    · have := ih e.on (by omega) j h; omega

/-- The facts of a region's rows. -/
structure Facts (C : Ctx) (F : Fns) (G n n0 : Nat) (ops : Array Oper) (T0 T' : PT AV) (s0 s' : Stage) (rs : List Row) (news : List (Nat × AO)) : Prop where
  len : rs.length = ops.size
  T0 : Tof rs T' 0 = T0
  S0 : Sof rs s' 0 = s0
  row : ∀ k r, rs[k]? = some r → ops[k]? = some r.o ∧ r.i = k ∧ r.anc = (Region.before ops).getD k 0 ∧ r.T = Tof rs T' k ∧ r.s = Sof rs s' k ∧ KindOK C F G n0 ops news r ∧
    Tof rs T' (k + 1) = aput n (Tof rs T' k) r.o.dst r.v ∧ Sof rs s' (k + 1) = stageOf r
  isNew : ∀ (a : Nat) (x : AO), (a, x) ∈ news → ∃ r, rs[a]? = some r ∧ r.kd = .new x
  inNew : ∀ (a : Nat) (r : Row) (x : AO), rs[a]? = some r → r.kd = .new x → (a, x) ∈ news

theorem mem_newsOf {r : Row} {a : Nat} {x : AO} : (a, x) ∈ newsOf r ↔ a = r.i ∧ r.kd = .new x := by
  unfold newsOf
  split
  · rename_i ao h
    simp only [List.mem_singleton, Prod.mk.injEq, h, Kind.new.injEq]
    constructor
    · rintro ⟨rfl, rfl⟩; exact ⟨rfl, rfl⟩
    · rintro ⟨rfl, rfl⟩; exact ⟨rfl, rfl⟩
  · rename_i h
    simp only [List.not_mem_nil, false_iff, not_and]
    intro _ e
    exact h x e

theorem facts {C : Ctx} {F : Fns} {G n n0 : Nat} {ops : Array Oper} (hD : DrawOK ops) {T0 T' : PT AV} {s0 s' : Stage} {rs : List Row} {news : List (Nat × AO)}
    (h : mkRows C F G n n0 ops (ops.toList.zip (Region.before ops).toList) 0 [] T0 s0 = some (rs, news, T', s')) : Facts C F G n n0 ops T0 T' s0 s' rs news := by
  obtain ⟨h1, h2, h3, h4, h5⟩ := mkRows_spec h
  simp only [List.nil_append] at h2 h5
  have hlen : rs.length = ops.size := by rw [h1, List.length_zip]; have := hD.size; simp [this]
  have hzip : ∀ k o, ops[k]? = some o → (ops.toList.zip (Region.before ops).toList)[k]? = some (o, (Region.before ops).getD k 0) := by
    intro k o ho
    have hk : k < ops.size := (Array.getElem?_eq_some_iff.1 ho).1
    rw [List.getElem?_zip_eq_some]
    refine ⟨by simpa using ho, ?_⟩
    rw [Array.getD_eq_getD_getElem?]
    have : k < (Region.before ops).size := by have := hD.size; omega
    simp [this]
  have base : ∀ (k : Nat) (r : Row), rs[k]? = some r → ∃ o, ops[k]? = some o ∧ mkRow C F G n0 ops ((rs.take k).flatMap AB.newsOf) k ((Region.before ops).getD k 0) (Tof rs T' k) (Sof rs s' k) o = some r ∧
      Tof rs T' (k + 1) = aput n (Tof rs T' k) o.dst r.v ∧ Sof rs s' (k + 1) = stageOf r := by
    intro k r hr
    have hk : k < rs.length := (List.getElem?_eq_some_iff.1 hr).1
    have hk' : k < ops.size := by omega
    have ho : ops[k]? = some ops[k] := by simp [hk']
    obtain ⟨r', g1, g2, g3, g4⟩ := h5 k _ _ (hzip k _ ho)
    rw [hr] at g1; cases g1
    rw [Nat.zero_add] at g2
    exact ⟨_, ho, g2, g3, g4⟩
  have hi : ∀ (k : Nat) (r : Row), rs[k]? = some r → r.i = k := fun k r hr => let ⟨_, _, h, _⟩ := base k r hr; (mkRow_spec h).2.1
  refine ⟨hlen, h3, h4, fun k r hr => ?_, fun a x hm => ?_, fun a r x hr hx => ?_⟩
  · obtain ⟨o, ho, hm, hT, hS⟩ := base k r hr
    obtain ⟨q1, q2, q3, q4, q5, q6⟩ := mkRow_spec hm
    subst q1
    refine ⟨ho, q2, q3, q4, q5, ?_, hT, hS⟩
    have hview : viewOf n0 ((rs.take k).flatMap AB.newsOf) r.anc r.s = viewOf n0 news r.anc r.s := by
      unfold viewOf
      have : news = (rs.take k).flatMap AB.newsOf ++ (rs.drop k).flatMap AB.newsOf := by rw [← List.flatMap_append, List.take_append_drop, h2]
      rw [this]
      refine (addNews_append _ _ fun a x hm => ?_).symm
      obtain ⟨r2, hr2, hm2⟩ := List.mem_flatMap.1 hm
      obtain ⟨j, hj⟩ := List.getElem?_of_mem hr2
      rw [List.getElem?_drop] at hj
      have e := (mem_newsOf.1 hm2).1
      rw [hi _ _ hj] at e
      cases hb : r.anc.testBit a
      · rfl
      · rw [q3] at hb
        have := anc_lt hD k a hb
        omega
    unfold KindOK at q6 ⊢
    rw [hview] at q6
    exact q6
  · rw [h2] at hm
    obtain ⟨r, hr, hm⟩ := List.mem_flatMap.1 hm
    obtain ⟨j, hj⟩ := List.getElem?_of_mem hr
    obtain ⟨e, hk⟩ := mem_newsOf.1 hm
    rw [hi j r hj] at e
    subst e
    exact ⟨r, hj, hk⟩
  · rw [h2]
    exact List.mem_flatMap.2 ⟨r, List.mem_of_getElem? hr, mem_newsOf.2 ⟨(hi a r hr).symm, hx⟩⟩

section
variable {C : Ctx} {F : Fns} {G n n0 : Nat} {ops : Array Oper} {T0 T' : PT AV} {s0 s' : Stage} {rs : List Row} {news : List (Nat × AO)}

theorem Facts.once (f : Facts C F G n n0 ops T0 T' s0 s' rs news) : Once news := by
  intro a x y hx hy
  obtain ⟨r, h1, h2⟩ := f.isNew a x hx
  obtain ⟨r', h3, h4⟩ := f.isNew a y hy
  rw [h1] at h3; cases h3
  rw [h2] at h4; cases h4; rfl

/-- Between two places without a chain row the stage is the same. -/
theorem Facts.stage_same (f : Facts C F G n n0 ops T0 T' s0 s' rs news) {p : Nat} : ∀ (d : Nat), p + d ≤ rs.length → (∀ k r, p ≤ k → k < p + d → rs[k]? = some r → isChain r.kd = false) → Sof rs s' (p + d) = Sof rs s' p
  | 0, _, _ => rfl
  | d + 1, hd, h => by
    have hk : p + d < rs.length := by omega
    have hr : rs[p + d]? = some rs[p + d] := List.getElem?_eq_getElem hk
    obtain ⟨_, _, _, _, hs, _, _, hS⟩ := f.row _ _ hr
    rw [← Nat.add_assoc, hS]
    have := h (p + d) _ (by omega) (by omega) hr
    unfold stageOf
    split
    · rename_i H' hc; rw [hc] at this; cases this
    · rw [hs]
      exact Facts.stage_same f d (by omega) fun k r h1 h2 h3 => h k r h1 (by omega) h3

theorem Facts.stage_eq (f : Facts C F G n n0 ops T0 T' s0 s' rs news) {p q : Nat} (hp : p ≤ rs.length) (hq : q ≤ rs.length) (h : ∀ k r, rs[k]? = some r → isChain r.kd = true → (k < p ↔ k < q)) : Sof rs s' p = Sof rs s' q := by
  rcases Nat.le_total p q with h1 | h1
  · obtain ⟨d, rfl⟩ := Nat.le.dest h1
    refine (f.stage_same d hq fun k r g1 g2 g3 => ?_).symm
    cases hc : isChain r.kd
    · rfl
    · have := h k r g3 hc; omega
  · obtain ⟨d, rfl⟩ := Nat.le.dest h1
    refine f.stage_same d hp fun k r g1 g2 g3 => ?_
    cases hc : isChain r.kd
    · rfl
    · have := h k r g3 hc; omega

/-- A stage's place among all. -/
theorem Facts.stage_mem (f : Facts C F G n n0 ops T0 T' s0 s' rs news) : ∀ p, p ≤ rs.length → Sof rs s' p ∈ allStages s0 rs
  | 0, _ => by rw [f.S0]; simp [allStages]
  | p + 1, hp => by
    have hr : rs[p]? = some rs[p] := List.getElem?_eq_getElem (by omega)
    obtain ⟨_, _, _, _, hs, _, _, hS⟩ := f.row _ _ hr
    cases hc : isChain (rs[p]).kd
    · rw [f.stage_same (p := p) 1 hp fun k r g1 g2 g3 => by
        obtain rfl : k = p := by omega
        rw [hr] at g3; cases g3; exact hc]
      exact Facts.stage_mem f p (by omega)
    · rw [hS]
      unfold allStages
      simp only [List.mem_cons, List.mem_map, List.mem_filter]
      exact .inr ⟨_, ⟨List.mem_of_getElem? hr, hc⟩, rfl⟩

theorem Facts.stage_bits (f : Facts C F G n n0 ops T0 T' s0 s' rs news) (h0 : s0.cm = 0) (h1 : s0.done = 0) : ∀ p, p ≤ rs.length →
    (∀ j, (Sof rs s' p).done.testBit j = true ↔ j < p ∧ ∃ r, rs[j]? = some r ∧ isChain r.kd = true) ∧
    (∀ j, (Sof rs s' p).cm.testBit j = true → ∃ k r, k < p ∧ rs[k]? = some r ∧ isChain r.kd = true ∧ r.anc.testBit j = true)
  | 0, _ => by
    rw [f.S0, h0, h1]
    simp
  | p + 1, hp => by
    have hr : rs[p]? = some rs[p] := List.getElem?_eq_getElem (by omega)
    obtain ⟨_, hi, _, _, hs, _, _, hS⟩ := f.row _ _ hr
    obtain ⟨g1, g2⟩ := Facts.stage_bits f h0 h1 p (by omega)
    rw [hS]
    unfold stageOf
    split
    · rename_i H' hc
      have hch : isChain (rs[p]).kd = true := by rw [hc]; rfl
      simp only [Nat.testBit_or, Bool.or_eq_true, hs, hi]
      refine ⟨fun j => ?_, fun j hj => ?_⟩
      · rw [g1, Nat.testBit_two_pow]
        constructor
        · rintro (⟨h, r⟩ | h)
          · exact ⟨by omega, r⟩
          · simp at h; subst h; exact ⟨by omega, _, hr, hch⟩
        · rintro ⟨h, r⟩
          by_cases e : p = j
          · right; simpa using e
          · left; exact ⟨by omega, r⟩
      · rcases hj with h | h
        · obtain ⟨k, r, h1, h2⟩ := g2 j h
          exact ⟨k, r, by omega, h2⟩
        · exact ⟨p, _, by omega, hr, hch, h⟩
    · rename_i hc
      have hch : isChain (rs[p]).kd = false := by
        cases hk : (rs[p]).kd with
        | chain H' => exact absurd hk (hc H')
        | _ => rfl
      rw [hs]
      refine ⟨fun j => ?_, fun j hj => ?_⟩
      · rw [g1]
        constructor
        · rintro ⟨h, r⟩; exact ⟨by omega, r⟩
        · rintro ⟨h, r, h2, h3⟩
          refine ⟨?_, r, h2, h3⟩
          by_cases e : j = p
          · subst e; rw [hr] at h2; cases h2; rw [hch] at h3; cases h3
          · omega
      · obtain ⟨k, r, h1, h2⟩ := g2 j hj
        exact ⟨k, r, by omega, h2⟩

/-- Between two places without a writer of a temporary it holds the same. -/
theorem Facts.tmp_same (f : Facts C F G n n0 ops T0 T' s0 s' rs news) {d p : Nat} : ∀ (k : Nat), p + k ≤ rs.length → (∀ j r, p ≤ j → j < p + k → rs[j]? = some r → r.o.dst ≠ some d) → (Tof rs T' (p + k)).get d = (Tof rs T' p).get d
  | 0, _, _ => rfl
  | k + 1, hk, h => by
    have hr : rs[p + k]? = some rs[p + k] := List.getElem?_eq_getElem (by omega)
    obtain ⟨_, _, _, _, _, _, hT, _⟩ := f.row _ _ hr
    rw [← Nat.add_assoc, hT, ← Facts.tmp_same f k (by omega) fun j r h1 h2 h3 => h j r h1 (by omega) h3]
    have := h (p + k) _ (by omega) (by omega) hr
    unfold aput
    split
    · rfl
    · rename_i e he
      rw [he] at this
      cases Nat.blt e n
      · rfl
      · simp only [cond_true, PT.get_set]
        rw [if_neg (fun e' => this (by rw [e']))]

theorem Facts.tmp_lt (f : Facts C F G n n0 ops T0 T' s0 s' rs news) (h0 : ∀ d v, T0.get d = some v → d < n) : ∀ p, p ≤ rs.length → ∀ d v, (Tof rs T' p).get d = some v → d < n
  | 0, _, d, v, h => by rw [f.T0] at h; exact h0 d v h
  | p + 1, hp, d, v, h => by
    have hr : rs[p]? = some rs[p] := List.getElem?_eq_getElem (by omega)
    obtain ⟨_, _, _, _, _, _, hT, _⟩ := f.row _ _ hr
    rw [hT] at h
    unfold aput at h
    split at h
    · exact Facts.tmp_lt f h0 p (by omega) d v h
    · rename_i e he
      cases hb : Nat.blt e n
      · rw [hb] at h; exact Facts.tmp_lt f h0 p (by omega) d v h
      · rw [hb] at h
        simp only [cond_true, PT.get_set] at h
        split at h
        · rename_i e'; rw [e']; exact Nat.le_of_ble_eq_true hb
        · exact Facts.tmp_lt f h0 p (by omega) d v h
end

end Go.AB
