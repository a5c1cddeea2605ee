/- Group: a row of changes among the arguments; the law of a nil group answers true; no condition. -/
import Derived.Test.YtapokkpdgfpokaaGreatNilWalk
open Go Go.AB Go.Proofs
namespace Go.Proofs.YtapokkpdgfpokaaGreat
set_option linter.unusedSimpArgs false
set_option linter.unusedVariables false
set_option maxRecDepth 100000

theorem c4 : Tryz.prog.cellsOf 4 = 1 := by kernel_rfl
theorem c2 : Tryz.prog.cellsOf 2 = 1 := by kernel_rfl
theorem c9 : Tryz.prog.cellsOf 9 = 1 := by kernel_rfl
theorem c29 : Tryz.prog.cellsOf 29 = 1 := by kernel_rfl
theorem c31 : Tryz.prog.cellsOf 31 = 2 := by kernel_rfl
theorem c33 : Tryz.prog.cellsOf 33 = 4 := by kernel_rfl
theorem c71 : Tryz.prog.cellsOf 71 = 2 := by kernel_rfl
theorem u2 : Tryz.prog.underlying 2 = some (.int .i64) := by kernel_rfl
theorem u4 : Tryz.prog.underlying 4 = some .bool := by kernel_rfl
theorem u9 : Tryz.prog.underlying 9 = some .string := by kernel_rfl
theorem u23 : Tryz.prog.underlying 23 = some (.slice 33) := by kernel_rfl
theorem u29 : Tryz.prog.underlying 29 = some (.slice 71) := by kernel_rfl
theorem u31 : ∃ f0 f1, Tryz.prog.underlying 31 = some (.struct #[f0, f1]) ∧ f0.type = 2 ∧ f0.offset = 0 ∧ f1.type = 4 ∧ f1.offset = 1 := ⟨_, _, Tryz.underlying31, rfl, rfl, rfl, rfl⟩
theorem u33 : ∃ f0 f1 f2, Tryz.prog.underlying 33 = some (.struct #[f0, f1, f2]) ∧ f0.type = 29 ∧ f0.offset = 0 ∧ f1.type = 31 ∧ f1.offset = 1 ∧ f2.type = 4 ∧ f2.offset = 3 := ⟨_, _, _, Tryz.underlying33, rfl, rfl, rfl, rfl, rfl, rfl⟩
theorem u71 : ∃ f0 f1, Tryz.prog.underlying 71 = some (.struct #[f0, f1]) ∧ f0.type = 9 ∧ f0.offset = 0 ∧ f1.type = 9 ∧ f1.offset = 1 := ⟨_, _, Tryz.underlying71, rfl, rfl, rfl, rfl⟩

def strAt (vs : List AV) (i : Nat) : List UInt8 :=
  match vs[i]? with
  | some (AV.str s) => s
  | _ => []

section
variable {X : Type} {H : AH}

theorem has_label {k : Nat} {d : DataW X} {xs : List AV} (h : Has Tryz.prog H (k + 2) 71 d xs) : ∃ s t, xs = [.str s, .str t] := by
  obtain ⟨f0, f1, hu, t0, o0, t1, o1⟩ := u71
  unfold Has at h
  rw [hu] at h
  obtain ⟨ds, _, hl, hd, hf⟩ := h
  rw [c71] at hl
  match xs, hl, ds, hd with
  | [a, b], _, [x, y], _ =>
    have h0 := hf 0 f0 x (by simp) (by simp)
    have h1 := hf 1 f1 y (by simp) (by simp)
    rw [t0, o0, c9] at h0
    rw [t1, o1, c9] at h1
    unfold Has at h0 h1
    rw [u9] at h0 h1
    obtain ⟨s, _, _, e0⟩ := h0
    obtain ⟨t, _, _, e1⟩ := h1
    simp at e0 e1
    exact ⟨s, t, by rw [e0, e1]⟩

theorem has_labels {k : Nat} {d : DataW X} {xs : List AV} (h : Has Tryz.prog H (k + 3) 29 d xs) : ∃ v l, xs = [v] ∧ v.one = true ∧ LabelsAt H v l := by
  unfold Has at h
  rw [u29] at h
  rcases h with ⟨_, rfl⟩ | ⟨_, rfl⟩ | ⟨b, es, sp, vs, rfl, _, rfl, hb, hl, hx⟩
  · exact ⟨_, [], rfl, rfl, .inl ⟨.inl rfl, rfl⟩⟩
  · exact ⟨_, [], rfl, rfl, .inl ⟨.inr rfl, rfl⟩⟩
  · rw [c71] at hl hx
    have key : ∀ i, i < es.length → ∃ s t, vs[i * 2]? = some (.str s) ∧ vs[i * 2 + 1]? = some (.str t) := by
      intro i hi
      obtain ⟨x, hxi⟩ : ∃ x, (es ++ sp)[i]? = some x := ⟨_, List.getElem?_eq_getElem (by rw [List.length_append]; omega)⟩
      obtain ⟨s, t, e⟩ := has_label (hx i x hxi)
      have e0 := congrArg (fun l : List AV => l[0]?) e
      have e1 := congrArg (fun l : List AV => l[1]?) e
      simp only [List.getElem?_take, List.getElem?_drop] at e0 e1
      exact ⟨s, t, by simpa using e0, by simpa using e1⟩
    refine ⟨_, (List.range es.length).map fun i => (strAt vs (i * 2), strAt vs (i * 2 + 1)), rfl, rfl, .inr ⟨b, 0, _, true, vs, by simp [c71]; rfl, hb, fun i p hp => ?_⟩⟩
    have hi : i < es.length := by
      have := (List.getElem?_eq_some_iff.1 hp).1
      simpa using this
    obtain ⟨s, t, h1, h2⟩ := key i hi
    rw [List.getElem?_map, List.getElem?_range hi] at hp
    simp only [Option.map_some, Option.some.injEq, strAt, h1, h2] at hp
    subst hp
    exact ⟨by simpa using h1, by simpa using h2⟩

theorem has_change {k : Nat} {d : DataW X} {xs : List AV} (h : Has Tryz.prog H (k + 4) 33 d xs) : ∃ v n o g l, xs = [v, .int .i64 n, .bool o, .bool g] ∧ v.one = true ∧ LabelsAt H v l := by
  obtain ⟨f0, f1, f2, hu, t0, o0, t1, o1, t2, o2⟩ := u33
  unfold Has at h
  rw [hu] at h
  obtain ⟨ds, _, hl, hd, hf⟩ := h
  rw [c33] at hl
  match xs, hl, ds, hd with
  | [a, b, c, e], _, [x, y, z], _ =>
    have h0 := hf 0 f0 x (by simp) (by simp)
    have h1 := hf 1 f1 y (by simp) (by simp)
    have h2 := hf 2 f2 z (by simp) (by simp)
    rw [t0, o0, c29] at h0
    rw [t1, o1, c31] at h1
    rw [t2, o2, c4] at h2
    obtain ⟨v, l, e0, hv, hl⟩ := has_labels h0
    obtain ⟨g0, g1, hu1, s0, p0, s1, p1⟩ := u31
    unfold Has at h1 h2
    rw [hu1] at h1
    rw [u4] at h2
    obtain ⟨g, _, e2⟩ := h2
    obtain ⟨ds1, _, hl1, hd1, hf1⟩ := h1
    match ds1, hd1 with
    | [y0, y1], _ =>
      have q0 := hf1 0 g0 y0 (by simp) (by simp)
      have q1 := hf1 1 g1 y1 (by simp) (by simp)
      rw [s0, p0, c2] at q0
      rw [s1, p1, c4] at q1
      unfold Has at q0 q1
      rw [u2] at q0
      rw [u4] at q1
      obtain ⟨m, _, _, m0⟩ := q0
      obtain ⟨o, _, m1⟩ := q1
      simp at e0 e2 m0 m1
      exact ⟨v, m, o, g, l, by rw [e0, e2, m0, m1], hv, hl⟩

theorem has_changes {k : Nat} {d : DataW X} {v : AV} (h : Has Tryz.prog H (k + 5) 23 d [v]) : ∃ n, ChangesAt H v n := by
  unfold Has at h
  rw [u23] at h
  rcases h with ⟨_, e⟩ | ⟨_, e⟩ | ⟨b, es, sp, vs, rfl, _, e, hb, hl, hx⟩
  · cases e; exact ⟨0, .inl ⟨.inl rfl, rfl⟩⟩
  · cases e; exact ⟨0, .inl ⟨.inr rfl, rfl⟩⟩
  · cases e
    rw [c33] at hl hx
    have key : ∀ i, i < es.length → ∃ v n o g l, (vs.drop (i * 4)).take 4 = [v, .int .i64 n, .bool o, .bool g] ∧ v.one = true ∧ LabelsAt H v l := by
      intro i hi
      obtain ⟨x, hxi⟩ : ∃ x, (es ++ sp)[i]? = some x := ⟨_, List.getElem?_eq_getElem (by rw [List.length_append]; omega)⟩
      exact has_change (hx i x hxi)
    refine ⟨es.length, .inr ⟨b, _, vs, by rw [c33], hb, by omega, ?_, fun i hi => ?_⟩⟩
    · have : ∀ m, m ≤ es.length → allOne (vs.take (m * 4)) = true := by
        intro m
        induction m with
        | zero => intro _; simp [allOne]
        | succ m ih =>
          intro hm
          obtain ⟨v, n, o, g, l, e, hv, _⟩ := key m (by omega)
          have e2 : vs.take ((m + 1) * 4) = vs.take (m * 4) ++ (vs.drop (m * 4)).take 4 := by
            rw [show (m + 1) * 4 = m * 4 + 4 by omega, List.take_add]
          rw [e2, e]
          have happ : ∀ (a b : List AV), allOne (a ++ b) = (allOne a && allOne b) := by
            intro a b
            induction a with
            | nil => simp [allOne]
            | cons x a ih => simp [allOne, ih, Bool.and_assoc]
          rw [happ, ih (by omega)]
          simp only [allOne, hv, Bool.and_true, Bool.true_and]
          rfl
      exact this _ (Nat.le_refl _)
    · obtain ⟨v, n, o, g, l, e, hv, hl⟩ := key i hi
      have e0 := congrArg (fun l : List AV => l[0]?) e
      simp only [List.getElem?_take, List.getElem?_drop] at e0
      exact ⟨v, l, by simpa using e0, hl⟩
end

/-- The law, of whatever changes. -/
theorem law5_all {X : Type} (hlives : ∀ (N : Nat) (K : AH), AC tC N 0 6 [] K fun r K' => r = .bool true ∧ K' = K) {ds : List (DataW X)} (N : Nat) (H : AH) (xs : List AV) (hlt : ∀ b o, H.get b = some o → b < H.next) (h : HasAll Tryz.prog H 8 [23] ds xs) :
    AC tC N 0 5 xs H fun r _ => r = .bool true := by
  match ds, h with
  | [d], h =>
    obtain ⟨a, xs', rfl, h1, rfl⟩ := h
    obtain ⟨n, hn⟩ := has_changes h1
    exact law5 N H a n hn hlt (hlives N)

end Go.Proofs.YtapokkpdgfpokaaGreat
