/- Group: a vector behind changes, the document's way; the law of changes; no condition. -/
import Derived.Test.YtapokkpdgfpokaaGreatCh5
set_option linter.unusedSimpArgs false
set_option linter.unusedVariables false
set_option maxRecDepth 100000
open Go Go.AB Go.Proofs
namespace Go.Proofs.YtapokkpdgfpokaaGreat
set_option maxRecDepth 100000

section
variable {C : Ctx} {N : Bd} {G n : Nat} {T : PT AV} {H : AH} {Q : AEx → PT AV → AH → Prop}
end

/-! Bounds. -/
theorem changesM_len : ∀ (a b : List Rs), (changesM a b).length ≤ a.length + b.length ∧ ∀ c ∈ changesM a b, ∃ r, (r ∈ a ∨ r ∈ b) ∧ c.1 = r.1
  | [], [] => by simp [changesM]
  | [], s :: ss => by
    obtain ⟨h1, h2⟩ := changesM_len [] ss
    rw [changesM]
    refine ⟨by simp at h1 ⊢; omega, fun c hc => ?_⟩
    rcases List.mem_cons.1 hc with rfl | hc
    · exact ⟨s, .inr (List.mem_cons_self), rfl⟩
    · obtain ⟨r, hr, e⟩ := h2 c hc
      exact ⟨r, hr.imp id (List.mem_cons_of_mem _), e⟩
  | r :: rs, [] => by
    obtain ⟨h1, h2⟩ := changesM_len rs []
    rw [changesM]
    refine ⟨by simp at h1 ⊢; omega, fun c hc => ?_⟩
    rcases List.mem_cons.1 hc with rfl | hc
    · exact ⟨r, .inl (List.mem_cons_self), rfl⟩
    · obtain ⟨x, hr, e⟩ := h2 c hc
      exact ⟨x, hr.imp (List.mem_cons_of_mem _) id, e⟩
  | r :: rs, s :: ss => by
    obtain ⟨h1, h2⟩ := changesM_len rs (s :: ss)
    obtain ⟨h3, h4⟩ := changesM_len rs ss
    obtain ⟨h5, h6⟩ := changesM_len (r :: rs) ss
    rw [changesM]
    have p1 : ∀ c ∈ changesM rs (s :: ss), ∃ x, (x ∈ r :: rs ∨ x ∈ s :: ss) ∧ c.1 = x.1 := fun c hc => let ⟨x, hx, e⟩ := h2 c hc; ⟨x, hx.imp (List.mem_cons_of_mem _) id, e⟩
    have p2 : ∀ c ∈ changesM rs ss, ∃ x, (x ∈ r :: rs ∨ x ∈ s :: ss) ∧ c.1 = x.1 := fun c hc => let ⟨x, hx, e⟩ := h4 c hc; ⟨x, hx.imp (List.mem_cons_of_mem _) (List.mem_cons_of_mem _), e⟩
    have p3 : ∀ c ∈ changesM (r :: rs) ss, ∃ x, (x ∈ r :: rs ∨ x ∈ s :: ss) ∧ c.1 = x.1 := fun c hc => let ⟨x, hx, e⟩ := h6 c hc; ⟨x, hx.imp id (List.mem_cons_of_mem _), e⟩
    simp only [List.length_cons] at h1 h3 h5 ⊢
    split
    · refine ⟨by simp; omega, fun c hc => ?_⟩
      rcases List.mem_cons.1 hc with rfl | hc
      · exact ⟨r, .inl (List.mem_cons_self), rfl⟩
      · exact p1 c hc
    · split
      · split
        · exact ⟨by omega, p2⟩
        · refine ⟨by simp; omega, fun c hc => ?_⟩
          rcases List.mem_cons.1 hc with rfl | hc
          · exact ⟨s, .inr (List.mem_cons_self), rfl⟩
          · exact p2 c hc
      · refine ⟨by simp; omega, fun c hc => ?_⟩
        rcases List.mem_cons.1 hc with rfl | hc
        · exact ⟨s, .inr (List.mem_cons_self), rfl⟩
        · exact p3 c hc
termination_by a b => a.length + b.length
theorem c4 : Tryz.prog.cellsOf 4 = 1 := by kernel_rfl
theorem c2 : Tryz.prog.cellsOf 2 = 1 := by kernel_rfl
theorem c9 : Tryz.prog.cellsOf 9 = 1 := by kernel_rfl
theorem c29 : Tryz.prog.cellsOf 29 = 1 := by kernel_rfl
theorem c31 : Tryz.prog.cellsOf 31 = 2 := by kernel_rfl
theorem c33 : Tryz.prog.cellsOf 33 = 4 := by kernel_rfl
theorem c71 : Tryz.prog.cellsOf 71 = 2 := by kernel_rfl
theorem u2 : Tryz.prog.underlying 2 = some (.int .i64) := by kernel_rfl
theorem u4 : Tryz.prog.underlying 4 = some .bool := by kernel_rfl
theorem u9 : Tryz.prog.underlying 9 = some .string := by kernel_rfl
theorem u23 : Tryz.prog.underlying 23 = some (.slice 33) := by kernel_rfl
theorem u29 : Tryz.prog.underlying 29 = some (.slice 71) := by kernel_rfl
theorem u31 : ∃ f0 f1, Tryz.prog.underlying 31 = some (.struct #[f0, f1]) ∧ f0.type = 2 ∧ f0.offset = 0 ∧ f1.type = 4 ∧ f1.offset = 1 := ⟨_, _, Tryz.underlying31, rfl, rfl, rfl, rfl⟩
theorem u33 : ∃ f0 f1 f2, Tryz.prog.underlying 33 = some (.struct #[f0, f1, f2]) ∧ f0.type = 29 ∧ f0.offset = 0 ∧ f1.type = 31 ∧ f1.offset = 1 ∧ f2.type = 4 ∧ f2.offset = 3 := ⟨_, _, _, Tryz.underlying33, rfl, rfl, rfl, rfl, rfl, rfl⟩
theorem u71 : ∃ f0 f1, Tryz.prog.underlying 71 = some (.struct #[f0, f1]) ∧ f0.type = 9 ∧ f0.offset = 0 ∧ f1.type = 9 ∧ f1.offset = 1 := ⟨_, _, Tryz.underlying71, rfl, rfl, rfl, rfl⟩

def strAt (vs : List AV) (i : Nat) : List UInt8 :=
  match vs[i]? with
  | some (AV.str s) => s
  | _ => []

section
variable {X : Type} {H : AH}

theorem has_label {k : Nat} {d : DataW X} {xs : List AV} (h : Has Tryz.prog H (k + 2) 71 d xs) : ∃ s t, xs = [.str s, .str t] := by
  obtain ⟨f0, f1, hu, t0, o0, t1, o1⟩ := u71
  unfold Has at h
  rw [hu] at h
  obtain ⟨ds, _, hl, hd, hf⟩ := h
  rw [c71] at hl
  match xs, hl, ds, hd with
  | [a, b], _, [x, y], _ =>
    have h0 := hf 0 f0 x (by simp) (by simp)
    have h1 := hf 1 f1 y (by simp) (by simp)
    rw [t0, o0, c9] at h0
    rw [t1, o1, c9] at h1
    unfold Has at h0 h1
    rw [u9] at h0 h1
    obtain ⟨s, _, _, e0⟩ := h0
    obtain ⟨t, _, _, e1⟩ := h1
    simp at e0 e1
    exact ⟨s, t, by rw [e0, e1]⟩

theorem has_labels {k : Nat} {d : DataW X} {xs : List AV} (h : Has Tryz.prog H (k + 3) 29 d xs) : ∃ v l, xs = [v] ∧ LabelsAt H v l := by
  unfold Has at h
  rw [u29] at h
  rcases h with ⟨_, rfl⟩ | ⟨_, rfl⟩ | ⟨b, es, sp, vs, rfl, _, rfl, hb, hl, hx⟩
  · exact ⟨_, [], rfl, .inl ⟨rfl, rfl, rfl⟩⟩
  · exact ⟨_, [], rfl, .inl ⟨rfl, rfl, rfl⟩⟩
  · rw [c71] at hl hx
    have key : ∀ i, i < es.length + sp.length → ∃ s t, vs[i * 2]? = some (.str s) ∧ vs[i * 2 + 1]? = some (.str t) := by
      intro i hi
      obtain ⟨x, hxi⟩ : ∃ x, (es ++ sp)[i]? = some x := ⟨_, List.getElem?_eq_getElem (by rw [List.length_append]; omega)⟩
      obtain ⟨s, t, e⟩ := has_label (hx i x hxi)
      have e0 := congrArg (fun l : List AV => l[0]?) e
      have e1 := congrArg (fun l : List AV => l[1]?) e
      simp only [List.getElem?_take, List.getElem?_drop] at e0 e1
      exact ⟨s, t, by simpa using e0, by simpa using e1⟩
    have hstr : vs.all isStr = true := by
      rw [List.all_eq_true]
      intro z hz
      obtain ⟨j, hj⟩ := List.getElem?_of_mem hz
      have hjl := (List.getElem?_eq_some_iff.1 hj).1
      obtain ⟨s, t, q1, q2⟩ := key (j / 2) (by omega)
      have hj2 : j = j / 2 * 2 ∨ j = j / 2 * 2 + 1 := by omega
      rcases hj2 with e | e
      · rw [e, q1] at hj; cases hj; rfl
      · rw [e, q2] at hj; cases hj; rfl
    by_cases h0 : es.length = 0
    · exact ⟨_, [], rfl, .inl ⟨rfl, by rw [h0]; rfl, rfl⟩⟩
    refine ⟨_, (List.range es.length).map fun i => (strAt vs (i * 2), strAt vs (i * 2 + 1)), rfl, .inr ⟨b, 0, _, true, vs, by simp [c71]; rfl, hb, hstr, fun e => h0 (by simpa using congrArg List.length e), fun i p hp => ?_⟩⟩
    have hi : i < es.length := by
      have := (List.getElem?_eq_some_iff.1 hp).1
      simpa using this
    obtain ⟨s, t, h1, h2⟩ := key i (by omega)
    rw [List.getElem?_map, List.getElem?_range hi] at hp
    simp only [Option.map_some, Option.some.injEq, strAt, h1, h2] at hp
    subst hp
    exact ⟨by simpa using h1, by simpa using h2⟩

theorem build_list {α : Type} {P : Nat → α → Prop} : ∀ n : Nat, (∀ i, i < n → ∃ a, P i a) → ∃ l : List α, l.length = n ∧ ∀ i a, l[i]? = some a → P i a
  | 0, _ => ⟨[], rfl, fun i a h => by simp at h⟩
  | n + 1, h => by
    obtain ⟨l, h1, h2⟩ := build_list n fun i hi => h i (by omega)
    obtain ⟨a, ha⟩ := h n (by omega)
    refine ⟨l ++ [a], by simp [h1], fun i x hx => ?_⟩
    by_cases hi : i < l.length
    · rw [List.getElem?_append_left hi] at hx; exact h2 i x hx
    · have hlt := (List.getElem?_eq_some_iff.1 hx).1
      simp at hlt
      have hin : i = n := by omega
      subst hin
      rw [List.getElem?_append_right (by omega), h1, Nat.sub_self] at hx
      cases hx; exact ha

end

end Go.Proofs.YtapokkpdgfpokaaGreat
