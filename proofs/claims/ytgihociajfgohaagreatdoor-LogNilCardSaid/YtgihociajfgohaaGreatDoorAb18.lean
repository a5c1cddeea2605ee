/- Sub-heaps, the other blocks beside a step, a new block by a reserved name; new blocks beside a heap. -/
import Derived.Test.YtgihociajfgohaaGreatDoorAb17
namespace Go.AB
set_option linter.unusedSimpArgs false

theorem R.sub {N G : Nat} {ρ : Names} {H Hs : AH} {w : World} (hR : R N G ρ H w) (hg : ∀ b o, Hs.get b = some o → H.get b = some o) (hn : Hs.next = H.next) : R N G ρ Hs w where
  size := hR.size
  glob := hR.glob
  obj b o hb := by
    obtain ⟨s, h1, h2⟩ := hR.obj b o (hg _ _ hb)
    exact ⟨s, h1, h2.keep (fun _ _ h => h) rfl (fun m l v c _ sm ps _ h => ⟨hg _ _ h, rfl⟩)⟩
  inj b b' o o' s s' h1 h2 := hR.inj b b' o o' s s' (hg _ _ h1) (hg _ _ h2)
  fresh b hb := hR.fresh b (hn ▸ hb)
  gn := hn ▸ hR.gn
  vers b m l v c hb := by rw [hn]; exact hR.vers b m l v c (hg _ _ hb)
  flat := hR.flat

/-- **A step in a sub-heap leaves the other blocks.** -/
theorem R.union {N G : Nat} {ρ ρ' : Names} {H Hs H' H2 : AH} {w w' : World} (hR : R N G ρ H w) (hg : ∀ b o, Hs.get b = some o → H.get b = some o) (hn : Hs.next = H.next)
    (hR' : R N G ρ' H' w') (hF : Fr ρ Hs w ρ' H' w') (hn2 : H2.next = H'.next)
    (h2 : ∀ b o, H2.get b = some o → H'.get b = some o ∨ (H.get b = some o ∧ Hs.get b = none ∧ o.rw = true ∧ ∀ m l v c, o ≠ .miter m l v c))
    (hm : ∀ b m l v c, H'.get b = some (.miter m l v c) → ∀ ps, H2.get m = some (.map ps v) → H'.get m = some (.map ps v)) :
    R N G ρ' H2 w' ∧ Fr ρ H w ρ' H2 w' := by
  have hRs := hR.sub hg hn
  have hext := hRs.ext hF
  have rest : ∀ b o, H.get b = some o → Hs.get b = none → o.rw = true → ∃ s, ρ b = some s ∧ ρ' b = some s ∧ OR N ρ H w s o ∧ s.blk < w.heap.size ∧ w'.heap[s.blk]? = w.heap[s.blk]? := by
    intro b o hb hnone hrw
    obtain ⟨s, hs, ho⟩ := hR.obj b o hb
    refine ⟨s, hs, hext _ _ hs, ho, ho.lt, hF.keep _ ho.lt fun b1 o1 s1 g1 g2 g3 e => ?_⟩
    have := hR.inj b1 b o1 o s1 s (hg _ _ g1) hb g2 hrw g3 hs e
    subst this
    rw [hnone] at g1; cases g1
  refine ⟨⟨hR'.size, hR'.glob, ?_, ?_, fun b hb => hR'.fresh b (hn2 ▸ hb), hn2 ▸ hR'.gn, ?_, hR'.flat⟩, ⟨fun b hb => hF.same b (hn ▸ hb), by rw [hn2, ← hn]; exact hF.next, hF.size, ?_, ?_, ?_, hF.os, hF.tape, hF.output⟩⟩
  · intro b o hb
    rcases h2 b o hb with h | ⟨h, h0, hrw, hnm⟩
    · obtain ⟨s, h1, h3⟩ := hR'.obj b o h
      refine ⟨s, h1, h3.keep (fun _ _ h => h) rfl fun m l v c e sm ps hsm hg2 => ⟨?_, rfl⟩⟩
      subst e
      exact hm b m l v c h ps hg2
    · obtain ⟨s, _, h1, h3, _, h4⟩ := rest b o h h0 hrw
      exact ⟨s, h1, h3.keep hext h4 fun m l v c e => absurd e (hnm m l v c)⟩
  · have mixed : ∀ b b' o o' s s', H'.get b = some o → o.rw = true → ρ' b = some s → H.get b' = some o' → Hs.get b' = none → o'.rw = true → ρ' b' = some s' → s.blk = s'.blk → False := by
      intro b b' o o' s s' g1 r1 e1 g2 h0 r2 e2 he
      obtain ⟨t, ht, ht', _, hlt, _⟩ := rest b' o' g2 h0 r2
      rw [e2] at ht'; cases ht'
      rcases hF.own b o s g1 r1 e1 with h | ⟨b0, o0, s0, f1, f2, f3, f4⟩
      · omega
      · have := hR.inj b0 b' o0 o' s0 s' (hg _ _ f1) g2 f2 r2 f3 ht (f4.trans he)
        subst this
        rw [h0] at f1; cases f1
    intro b b' o o' s s' g1 g2 r1 r2 e1 e2 he
    rcases h2 b o g1 with h | ⟨h, h0, hrw, _⟩ <;> rcases h2 b' o' g2 with h' | ⟨h', h0', hrw', _⟩
    · exact hR'.inj b b' o o' s s' h h' r1 r2 e1 e2 he
    · exact (mixed b b' o o' s s' h r1 e1 h' h0' r2 e2 he).elim
    · exact (mixed b' b o' o s' s h' r2 e2 h h0 r1 e1 he.symm).elim
    · obtain ⟨t, ht, ht', _⟩ := rest b o h h0 hrw
      obtain ⟨t2, ht2, ht2', _⟩ := rest b' o' h' h0' hrw'
      rw [e1] at ht'; cases ht'
      rw [e2] at ht2'; cases ht2'
      exact hR.inj b b' o o' s s' h h' r1 r2 ht ht2 he
  · intro b m l v c hb
    rw [hn2]
    rcases h2 b _ hb with h | ⟨_, _, _, hnm⟩
    · exact hR'.vers b m l v c h
    · exact absurd rfl (hnm m l v c)
  · intro k hk hno
    exact hF.keep k hk fun b o s g1 g2 g3 => hno b o s (hg _ _ g1) g2 g3
  · intro b o s hb r1 e1
    rcases h2 b o hb with h | ⟨h, h0, hrw, _⟩
    · rcases hF.own b o s h r1 e1 with h | ⟨b0, o0, s0, f1, f2, f3, f4⟩
      · exact .inl h
      · exact .inr ⟨b0, o0, s0, hg _ _ f1, f2, f3, f4⟩
    · obtain ⟨t, ht, ht', _⟩ := rest b o h h0 hrw
      rw [e1] at ht'; cases ht'
      exact .inr ⟨b, o, s, h, r1, ht, rfl⟩
  · intro b o hlt hb
    rcases h2 b o hb with h | ⟨h, _⟩
    · obtain ⟨o0, h0⟩ := hF.dom b o (hn ▸ hlt) h
      exact ⟨o0, hg _ _ h0⟩
    · exact ⟨o, h⟩

/-- A new object by a reserved name. 'dom' of the frame is for the names that are not reserved: so the frame starts behind. -/
theorem R.allocAt {N G : Nat} {ρ : Names} {H H2 : AH} {w : World} (hR : R N G ρ H w) (ob : Obj) (d : Nat) (o : AO) (s : Seg) (b : Nat) (hb : ρ b = none) (hlt : b < H.next) (hs : s.blk = w.heap.size) (hz : s.base = 0)
    (hget : ∀ k, H2.get k = if k = b then some o else H.get k) (hn : H2.next = H.next)
    (ho : OR N (ρ.put b s) H2 { w with heap := w.heap.push ob, drawn := d } s o) (hv : ∀ m l v c, o ≠ .miter m l v c) :
    R N G (ρ.put b s) H2 { w with heap := w.heap.push ob, drawn := d } := by
  have hext : Ext ρ (ρ.put b s) := Names.put_ext hb
  have hold : ∀ k, k < w.heap.size → (w.heap.push ob)[k]? = w.heap[k]? := fun k hk => by rw [Array.getElem?_push, if_neg (by omega)]
  have hother : ∀ k, k ≠ b → (ρ.put b s) k = ρ k := fun k hk => by simp [Names.put, hk]
  refine ⟨by have := hR.size; simp; omega, ?_, ?_, ?_, ?_, by rw [hn]; exact hR.gn, ?_, fun k t hk hN => (by
      by_cases e : k = b
      · subst e; rw [Names.put_same] at hk; cases hk; exact hz
      · rw [hother k e] at hk; exact hR.flat k t hk hN)⟩
  · intro g hg
    obtain ⟨room, h⟩ := hR.glob g hg
    exact ⟨room, hext _ _ h⟩
  · intro k ok hk
    rw [hget] at hk
    split at hk
    · cases hk; subst_vars; exact ⟨s, Names.put_same _ _ _, ho⟩
    · rename_i hne
      obtain ⟨t, h1, h2⟩ := hR.obj k ok hk
      refine ⟨t, hext _ _ h1, h2.keep hext (hold _ h2.lt) fun m l v c e sm ps hm hg => ?_⟩
      rw [hget] at hg
      split at hg
      · rename_i hmn; subst hmn; rw [hb] at hm; cases hm
      · refine ⟨hg, hold _ ?_⟩
        obtain ⟨t', h3, h4⟩ := hR.obj m _ hg
        rw [hm] at h3; cases h3; exact h4.lt
  · intro k k' o1 o2 s1 s2 h1 h2 r1 r2 e1 e2 he
    rw [hget] at h1 h2
    split at h1 <;> split at h2
    · subst_vars; rfl
    · rename_i hk hk'
      subst hk
      rw [Names.put_same] at e1; cases e1
      rw [hother _ hk'] at e2
      obtain ⟨t, h3, h4⟩ := hR.obj k' _ h2
      rw [e2] at h3; cases h3
      have := h4.lt; omega
    · rename_i hk hk'
      subst hk'
      rw [Names.put_same] at e2; cases e2
      rw [hother _ hk] at e1
      obtain ⟨t, h3, h4⟩ := hR.obj k _ h1
      rw [e1] at h3; cases h3
      have := h4.lt; omega
    · rename_i hk hk'
      rw [hother _ hk] at e1
      rw [hother _ hk'] at e2
      exact hR.inj k k' o1 o2 s1 s2 h1 h2 r1 r2 e1 e2 he
  · intro k hk
    rw [hn] at hk
    rw [hother k (by omega)]; exact hR.fresh k hk
  · intro k m l v c hk
    rw [hget] at hk
    rw [hn]
    split at hk
    · cases hk; exact absurd rfl (hv m l v c)
    · exact hR.vers k m l v c hk

theorem PT.every_get {α : Type} {p : α → Bool} : ∀ {t : PT α}, t.every p = true → ∀ k a, t.get k = some a → p a = true
  | .leaf, _, k, a, h => by simp [PT.get] at h
  | .node l v r, h, k, a, hk => by
    simp only [PT.every, Bool.and_eq_true] at h
    cases k with
    | zero => simp only [PT.get] at hk; rw [hk] at h; exact h.1.1
    | succ m =>
      simp only [PT.get] at hk
      cases hm : Nat.beq (m % 2) 0
      · rw [hm] at hk; exact PT.every_get h.2 _ a hk
      · rw [hm] at hk; exact PT.every_get h.1.2 _ a hk

/-! ### New blocks beside a heap -/
def pick (n0 : Nat) (sel : Nat → Bool) (b : Nat) : List (Nat × AO) → Option AO
  | [] => none
  | (a, ao) :: l => match pick n0 sel b l with
    | some x => some x
    | none => bif sel a && Nat.beq (n0 + a) b then some ao else none

theorem addNews_next {n0 : Nat} {sel : Nat → Bool} : ∀ (l : List (Nat × AO)) (H : AH), (addNews n0 sel l H).next = H.next
  | [], H => rfl
  | (a, ao) :: l, H => by
    simp only [addNews]
    rw [addNews_next l]
    cases sel a <;> rfl

theorem addNews_get {n0 : Nat} {sel : Nat → Bool} (b : Nat) : ∀ (l : List (Nat × AO)) (H : AH), (addNews n0 sel l H).get b = match pick n0 sel b l with
    | some x => some x
    | none => H.get b
  | [], H => rfl
  | (a, ao) :: l, H => by
    simp only [addNews, pick]
    rw [addNews_get b l]
    cases pick n0 sel b l with
    | some x => rfl
    | none =>
      cases hs : sel a
      · rfl
      · simp only [cond_true, Bool.true_and, AH.get_set]
        by_cases e : b = n0 + a
        · subst e; simp
        · rw [if_neg e]
          have : Nat.beq (n0 + a) b = false := by
            cases h : Nat.beq (n0 + a) b
            · rfl
            · exact absurd (Nat.eq_of_beq_eq_true h).symm e
          rw [this]; rfl

theorem pick_some {n0 : Nat} {sel : Nat → Bool} {b : Nat} {x : AO} : ∀ {l : List (Nat × AO)}, pick n0 sel b l = some x → ∃ a, (a, x) ∈ l ∧ sel a = true ∧ b = n0 + a
  | [], h => by simp [pick] at h
  | (a, ao) :: l, h => by
    simp only [pick] at h
    split at h
    · rename_i y hy
      simp only [Option.some.injEq] at h; subst h
      obtain ⟨c, h1, h2, h3⟩ := pick_some hy
      exact ⟨c, by simp [h1], h2, h3⟩
    · cases hc : (sel a && Nat.beq (n0 + a) b)
      · rw [hc] at h; cases h
      · rw [hc] at h
        simp only [cond_true, Option.some.injEq] at h; subst h
        simp only [Bool.and_eq_true] at hc
        exact ⟨a, by simp, hc.1, (Nat.eq_of_beq_eq_true hc.2).symm⟩

theorem pick_none {n0 : Nat} {sel : Nat → Bool} {b : Nat} : ∀ {l : List (Nat × AO)}, pick n0 sel b l = none → ∀ a x, (a, x) ∈ l → sel a = true → b ≠ n0 + a
  | [], _, a, x, hm, _ => by simp at hm
  | (a0, ao) :: l, h, a, x, hm, hs => by
    simp only [pick] at h
    split at h
    · cases h
    · rename_i hy
      rcases List.mem_cons.1 hm with e | hm
      · cases e
        intro e
        subst e
        rw [hs] at h
        simp at h
      · exact pick_none hy a x hm hs

/-- Keyed once each. -/
def Once (l : List (Nat × AO)) : Prop := ∀ a x y, (a, x) ∈ l → (a, y) ∈ l → x = y

theorem pick_of {n0 : Nat} {sel : Nat → Bool} {l : List (Nat × AO)} (ho : Once l) {a : Nat} {x : AO} (hm : (a, x) ∈ l) (hs : sel a = true) : pick n0 sel (n0 + a) l = some x := by
  cases h : pick n0 sel (n0 + a) l with
  | none => exact absurd rfl (pick_none h a x hm hs)
  | some y =>
    obtain ⟨c, h1, _, h3⟩ := pick_some h
    obtain rfl : a = c := by omega
    rw [ho a x y hm h1]

theorem pick_congr {n0 : Nat} {sel sel' : Nat → Bool} {b : Nat} : ∀ {l : List (Nat × AO)}, (∀ a x, (a, x) ∈ l → sel a = sel' a) → pick n0 sel b l = pick n0 sel' b l
  | [], _ => rfl
  | (a, ao) :: l, h => by
    simp only [pick]
    rw [pick_congr (fun a x hm => h a x (by simp [hm])), h a ao (by simp)]

theorem addNews_append {n0 : Nat} {sel : Nat → Bool} : ∀ (l : List (Nat × AO)) {l' : List (Nat × AO)} (H : AH), (∀ a x, (a, x) ∈ l' → sel a = false) → addNews n0 sel (l ++ l') H = addNews n0 sel l H
  | [], [], H, _ => rfl
  | [], (a, ao) :: l', H, h => by
    have := addNews_append (n0 := n0) (sel := sel) [] (l' := l') H fun a x hm => h a x (by simp [hm])
    simp only [List.nil_append, addNews] at this ⊢
    rw [h a ao (by simp)]
    exact this
  | (a, ao) :: l, l', H, h => by
    simp only [List.cons_append, addNews]
    exact addNews_append l _ h

end Go.AB
