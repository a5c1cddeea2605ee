/- Frames: what a step leaves alone; new objects, objects that are written, names that are given up. -/
import Derived.Test.YtgihociajfgohaaGreatDoorAb1
namespace Go.AB

theorem CellsR.ext {ρ ρ' : Names} (h : Ext ρ ρ') {vs : List AV} {c : Array Value} {base : Nat} (hc : CellsR ρ vs c base) : CellsR ρ' vs c base :=
  fun i a ha => let ⟨v, hv, hr⟩ := hc i a ha; ⟨v, hv, hr.ext h⟩

theorem EntsR.ext {ρ ρ' : Names} (h : Ext ρ ρ') : ∀ {ps : List (List UInt8 × AV)} {es : List MapEntry}, EntsR ρ ps es → EntsR ρ' ps es
  | [], _, he => by simpa [EntsR] using he
  | p :: ps, es, he => by
    simp only [EntsR] at he ⊢
    obtain ⟨e, es', rfl, hk, hv, hr⟩ := he
    exact ⟨e, es', rfl, hk, hv.ext h, EntsR.ext h hr⟩

theorem MapR.ext {ρ ρ' : Names} (h : Ext ρ ρ') {ps : List (List UInt8 × AV)} {es : Array MapEntry} {clock : Nat} (hm : MapR ρ ps es clock) : MapR ρ' ps es clock :=
  ⟨hm.ents.ext h, hm.keys, hm.born, hm.old⟩

theorem R.ext {N G : Nat} {ρ ρ' : Names} {H H' : AH} {w w' : World} (hR : R N G ρ H w) (hF : Fr ρ H w ρ' H' w') : Ext ρ ρ' := by
  intro b s hb
  have hlt : b < H.next := by
    rcases Nat.lt_or_ge b H.next with h | h
    · exact h
    · rw [hR.fresh b h] at hb; cases hb
  rw [hF.same b hlt]; exact hb

theorem R.lt {N G : Nat} {ρ : Names} {H : AH} {w : World} (hR : R N G ρ H w) {b : Nat} {s : Seg} (hb : ρ b = some s) : b < H.next := by
  rcases Nat.lt_or_ge b H.next with h | h
  · exact h
  · rw [hR.fresh b h] at hb; cases hb

theorem R.dom_lt {N G : Nat} {ρ : Names} {H : AH} {w : World} (hR : R N G ρ H w) {b : Nat} {o : AO} (hb : H.get b = some o) : b < H.next :=
  let ⟨_, hs, _⟩ := hR.obj b o hb; hR.lt hs

/-- A block that stands for an object lies in the world. -/
theorem OR.lt {N : Nat} {ρ : Names} {H : AH} {w : World} {s : Seg} {o : AO} (h : OR N ρ H w s o) : s.blk < w.heap.size := by
  have key : ∀ x, w.heap[s.blk]? = some x → s.blk < w.heap.size := fun x hx => by
    rcases Nat.lt_or_ge s.blk w.heap.size with h | h
    · exact h
    · rw [Array.getElem?_eq_none h] at hx; cases hx
  cases o with
  | cells ro vs => obtain ⟨c, e, lo, hi, h, _⟩ := h; exact key _ h
  | map ps ver => obtain ⟨_, es, clock, h, _⟩ := h; exact key _ h
  | siter t pos => exact key _ h.2.2
  | miter m left ver cur => obtain ⟨_, _, a, b, c, d, h, _⟩ := h; exact key _ h

theorem OR.rwN {N : Nat} {ρ : Names} {H : AH} {w : World} {s : Seg} {o : AO} (h : OR N ρ H w s o) (hrw : o.rw = true) : N ≤ s.blk := by
  cases o with
  | cells ro vs => cases ro with
    | true => simp [AO.rw] at hrw
    | false => obtain ⟨c, e, lo, hi, _, _, _, _, _, h⟩ := h; exact (h rfl).1
  | map ps ver => exact h.1
  | siter t pos => exact h.1
  | miter m left ver cur => exact h.1

theorem OR.roN {N : Nat} {ρ : Names} {H : AH} {w : World} {s : Seg} {o : AO} (h : OR N ρ H w s o) (hrw : o.rw = false) : s.blk < N := by
  cases o with
  | cells ro vs => cases ro with
    | false => simp [AO.rw] at hrw
    | true => obtain ⟨c, e, lo, hi, _, _, _, _, h, _⟩ := h; exact h rfl
  | _ => simp [AO.rw] at hrw

/-- An object whose block is as it was. -/
theorem OR.keep {N : Nat} {ρ ρ' : Names} {H H' : AH} {w w' : World} {s : Seg} {o : AO} (h : OR N ρ H w s o) (he : Ext ρ ρ') (hb : w'.heap[s.blk]? = w.heap[s.blk]?)
    (hm : ∀ m left ver cur, o = .miter m left ver cur → ∀ sm ps, ρ m = some sm → H'.get m = some (.map ps ver) → H.get m = some (.map ps ver) ∧ w'.heap[sm.blk]? = w.heap[sm.blk]?) :
    OR N ρ' H' w' s o := by
  cases o with
  | cells ro vs =>
    obtain ⟨c, e, lo, hi, h1, h2, h3, h4, h5, h6⟩ := h
    exact ⟨c, e, lo, hi, hb.trans h1, h2, h3, h4.ext he, h5, h6⟩
  | map ps ver =>
    obtain ⟨h0, es, clock, h1, h2⟩ := h
    exact ⟨h0, es, clock, hb.trans h1, h2.ext he⟩
  | siter t pos => exact ⟨h.1, h.2.1, hb.trans h.2.2⟩
  | miter m left ver cur =>
    obtain ⟨h0, hb0, since, seen, st, sm, h1, h2, h3⟩ := h
    refine ⟨h0, hb0, since, seen, st, sm, hb.trans h1, he _ _ h2, fun ps hps es clock hes => ?_⟩
    obtain ⟨hg, hh⟩ := hm m left ver cur rfl sm ps h2 hps
    exact h3 ps hg es clock (hh ▸ hes)

theorem Fr.refl (ρ : Names) (H : AH) (w : World) : Fr ρ H w ρ H w :=
  ⟨fun _ _ => rfl, Nat.le_refl _, Nat.le_refl _, fun _ _ _ => rfl, fun b o s h1 h2 h3 => .inr ⟨b, o, s, h1, h2, h3, rfl⟩, fun _ o _ h => ⟨o, h⟩, rfl, rfl, rfl⟩

theorem Fr.trans {ρ ρ1 ρ2 : Names} {H H1 H2 : AH} {w w1 w2 : World} (a : Fr ρ H w ρ1 H1 w1) (b : Fr ρ1 H1 w1 ρ2 H2 w2) : Fr ρ H w ρ2 H2 w2 where
  same k hk := by rw [b.same k (Nat.lt_of_lt_of_le hk a.next), a.same k hk]
  next := Nat.le_trans a.next b.next
  size := Nat.le_trans a.size b.size
  keep k hk hn := by
    rw [b.keep k (Nat.lt_of_lt_of_le hk a.size) ?_, a.keep k hk hn]
    intro b1 o1 s1 h1 h2 h3 e
    rcases a.own b1 o1 s1 h1 h2 h3 with h | ⟨b0, o0, s0, g1, g2, g3, g4⟩
    · omega
    · exact hn b0 o0 s0 g1 g2 g3 (g4.trans e)
  own k o s h1 h2 h3 := by
    rcases b.own k o s h1 h2 h3 with h | ⟨b1, o1, s1, g1, g2, g3, g4⟩
    · exact .inl (Nat.le_trans a.size h)
    · rcases a.own b1 o1 s1 g1 g2 g3 with h | ⟨b0, o0, s0, f1, f2, f3, f4⟩
      · exact .inl (g4 ▸ h)
      · exact .inr ⟨b0, o0, s0, f1, f2, f3, f4.trans g4⟩
  dom k o hk h := by
    obtain ⟨o1, h1⟩ := b.dom k o (Nat.lt_of_lt_of_le hk a.next) h
    exact a.dom k o1 hk h1
  os := b.os.trans a.os
  tape := b.tape.trans a.tape
  output := b.output.trans a.output

/-- The names that a heap does not have may be more. -/
theorem R.bump {N G : Nat} {ρ : Names} {H : AH} {w : World} (hR : R N G ρ H w) {n : Nat} (h : H.next ≤ n) : R N G ρ ⟨H.t, n⟩ w where
  size := hR.size
  glob := hR.glob
  obj b o hb := by
    obtain ⟨s, h1, h2⟩ := hR.obj b o hb
    exact ⟨s, h1, h2.keep (fun _ _ h => h) rfl (fun m l v c _ sm ps _ hg => ⟨hg, rfl⟩)⟩
  inj := hR.inj
  fresh b hb := hR.fresh b (Nat.le_trans h hb)
  gn := Nat.le_trans hR.gn h
  vers b m l v c hb := Nat.lt_of_lt_of_le (hR.vers b m l v c hb) h
  flat := hR.flat

theorem Fr.bump {ρ : Names} {H : AH} {w : World} {n : Nat} (h : H.next ≤ n) : Fr ρ H w ρ ⟨H.t, n⟩ w :=
  ⟨fun _ _ => rfl, h, Nat.le_refl _, fun _ _ _ => rfl, fun b o s h1 h2 h3 => .inr ⟨b, o, s, h1, h2, h3, rfl⟩, fun _ o _ h => ⟨o, h⟩, rfl, rfl, rfl⟩

/-- A draw. -/
theorem R.drawn {N G : Nat} {ρ : Names} {H : AH} {w : World} (hR : R N G ρ H w) (d : Nat) : R N G ρ H { w with drawn := d } where
  size := hR.size
  glob := hR.glob
  obj b o hb := by
    obtain ⟨s, h1, h2⟩ := hR.obj b o hb
    exact ⟨s, h1, h2.keep (fun _ _ h => h) rfl (fun m l v c _ sm ps _ hg => ⟨hg, rfl⟩)⟩
  inj := hR.inj
  fresh := hR.fresh
  gn := hR.gn
  vers := hR.vers
  flat := hR.flat

theorem Fr.drawn {ρ : Names} {H : AH} {w : World} (d : Nat) : Fr ρ H w ρ H { w with drawn := d } :=
  ⟨fun _ _ => rfl, Nat.le_refl _, Nat.le_refl _, fun _ _ _ => rfl, fun b o s h1 h2 h3 => .inr ⟨b, o, s, h1, h2, h3, rfl⟩, fun _ o _ h => ⟨o, h⟩, rfl, rfl, rfl⟩

/-- A name is given up. -/
theorem R.del {N G : Nat} {ρ : Names} {H : AH} {w : World} (hR : R N G ρ H w) (b : Nat) : R N G ρ (H.del b) w where
  size := hR.size
  glob := hR.glob
  obj k o hk := by
    rw [AH.get_del] at hk
    split at hk
    · cases hk
    · obtain ⟨s, h1, h2⟩ := hR.obj k o hk
      refine ⟨s, h1, h2.keep (fun _ _ h => h) rfl (fun m l v c _ sm ps _ hg => ?_)⟩
      rw [AH.get_del] at hg
      split at hg
      · cases hg
      · exact ⟨hg, rfl⟩
  inj k k' o o' s s' h1 h2 := by
    rw [AH.get_del] at h1 h2
    split at h1
    · cases h1
    · split at h2
      · cases h2
      · exact hR.inj k k' o o' s s' h1 h2
  fresh := hR.fresh
  gn := hR.gn
  vers k m l v c hk := by
    rw [AH.get_del] at hk
    split at hk
    · cases hk
    · exact hR.vers k m l v c hk
  flat := hR.flat

theorem Fr.del {ρ : Names} {H : AH} {w : World} (b : Nat) : Fr ρ H w ρ (H.del b) w :=
  ⟨fun _ _ => rfl, Nat.le_refl _, Nat.le_refl _, fun _ _ _ => rfl, fun k o s h1 h2 h3 => .inr ⟨k, o, s, by rw [AH.get_del] at h1; split at h1; cases h1; exact h1, h2, h3, rfl⟩, fun k o _ h => ⟨o, by rw [AH.get_del] at h; split at h; cases h; exact h⟩, rfl, rfl, rfl⟩

def Names.put (ρ : Names) (b : Nat) (s : Seg) : Names := fun k => if k = b then some s else ρ k

theorem Names.put_same (ρ : Names) (b : Nat) (s : Seg) : ρ.put b s b = some s := by simp [Names.put]
theorem Names.put_ext {ρ : Names} {b : Nat} {s : Seg} (h : ρ b = none) : Ext ρ (ρ.put b s) := by
  intro k t hk
  unfold Names.put
  split
  · subst_vars; rw [h] at hk; cases hk
  · exact hk

/-- **A new object** in a new block, by the next name. -/
theorem R.alloc {N G : Nat} {ρ : Names} {H : AH} {w : World} (hR : R N G ρ H w) (ob : Obj) (d : Nat) (o : AO) (s : Seg) (hs : s.blk = w.heap.size) (hz : s.base = 0) (hrw : o.rw = true)
    (ho : OR N (ρ.put H.next s) (H.alloc o) { w with heap := w.heap.push ob, drawn := d } s o) (hv : ∀ m l v c, o = .miter m l v c → v < H.next) :
    R N G (ρ.put H.next s) (H.alloc o) { w with heap := w.heap.push ob, drawn := d } ∧ Fr ρ H w (ρ.put H.next s) (H.alloc o) { w with heap := w.heap.push ob, drawn := d } := by
  have hnew : ρ H.next = none := hR.fresh _ (Nat.le_refl _)
  have hext : Ext ρ (ρ.put H.next s) := Names.put_ext hnew
  have hold : ∀ k, k < w.heap.size → (w.heap.push ob)[k]? = w.heap[k]? := fun k hk => by rw [Array.getElem?_push, if_neg (by omega)]
  have hother : ∀ k, k ≠ H.next → (ρ.put H.next s) k = ρ k := fun k hk => by simp [Names.put, hk]
  refine ⟨⟨by have := hR.size; simp; omega, ?_, ?_, ?_, ?_, ?_, ?_, fun k t hk hN => (by
      by_cases e : k = H.next
      · subst e; rw [Names.put_same] at hk; cases hk; exact hz
      · rw [hother k e] at hk; exact hR.flat k t hk hN)⟩, ⟨?_, by simp, by simp, ?_, ?_, fun k o hk h => ⟨o, by rw [AH.get_alloc, if_neg (by omega)] at h; exact h⟩, rfl, rfl, rfl⟩⟩
  · intro g hg
    have : g ≠ H.next := by have := hR.gn; omega
    rw [hother g this]
    exact hR.glob g hg
  · intro k ok hk
    rw [AH.get_alloc] at hk
    split at hk
    · cases hk; subst_vars; exact ⟨s, Names.put_same _ _ _, ho⟩
    · rename_i hne
      obtain ⟨t, h1, h2⟩ := hR.obj k ok hk
      refine ⟨t, hext _ _ h1, h2.keep hext (hold _ h2.lt) fun m l v c e sm ps hm hg => ?_⟩
      rw [AH.get_alloc] at hg
      split at hg
      · rename_i hmn; subst hmn; rw [hnew] at hm; cases hm
      · refine ⟨hg, hold _ ?_⟩
        obtain ⟨t', h3, h4⟩ := hR.obj m _ hg
        rw [hm] at h3; cases h3; exact h4.lt
  · intro k k' o1 o2 s1 s2 h1 h2 r1 r2 e1 e2 he
    rw [AH.get_alloc] at h1 h2
    split at h1 <;> split at h2
    · subst_vars; rfl
    · rename_i hk hk'
      subst hk
      rw [Names.put_same] at e1; cases e1
      rw [hother _ hk'] at e2
      obtain ⟨t, h3, h4⟩ := hR.obj k' _ h2
      rw [e2] at h3; cases h3
      have := h4.lt; omega
    · rename_i hk hk'
      subst hk'
      rw [Names.put_same] at e2; cases e2
      rw [hother _ hk] at e1
      obtain ⟨t, h3, h4⟩ := hR.obj k _ h1
      rw [e1] at h3; cases h3
      have := h4.lt; omega
    · rename_i hk hk'
      rw [hother _ hk] at e1
      rw [hother _ hk'] at e2
      exact hR.inj k k' o1 o2 s1 s2 h1 h2 r1 r2 e1 e2 he
  · intro b hb
    simp at hb
    rw [hother b (by omega)]; exact hR.fresh b (by omega)
  · have := hR.gn; simp; omega
  · intro b m l v c hb
    rw [AH.get_alloc] at hb
    split at hb
    · cases hb; have := hv m l v c rfl; simp; omega
    · have := hR.vers b m l v c hb; simp; omega
  · intro b hb
    exact hother b (by omega)
  · intro k hk _
    exact hold k hk
  · intro k o1 s1 h1 r1 e1
    rw [AH.get_alloc] at h1
    split at h1
    · rename_i hk; subst hk; rw [Names.put_same] at e1; cases e1; left; omega
    · rename_i hk; rw [hother k hk] at e1
      exact .inr ⟨k, o1, s1, h1, r1, e1, rfl⟩

/-- **An object is written** in its own block. -/
theorem R.write {N G : Nat} {ρ : Names} {H : AH} {w w' : World} (hR : R N G ρ H w) {b : Nat} {o o' : AO} {s : Seg} (hb : H.get b = some o) (hrw : o.rw = true) (hs : ρ b = some s) (hrw' : o'.rw = true)
    (hsz : w'.heap.size = w.heap.size) (hh : ∀ k, k ≠ s.blk → w'.heap[k]? = w.heap[k]?) (hos : w'.os = w.os) (ht : w'.tape = w.tape) (hout : w'.output = w.output)
    (n : Nat) (hn : H.next ≤ n)
    (ho : OR N ρ ⟨H.t.set b o', n⟩ w' s o')
    (hv : ∀ m l v c, o' = .miter m l v c → v < n)
    (hm : ∀ k m l v c, H.get k = some (.miter m l v c) → k ≠ b → m = b → ∀ ps, o' ≠ .map ps v) :
    R N G ρ ⟨H.t.set b o', n⟩ w' ∧ Fr ρ H w ρ ⟨H.t.set b o', n⟩ w' := by
  have hget : ∀ k, AH.get ⟨H.t.set b o', n⟩ k = if k = b then some o' else H.get k := fun k => PT.get_set _ _ _ _
  refine ⟨⟨by have := hR.size; omega, hR.glob, ?_, ?_, fun k hk => hR.fresh k (Nat.le_trans hn hk), Nat.le_trans hR.gn hn, ?_, hR.flat⟩, ⟨fun _ _ => rfl, hn, by omega, ?_, ?_, fun k o1 _ h => (by rw [hget] at h; split at h; subst_vars; exact ⟨o, hb⟩; exact ⟨o1, h⟩), hos, ht, hout⟩⟩
  · intro k ok hk
    rw [hget] at hk
    split at hk
    · cases hk; subst_vars; exact ⟨s, hs, ho⟩
    · rename_i hne
      obtain ⟨t, h1, h2⟩ := hR.obj k ok hk
      have hblk : t.blk ≠ s.blk := by
        intro e
        cases hr : ok.rw with
        | false =>
          have a1 := h2.roN hr
          obtain ⟨s', h3, h4⟩ := hR.obj b o hb
          rw [hs] at h3; cases h3
          have a2 := h4.rwN hrw
          omega
        | true => exact hne (hR.inj k b ok o t s hk hb hr hrw h1 hs e)
      refine ⟨t, h1, h2.keep (fun _ _ h => h) (hh _ hblk) fun m l v c e sm ps hsm hg => ?_⟩
      subst e
      rw [hget] at hg
      split at hg
      · rename_i hmb
        exact absurd (Option.some.inj hg) (hm k m l v c hk hne hmb ps)
      · rename_i hmb
        refine ⟨hg, hh _ ?_⟩
        intro e
        exact hmb (hR.inj m b _ o sm s hg hb rfl hrw hsm hs e)
  · intro k k' o1 o2 s1 s2 h1 h2 r1 r2 e1 e2 he
    rw [hget] at h1 h2
    split at h1 <;> split at h2
    · subst_vars; rfl
    · rename_i hk hk'; subst hk
      exact hR.inj k k' o o2 s1 s2 hb h2 hrw r2 e1 e2 he
    · rename_i hk hk'; subst hk'
      exact hR.inj k k' o1 o s1 s2 h1 hb r1 hrw e1 e2 he
    · exact hR.inj k k' o1 o2 s1 s2 h1 h2 r1 r2 e1 e2 he
  · intro k m l v c hk
    rw [hget] at hk
    split at hk
    · cases hk; exact hv m l v c rfl
    · have := hR.vers k m l v c hk; show v < n; omega
  · intro k hk hn
    exact hh k (fun e => hn b o s hb hrw hs e.symm)
  · intro k o1 s1 h1 r1 e1
    rw [hget] at h1
    split at h1
    · rename_i hk; subst hk; exact .inr ⟨k, o, s1, hb, hrw, e1, rfl⟩
    · exact .inr ⟨k, o1, s1, h1, r1, e1, rfl⟩

/-- **A row of cells goes by a new name**, a part of its old block: where a slice is appended to in place. -/
theorem R.rename {N G : Nat} {ρ : Names} {H : AH} {w w' : World} (hR : R N G ρ H w) {b : Nat} {o o' : AO} {s s' : Seg} (hb : H.get b = some o) (hrw : o.rw = true) (hs : ρ b = some s) (hrw' : o'.rw = true)
    (hss : s'.blk = s.blk) (hz : N ≤ s'.blk → s'.base = 0)
    (hsz : w'.heap.size = w.heap.size) (hh : ∀ k, k ≠ s.blk → w'.heap[k]? = w.heap[k]?) (hos : w'.os = w.os) (ht : w'.tape = w.tape) (hout : w'.output = w.output)
    (ho : OR N (ρ.put H.next s') ((H.del b).alloc o') w' s' o') (hnm : ∀ m l v c, o' ≠ .miter m l v c) (hnp : ∀ ps v, o' ≠ .map ps v) :
    R N G (ρ.put H.next s') ((H.del b).alloc o') w' ∧ Fr ρ H w (ρ.put H.next s') ((H.del b).alloc o') w' := by
  have hnew : ρ H.next = none := hR.fresh _ (Nat.le_refl _)
  have hext : Ext ρ (ρ.put H.next s') := Names.put_ext hnew
  have hother : ∀ k, k ≠ H.next → (ρ.put H.next s') k = ρ k := fun k hk => by simp [Names.put, hk]
  have hget : ∀ k, ((H.del b).alloc o').get k = if k = H.next then some o' else if k = b then none else H.get k := fun k => by
    rw [AH.get_alloc, AH.get_del]; rfl
  have hbn : b ≠ H.next := by have := hR.dom_lt hb; omega
  refine ⟨⟨by have := hR.size; omega, ?_, ?_, ?_, ?_, ?_, ?_, fun k t hk hN => (by
      by_cases e : k = H.next
      · subst e; rw [Names.put_same] at hk; cases hk; exact hz hN
      · rw [hother k e] at hk; exact hR.flat k t hk hN)⟩, ⟨?_, by simp, by omega, ?_, ?_, fun k o1 hk h => (by rw [hget, if_neg (by omega)] at h; split at h; cases h; exact ⟨o1, h⟩), hos, ht, hout⟩⟩
  · intro g hg
    have : g ≠ H.next := by have := hR.gn; omega
    rw [hother g this]
    exact hR.glob g hg
  · intro k ok hk
    rw [hget] at hk
    split at hk
    · cases hk; subst_vars; exact ⟨s', Names.put_same _ _ _, ho⟩
    · split at hk
      · cases hk
      · rename_i hne hkb
        obtain ⟨t, h1, h2⟩ := hR.obj k ok hk
        have hblk : t.blk ≠ s.blk := by
          intro e
          cases hr : ok.rw with
          | false =>
            have a1 := h2.roN hr
            obtain ⟨s', h3, h4⟩ := hR.obj b o hb
            rw [hs] at h3; cases h3
            have a2 := h4.rwN hrw
            omega
          | true => exact hkb (hR.inj k b ok o t s hk hb hr hrw h1 hs e)
        refine ⟨t, hext _ _ h1, h2.keep hext (hh _ hblk) fun m l v c e sm ps hsm hg => ?_⟩
        rw [hget] at hg
        split at hg
        · exact absurd (Option.some.inj hg) (hnp ps v)
        · split at hg
          · cases hg
          · rename_i hmb
            refine ⟨hg, hh _ fun e => ?_⟩
            exact hmb (hR.inj m b _ o sm s hg hb rfl hrw hsm hs e)
  · intro k k' o1 o2 s1 s2 h1 h2 r1 r2 e1 e2 he
    rw [hget] at h1 h2
    split at h1 <;> split at h2
    · subst_vars; rfl
    · split at h2
      · cases h2
      · rename_i hk hk' hkb
        subst hk
        rw [Names.put_same] at e1; cases e1
        rw [hother _ hk'] at e2
        exact absurd (hR.inj k' b o2 o s2 s h2 hb r2 hrw e2 hs (by omega)) hkb
    · split at h1
      · cases h1
      · rename_i hk hk' hkb
        subst hk'
        rw [Names.put_same] at e2; cases e2
        rw [hother _ hk] at e1
        exact absurd (hR.inj k b o1 o s1 s h1 hb r1 hrw e1 hs (by omega)) hkb
    · split at h1
      · cases h1
      · split at h2
        · cases h2
        · rename_i hk hk' _ _
          rw [hother _ hk] at e1
          rw [hother _ hk'] at e2
          exact hR.inj k k' o1 o2 s1 s2 h1 h2 r1 r2 e1 e2 he
  · intro k hk
    simp at hk
    rw [hother k (by omega)]; exact hR.fresh k (by omega)
  · have := hR.gn; simp; omega
  · intro k m l v c hk
    rw [hget] at hk
    split at hk
    · cases hk; exact absurd rfl (hnm m l v c)
    · split at hk
      · cases hk
      · have := hR.vers k m l v c hk; simp; omega
  · intro k hk
    exact hother k (by omega)
  · intro k hk hn
    exact hh k (fun e => hn b o s hb hrw hs e.symm)
  · intro k o1 s1 h1 r1 e1
    rw [hget] at h1
    split at h1
    · rename_i hk; subst hk; rw [Names.put_same] at e1; cases e1; exact .inr ⟨b, o, s, hb, hrw, hs, hss.symm⟩
    · split at h1
      · cases h1
      · rename_i hk _
        rw [hother k hk] at e1
        exact .inr ⟨k, o1, s1, h1, r1, e1, rfl⟩

end Go.AB
