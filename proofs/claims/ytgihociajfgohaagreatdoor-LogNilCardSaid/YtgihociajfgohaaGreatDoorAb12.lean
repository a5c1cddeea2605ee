/- Operations that write: append, copy, clear, delete. -/
import Derived.Test.YtgihociajfgohaaGreatDoorAb11
namespace Go.AB
set_option linter.unusedSimpArgs false

/-! ### What is appended or copied -/
def acells (H : AH) (z n : Nat) (x : AV) : Option (List AV) :=
  match x with
  | .nils => bif Nat.beq n 0 then some [] else none
  | .empty _ => bif Nat.beq n 0 then some [] else none
  | .slice b o _ _ _ =>
    bif Nat.beq (n * z) 0 then some [] else
    match H.get b with
    | some (.cells _ vs) =>
      let cs := (vs.drop o).take (n * z)
      bif Nat.beq cs.length (n * z) then some cs else none
    | _ => none
  | .str s => bif Nat.ble n s.length then some ((s.take n).map fun b => .int .u8 b.toNat) else none
  | _ => none

theorem acells_ok {P : Program} {N G : Nat} {ρ : Names} {H : AH} {w : World} (hR : R N G ρ H w) {z n : Nat} {x : AV} {v : Value} (hx : VR ρ x v) {cs : List AV} (h : acells H z n x = some cs) :
    ∃ us, (Builtin.firstCells z n v).run P w = .ok ⟨us⟩ w ∧ VRs ρ cs us := by
  unfold acells at h
  split at h
  · cases hn : Nat.beq n 0
    · rw [hn] at h; cases h
    · rw [hn] at h
      simp only [cond_true, Option.some.injEq] at h; subst h
      simp only [VR] at hx; subst hx
      exact ⟨[], rfl, VRs.nil⟩
  · cases hn : Nat.beq n 0
    · rw [hn] at h; cases h
    · rw [hn] at h
      have hn' := Nat.eq_of_beq_eq_true hn
      subst hn'
      simp only [cond_true, Option.some.injEq] at h; subst h
      simp only [VR] at hx
      obtain ⟨s, o, cc, _, rfl⟩ := hx
      refine ⟨[], ?_, VRs.nil⟩
      simp [Builtin.firstCells, loadCells, loadCellsFrom]
  · rename_i b o l c zz
    simp only [VR] at hx
    obtain ⟨sg, cc, hsg, rfl, _⟩ := hx
    cases hn : Nat.beq (n * z) 0
    · rw [hn] at h
      simp only [cond_false] at h
      split at h
      · rename_i ro vs hb
        cases hl : Nat.beq ((vs.drop o).take (n * z)).length (n * z)
        · simp only [hl] at h; cases h
        · simp only [hl, cond_true, Option.some.injEq] at h
          subst h
          have hl' := Nat.eq_of_beq_eq_true hl
          obtain ⟨us, h1, h2⟩ := run_loadCells_ab (P := P) (w := w) (ρ := ρ) sg.blk ((vs.drop o).take (n * z)) (sg.base + o) 0 #[] (fun j a hj => by
            rw [List.getElem?_take] at hj
            split at hj
            · rw [List.getElem?_drop] at hj
              have := hR.cell hb hsg hj
              rwa [show sg.base + o + 0 + j = sg.base + (o + j) by omega]
            · cases hj)
          rw [hl'] at h1
          exact ⟨us, by simp only [Builtin.firstCells, loadCells, h1]; simp, h2⟩
      · cases h
    · rw [hn] at h
      simp only [cond_true, Option.some.injEq] at h; subst h
      have hn' := Nat.eq_of_beq_eq_true hn
      exact ⟨[], by simp [Builtin.firstCells, hn', loadCells, loadCellsFrom], VRs.nil⟩
  · rename_i s
    cases hn : Nat.ble n s.length
    · rw [hn] at h; cases h
    · rw [hn] at h
      simp only [cond_true, Option.some.injEq] at h; subst h
      have hn' := Nat.le_of_ble_eq_true hn
      simp only [VR] at hx; subst hx
      refine ⟨(s.take n).map fun b => .int .u8 b.toNat, ?_, ?_⟩
      · simp only [Builtin.firstCells, Sem.run_pure]
        congr 1
        apply Array.ext'
        have := Lib.extract_data (ByteArray.mk s.toArray) 0 n
        simp only [Array.toList_map, this]
        simp
      · refine VRs.of_get (by simp) fun i a v ha hv => ?_
        rw [List.getElem?_map] at ha hv
        cases hs : (s.take n)[i]? with
        | none => rw [hs] at ha; cases ha
        | some b => rw [hs] at ha hv; simp at ha hv; subst ha; subst hv; simp [VR]
  · cases h

/-- Cells are stored into a row, behind its end too where there is room. -/
theorem R.extendCells {P : Program} {N G : Nat} {ρ : Names} {H : AH} {w : World} (hR : R N G ρ H w) {b o : Nat} {vs cs : List AV} {us : List Value} {s : Seg} (hb : H.get b = some (.cells false vs)) (hs : ρ b = some s)
    (hc : VRs ρ cs us) (hone : ∀ u ∈ us, u.oneCell' = true) (ho : o ≤ vs.length) (hroom : o + cs.length ≤ s.room) :
    ∃ w', (Go.storeCells ⟨s.blk, s.base + o, none⟩ us).run P w = .ok () w' ∧ R N G ρ (H.set b (.cells false (splice vs o cs))) w' ∧ Fr ρ H w ρ (H.set b (.cells false (splice vs o cs))) w' ∧ w'.heap.size = w.heap.size ∧
      (∀ k, k ≠ s.blk → w'.heap[k]? = w.heap[k]?) := by
  obtain ⟨s', hs', c, e, lo, hi, h1, h2, h3, h4, h5, h6⟩ := hR.obj b _ hb
  rw [hs] at hs'; cases hs'
  obtain ⟨hN, hfz⟩ := h6 rfl
  have hlen := hc.length
  obtain ⟨w', c', g1, g2, g3, g4, g5, g6, g7, g8, g9⟩ := run_storeCells_ab P s.blk (s.base + o) us 0 w c e lo hi h1 (by omega) (fun j a b => notFrozen hfz j (by omega)) hone
  refine ⟨w', g1, ?_⟩
  have hlen2 : (splice vs o cs).length ≤ s.room := by simp [splice]; omega
  have := hR.write (o' := .cells false (splice vs o cs)) hb rfl hs rfl g2 (fun k hk => g3 k hk) g7 g8 g9 H.next (Nat.le_refl _) (by
    refine ⟨c', e, lo, hi, g4, by omega, hlen2, fun i a ha => ?_, h5, fun _ => ⟨hN, by rw [g5]; exact hfz⟩⟩
    have hsp : (splice vs o cs)[i]? = if o ≤ i ∧ i < o + cs.length then cs[i - o]? else vs[i]? := by
      unfold splice
      have h1 : (vs.take o).length = o := by simp; omega
      by_cases hi : i < o
      · rw [if_neg (by omega), List.append_assoc, List.getElem?_append_left (by omega), List.getElem?_take, if_pos hi]
      · by_cases hi2 : i < o + cs.length
        · rw [if_pos ⟨by omega, hi2⟩, List.append_assoc, List.getElem?_append_right (by omega), h1, List.getElem?_append_left (by omega)]
        · rw [if_neg (by omega), List.getElem?_append_right (by simp; omega), List.getElem?_drop]
          congr 1
          simp only [List.length_append, h1]; omega
    rw [hsp] at ha
    rw [g6]
    by_cases hi2 : o ≤ i ∧ i < o + cs.length
    · rw [if_pos hi2] at ha
      rw [if_pos (by omega)]
      obtain ⟨v, hv, hr⟩ := hc.get _ _ ha
      exact ⟨v, by rw [← hv]; congr 1; omega, hr⟩
    · rw [if_neg hi2] at ha
      rw [if_neg (by omega)]
      exact h4 i a ha) (fun m l v c e => by cases e) (fun k m l v c _ _ _ ps => by simp)
  exact ⟨this.1, this.2, g2, g3⟩

theorem growBy_le (n : Nat) : ∀ (r c : Nat), c ≤ 2 * n + 1024 → Builtin.growBy n r c ≤ 2 * n + 1024
  | 0, c, h => h
  | r + 1, c, h => by
    unfold Builtin.growBy
    split
    · exact h
    · exact growBy_le n r _ (by omega)

theorem nextslicecap_le (n c : Nat) (h : c < n) : Builtin.nextslicecap n c ≤ 2 * n + 1024 := by
  unfold Builtin.nextslicecap
  split
  · omega
  · split
    · omega
    · exact growBy_le n 4 c (by omega)

/-- The element's zero is known. -/
def zOK (j : TI) : Bool :=
  match j.zero with
  | some z => notJunk z && Nat.beq z.cells.length j.size
  | none => false

/-- What is appended, and how many. -/
def aappended (C : Ctx) (H : AH) (j : TI) (xt : TypeId) (x : AV) : Option (Nat × List AV) :=
  match C.ti xt with
  | none => none
  | some xi =>
    match xi.d, x with
    | .int _, .int _ l =>
      match l, j.zero with
      | .ofNat n, some z => bif notJunk z && Nat.beq z.cells.length j.size && Nat.ble (n * j.bytes) 281474976710656 && Nat.ble n 9223372036854775807 then some (n, zerosOf z.cells n) else none
      | _, _ => none
    | .int _, _ => none
    | _, .str s => (acells H j.size s.length x).map fun cs => (s.length, cs)
    | _, x => match lenOfAV x with
      | some n => (acells H j.size n x).map fun cs => (n, cs)
      | none => none

def aappend (C : Ctx) (H : AH) (ats : List TypeId) (args : List AV) : Option (AV × AH) :=
  match ats, args with
  | st :: xt :: _, s :: x :: _ =>
    match C.ti st with
    | none => none
    | some si =>
      match si.d with
      | .slice elem =>
        match C.ti elem with
        | none => none
        | some j =>
          match aappended C H j xt x with
          | none => none
          | some (n, cs) =>
            bif allOne cs && Nat.beq cs.length (n * j.size) && zOK j then
              if n = 0 then (match s with
                | .nils => some (.nils, H)
                | .slice b o l c z => some (.slice b o l c z, H)
                | .empty b => some (.empty b, H)
                | _ => none)
              else match s with
              | .nils => bif Nat.ble ((2 * n + 1024) * j.bytes) 281474976710656 && Nat.ble n 4611686018427387904 then some (.slice H.next 0 n (.lo n) j.size, H.alloc (.cells false cs)) else none
              | .slice b o l c z =>
                bif Nat.beq z j.size && Nat.ble ((2 * (l + n) + 1024) * j.bytes) 281474976710656 && Nat.ble (l + n) 4611686018427387904 then
                  if l + n ≤ c.low then
                    match H.get b with
                    | some (.cells false vs) => bif Nat.ble (o + l * z) vs.length then some (.slice b o (l + n) c z, H.set b (.cells false (splice vs (o + l * z) cs))) else none
                    | _ => none
                  else match c with
                  | .ex _ => (acells H z l s).map fun old => (.slice H.next 0 (l + n) (.lo (l + n)) z, H.alloc (.cells false (old ++ cs)))
                  | .lo _ =>
                    match H.get b with
                    | some (.cells false vs) => bif Nat.beq o 0 && Nat.beq (o + l * z) vs.length then some (.slice H.next 0 (l + n) (.lo (l + n)) z, (H.del b).alloc (.cells false (vs.drop o ++ cs))) else none
                    | _ => none
                else none
              | _ => none
            else none
      | _ => none
  | _, _ => none


theorem lenOf_ok {P : Program} {w : World} {ρ : Names} {x : AV} {v : Value} {n : Nat} (hx : VR ρ x v) (h : lenOfAV x = some n) : (Builtin.lenOf v).run P w = .ok n w := by
  obtain ⟨a, c, rfl⟩ := lenOfAV_ok hx h
  rfl

/-- Both kinds of what is appended: how many, and the cells. -/
theorem aappended_ok {C : Ctx} (hC : C.OK) {N G : Nat} {ρ : Names} {H : AH} {w : World} (hR : R N G ρ H w) {elem : TypeId} {j : TI} (hj : C.ti elem = some j) {xt : TypeId} {x : AV} {v : Value} (hx : VR ρ x v) {n : Nat} {cs : List AV}
    (h : aappended C H j xt x = some (n, cs)) :
    ∃ (xi : TI) (us : List Value), C.ti xt = some xi ∧ VRs ρ cs us ∧
      ((∃ k, xi.d = .int k) ∧ (∃ k, v = .int k n) ∧ n ≤ 9223372036854775807 ∧ n * j.bytes ≤ 281474976710656 ∧ (if n * j.size = 0 then us = [] else ∃ q, (zeroValue elem).run C.P w = .ok q w ∧ Builtin.zeroCells q.cells n = ⟨us⟩) ∨
       ((∀ k, xi.d ≠ .int k) ∧ (Builtin.lenOf v).run C.P w = .ok n w ∧ (Builtin.firstCells j.size n v).run C.P w = .ok ⟨us⟩ w)) := by
  unfold aappended at h
  split at h
  · cases h
  · rename_i xi hxi
    split at h
    · rename_i k k' l hd
      split at h
      · rename_i m z hz
        cases hc : (notJunk z && Nat.beq z.cells.length j.size && Nat.ble (m * j.bytes) 281474976710656 && Nat.ble m 9223372036854775807)
        · rw [hc] at h; cases h
        · rw [hc] at h
          simp only [cond_true, Option.some.injEq, Prod.mk.injEq] at h
          obtain ⟨rfl, rfl⟩ := h
          simp only [Bool.and_eq_true] at hc
          obtain ⟨⟨⟨c1, c2⟩, c3⟩, c4⟩ := hc
          have c2 := Nat.eq_of_beq_eq_true c2
          have c3 := Nat.le_of_ble_eq_true c3
          have c4 := Nat.le_of_ble_eq_true c4
          simp only [VR] at hx
          obtain ⟨q, hq, hr⟩ := hC.run_zero hj hz w ρ
          have hcs := VR.cells hr c1
          have hl := hcs.length
          simp at hl
          have hzc := zerosOf_ok hcs m (m * q.cells.size) (by rw [hl])
          refine ⟨xi, _, hxi, hzc, .inl ⟨⟨k, hd⟩, ⟨k', hx⟩, c4, c3, ?_⟩⟩
          split
          · rename_i h0
            have : m * q.cells.size = 0 := by rw [hl, c2]; exact h0
            simp [this]
          · exact ⟨q, hq, by apply Array.ext'; simp [Builtin.zeroCells]⟩
      · cases h
    · cases h
    · rename_i s hd hni
      simp only [Option.map_eq_some_iff, Prod.mk.injEq] at h
      obtain ⟨cs', h, rfl, rfl⟩ := h
      obtain ⟨us, h1, h2⟩ := acells_ok (P := C.P) hR hx h
      refine ⟨xi, us, hxi, h2, .inr ⟨fun k e => ?_, ?_, h1⟩⟩
      · exact hni k e
      · simp only [VR] at hx; subst hx
        show Sem.run C.P (pure _) w = _
        simp [ByteArray.size]
    · rename_i hni _
      split at h
      · rename_i m hm
        simp only [Option.map_eq_some_iff, Prod.mk.injEq] at h
        obtain ⟨cs', h, rfl, rfl⟩ := h
        obtain ⟨us, h1, h2⟩ := acells_ok (P := C.P) hR hx h
        exact ⟨xi, us, hxi, h2, .inr ⟨fun k e => hni k e, lenOf_ok hx hm, h1⟩⟩
      · cases h


theorem getElem?_mk {α : Type} (l : List α) (i : Nat) : (Array.mk l)[i]? = l[i]? := by simp

/-- What is left of an append once it is known how many there are. -/
theorem append_run {C : Ctx} (hC : C.OK) {w : World} {st xt elem ty : TypeId} {si xi j : TI} (hsi : C.ti st = some si) (hd : si.d = .slice elem) (hj : C.ti elem = some j) (hxi : C.ti xt = some xi) {base : Option Addr} {sLen sCap n : Nat} {v : Value} {us : List Value}
    (hn : n ≤ 9223372036854775807)
    (hx : (∃ k, xi.d = .int k) ∧ (∃ k, v = .int k n) ∧ n ≤ 9223372036854775807 ∧ n * j.bytes ≤ 281474976710656 ∧ (if n * j.size = 0 then us = [] else ∃ q, (zeroValue elem).run C.P w = .ok q w ∧ Builtin.zeroCells q.cells n = ⟨us⟩) ∨
       ((∀ k, xi.d ≠ .int k) ∧ (Builtin.lenOf v).run C.P w = .ok n w ∧ (Builtin.firstCells j.size n v).run C.P w = .ok ⟨us⟩ w)) (ats : List TypeId) (args : List Value) :
    (sLen + n ≤ sCap → ∀ w', (match base with | some a => storeCells (a.add (sLen * j.size)) us | none => pure () : Sem Unit).run C.P w = .ok () w' →
      (Builtin.append_ ⟨st :: xt :: ats⟩ ty ⟨.slice base sLen sCap :: v :: args⟩).run C.P w = .ok (.slice base (sLen + n) sCap) w') ∧
    (¬ sLen + n ≤ sCap → sLen + n ≤ 4611686018427387904 → (2 * (sLen + n) + 1024) * j.bytes ≤ 281474976710656 → ∀ old : List Value, (∀ d, (Builtin.firstCells j.size sLen (.slice base sLen sCap)).run C.P { w with drawn := d } = .ok ⟨old⟩ { w with drawn := d }) →
      (∀ d, (Builtin.firstCells j.size n v).run C.P w = .ok ⟨us⟩ w → (Builtin.firstCells j.size n v).run C.P { w with drawn := d } = .ok ⟨us⟩ { w with drawn := d }) → (∃ q, ∀ w0, (zeroValue elem).run C.P w0 = .ok q w0 ∧ q.cells.size = j.size) →
      ∃ cap rest d, sLen + n ≤ cap ∧ rest.length = (cap - (sLen + n)) * j.size ∧ (Builtin.append_ ⟨st :: xt :: ats⟩ ty ⟨.slice base sLen sCap :: v :: args⟩).run C.P w =
        .ok (.slice (some ⟨w.heap.size, 0, none⟩) (sLen + n) cap) { w with heap := w.heap.push (.cells ⟨old ++ us ++ rest⟩ elem), drawn := d }) := by
  obtain ⟨ji, hj1, hj2, hj3⟩ := hC.run_info hj w
  have hwrap : IntKind.i64.wrap (n : Int) = n := by
    have : (n : Int) ≤ 9223372036854775807 := by omega
    unfold IntKind.wrap IntKind.bits IntKind.signed
    simp only [Bool.true_and, decide_eq_true_eq]
    have e : (n : Int) % (2 ^ 64 : Int) = n := by omega
    have e2 : ((2 : Int) ^ (64 - 1)) = 9223372036854775808 := by decide
    have e3 : ((2 : Int) ^ 64) = 18446744073709551616 := by decide
    simp only [e2, e3] at e ⊢
    rw [e, if_neg (by omega)]
  have hmax : ¬ (((sLen + n : Nat)) : Int) > IntKind.i64.max ∨ ¬ (sLen + n ≤ 4611686018427387904) := by
    have : IntKind.i64.max = 9223372036854775807 := by decide
    omega
  have h48 : ((2 : Int) ^ 48) = 281474976710656 := by decide
  have hnb : n * j.bytes ≤ 281474976710656 → ¬ ((n : Int) * (ji.bytes : Nat) > 2 ^ 48) := by
    intro h
    rw [hj3, h48]
    have : ((n * j.bytes : Nat) : Int) ≤ 281474976710656 := by omega
    rw [Int.natCast_mul] at this
    omega
  refine ⟨?_, ?_⟩
  · intro hle w' hst
    unfold Builtin.append_
    rcases hx with ⟨⟨k, hk⟩, ⟨k', rfl⟩, h1, h2, h3⟩ | ⟨hk, hlen, hfc⟩
    · have e1 : ¬ ((n : Int) < 0) := by omega
      have e2 := hnb h2
      simp only [getElem?_mk, List.getElem?_cons_zero, List.getElem?_cons_succ, Sem.run_bind, hC.run_und hsi, hd, Result.andThen_ok, hC.run_size hj, hC.run_und hxi, hk, Sem.run_pure, if_true, asInt, asIntOf, hwrap, hj1, e1, e2, if_false, Int.toNat_natCast, hle, Bool.not_true, Bool.false_eq_true]
      split at h3
      · rename_i h0
        subst h3
        rw [if_pos h0]
        simp only [Sem.run_pure, Result.andThen_ok]
        cases base with
        | none => cases hst; rfl
        | some a =>
          simp only at hst
          simp only [Sem.run_bind, hst, Result.andThen_ok, Sem.run_pure]
      · rename_i h0
        obtain ⟨q, hq, hz⟩ := h3
        rw [if_neg h0]
        simp only [Sem.run_bind, hq, hz, Sem.run_pure, Result.andThen_ok]
        cases base with
        | none => cases hst; rfl
        | some a =>
          simp only at hst
          simp only [Sem.run_bind, hst, Result.andThen_ok, Sem.run_pure]
    · simp only [getElem?_mk, List.getElem?_cons_zero, List.getElem?_cons_succ, Sem.run_bind, hC.run_und hsi, hd, Result.andThen_ok, hC.run_size hj, hC.run_und hxi, Sem.run_pure]
      simp only [Bool.false_eq_true, if_false, Bool.not_false, if_true, hlen, hle, hfc, Sem.run_bind, Result.andThen_ok]
      cases base with
      | none => cases hst; rfl
      | some a =>
        simp only at hst
        simp only [Sem.run_bind, hst, Result.andThen_ok, Sem.run_pure]
  · intro hnle hsm hby old hold hus hzero
    have hmax' : ¬ (((sLen + n : Nat) : Int) > IntKind.i64.max) := by
      rcases hmax with h | h
      · exact h
      · exact absurd hsm h
    have hcapb : ¬ (Builtin.nextslicecap (sLen + n) sCap * ji.bytes > 2 ^ 48) := by
      have h1 := nextslicecap_le (sLen + n) sCap (by omega)
      have h2 := Nat.mul_le_mul_right j.bytes h1
      have : (2 : Nat) ^ 48 = 281474976710656 := by decide
      rw [hj3]; omega
    obtain ⟨q, hq⟩ := hzero
    let Q : Question := .appendCap (sLen + n) sCap elem
    let cap := Q.cut (w.tape w.drawn Q)
    have hcap : sLen + n ≤ cap := Nat.le_add_right _ _
    refine ⟨cap, (Builtin.zeroCells q.cells (cap - (sLen + n))).toList, w.drawn + 1, hcap, by simp [Builtin.zeroCells, (hq w).2], ?_⟩
    unfold Builtin.append_
    have hinfo : ∀ w0, (typeInfo elem).run C.P w0 = .ok ji w0 := by
      intro w0
      obtain ⟨x, h1, h2, h3, h4⟩ := hC.info hj
      unfold typeInfo at hj1 ⊢
      simp only [Sem.run_bind, run_program, Result.andThen_ok, h1, Sem.run_pure, Result.ok.injEq] at hj1 ⊢
      exact ⟨hj1.1, trivial⟩
    rcases hx with ⟨⟨k, hk⟩, ⟨k', rfl⟩, h1, h2, h3⟩ | ⟨hk, hlen, hfc⟩
    · have e1 : ¬ ((n : Int) < 0) := by omega
      have e2 := hnb h2
      have hA : ∀ d, (if n * j.size = 0 then pure #[] else do pure (Builtin.zeroCells (← zeroValue elem).cells n) : Sem (Array Value)).run C.P { w with drawn := d } = .ok ⟨us⟩ { w with drawn := d } := by
        intro d
        split at h3
        · rename_i h0; subst h3; rw [if_pos h0]; rfl
        · rename_i h0
          obtain ⟨q', hq', hz'⟩ := h3
          rw [if_neg h0]
          have := (hq w).1
          rw [hq'] at this
          cases this
          simp only [Sem.run_bind, (hq _).1, Result.andThen_ok, Sem.run_pure, hz']
      simp only [getElem?_mk, List.getElem?_cons_zero, List.getElem?_cons_succ, Sem.run_bind, hC.run_und hsi, hd, Result.andThen_ok, hC.run_size hj, hC.run_und hxi, hk, Sem.run_pure, if_true, asInt, asIntOf, hwrap, hinfo, e1, e2, if_false, Int.toNat_natCast, hnle, Bool.not_true, Bool.false_eq_true, hmax', false_and, hcapb, run_choose, Question.forced, run_askRoom, hold, hq]
      rw [hA]
      simp only [Result.andThen_ok, Sem.run_bind, newRow, run_newObj, Sem.run_pure, (hq _).1]
      congr 3
      congr 1
      congr 1
      apply Array.ext'
      simp
      rfl
    · simp only [getElem?_mk, List.getElem?_cons_zero, List.getElem?_cons_succ, Sem.run_bind, hC.run_und hsi, hd, Result.andThen_ok, hC.run_size hj, hC.run_und hxi, Sem.run_pure]
      simp only [Bool.false_eq_true, if_false, Bool.not_false, if_true, hlen, hnle, hinfo, hmax', false_and, hcapb, run_choose, Question.forced, run_askRoom, hold, hus _ hfc, Sem.run_bind, Result.andThen_ok, newRow, run_newObj, Sem.run_pure, (hq _).1]
      congr 3
      congr 1
      congr 1
      apply Array.ext'
      simp
      rfl


theorem lenOfAV_irrel {x : AV} {n : Nat} (h : lenOfAV x = some n) : x ≠ .junk := by
  cases x <;> simp_all [lenOfAV]

/-- A read does not hang on how many draws there were. -/
theorem firstCells_drawn {P : Program} (z n : Nat) (v : Value) (w : World) (d : Nat) (us : Array Value) (h : (Builtin.firstCells z n v).run P w = .ok us w) : (Builtin.firstCells z n v).run P { w with drawn := d } = .ok us { w with drawn := d } := by
  have key : ∀ (k : Nat) (a : Addr) (i : Nat) (acc us : Array Value), (loadCellsFrom a i k acc).run P w = .ok us w → (loadCellsFrom a i k acc).run P { w with drawn := d } = .ok us { w with drawn := d } := by
    intro k
    induction k with
    | zero => intro a i acc us h; simp only [loadCellsFrom, Sem.run_pure, Result.ok.injEq] at h ⊢; exact ⟨h.1, trivial⟩
    | succ k ih =>
      intro a i acc us h
      simp only [loadCellsFrom, Sem.run_bind, run_load] at h ⊢
      have e : World.cell? { w with drawn := d } (a.add i) = w.cell? (a.add i) := rfl
      rw [e]
      cases hc : w.cell? (a.add i) with
      | some v =>
        rw [hc] at h
        exact ih _ _ _ _ h
      | none =>
        rw [hc] at h
        simp only at h ⊢
        have e2 : World.farLoad P { w with drawn := d } (a.add i) (Mode.plain == Mode.atomic) = w.farLoad P (a.add i) (Mode.plain == Mode.atomic) := rfl
        rw [e2]
        cases hf : w.farLoad P (a.add i) (Mode.plain == Mode.atomic) with
        | ok x => rw [hf] at h; exact ih _ _ _ _ h
        | error x => rw [hf] at h; simp at h
  unfold Builtin.firstCells at h ⊢
  split at h
  · exact key _ _ _ _ _ h
  · simp only [Sem.run_pure, Result.ok.injEq] at h ⊢; exact ⟨h.1, trivial⟩
  · simp only [Sem.run_pure, Result.ok.injEq] at h ⊢; exact ⟨h.1, trivial⟩
  · simp at h

theorem zero_always {C : Ctx} (hC : C.OK) {t : TypeId} {i : TI} (hi : C.ti t = some i) {w : World} {q : Value} (h : (zeroValue t).run C.P w = .ok q w) : ∀ w0, (zeroValue t).run C.P w0 = .ok q w0 := by
  intro w0
  obtain ⟨x, h1, _, _, h4⟩ := hC.info hi
  unfold zeroValue typeInfo at h ⊢
  simp only [Sem.run_bind, run_program, Result.andThen_ok, h1, Sem.run_pure] at h ⊢
  cases hz : x.zero with
  | none => rw [hz] at h; simp at h
  | some v => rw [hz] at h; simp only [Sem.run_pure, Result.ok.injEq] at h ⊢; exact ⟨h.1, trivial⟩

/-- A new block of an append that grows. -/
theorem R.grown {P : Program} {N G : Nat} {ρ : Names} {H : AH} {w : World} (hR : R N G ρ H w) {α : Sem Value} {as : List AV} {vs rest : List Value} {e : TypeId} {len cap z d : Nat} (hv : VRs ρ as vs) (hz : as.length = len * z) (hr : rest.length = (cap - len) * z) (hle : len ≤ cap)
    (hrun : α.run P w = .ok (.slice (some ⟨w.heap.size, 0, none⟩) len cap) { w with heap := w.heap.push (.cells ⟨vs ++ rest⟩ e), drawn := d }) :
    Did P N G ρ H w α (fun ρ' v => VR ρ' (.slice H.next 0 len (.lo len) z) v) (H.alloc (.cells false as)) := by
  have hl := hv.length
  have hsz : (Array.mk (vs ++ rest)).size = cap * z := by
    simp only [List.size_toArray, List.length_append, hl, hz, hr]
    rw [← Nat.add_mul, Nat.add_sub_cancel' hle]
  have hnew : ρ H.next = none := hR.fresh _ (Nat.le_refl _)
  let s : Seg := ⟨w.heap.size, 0, cap * z⟩
  have hobj : NewObj (ρ.put H.next s) s (.cells false as) (.cells ⟨vs ++ rest⟩ e (0, 0)) := by
    refine .cells _ _ _ _ _ ⟨rfl, by rw [hsz]; exact Nat.le_refl _, ?_, ?_, .inl rfl⟩
    · show as.length ≤ cap * z
      rw [hz]; exact Nat.mul_le_mul_right _ hle
    · intro i a ha
      obtain ⟨v, hv', hr'⟩ := hv.get i a ha
      refine ⟨v, ?_, hr'.ext (Names.put_ext hnew)⟩
      have hi : i < vs.length := by
        rcases Nat.lt_or_ge i vs.length with h | h
        · exact h
        · rw [List.getElem?_eq_none h] at hv'; cases hv'
      simp only [Nat.zero_add, getElem?_mk]
      rw [List.getElem?_append_left hi]
      exact hv'
  obtain ⟨r1, r2⟩ := hR.alloc (.cells ⟨vs ++ rest⟩ e) d (.cells false as) s rfl rfl rfl (hobj.or hR rfl d) (fun m l v c e => by cases e)
  refine ⟨_, _, _, hrun, ?_, r1, r2⟩
  simp only [VR]
  exact ⟨s, cap, Names.put_same _ _ _, rfl, hle, hle, by simp [s]⟩

theorem R.congr {N G : Nat} {ρ : Names} {H H' : AH} {w : World} (hR : R N G ρ H w) (hg : ∀ k, H'.get k = H.get k) (hn : H'.next = H.next) : R N G ρ H' w where
  size := hR.size
  glob := hR.glob
  obj b o hb := by
    rw [hg] at hb
    obtain ⟨s, h1, h2⟩ := hR.obj b o hb
    exact ⟨s, h1, h2.keep (fun _ _ h => h) rfl (fun m l v c _ sm ps _ h => ⟨(hg m) ▸ h, rfl⟩)⟩
  inj b b' o o' s s' h1 h2 := by rw [hg] at h1 h2; exact hR.inj b b' o o' s s' h1 h2
  fresh b hb := hR.fresh b (hn ▸ hb)
  gn := hn ▸ hR.gn
  vers b m l v c hb := by rw [hg] at hb; rw [hn]; exact hR.vers b m l v c hb
  flat := hR.flat

theorem Fr.congr {ρ ρ' : Names} {H H1 H2 : AH} {w w' : World} (hF : Fr ρ H w ρ' H1 w') (hg : ∀ k, H2.get k = H1.get k) (hn : H2.next = H1.next) : Fr ρ H w ρ' H2 w' where
  same := hF.same
  next := hn ▸ hF.next
  size := hF.size
  keep := hF.keep
  own b o s h := by rw [hg] at h; exact hF.own b o s h
  dom b o hb h := by rw [hg] at h; exact hF.dom b o hb h
  os := hF.os
  tape := hF.tape
  output := hF.output

theorem Addr.add_mk (b o n : Nat) : Addr.add ⟨b, o, none⟩ n = ⟨b, o + n, none⟩ := by
  unfold Addr.add; split
  · subst_vars; rfl
  · rfl

/-- A row to whose end cells were laid goes by a new name. -/
theorem R.onward {N G : Nat} {ρ : Names} {H : AH} {w : World} (hR : R N G ρ H w) {b o cc z : Nat} {vs : List AV} {s : Seg} (hb : H.get b = some (.cells false vs)) (hs : ρ b = some s) (hroom : o + cc * z ≤ s.room) (hlen : vs.length ≤ o + cc * z) (ho : o = 0) :
    R N G (ρ.put H.next ⟨s.blk, s.base + o, cc * z⟩) ((H.del b).alloc (.cells false (vs.drop o))) w ∧ Fr ρ H w (ρ.put H.next ⟨s.blk, s.base + o, cc * z⟩) ((H.del b).alloc (.cells false (vs.drop o))) w := by
  obtain ⟨s', hs', c, e, lo, hi, h1, h2, h3, h4, h5, h6⟩ := hR.obj b _ hb
  rw [hs] at hs'; cases hs'
  obtain ⟨hN, hfz⟩ := h6 rfl
  refine hR.rename hb rfl hs rfl rfl (fun h => (by have := hR.flat b s hs h; show s.base + o = 0; omega)) rfl (fun _ _ => rfl) rfl rfl rfl ?_ (fun m l v c => by simp) (fun ps v => by simp)
  refine ⟨c, e, lo, hi, h1, by show s.base + o + cc * z ≤ c.size; omega, by show (vs.drop o).length ≤ cc * z; simp; omega, ?_, fun e => (by cases e), fun _ => ⟨hN, hfz⟩⟩
  · intro i a ha
    rw [List.getElem?_drop] at ha
    obtain ⟨v, hv, hr⟩ := h4 _ _ ha
    exact ⟨v, by rw [← hv]; congr 1; show s.base + o + i = _; omega, hr.ext (Names.put_ext (hR.fresh _ (Nat.le_refl _)))⟩

theorem aappend_ok {C : Ctx} (hC : C.OK) {N G : Nat} {ρ : Names} {H H' : AH} {w : World} (hR : R N G ρ H w) {ats : List TypeId} {ty : TypeId} {args : List AV} {vs : List Value} {r : AV} (hv : VRs ρ args vs) (h : aappend C H ats args = some (r, H')) :
    Did C.P N G ρ H w (Builtin.append_ ⟨ats⟩ ty ⟨vs⟩) (fun ρ' v => VR ρ' r v) H' := by
  unfold aappend at h
  split at h
  · rename_i st xt ats s x args
    simp only [VRs] at hv
    obtain ⟨sv, vs1, rfl, hs, xv, vs2, rfl, hx, _⟩ := hv
    split at h
    · cases h
    · rename_i si hsi
      split at h
      · rename_i elem hd
        split at h
        · cases h
        · rename_i j hj
          split at h
          · cases h
          · rename_i n cs hap
            cases hc : (allOne cs && Nat.beq cs.length (n * j.size) && zOK j)
            · rw [hc] at h; cases h
            · rw [hc] at h
              simp only [cond_true] at h
              simp only [Bool.and_eq_true] at hc
              obtain ⟨⟨hone, hlen⟩, hzok⟩ := hc
              have hlen := Nat.eq_of_beq_eq_true hlen
              obtain ⟨xi, us, hxi, hus, hcase⟩ := aappended_ok hC hR hj hx hap
              have hul := hus.length
              have huone := allOne_ok hus hone
              -- stores of nothing
              split at h
              · rename_i hn0
                subst hn0
                have hus0 : us = [] := by
                  apply List.eq_nil_of_length_eq_zero
                  rw [hul, hlen]; simp
                subst hus0
                have go : ∀ base sLen sCap, sLen ≤ sCap → sv = .slice base sLen sCap → VR ρ r sv → H' = H → Did C.P N G ρ H w (Builtin.append_ ⟨st :: xt :: ats⟩ ty ⟨sv :: xv :: vs2⟩) (fun ρ' v => VR ρ' r v) H' := by
                  intro base sLen sCap hle e hr hH
                  subst e; subst hH
                  have := (append_run hC (ty := ty) hsi hd hj hxi (base := base) (sLen := sLen) (sCap := sCap) (n := 0) (by omega) hcase ats vs2).1 (by omega) w (by cases base <;> rfl)
                  exact ⟨_, w, ρ, this, hr, hR, Fr.refl _ _ _⟩
                have hs0 := hs
                split at h
                · simp only [Option.some.injEq, Prod.mk.injEq] at h
                  obtain ⟨rfl, rfl⟩ := h
                  simp only [VR] at hs
                  exact go none 0 0 (Nat.le_refl _) hs hs0 rfl
                · simp only [Option.some.injEq, Prod.mk.injEq] at h
                  obtain ⟨rfl, rfl⟩ := h
                  simp only [VR] at hs
                  obtain ⟨sg, cc, _, e, _, hle, _⟩ := hs
                  exact go _ _ _ hle e hs0 rfl
                · simp only [Option.some.injEq, Prod.mk.injEq] at h
                  obtain ⟨rfl, rfl⟩ := h
                  simp only [VR] at hs
                  obtain ⟨_, _, e⟩ := hs
                  exact go _ _ _ (Nat.zero_le _) e hs0 rfl
                · cases h
              · rename_i hn0
                have hzero : ∃ q, ∀ w0, (zeroValue elem).run C.P w0 = .ok q w0 ∧ q.cells.size = j.size := by
                  unfold zOK at hzok
                  split at hzok
                  · rename_i z hz
                    simp only [Bool.and_eq_true] at hzok
                    have hzl := Nat.eq_of_beq_eq_true hzok.2
                    obtain ⟨q, hq, hr⟩ := hC.run_zero hj hz w ρ
                    have hcs := (VR.cells hr hzok.1).length
                    simp at hcs
                    exact ⟨q, fun w0 => ⟨zero_always hC hj hq w0, by omega⟩⟩
                  · cases hzok
                have hfd : ∀ d, (Builtin.firstCells j.size n xv).run C.P w = .ok ⟨us⟩ w → (Builtin.firstCells j.size n xv).run C.P { w with drawn := d } = .ok ⟨us⟩ { w with drawn := d } := fun d h => firstCells_drawn _ _ _ _ _ _ h
                -- it grows
                have grow : ∀ (H0 : AH), H0.next = H.next → R N G ρ H0 w → Fr ρ H w ρ H0 w → ∀ base sLen sCap (old : List AV) (ov : List Value), sv = .slice base sLen sCap → ¬ sLen + n ≤ sCap → sLen + n ≤ 4611686018427387904 → (2 * (sLen + n) + 1024) * j.bytes ≤ 281474976710656 →
                    old.length = sLen * j.size → VRs ρ old ov → (Builtin.firstCells j.size sLen sv).run C.P w = .ok ⟨ov⟩ w → r = .slice H.next 0 (sLen + n) (.lo (sLen + n)) j.size → H' = H0.alloc (.cells false (old ++ cs)) →
                    Did C.P N G ρ H w (Builtin.append_ ⟨st :: xt :: ats⟩ ty ⟨sv :: xv :: vs2⟩) (fun ρ' v => VR ρ' r v) H' := by
                  intro H0 hnx hR0 hF0 base sLen sCap old ov e hn1 hn2 hn3 hol hov hfo er eH
                  subst e; subst er; subst eH
                  obtain ⟨cap, rest, d, g1, g2, g3⟩ := (append_run hC (ty := ty) hsi hd hj hxi (base := base) (sLen := sLen) (sCap := sCap) (n := n) (by omega) hcase ats vs2).2 hn1 hn2 hn3 ov
                    (fun d => firstCells_drawn _ _ _ _ _ _ hfo) hfd hzero
                  have := hR0.grown (P := C.P) (hov.append hus) (by simp only [List.length_append, hol, hlen]; rw [Nat.add_mul]) g2 g1 g3
                  obtain ⟨v, w', ρ', q1, q2, q3, q4⟩ := this
                  rw [hnx] at q2
                  exact ⟨v, w', ρ', q1, q2, q3, hF0.trans q4⟩
                split at h
                · rename_i _
                  cases hcc : (Nat.ble ((2 * n + 1024) * j.bytes) 281474976710656 && Nat.ble n 4611686018427387904)
                  · rw [hcc] at h; cases h
                  · rw [hcc] at h
                    simp only [cond_true, Option.some.injEq, Prod.mk.injEq] at h
                    obtain ⟨rfl, rfl⟩ := h
                    simp only [Bool.and_eq_true] at hcc
                    simp only [VR] at hs
                    refine grow H rfl hR (Fr.refl _ _ _) none 0 0 [] [] hs (by omega) (by have := Nat.le_of_ble_eq_true hcc.2; omega) (by have := Nat.le_of_ble_eq_true hcc.1; simpa using this) (by simp) VRs.nil (by rw [hs]; rfl) (by simp) (by simp)
                · rename_i b o l c z
                  cases hcc : (Nat.beq z j.size && Nat.ble ((2 * (l + n) + 1024) * j.bytes) 281474976710656 && Nat.ble (l + n) 4611686018427387904)
                  · rw [hcc] at h; cases h
                  · rw [hcc] at h
                    simp only [cond_true] at h
                    simp only [Bool.and_eq_true] at hcc
                    have hz := Nat.eq_of_beq_eq_true hcc.1.1
                    subst hz
                    have hb1 := Nat.le_of_ble_eq_true hcc.1.2
                    have hb2 := Nat.le_of_ble_eq_true hcc.2
                    have hs0 := hs
                    simp only [VR] at hs
                    obtain ⟨sg, cc, hsg, e, hok, hle, hroom⟩ := hs
                    have hcl := hok.low
                    -- it fits
                    have fits : l + n ≤ cc → ∀ vs, H.get b = some (.cells false vs) → o + l * j.size ≤ vs.length →
                        ∃ w', (Builtin.append_ ⟨st :: xt :: ats⟩ ty ⟨sv :: xv :: vs2⟩).run C.P w = .ok (.slice (some ⟨sg.blk, sg.base + o, none⟩) (l + n) cc) w' ∧
                          R N G ρ (H.set b (.cells false (splice vs (o + l * j.size) cs))) w' ∧ Fr ρ H w ρ (H.set b (.cells false (splice vs (o + l * j.size) cs))) w' := by
                      intro hfit vs hb hol
                      have hmul := Nat.mul_le_mul_right j.size hfit
                      rw [Nat.add_mul] at hmul
                      obtain ⟨w', g1, g2, g3, g4, g5⟩ := hR.extendCells (P := C.P) hb hsg hus huone hol (by omega)
                      refine ⟨w', ?_, g2, g3⟩
                      rw [e]
                      refine (append_run hC (ty := ty) hsi hd hj hxi (n := n) (by omega) hcase ats vs2).1 hfit w' ?_
                      simp only [Addr.add_mk]
                      rw [Nat.add_assoc]; exact g1
                    split at h
                    · rename_i hfit
                      split at h
                      · rename_i vs hb
                        cases hol : Nat.ble (o + l * j.size) vs.length
                        · rw [hol] at h; cases h
                        · rw [hol] at h
                          simp only [cond_true, Option.some.injEq, Prod.mk.injEq] at h
                          obtain ⟨rfl, rfl⟩ := h
                          obtain ⟨w', g1, g2, g3⟩ := fits (by omega) vs hb (Nat.le_of_ble_eq_true hol)
                          refine ⟨_, w', ρ, g1, ?_, g2, g3⟩
                          simp only [VR]
                          exact ⟨sg, cc, hsg, rfl, hok, by omega, hroom⟩
                      · cases h
                    · rename_i hfit
                      split at h
                      · rename_i c0
                        simp only [Option.map_eq_some_iff, Prod.mk.injEq] at h
                        obtain ⟨old, hold, rfl, rfl⟩ := h
                        simp only [ACap.ok] at hok
                        simp only [ACap.low] at hfit
                        obtain ⟨ov, k1, k2⟩ := acells_ok (P := C.P) hR hs0 hold
                        have hol : old.length = l * j.size := by
                          unfold acells at hold
                          cases hq : Nat.beq (l * j.size) 0
                          · rw [hq] at hold
                            simp only [cond_false] at hold
                            split at hold
                            · rename_i ro vs hb
                              cases hq2 : Nat.beq ((vs.drop o).take (l * j.size)).length (l * j.size)
                              · simp only [hq2] at hold; cases hold
                              · simp only [hq2, cond_true, Option.some.injEq] at hold
                                subst hold
                                exact Nat.eq_of_beq_eq_true hq2
                            · cases hold
                          · rw [hq] at hold
                            simp only [cond_true, Option.some.injEq] at hold
                            subst hold
                            exact (Nat.eq_of_beq_eq_true hq).symm
                        exact grow H rfl hR (Fr.refl _ _ _) _ l cc old ov e (by omega) hb2 hb1 hol k2 k1 rfl rfl
                      · rename_i c0
                        split at h
                        · rename_i vs hb
                          cases hol : (Nat.beq o 0 && Nat.beq (o + l * j.size) vs.length)
                          · rw [hol] at h; cases h
                          · rw [hol] at h
                            simp only [cond_true, Option.some.injEq, Prod.mk.injEq] at h
                            obtain ⟨rfl, rfl⟩ := h
                            simp only [Bool.and_eq_true] at hol
                            have ho0 := Nat.eq_of_beq_eq_true hol.1
                            have hol := Nat.eq_of_beq_eq_true hol.2
                            by_cases hf2 : l + n ≤ cc
                            · obtain ⟨w', g1, g2, g3⟩ := fits hf2 vs hb (by omega)
                              have hsp : splice vs (o + l * j.size) cs = vs ++ cs := by
                                unfold splice
                                rw [hol, List.take_length, List.drop_of_length_le (by omega), List.append_nil]
                              rw [hsp] at g2 g3
                              have hmul := Nat.mul_le_mul_right j.size hf2
                              rw [Nat.add_mul] at hmul
                              obtain ⟨r1, r2⟩ := g2.onward (b := b) (o := o) (cc := cc) (z := j.size) (by rw [AH.get_set, if_pos rfl]) hsg hroom (by simp; omega) ho0
                              have hdr : (vs ++ cs).drop o = vs.drop o ++ cs := by rw [List.drop_append_of_le_length (by omega)]
                              rw [hdr] at r1 r2
                              have hg : ∀ k, ((H.del b).alloc (.cells false (vs.drop o ++ cs))).get k = (((H.set b (.cells false (vs ++ cs))).del b).alloc (.cells false (vs.drop o ++ cs))).get k := by
                                intro k
                                simp only [AH.get_alloc, AH.get_del, AH.get_set, AH.next_del, AH.next_set]
                                split
                                · rfl
                                · split <;> rfl
                              refine ⟨_, w', _, g1, ?_, r1.congr hg rfl, (g3.trans r2).congr hg rfl⟩
                              simp only [VR, AH.next_set]
                              exact ⟨_, cc, Names.put_same _ _ _, by simp, by simp only [ACap.ok]; omega, hf2, by simp⟩
                            · have hd1 : R N G ρ (H.del b) w := hR.del b
                              obtain ⟨ov, k1, k2⟩ := acells_ok (P := C.P) hR (n := l) (z := j.size) hs0 (cs := vs.drop o) (by
                                unfold acells
                                cases hq : Nat.beq (l * j.size) 0
                                · simp only [cond_false, hb]
                                  have : ((vs.drop o).take (l * j.size)) = vs.drop o := by rw [List.take_of_length_le (by simp; omega)]
                                  rw [this]
                                  have hl2 : (vs.drop o).length = l * j.size := by simp; omega
                                  rw [hl2, Nat.beq_refl]; rfl
                                · have hq' := Nat.eq_of_beq_eq_true hq
                                  simp only [cond_true]
                                  rw [List.drop_of_length_le (by omega)])
                              exact grow (H.del b) rfl hd1 (Fr.del b) _ l cc (vs.drop o) ov e (by omega) hb2 hb1 (by simp; omega) k2 k1 rfl rfl
                        · cases h
                · cases h
      · cases h
  · cases h

end Go.AB
