/- Operations that read memory; operations that make a new block. -/
import Derived.Test.YtgihociajfgohaaGreatDoorAb7
namespace Go.AB
set_option linter.unusedSimpArgs false

theorem R.cell {N G : Nat} {ρ : Names} {H : AH} {w : World} (hR : R N G ρ H w) {b : Nat} {ro : Bool} {vs : List AV} (hb : H.get b = some (.cells ro vs)) {s : Seg} (hs : ρ b = some s) {k : Nat} {a : AV} (ha : vs[k]? = some a) :
    ∃ v, w.cell? ⟨s.blk, s.base + k, none⟩ = some v ∧ VR ρ a v := by
  obtain ⟨s', hs', c, e, lo, hi, h1, h2, h3, h4, _⟩ := hR.obj b _ hb
  rw [hs] at hs'; cases hs'
  obtain ⟨v, hv, hr⟩ := h4 k a ha
  exact ⟨v, by simp [World.cell?, h1, hv], hr⟩

theorem run_loadCells_ab {P : Program} {w : World} {ρ : Names} (blk : Nat) : ∀ (as : List AV) (off i : Nat) (acc : Array Value), (∀ (k : Nat) (a : AV), as[k]? = some a → ∃ v, w.cell? ⟨blk, off + i + k, none⟩ = some v ∧ VR ρ a v) →
    ∃ vs, (loadCellsFrom ⟨blk, off, none⟩ i as.length acc).run P w = .ok (acc ++ ⟨vs⟩) w ∧ VRs ρ as vs
  | [], off, i, acc, _ => ⟨[], by simp [loadCellsFrom], VRs.nil⟩
  | a :: as, off, i, acc, h => by
    obtain ⟨v, hv, hr⟩ := h 0 a (by simp)
    obtain ⟨vs, h1, h2⟩ := run_loadCells_ab (P := P) (w := w) (ρ := ρ) blk as off (i + 1) (acc.push v) (fun k x hx => by
      have := h (k + 1) x (by simpa using hx)
      rwa [show off + i + (k + 1) = off + (i + 1) + k by omega] at this)
    refine ⟨v :: vs, ?_, VRs.cons hr h2⟩
    have ha : (Addr.add ⟨blk, off, none⟩ i) = ⟨blk, off + i, none⟩ := by
      unfold Addr.add; split
      · subst_vars; rfl
      · rfl
    simp only [List.length_cons, loadCellsFrom, Sem.run_bind, run_load, ha, Result.andThen]
    simp only [Nat.add_zero] at hv
    rw [hv]
    simp only [h1]
    congr 1
    apply Array.ext'
    simp

def aload (C : Ctx) (H : AH) (t : TypeId) (x : AV) : Option AV :=
  match x with
  | .ptr b k =>
    match H.get b with
    | some (.cells _ vs) =>
      match C.ti t with
      | none => none
      | some i =>
        bif i.agg then
          let cs := (vs.drop k).take i.size
          bif Nat.beq cs.length i.size then some (.agg cs) else none
        else vs[k]?
    | _ => none
  | _ => none

theorem aload_ok {C : Ctx} (hC : C.OK) {N G : Nat} {ρ : Names} {H : AH} {w : World} (hR : R N G ρ H w) {t : TypeId} {x r : AV} {v : Value} (hx : VR ρ x v) (h : aload C H t x = some r) :
    ∃ u, (Instr.loadAt t v).run C.P w = .ok u w ∧ VR ρ r u := by
  unfold aload at h
  split at h
  · rename_i b k
    split at h
    · rename_i ro vs hb
      split at h
      · cases h
      · rename_i i hi
        simp only [VR] at hx
        obtain ⟨sg, hsg, rfl⟩ := hx
        unfold Instr.loadAt Instr.sureAddr loadVar
        simp only [Sem.run_bind, Sem.run_pure, Result.andThen_ok, hC.run_isAgg hi]
        cases hg : i.agg
        · rw [hg] at h
          simp only [cond_false] at h
          obtain ⟨u, hu, hr⟩ := hR.cell hb hsg h
          exact ⟨u, by simp [hu], hr⟩
        · rw [hg] at h
          simp only [cond_true] at h
          cases hl : Nat.beq ((vs.drop k).take i.size).length i.size
          · rw [hl] at h; cases h
          · rw [hl] at h
            simp only [cond_true, Option.some.injEq] at h
            subst h
            have hl' := Nat.eq_of_beq_eq_true hl
            obtain ⟨us, h1, h2⟩ := run_loadCells_ab (P := C.P) (w := w) (ρ := ρ) sg.blk ((vs.drop k).take i.size) (sg.base + k) 0 #[] (fun j a hj => by
              rw [List.getElem?_take] at hj
              split at hj
              · rw [List.getElem?_drop] at hj
                have := hR.cell hb hsg hj
                rwa [show sg.base + k + 0 + j = sg.base + (k + j) by omega]
              · cases hj)
            rw [hl'] at h1
            refine ⟨.agg ⟨us⟩, ?_, by simp only [VR]; exact ⟨us, rfl, h2⟩⟩
            simp only [if_true, Sem.run_bind, hC.run_size hi, Result.andThen_ok, loadCells, h1, Sem.run_pure]
            simp
    · cases h
  · cases h

/-! ### Maps -/
def mget : List (List UInt8 × AV) → List UInt8 → Option AV
  | [], _ => none
  | p :: ps, k => bif beqL k p.1 then some p.2 else mget ps k

theorem findNow_ok {ρ : Names} (k : List UInt8) : ∀ {ps : List (List UInt8 × AV)} {es : List MapEntry}, EntsR ρ ps es → ∀ (i : Nat),
    ∃ r, Instr.findNow .string (.string ⟨k.toArray⟩) es i = some r ∧
      (match mget ps k with
       | none => r = none
       | some a => ∃ j v e, r = some (i + j, v) ∧ VR ρ a v ∧ es[j]? = some e ∧ e.val = v ∧ (ps.map (·.1))[j]? = some k)
  | [], es, h, i => by
    simp only [EntsR] at h; subst h
    exact ⟨none, by simp [Instr.findNow], by simp [mget]⟩
  | p :: ps, es, h, i => by
    simp only [EntsR] at h
    obtain ⟨e, es', rfl, hk, hv, hr⟩ := h
    have hs : Instr.sameNow .string (.string ⟨k.toArray⟩) e.key = some (decide (k = p.1)) := by
      rw [hk, ← beqB]; rfl
    simp only [Instr.findNow, hs, mget, beqL_eq]
    by_cases hkp : k = p.1
    · simp only [hkp, decide_true, cond_true]
      exact ⟨_, rfl, 0, e.val, e, rfl, hv, by simp, rfl, by simp⟩
    · simp only [hkp, decide_false, cond_false]
      obtain ⟨r, h1, h2⟩ := findNow_ok k hr (i + 1)
      refine ⟨r, h1, ?_⟩
      cases hm : mget ps k with
      | none => rw [hm] at h2; exact h2
      | some a =>
        rw [hm] at h2
        obtain ⟨j, v, e', h3, h4, h5, h6, h7⟩ := h2
        exact ⟨j + 1, v, e', by rw [h3]; congr 2; omega, h4, by simpa using h5, h6, by simpa using h7⟩

theorem checkKey_string {C : Ctx} (hC : C.OK) {t : TypeId} {i : TI} (hi : C.ti t = some i) (hd : i.d = .string) (b : Bool) (n : Nat) (s : ByteArray) (w : World) :
    (Instr.checkKey b (n + 1) t (.string s)).run C.P w = .ok () w := by
  unfold Instr.checkKey
  simp only [Sem.run_bind, hC.run_und hi, hd, Result.andThen_ok]
  rfl

theorem findKey_string {C : Ctx} (hC : C.OK) {ρ : Names} {t : TypeId} {i : TI} (hi : C.ti t = some i) (hd : i.d = .string) (k : List UInt8) {ps : List (List UInt8 × AV)} {es : List MapEntry} (h : EntsR ρ ps es) (w : World) :
    ∃ r, (Instr.findKey t (.string ⟨k.toArray⟩) es).run C.P w = .ok r w ∧
      (match mget ps k with
       | none => r = none
       | some a => ∃ j v e, r = some (j, v) ∧ VR ρ a v ∧ es[j]? = some e ∧ e.val = v ∧ (ps.map (·.1))[j]? = some k) := by
  obtain ⟨r, h1, h2⟩ := findNow_ok k h 0
  refine ⟨r, ?_, ?_⟩
  · unfold Instr.findKey
    simp only [Sem.run_bind, hC.run_und hi, hd, Result.andThen_ok, h1]
    rfl
  · simpa using h2

theorem R.map {N G : Nat} {ρ : Names} {H : AH} {w : World} (hR : R N G ρ H w) {b : Nat} {ps : List (List UInt8 × AV)} {ver : Nat} (hb : H.get b = some (.map ps ver)) {s : Seg} (hs : ρ b = some s) :
    N ≤ s.blk ∧ ∃ es clock, w.heap[s.blk]? = some (.map es clock) ∧ MapR ρ ps es clock := by
  obtain ⟨s', hs', h⟩ := hR.obj b _ hb
  rw [hs] at hs'; cases hs'
  exact h

def isStrKey (C : Ctx) (k : TypeId) : Bool :=
  match C.ti k with
  | some i => (match i.d with | .string => true | _ => false)
  | none => false

theorem isStrKey_some {C : Ctx} {k : TypeId} (h : isStrKey C k = true) : ∃ i, C.ti k = some i ∧ i.d = .string := by
  unfold isStrKey at h
  split at h
  · rename_i i hi
    split at h
    · rename_i hd; exact ⟨i, hi, hd⟩
    · cases h
  · cases h

def mapOf (H : AH) : AV → Option (List (List UInt8 × AV))
  | .nilm => some []
  | .map b => match H.get b with
    | some (.map ps _) => some ps
    | _ => none
  | _ => none

theorem mapOf_ok {N G : Nat} {ρ : Names} {H : AH} {w : World} (hR : R N G ρ H w) {x : AV} {v : Value} (hx : VR ρ x v) {ps : List (List UInt8 × AV)} (h : mapOf H x = some ps) :
    ∃ es : Array MapEntry, EntsR ρ ps es.toList ∧ (v = .map none ∧ es = #[] ∨ ∃ r clock, v = .map (some r) ∧ w.heap[r]? = some (.map es clock)) := by
  unfold mapOf at h
  split at h
  · simp only [Option.some.injEq] at h; subst h
    simp only [VR] at hx
    exact ⟨#[], by simp [EntsR], .inl ⟨hx, rfl⟩⟩
  · split at h
    · rename_i b _ ps' ver hb
      simp only [Option.some.injEq] at h; subst h
      simp only [VR] at hx
      obtain ⟨sg, hsg, rfl⟩ := hx
      obtain ⟨_, es, clock, h1, h2⟩ := hR.map hb hsg
      exact ⟨es, h2.ents, .inr ⟨_, clock, rfl, h1⟩⟩
    · cases h
  · cases h

def alookup (C : Ctx) (H : AH) (t : TypeId) (x k : AV) (ok : Bool) : Option AV :=
  match C.ti t with
  | none => none
  | some i =>
    match i.d, k with
    | .map kt et, .str s =>
      bif isStrKey C kt then
        match mapOf H x with
        | none => none
        | some ps =>
          match mget ps s with
          | some a => some (bif ok then .tuple [a, .bool true] else a)
          | none =>
            match C.ti et with
            | none => none
            | some j => match j.zero with
              | none => none
              | some z => some (bif ok then .tuple [z, .bool false] else z)
      else none
    | _, _ => none

theorem alookup_ok {C : Ctx} (hC : C.OK) {N G : Nat} {ρ : Names} {H : AH} {w : World} (hR : R N G ρ H w) {t : TypeId} {x k r : AV} {v kv : Value} {ok : Bool} (hx : VR ρ x v) (hk : VR ρ k kv) (h : alookup C H t x k ok = some r) :
    ∃ u, (Instr.lookup t v kv ok).run C.P w = .ok u w ∧ VR ρ r u := by
  unfold alookup at h
  split at h
  · cases h
  · rename_i i hi
    split at h
    · rename_i kt et s hd
      simp only [VR] at hk
      subst hk
      cases hkey : isStrKey C kt
      · rw [hkey] at h; cases h
      · rw [hkey] at h
        simp only [cond_true] at h
        obtain ⟨ki, hki, hkd⟩ := isStrKey_some hkey
        split at h
        · cases h
        · rename_i ps hps
          obtain ⟨es, hents, hv⟩ := mapOf_ok hR hx hps
          obtain ⟨f, hf, hm⟩ := findKey_string hC hki hkd s hents w
          have hck := fun b => checkKey_string hC hki hkd b 9999 ⟨s.toArray⟩ w
          have go : ∀ u, (match f with
              | some (_, v) => pure (v, true)
              | none => do pure (← zeroValue et, false) : Sem (Value × Bool)).run C.P w = .ok u w →
              (Instr.lookup t v (.string ⟨s.toArray⟩) ok).run C.P w = .ok (if ok then .tuple #[u.1, .bool u.2] else u.1) w := by
            intro u hu
            unfold Instr.lookup
            rcases hv with ⟨rfl, rfl⟩ | ⟨rr, clock, rfl, hheap⟩
            · simp only [Sem.run_bind, hC.run_und hi, Result.andThen_ok, hd, Sem.run_pure, hck, hf]
              cases f with
              | none =>
                simp only [Sem.run_bind] at hu ⊢
                cases hz : (zeroValue et).run C.P w with
                | ok a w1 =>
                  rw [hz] at hu
                  simp only [Result.andThen_ok, Sem.run_pure, Result.ok.injEq] at hu ⊢
                  obtain ⟨rfl, rfl⟩ := hu
                  exact ⟨rfl, rfl⟩
                | halt x w1 => rw [hz] at hu; simp at hu
              | some p => obtain ⟨a, b⟩ := p; simp only [Sem.run_pure] at hu ⊢; cases hu; rfl
            · simp only [Sem.run_bind, hC.run_und hi, Result.andThen_ok, hd, Sem.run_pure, getObj, Sem.run, hheap, hck, hf]
              cases f with
              | none =>
                simp only [Sem.run_bind] at hu ⊢
                cases hz : (zeroValue et).run C.P w with
                | ok a w1 =>
                  rw [hz] at hu
                  simp only [Result.andThen_ok, Sem.run_pure, Result.ok.injEq] at hu ⊢
                  obtain ⟨rfl, rfl⟩ := hu
                  exact ⟨rfl, rfl⟩
                | halt x w1 => rw [hz] at hu; simp at hu
              | some p => obtain ⟨a, b⟩ := p; simp only [Sem.run_pure] at hu ⊢; cases hu; rfl
          split at h
          · rename_i a ha
            rw [ha] at hm
            obtain ⟨j, u, e, rfl, hu, _⟩ := hm
            simp only [Option.some.injEq] at h; subst h
            refine ⟨_, go (u, true) rfl, ?_⟩
            cases ok
            · exact hu
            · simp only [cond_true, if_true, VR]
              exact ⟨[u, .bool true], rfl, VRs.cons hu (VRs.cons (by simp [VR]) VRs.nil)⟩
          · rename_i ha
            rw [ha] at hm
            subst hm
            split at h
            · cases h
            · rename_i j hj
              split at h
              · cases h
              · rename_i z hz
                simp only [Option.some.injEq] at h; subst h
                obtain ⟨zv, hzv, hr⟩ := hC.run_zero hj hz w ρ
                refine ⟨_, go (zv, false) (by simp only [Sem.run_bind, hzv, Result.andThen_ok, Sem.run_pure]), ?_⟩
                cases ok
                · exact hr
                · simp only [cond_true, if_true, VR]
                  exact ⟨[zv, .bool false], rfl, VRs.cons hr (VRs.cons (by simp [VR]) VRs.nil)⟩
    · cases h

end Go.AB
