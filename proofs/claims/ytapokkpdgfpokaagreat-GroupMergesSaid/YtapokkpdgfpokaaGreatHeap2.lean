/- Own abstract heaps and operations: reads, new blocks, stores, maps, append; no condition. -/
import Derived.Test.YtapokkpdgfpokaaGreatHeap1
set_option linter.unusedSimpArgs false
set_option linter.unusedVariables false
namespace Go.AB

theorem R.cell {N : Bd} {G : Nat} {ρ : Names} {H : AH} {w : World} (hR : R N G ρ H w) {b : Nat} {ro : Bool} {vs : List AV} (hb : H.get b = some (.cells ro vs)) {s : Seg} (hs : ρ b = some s) {k : Nat} {a : AV} (ha : vs[k]? = some a) :
    ∃ v, w.cell? ⟨s.blk, s.base + k, none⟩ = some v ∧ VR ρ a v := by
  obtain ⟨s', hs', c, e, lo, hi, h1, h2, h3, h4, _⟩ := hR.obj b _ hb
  rw [hs] at hs'; cases hs'
  obtain ⟨v, hv, hr⟩ := h4 k a ha
  exact ⟨v, by simp [World.cell?, h1, hv], hr⟩

theorem run_loadCells_ab {P : Program} {w : World} {ρ : Names} (blk : Nat) : ∀ (as : List AV) (off i : Nat) (acc : Array Value), (∀ (k : Nat) (a : AV), as[k]? = some a → ∃ v, w.cell? ⟨blk, off + i + k, none⟩ = some v ∧ VR ρ a v) →
    ∃ vs, (loadCellsFrom ⟨blk, off, none⟩ i as.length acc).run P w = .ok (acc ++ ⟨vs⟩) w ∧ VRs ρ as vs
  | [], off, i, acc, _ => ⟨[], by simp [loadCellsFrom], VRs.nil⟩
  | a :: as, off, i, acc, h => by
    obtain ⟨v, hv, hr⟩ := h 0 a (by simp)
    obtain ⟨vs, h1, h2⟩ := run_loadCells_ab (P := P) (w := w) (ρ := ρ) blk as off (i + 1) (acc.push v) (fun k x hx => by
      have := h (k + 1) x (by simpa using hx)
      rwa [show off + i + (k + 1) = off + (i + 1) + k by omega] at this)
    refine ⟨v :: vs, ?_, VRs.cons hr h2⟩
    have ha : (Addr.add ⟨blk, off, none⟩ i) = ⟨blk, off + i, none⟩ := by
      unfold Addr.add; split
      · subst_vars; rfl
      · rfl
    simp only [List.length_cons, loadCellsFrom, Sem.run_bind, run_load, ha, Result.andThen]
    simp only [Nat.add_zero] at hv
    rw [hv]
    simp only [h1]
    congr 1
    apply Array.ext'
    simp

def aload (C : Ctx) (H : AH) (t : TypeId) (x : AV) : Option AV :=
  match x with
  | .ptr b k =>
    match H.get b with
    | some (.cells _ vs) =>
      match C.ti t with
      | none => none
      | some i =>
        bif i.agg then
          let cs := (vs.drop k).take i.size
          bif Nat.beq cs.length i.size then some (.agg cs) else none
        else vs[k]?
    | _ => none
  | _ => none

theorem aload_ok {C : Ctx} (hC : C.OK) {N : Bd} {G : Nat} {ρ : Names} {H : AH} {w : World} (hR : R N G ρ H w) {t : TypeId} {x r : AV} {v : Value} (hx : VR ρ x v) (h : aload C H t x = some r) :
    ∃ u, (Instr.loadAt t v).run C.P w = .ok u w ∧ VR ρ r u := by
  unfold aload at h
  split at h
  · rename_i b k
    split at h
    · rename_i ro vs hb
      split at h
      · cases h
      · rename_i i hi
        simp only [VR] at hx
        obtain ⟨sg, hsg, rfl⟩ := hx
        unfold Instr.loadAt Instr.sureAddr loadVar
        simp only [Sem.run_bind, Sem.run_pure, Result.andThen_ok, hC.run_isAgg hi]
        cases hg : i.agg
        · rw [hg] at h
          simp only [cond_false] at h
          obtain ⟨u, hu, hr⟩ := hR.cell hb hsg h
          exact ⟨u, by simp [hu], hr⟩
        · rw [hg] at h
          simp only [cond_true] at h
          cases hl : Nat.beq ((vs.drop k).take i.size).length i.size
          · rw [hl] at h; cases h
          · rw [hl] at h
            simp only [cond_true, Option.some.injEq] at h
            subst h
            have hl' := Nat.eq_of_beq_eq_true hl
            obtain ⟨us, h1, h2⟩ := run_loadCells_ab (P := C.P) (w := w) (ρ := ρ) sg.blk ((vs.drop k).take i.size) (sg.base + k) 0 #[] (fun j a hj => by
              rw [List.getElem?_take] at hj
              split at hj
              · rw [List.getElem?_drop] at hj
                have := hR.cell hb hsg hj
                rwa [show sg.base + k + 0 + j = sg.base + (k + j) by omega]
              · cases hj)
            rw [hl'] at h1
            refine ⟨.agg ⟨us⟩, ?_, by simp only [VR]; exact ⟨us, rfl, h2⟩⟩
            simp only [if_true, Sem.run_bind, hC.run_size hi, Result.andThen_ok, loadCells, h1, Sem.run_pure]
            simp
    · cases h
  · cases h

/-! ### Maps -/
def mget : List (List UInt8 × AV) → List UInt8 → Option AV
  | [], _ => none
  | p :: ps, k => bif beqL k p.1 then some p.2 else mget ps k

theorem findNow_ok {ρ : Names} (k : List UInt8) : ∀ {ps : List (List UInt8 × AV)} {es : List MapEntry}, EntsR ρ ps es → ∀ (i : Nat),
    ∃ r, Instr.findNow .string (.string ⟨k.toArray⟩) es i = some r ∧
      (match mget ps k with
       | none => r = none
       | some a => ∃ j v e, r = some (i + j, v) ∧ VR ρ a v ∧ es[j]? = some e ∧ e.val = v ∧ (ps.map (·.1))[j]? = some k)
  | [], es, h, i => by
    simp only [EntsR] at h; subst h
    exact ⟨none, by simp [Instr.findNow], by simp [mget]⟩
  | p :: ps, es, h, i => by
    simp only [EntsR] at h
    obtain ⟨e, es', rfl, hk, hv, hr⟩ := h
    have hs : Instr.sameNow .string (.string ⟨k.toArray⟩) e.key = some (decide (k = p.1)) := by
      rw [hk, ← beqB]; rfl
    simp only [Instr.findNow, hs, mget, beqL_eq]
    by_cases hkp : k = p.1
    · simp only [hkp, decide_true, cond_true]
      exact ⟨_, rfl, 0, e.val, e, rfl, hv, by simp, rfl, by simp⟩
    · simp only [hkp, decide_false, cond_false]
      obtain ⟨r, h1, h2⟩ := findNow_ok k hr (i + 1)
      refine ⟨r, h1, ?_⟩
      cases hm : mget ps k with
      | none => rw [hm] at h2; exact h2
      | some a =>
        rw [hm] at h2
        obtain ⟨j, v, e', h3, h4, h5, h6, h7⟩ := h2
        exact ⟨j + 1, v, e', by rw [h3]; congr 2; omega, h4, by simpa using h5, h6, by simpa using h7⟩

theorem checkKey_string {C : Ctx} (hC : C.OK) {t : TypeId} {i : TI} (hi : C.ti t = some i) (hd : i.d = .string) (b : Bool) (n : Nat) (s : ByteArray) (w : World) :
    (Instr.checkKey b (n + 1) t (.string s)).run C.P w = .ok () w := by
  unfold Instr.checkKey
  simp only [Sem.run_bind, hC.run_und hi, hd, Result.andThen_ok]
  rfl

theorem findKey_string {C : Ctx} (hC : C.OK) {ρ : Names} {t : TypeId} {i : TI} (hi : C.ti t = some i) (hd : i.d = .string) (k : List UInt8) {ps : List (List UInt8 × AV)} {es : List MapEntry} (h : EntsR ρ ps es) (w : World) :
    ∃ r, (Instr.findKey t (.string ⟨k.toArray⟩) es).run C.P w = .ok r w ∧
      (match mget ps k with
       | none => r = none
       | some a => ∃ j v e, r = some (j, v) ∧ VR ρ a v ∧ es[j]? = some e ∧ e.val = v ∧ (ps.map (·.1))[j]? = some k) := by
  obtain ⟨r, h1, h2⟩ := findNow_ok k h 0
  refine ⟨r, ?_, ?_⟩
  · unfold Instr.findKey
    simp only [Sem.run_bind, hC.run_und hi, hd, Result.andThen_ok, h1]
    rfl
  · simpa using h2

theorem R.map {N : Bd} {G : Nat} {ρ : Names} {H : AH} {w : World} (hR : R N G ρ H w) {b : Nat} {ps : List (List UInt8 × AV)} {ver : Nat} (hb : H.get b = some (.map ps ver)) {s : Seg} (hs : ρ b = some s) :
    N.n ≤ s.blk ∧ ∃ es clock, w.heap[s.blk]? = some (.map es clock) ∧ MapR ρ ps es clock := by
  obtain ⟨s', hs', h⟩ := hR.obj b _ hb
  rw [hs] at hs'; cases hs'
  exact h

def isStrKey (C : Ctx) (k : TypeId) : Bool :=
  match C.ti k with
  | some i => (match i.d with | .string => true | _ => false)
  | none => false

theorem isStrKey_some {C : Ctx} {k : TypeId} (h : isStrKey C k = true) : ∃ i, C.ti k = some i ∧ i.d = .string := by
  unfold isStrKey at h
  split at h
  · rename_i i hi
    split at h
    · rename_i hd; exact ⟨i, hi, hd⟩
    · cases h
  · cases h

def mapOf (H : AH) : AV → Option (List (List UInt8 × AV))
  | .nilm => some []
  | .map b => match H.get b with
    | some (.map ps _) => some ps
    | _ => none
  | _ => none

theorem mapOf_ok {N : Bd} {G : Nat} {ρ : Names} {H : AH} {w : World} (hR : R N G ρ H w) {x : AV} {v : Value} (hx : VR ρ x v) {ps : List (List UInt8 × AV)} (h : mapOf H x = some ps) :
    ∃ es : Array MapEntry, EntsR ρ ps es.toList ∧ (v = .map none ∧ es = #[] ∨ ∃ r clock, v = .map (some r) ∧ w.heap[r]? = some (.map es clock)) := by
  unfold mapOf at h
  split at h
  · simp only [Option.some.injEq] at h; subst h
    simp only [VR] at hx
    exact ⟨#[], by simp [EntsR], .inl ⟨hx, rfl⟩⟩
  · split at h
    · rename_i b _ ps' ver hb
      simp only [Option.some.injEq] at h; subst h
      simp only [VR] at hx
      obtain ⟨sg, hsg, rfl⟩ := hx
      obtain ⟨_, es, clock, h1, h2⟩ := hR.map hb hsg
      exact ⟨es, h2.ents, .inr ⟨_, clock, rfl, h1⟩⟩
    · cases h
  · cases h

def alookup (C : Ctx) (H : AH) (t : TypeId) (x k : AV) (ok : Bool) : Option AV :=
  match C.ti t with
  | none => none
  | some i =>
    match i.d, k with
    | .map kt et, .str s =>
      bif isStrKey C kt then
        match mapOf H x with
        | none => none
        | some ps =>
          match mget ps s with
          | some a => some (bif ok then .tuple [a, .bool true] else a)
          | none =>
            match C.ti et with
            | none => none
            | some j => match j.zero with
              | none => none
              | some z => some (bif ok then .tuple [z, .bool false] else z)
      else none
    | _, _ => none

theorem alookup_ok {C : Ctx} (hC : C.OK) {N : Bd} {G : Nat} {ρ : Names} {H : AH} {w : World} (hR : R N G ρ H w) {t : TypeId} {x k r : AV} {v kv : Value} {ok : Bool} (hx : VR ρ x v) (hk : VR ρ k kv) (h : alookup C H t x k ok = some r) :
    ∃ u, (Instr.lookup t v kv ok).run C.P w = .ok u w ∧ VR ρ r u := by
  unfold alookup at h
  split at h
  · cases h
  · rename_i i hi
    split at h
    · rename_i kt et s hd
      simp only [VR] at hk
      subst hk
      cases hkey : isStrKey C kt
      · rw [hkey] at h; cases h
      · rw [hkey] at h
        simp only [cond_true] at h
        obtain ⟨ki, hki, hkd⟩ := isStrKey_some hkey
        split at h
        · cases h
        · rename_i ps hps
          obtain ⟨es, hents, hv⟩ := mapOf_ok hR hx hps
          obtain ⟨f, hf, hm⟩ := findKey_string hC hki hkd s hents w
          have hck := fun b => checkKey_string hC hki hkd b 9999 ⟨s.toArray⟩ w
          have go : ∀ u, (match f with
              | some (_, v) => pure (v, true)
              | none => do pure (← zeroValue et, false) : Sem (Value × Bool)).run C.P w = .ok u w →
              (Instr.lookup t v (.string ⟨s.toArray⟩) ok).run C.P w = .ok (if ok then .tuple #[u.1, .bool u.2] else u.1) w := by
            intro u hu
            unfold Instr.lookup
            rcases hv with ⟨rfl, rfl⟩ | ⟨rr, clock, rfl, hheap⟩
            · simp only [Sem.run_bind, hC.run_und hi, Result.andThen_ok, hd, Sem.run_pure, hck, hf]
              cases f with
              | none =>
                simp only [Sem.run_bind] at hu ⊢
                cases hz : (zeroValue et).run C.P w with
                | ok a w1 =>
                  rw [hz] at hu
                  simp only [Result.andThen_ok, Sem.run_pure, Result.ok.injEq] at hu ⊢
                  obtain ⟨rfl, rfl⟩ := hu
                  exact ⟨rfl, rfl⟩
                | halt x w1 => rw [hz] at hu; simp at hu
              | some p => obtain ⟨a, b⟩ := p; simp only [Sem.run_pure] at hu ⊢; cases hu; rfl
            · simp only [Sem.run_bind, hC.run_und hi, Result.andThen_ok, hd, Sem.run_pure, getObj, Sem.run, hheap, hck, hf]
              cases f with
              | none =>
                simp only [Sem.run_bind] at hu ⊢
                cases hz : (zeroValue et).run C.P w with
                | ok a w1 =>
                  rw [hz] at hu
                  simp only [Result.andThen_ok, Sem.run_pure, Result.ok.injEq] at hu ⊢
                  obtain ⟨rfl, rfl⟩ := hu
                  exact ⟨rfl, rfl⟩
                | halt x w1 => rw [hz] at hu; simp at hu
              | some p => obtain ⟨a, b⟩ := p; simp only [Sem.run_pure] at hu ⊢; cases hu; rfl
          split at h
          · rename_i a ha
            rw [ha] at hm
            obtain ⟨j, u, e, rfl, hu, _⟩ := hm
            simp only [Option.some.injEq] at h; subst h
            refine ⟨_, go (u, true) rfl, ?_⟩
            cases ok
            · exact hu
            · simp only [cond_true, if_true, VR]
              exact ⟨[u, .bool true], rfl, VRs.cons hu (VRs.cons (by simp [VR]) VRs.nil)⟩
          · rename_i ha
            rw [ha] at hm
            subst hm
            split at h
            · cases h
            · rename_i j hj
              split at h
              · cases h
              · rename_i z hz
                simp only [Option.some.injEq] at h; subst h
                obtain ⟨zv, hzv, hr⟩ := hC.run_zero hj hz w ρ
                refine ⟨_, go (zv, false) (by simp only [Sem.run_bind, hzv, Result.andThen_ok, Sem.run_pure]), ?_⟩
                cases ok
                · exact hr
                · simp only [cond_true, if_true, VR]
                  exact ⟨[zv, .bool false], rfl, VRs.cons hr (VRs.cons (by simp [VR]) VRs.nil)⟩
    · cases h

end Go.AB

namespace Go.AB

def byteOfAV : AV → Option UInt8
  | .int .u8 n => some (UInt8.ofNat n.toNat)
  | _ => none

theorem byteOfAV_ok {ρ : Names} {a : AV} {v : Value} {b : UInt8} (h : byteOfAV a = some b) (hv : VR ρ a v) : ∃ n, v = .int .u8 n ∧ UInt8.ofNat n.toNat = b := by
  unfold byteOfAV at h
  split at h
  · simp only [VR] at hv
    exact ⟨_, hv, by simpa using h⟩
  · cases h

def toBytes : List AV → Option (List UInt8)
  | [] => some []
  | a :: as => match byteOfAV a, toBytes as with
    | some b, some l => some (b :: l)
    | _, _ => none

theorem toBytes_map : ∀ l : List UInt8, toBytes (l.map fun b => .int .u8 b.toNat) = some l
  | [] => rfl
  | b :: l => by simp [toBytes, byteOfAV, toBytes_map l]

theorem run_pushBytes {P : Program} {w : World} {ρ : Names} : ∀ {as : List AV} {vs : List Value} {l : List UInt8} (acc : ByteArray), VRs ρ as vs → toBytes as = some l →
    ((do
      let mut s := acc
      for c in vs do
        let .int .u8 n := c | stuck "bytesToString: byte expected"
        s := s.push (UInt8.ofNat n.toNat)
      pure (.string s) : Sem Value)).run P w = .ok (.string ⟨(acc.data.toList ++ l).toArray⟩) w
  | [], vs, l, acc, h, e => by
    simp only [VRs] at h; subst h
    simp [toBytes] at e; subst e
    simp
  | a :: as, vs, l, acc, h, e => by
    simp only [VRs] at h
    obtain ⟨v, vs', rfl, h1, h2⟩ := h
    simp only [toBytes] at e
    split at e
    · rename_i b l' hb hl
      simp only [Option.some.injEq] at e
      subst e
      obtain ⟨n, rfl, rfl⟩ := byteOfAV_ok hb h1
      have ih := run_pushBytes (P := P) (w := w) (acc.push (UInt8.ofNat n.toNat)) h2 hl
      simp only [List.forIn_cons, bind_assoc, pure_bind]
      refine ih.trans ?_
      congr 3
      simp [ByteArray.push]
    · cases e

def aToString (H : AH) (x : AV) : Option AV :=
  match x with
  | .nils => some (.str [])
  | .empty _ => some (.str [])
  | .slice b o n _ _ => match H.get b with
    | some (.cells _ vs) =>
      let cs := (vs.drop o).take n
      bif Nat.beq cs.length n then (toBytes cs).map .str else none
    | _ => none
  | _ => none

theorem aToString_ok {P : Program} {N : Bd} {G : Nat} {ρ : Names} {H : AH} {w : World} (hR : R N G ρ H w) {x r : AV} {v : Value} (hx : VR ρ x v) (h : aToString H x = some r) :
    ∃ u, (Conv.bytesToString v).run P w = .ok u w ∧ VR ρ r u := by
  unfold aToString at h
  split at h
  · simp only [Option.some.injEq] at h; subst h
    simp only [VR] at hx; subst hx
    exact ⟨_, rfl, by simp only [VR]; rfl⟩
  · simp only [Option.some.injEq] at h; subst h
    simp only [VR] at hx
    obtain ⟨s, o, cc, _, rfl⟩ := hx
    exact ⟨_, rfl, by simp only [VR]; rfl⟩
  · rename_i b o n cap z
    split at h
    · rename_i ro vs hb
      cases hl : Nat.beq ((vs.drop o).take n).length n
      · simp only [hl] at h; cases h
      · simp only [hl, cond_true, Option.map_eq_some_iff] at h
        obtain ⟨l, hbytes, rfl⟩ := h
        simp only [VR] at hx
        obtain ⟨sg, cc, hsg, rfl, _⟩ := hx
        have hl' := Nat.eq_of_beq_eq_true hl
        obtain ⟨us, h1, h2⟩ := run_loadCells_ab (P := P) (w := w) (ρ := ρ) sg.blk ((vs.drop o).take n) (sg.base + o) 0 #[] (fun j a hj => by
          rw [List.getElem?_take] at hj
          split at hj
          · rw [List.getElem?_drop] at hj
            have := hR.cell hb hsg hj
            rwa [show sg.base + o + 0 + j = sg.base + (o + j) by omega]
          · cases hj)
        rw [hl'] at h1
        refine ⟨.string ⟨l.toArray⟩, ?_, by simp only [VR]⟩
        unfold Conv.bytesToString
        rw [Sem.run_bind, loadCells, h1, Result.andThen_ok]
        have h3 := run_pushBytes (P := P) (w := w) ByteArray.empty h2 hbytes
        rw [← Array.forIn_toList]
        have e : (#[] ++ ({ toList := us } : Array Value)).toList = us := by simp
        rw [e]
        have h4 : ByteArray.empty.data.toList = [] := rfl
        rw [h4, List.nil_append] at h3
        exact h3
    · cases h
  · cases h

/-- A slice over an array that lies in memory. -/
def aArrSlice (C : Ctx) (H : AH) (t : TypeId) (x : AV) (lo hi mx : Option AV) : Option AV :=
  match C.ti t, x, mx with
  | some i, .ptr b o, none =>
    match i.d with
    | .array n e =>
      match C.ti e, bnd lo 0, bnd hi n, H.get b with
      | some j, some l, some h, some (.cells _ vs) =>
        bif Nat.ble l h && Nat.ble h n && Nat.ble (o + n * j.size) vs.length then (if n = l then some (.slice b o 0 (.ex 0) j.size) else some (.slice b (o + l * j.size) (h - l) (.ex (n - l)) j.size)) else none
      | _, _, _, _ => none
    | _ => none
  | _, _, _ => none

theorem aArrSlice_ok {C : Ctx} (hC : C.OK) {N : Bd} {G : Nat} {ρ : Names} {H : AH} {w : World} (hR : R N G ρ H w) {t : TypeId} {x r : AV} {lo hi mx : Option AV} {v : Value} {lo' hi' mx' : Option Value} (hx : VR ρ x v) (hl : OVR ρ lo lo') (hh : OVR ρ hi hi') (hm : OVR ρ mx mx')
    (h : aArrSlice C H t x lo hi mx = some r) : ∃ u, (Instr.sliceAt t v lo' hi' mx').run C.P w = .ok u w ∧ VR ρ r u := by
  unfold aArrSlice at h
  split at h
  · rename_i i b o hi0
    split at h
    · rename_i n e hd
      split at h
      · rename_i j l hh2 ro vs hj el eh hb
        cases hc : (Nat.ble l hh2 && Nat.ble hh2 n && Nat.ble (o + n * j.size) vs.length)
        · rw [hc] at h; cases h
        · rw [hc] at h
          simp only [cond_true] at h
          simp only [Bool.and_eq_true] at hc
          have c1 := Nat.le_of_ble_eq_true hc.1.1
          have c2 := Nat.le_of_ble_eq_true hc.1.2
          have c3 := Nat.le_of_ble_eq_true hc.2
          cases mx' with
          | some _ => exact hm.elim
          | none =>
          simp only [VR] at hx
          obtain ⟨sg, hsg, rfl⟩ := hx
          have hroom : vs.length ≤ sg.room := by
            obtain ⟨s', hs', c, e', l', h', _, _, h3, _⟩ := hR.obj b _ hb
            rw [hsg] at hs'; cases hs'; exact h3
          have := sliceBounds_run (P := C.P) (w := w) (isSlice := false) (len := n) (cap := n) hl hh hm el eh (m := n) rfl c1 (fun _ => c2) (Nat.le_refl _) (by simp)
          unfold Instr.sliceAt
          simp only [Sem.run_bind, hC.run_und hi0, Result.andThen_ok, hd, Instr.sureAddr, Sem.run_pure, this, hC.run_size hj]
          refine ⟨_, rfl, ?_⟩
          split at h
          · rename_i hcl
            subst hcl
            simp only [Option.some.injEq] at h; subst h
            simp only [VR, if_true]
            have : hh2 - n = 0 := by omega
            exact ⟨sg, 0, hsg, by simp [this], rfl, Nat.le_refl _, by omega⟩
          · rename_i hcl
            simp only [Option.some.injEq] at h; subst h
            rw [if_neg hcl]
            simp only [VR]
            refine ⟨sg, n - l, hsg, ?_, rfl, by omega, ?_⟩
            · congr 2
              unfold Addr.add
              split <;> simp_all [Nat.add_assoc]
            · rw [Nat.add_assoc, ← Nat.add_mul, Nat.add_sub_cancel' (by omega : l ≤ n)]
              omega
      · cases h
    · cases h
  · cases h

def alenMap (C : Ctx) (H : AH) (t : TypeId) (x : AV) : Option AV :=
  match C.ti t, x with
  | some i, .map b =>
    match i.d, H.get b with
    | .map _ _, some (.map ps _) => some (.int .i64 ps.length)
    | _, _ => none
  | _, _ => none

theorem EntsR.length {ρ : Names} : ∀ {ps : List (List UInt8 × AV)} {es : List MapEntry}, EntsR ρ ps es → es.length = ps.length
  | [], es, h => by simp only [EntsR] at h; simp [h]
  | p :: ps, es, h => by
    simp only [EntsR] at h
    obtain ⟨e, es', rfl, _, _, hr⟩ := h
    simp [hr.length]

theorem alenMap_ok {C : Ctx} (hC : C.OK) {N : Bd} {G : Nat} {ρ : Names} {H : AH} {w : World} (hR : R N G ρ H w) {t : TypeId} {x r : AV} {v : Value} (hx : VR ρ x v) (h : alenMap C H t x = some r) (ats : Array TypeId) (ht : ats[0]? = some t) (ty : TypeId) (args : Array Value) (ha : args[0]? = some v) :
    ∃ u, (Builtin.len_ ats ty args).run C.P w = .ok u w ∧ VR ρ r u := by
  unfold alenMap at h
  split at h
  · rename_i i b hi
    split at h
    · rename_i kt et ps ver hd hb
      simp only [Option.some.injEq] at h; subst h
      simp only [VR] at hx
      obtain ⟨sg, hsg, rfl⟩ := hx
      obtain ⟨_, es, clock, h1, h2⟩ := hR.map hb hsg
      unfold Builtin.len_
      simp only [ht, ha, Sem.run_bind, hC.run_und hi, Result.andThen_ok, hd, getObj, Sem.run, h1]
      refine ⟨_, rfl, ?_⟩
      have := h2.ents.length
      simp only [VR, goInt]
      simp at this
      rw [this]
    · cases h
  · cases h

/-- The entry that an iterator stands at. -/
def aentry (H : AH) (it : AV) : Option AV :=
  match it with
  | .ptr b 0 =>
    match H.get b with
    | some (.miter m _ ver (some k)) =>
      match H.get m with
      | some (.map ps ver') => bif Nat.beq ver ver' then (mget ps k).map fun v => .tuple [.str k, v] else none
      | _ => none
    | _ => none
  | _ => none

theorem EntsR.find {ρ : Names} : ∀ {ps : List (List UInt8 × AV)} {es : List MapEntry}, EntsR ρ ps es → (ps.map (·.1)).Nodup → ∀ (e : MapEntry) (k : List UInt8), e ∈ es → e.key = .string ⟨k.toArray⟩ → ∀ a, mget ps k = some a → VR ρ a e.val
  | [], es, h, _, e, k, he, _, a, ha => by simp [mget] at ha
  | p :: ps, es, h, hn, e, k, he, hk, a, ha => by
    simp only [EntsR] at h
    obtain ⟨e0, es', rfl, hk0, hv0, hr⟩ := h
    simp only [mget, beqL_eq] at ha
    simp only [List.map_cons, List.nodup_cons] at hn
    by_cases hkp : k = p.1
    · simp only [hkp, decide_true, cond_true, Option.some.injEq] at ha
      subst ha
      rcases List.mem_cons.1 he with rfl | he'
      · exact hv0
      · exfalso
        apply hn.1
        have key : ∀ {ps : List (List UInt8 × AV)} {es : List MapEntry}, EntsR ρ ps es → ∀ e ∈ es, e.key = .string ⟨k.toArray⟩ → k ∈ ps.map (·.1) := by
          intro ps
          induction ps with
          | nil => intro es h e he; simp only [EntsR] at h; subst h; cases he
          | cons q qs ih =>
            intro es h e he hke
            simp only [EntsR] at h
            obtain ⟨e1, es1, rfl, hk1, _, hr1⟩ := h
            rcases List.mem_cons.1 he with rfl | he
            · rw [hk1] at hke
              injection hke with hke
              injection hke with hke
              have : q.1 = k := by simpa using congrArg Array.toList hke
              simp [this]
            · exact List.mem_cons_of_mem _ (ih hr1 e he hke)
        rw [← hkp]
        exact key hr e he' hk
    · simp only [hkp, decide_false, cond_false] at ha
      rcases List.mem_cons.1 he with rfl | he'
      · exfalso
        rw [hk0] at hk
        injection hk with hk
        injection hk with hk
        exact hkp (by simpa using (congrArg Array.toList hk).symm)
      · exact EntsR.find hr hn.2 e k he' hk a ha

theorem nodup_find {e : MapEntry} : ∀ {es : List MapEntry}, (es.map (·.born)).Pairwise (· < ·) → e ∈ es → es.find? (fun x => x.born == e.born) = some e
  | [], _, h => by cases h
  | x :: es, hp, h => by
    simp only [List.map_cons, List.pairwise_cons] at hp
    rw [List.find?_cons]
    rcases List.mem_cons.1 h with rfl | h'
    · simp
    · have : x.born < e.born := hp.1 _ (List.mem_map.2 ⟨e, h', rfl⟩)
      have hne : (x.born == e.born) = false := by simp; omega
      rw [hne]
      exact nodup_find hp.2 h'

theorem aentry_ok {P : Program} {N : Bd} {G : Nat} {ρ : Names} {H : AH} {w : World} (hR : R N G ρ H w) {x r : AV} {v : Value} (hx : VR ρ x v) (h : aentry H x = some r) :
    ∃ u, (Instr.entry v).run P w = .ok u w ∧ VR ρ r u := by
  unfold aentry at h
  split at h
  · rename_i b
    split at h
    · rename_i m left ver k hb
      split at h
      · rename_i ps ver' hm
        cases hv : Nat.beq ver ver'
        · rw [hv] at h; cases h
        · rw [hv] at h
          simp only [cond_true, Option.map_eq_some_iff] at h
          obtain ⟨a, ha, rfl⟩ := h
          have hv' := Nat.eq_of_beq_eq_true hv
          subst hv'
          simp only [VR] at hx
          obtain ⟨sg, hsg, rfl⟩ := hx
          obtain ⟨s', hs', _, hb0, since, seen, st, sm, h1, h2, h3⟩ := hR.obj b _ hb
          rw [hsg] at hs'; cases hs'
          obtain ⟨_, es, clock, h4, h5⟩ := hR.map hm h2
          obtain ⟨g1, g2, g3, g4⟩ := h3 ps hm es clock h4
          obtain ⟨e, he, hek, hback⟩ := g4 k rfl
          have hbase := hb0
          unfold Instr.entry
          simp only [hbase, Nat.zero_add, Nat.add_zero, Sem.run_bind, getObj, Sem.run, h1, h4, Result.andThen_ok, hback]
          rw [← Array.find?_toList]
          rw [nodup_find h5.born he]
          simp only [g3, bne_self_eq_false, Bool.false_eq_true, if_false]
          refine ⟨.tuple #[e.key, e.val], rfl, ?_⟩
          simp only [VR]
          exact ⟨[e.key, e.val], rfl, VRs.cons (by simpa [VR] using hek) (VRs.cons (h5.ents.find h5.keys e k he hek a ha) VRs.nil)⟩
      · cases h
    · cases h
  · cases h

end Go.AB

namespace Go.AB

/-- Bytes of a literal's: only what lies behind the row's end is marked. -/
def aMark (H : AH) (x : AV) : Option AV :=
  match x with
  | .slice b o l c z => match H.get b with
    | some (.cells false _) => some (.slice b o l c z)
    | _ => none
  | _ => none

def readOp (C : Ctx) (H : AH) (ev : Operand → AV) (o : Oper) : Option AV :=
  match o.op with
  | .load t x => aload C H t (ev x)
  | .lookup t x k ok => alookup C H t (ev x) (ev k) ok
  | .entry it => aentry H (ev it)
  | .slice t x lo hi mx => aArrSlice C H t (ev x) (lo.map ev) (hi.map ev) (mx.map ev)
  | .convert src dst x => match C.ti src, C.ti dst with
    | some i, some j => match i.d, j.d with
      | .slice e, .string => match C.ti e with
        | some k => (match k.d with
          | .int .u8 => aToString H (ev x)
          | _ => none)
        | none => none
      | .slice _, .slice e => match C.ti e with
        | some k => (match k.d with
          | .int .u8 => bif Nat.beq src dst then aMark H (ev x) else none
          | _ => none)
        | none => none
      | _, _ => none
    | _, _ => none
  | .call c => match c.callee with
    | .builtin .len => match c.argTypes.toList, c.args.toList with
      | t :: _, x :: _ => alenMap C H t (ev x)
      | _, _ => none
    | _ => none
  | _ => none

theorem R.same_set {N : Bd} {G : Nat} {ρ : Names} {H : AH} {w : World} {b : Nat} {o : AO} (hb : H.get b = some o) (hR : R N G ρ ⟨H.t.set b o, H.next⟩ w) : R N G ρ H w := by
  have hg : ∀ k, AH.get ⟨H.t.set b o, H.next⟩ k = H.get k := fun k => by
    have := AH.get_set H b o k
    by_cases e : k = b
    · subst e; rw [if_pos rfl] at this; rw [hb]; exact this
    · rw [if_neg e] at this; exact this
  exact
  { size := hR.size, glob := hR.glob
    obj := fun k q hk => by
      rw [← hg] at hk
      obtain ⟨s, h1, h2⟩ := hR.obj k q hk
      exact ⟨s, h1, h2.keep (fun _ _ h => h) rfl (fun m l v c _ sm ps _ h => ⟨(hg m).trans h, rfl⟩)⟩
    inj := fun b b' o o' s s' h1 h2 => by rw [← hg] at h1 h2; exact hR.inj b b' o o' s s' h1 h2
    fresh := hR.fresh, gn := hR.gn
    vers := fun b m l v c hb => by rw [← hg] at hb; exact hR.vers b m l v c hb
    flat := hR.flat, draws := hR.draws }

theorem aMark_ok {P : Program} {N : Bd} {G : Nat} {ρ : Names} {H : AH} {w : World} (hR : R N G ρ H w) {x r : AV} {v : Value} (hx : VR ρ x v) (h : aMark H x = some r) :
    ∃ a l c w', v = .slice (some a) l c ∧ (markStringish a).run P w = .ok () w' ∧ VR ρ r v ∧ R N G ρ H w' ∧ Fr ρ H w ρ H w' := by
  unfold aMark at h
  split at h
  · rename_i b o l c z
    split at h
    · rename_i vs hb
      simp only [Option.some.injEq] at h; subst h
      have hx0 := hx
      simp only [VR] at hx
      obtain ⟨sg, cc, hsg, rfl, _⟩ := hx
      obtain ⟨s', hs', cs, e, lo, hi, h1, h2, h3, h4, h5, h6⟩ := hR.obj b _ hb
      rw [hsg] at hs'; cases hs'
      obtain ⟨hN, hfz⟩ := h6 rfl
      let w' := w.freeze { block := sg.blk, off := cs.size } 1
      have hlt : sg.blk < w.heap.size := by
        rcases Nat.lt_or_ge sg.blk w.heap.size with h | h
        · exact h
        · rw [Array.getElem?_eq_none h] at h1; cases h1
      have hsize : w'.heap.size = w.heap.size := by simp [w', World.freeze]
      have hoth : ∀ k, k ≠ sg.blk → w'.heap[k]? = w.heap[k]? := fun k hk => by
        simp only [w', World.freeze]
        rw [if_neg (by omega)]
        simp only [Array.getElem?_modify]
        rw [if_neg (fun e => hk e.symm)]
      obtain ⟨lo', hi', hw, hfz'⟩ : ∃ lo' hi', w'.heap[sg.blk]? = some (.cells cs e (lo', hi')) ∧ (lo' = hi' ∨ cs.size ≤ lo') := by
        simp only [w', World.freeze]
        rw [if_neg (by omega)]
        simp only [Array.getElem?_modify, if_true, h1, Option.map_some]
        by_cases hlh : lo = hi
        · exact ⟨_, _, by rw [if_pos (by simpa using hlh)], .inr (Nat.le_refl _)⟩
        · have hle : cs.size ≤ lo := by rcases hfz with h | h; exact absurd h hlh; exact h
          exact ⟨_, _, by rw [if_neg (by simpa using hlh)], .inr (by rw [Nat.min_eq_right hle]; exact Nat.le_refl _)⟩
      have hwr := hR.write (w' := w') (o' := .cells false vs) hb rfl hsg rfl hsize hoth (by simp only [w', World.freeze]; rw [if_neg (by omega)]) (by simp only [w', World.freeze]; rw [if_neg (by omega)]) (by simp only [w', World.freeze]; rw [if_neg (by omega)]) H.next (Nat.le_refl _)
        ⟨cs, e, lo', hi', hw, h2, h3, h4, h5, fun _ => ⟨hN, hfz'⟩⟩ (fun m l v c e => by cases e) (fun k m l v c _ _ _ ps => by simp)
      have hF := hwr.2
      refine ⟨_, l, cc, w', rfl, ?_, hx0, hwr.1.same_set hb, ⟨hF.same, hF.next, hF.size, hF.keep, fun k o s h1 h2 h3 => .inr ⟨k, o, s, h1, h2, h3, rfl⟩, fun _ o _ h => ⟨o, h⟩, hF.os, hF.tape, hF.output⟩⟩
      unfold markStringish
      have hsh : w.shape? sg.blk = some (e, cs.size) := by simp [World.shape?, h1]
      simp only [Sem.run_bind, run_shape, hsh, Result.andThen_ok, run_freeze]
      rfl
    · cases h
  · cases h

theorem aToString_slice {H : AH} {ρ : Names} {x r : AV} {v : Value} (hx : VR ρ x v) (h : aToString H x = some r) : ∃ a n c, v = .slice a n c := by
  unfold aToString at h
  split at h
  · simp only [VR] at hx; exact ⟨_, _, _, hx⟩
  · simp only [VR] at hx; obtain ⟨_, _, e⟩ := hx; exact ⟨_, _, _, e⟩
  · simp only [VR] at hx; obtain ⟨s, cc, _, e, _⟩ := hx; exact ⟨_, _, _, e⟩
  · cases h

theorem readOp_ok {C : Ctx} (hC : C.OK) {N : Bd} {G : Nat} {ρ : Names} {H : AH} {w : World} (hR : R N G ρ H w) {ev : Operand → AV} {e : Operand → Value} (hev : VEv ρ ev e) {o : Oper} {r : AV} (h : readOp C H ev o = some r) :
    ∃ u w', (execOp e o).run C.P w = .ok (.value u) w' ∧ VR ρ r u ∧ R N G ρ H w' ∧ Fr ρ H w ρ H w' := by
  have fin : ∀ u, (execOp e o).run C.P w = .ok (.value u) w → VR ρ r u → ∃ u w', (execOp e o).run C.P w = .ok (.value u) w' ∧ VR ρ r u ∧ R N G ρ H w' ∧ Fr ρ H w ρ H w' := fun u h1 h2 => ⟨u, w, h1, h2, hR, Fr.refl _ _ _⟩
  obtain ⟨dst, op, type, pos, after, guard⟩ := o
  cases op <;> simp only [readOp, reduceCtorEq] at h <;> simp only [execOp] at fin ⊢
  case load t x =>
    obtain ⟨u, hu, hr⟩ := aload_ok hC hR (hev x) h
    exact fin u (by simp only [Sem.run_bind, hu, Result.andThen_ok, Sem.run_pure]) hr
  case lookup t x k ok =>
    obtain ⟨u, hu, hr⟩ := alookup_ok hC hR (hev x) (hev k) h
    exact fin u (by simp only [Sem.run_bind, hu, Result.andThen_ok, Sem.run_pure]) hr
  case entry it =>
    obtain ⟨u, hu, hr⟩ := aentry_ok (P := C.P) hR (hev it) h
    exact fin u (by simp only [Sem.run_bind, hu, Result.andThen_ok, Sem.run_pure]) hr
  case slice t x lo hi mx =>
    obtain ⟨u, hu, hr⟩ := aArrSlice_ok hC hR (hev x) (hev.opt lo) (hev.opt hi) (hev.opt mx) h
    exact fin u (by simp only [Sem.run_bind, hu, Result.andThen_ok, Sem.run_pure]) hr
  case convert src dst x =>
    split at h
    · rename_i i j hi hj
      split at h
      · rename_i el hd1 hd2
        split at h
        · rename_i k hk
          split at h
          · rename_i hkd
            obtain ⟨u, hu, hr⟩ := aToString_ok (P := C.P) hR (hev x) h
            obtain ⟨a, n, c, hv⟩ := aToString_slice (hev x) h
            refine fin u ?_ hr
            unfold convert
            simp only [Sem.run_bind, hC.run_und hi, hC.run_und hj, Result.andThen_ok, hd1, hd2]
            rw [hv] at hu ⊢
            simp only [Sem.run_bind, hC.run_und hk, hkd, Result.andThen_ok, hu, Sem.run_pure]
          · cases h
        · cases h
      · rename_i e0 el hd1 hd2
        split at h
        · rename_i k hk
          split at h
          · rename_i hkd
            cases hsd : Nat.beq src dst
            · rw [hsd] at h; cases h
            · rw [hsd] at h
              simp only [cond_true] at h
              have hsd' := Nat.eq_of_beq_eq_true hsd
              obtain ⟨a, l, c, w', hv, hrun, hr, hR', hF'⟩ := aMark_ok (P := C.P) hR (hev x) h
              refine ⟨e x, w', ?_, hr, hR', hF'⟩
              unfold convert
              rw [hv]
              simp only [Sem.run_bind, hC.run_und hi, hC.run_und hj, Result.andThen_ok, hd1, hd2, hC.run_und hk, hkd]
              have : (src == dst) = true := by simpa using hsd'
              simp only [this, Sem.run_bind, hrun, Result.andThen_ok, Sem.run_pure]
          · cases h
        · cases h
      · cases h
    · cases h
  case call c =>
    obtain ⟨callee, args, ats⟩ := c
    obtain ⟨args⟩ := args
    obtain ⟨ats⟩ := ats
    cases callee <;> simp only [reduceCtorEq] at h
    case builtin b =>
      cases b <;> simp only [reduceCtorEq] at h
      case len =>
        split at h
        · rename_i l1 l2 t ts x xs
          obtain ⟨u, hu, hr⟩ := alenMap_ok hC hR (hev x) h ⟨t :: ts⟩ (by simp) type ⟨(x :: xs).map e⟩ (by simp)
          refine fin u ?_ hr
          simp only [resolve, Sem.run_bind, Sem.run_pure, Result.andThen_ok, invoke, builtin]
          have : (Array.map e { toList := x :: xs }) = ⟨(x :: xs).map e⟩ := by apply Array.ext'; simp
          rw [this, hu]
          rfl
        · cases h

/-! ### New blocks -/
/-- An object's bare make, in a block of its own. -/
structure NewCells (ρ : Names) (s : Seg) (vs : List AV) (c : Array Value) (lo hi : Nat) : Prop where
  base : s.base = 0
  room : s.room ≤ c.size
  len : vs.length ≤ s.room
  cells : CellsR ρ vs c 0
  free : lo = hi ∨ c.size ≤ lo

inductive NewObj (ρ : Names) (s : Seg) : AO → Obj → Prop
  | cells (vs : List AV) (c : Array Value) (e : TypeId) (lo hi : Nat) (h : NewCells ρ s vs c lo hi) : NewObj ρ s (.cells false vs) (.cells c e (lo, hi))
  | map (ver : Nat) (h : s.base = 0) : NewObj ρ s (.map [] ver) (.map #[] 0)
  | siter (t : List UInt8) (h : s.base = 0) : NewObj ρ s (.siter t 0) (.stringIter ⟨t.toArray⟩ 0)

/-- What an operation yields that makes a block. -/
structure Made (P : Program) (ρ : Names) (n : Nat) (x : Sem Next) (w : World) (ao : AO) (av : AV) (v : Value) (ob : Obj) (d : Nat) (s : Seg) : Prop where
  run : x.run P w = .ok (.value v) { w with heap := w.heap.push ob, drawn := d }
  blk : s.blk = w.heap.size
  val : VR (ρ.put n s) av v
  obj : NewObj (ρ.put n s) s ao ob
  drew : w.drawn ≤ d

theorem NewObj.base {ρ : Names} {s : Seg} {ao : AO} {ob : Obj} (h : NewObj ρ s ao ob) : s.base = 0 := by
  cases h with
  | cells vs c e lo hi h => exact h.base
  | map ver h => exact h
  | siter t h => exact h

theorem NewObj.or {N : Bd} {G : Nat} {ρ : Names} {H : AH} {w : World} (hR : R N G ρ H w) {ρ' : Names} {H' : AH} {s : Seg} {ao : AO} {ob : Obj} (h : NewObj ρ' s ao ob) (hs : s.blk = w.heap.size) (d : Nat) :
    OR N.n ρ' H' { w with heap := w.heap.push ob, drawn := d } s ao := by
  have hN : N.n ≤ s.blk := by have := hR.size; omega
  have hget : ∀ o, (w.heap.push o)[s.blk]? = some o := fun o => by rw [hs]; simp
  cases h with
  | cells vs c e lo hi h =>
    refine ⟨c, e, lo, hi, hget _, by rw [h.base]; simpa using h.room, h.len, by rw [h.base]; exact h.cells, fun e => (by cases e), fun _ => ⟨hN, h.free⟩⟩
  | map ver h =>
    exact ⟨hN, #[], 0, hget _, ⟨by simp [EntsR], by simp, by simp, by simp⟩⟩
  | siter t h => exact ⟨hN, h, hget _⟩

theorem NewObj.rw {ρ : Names} {s : Seg} {ao : AO} {ob : Obj} (h : NewObj ρ s ao ob) : ao.rw = true := by cases h <;> rfl
theorem NewObj.nomiter {ρ : Names} {s : Seg} {ao : AO} {ob : Obj} (h : NewObj ρ s ao ob) : ∀ m l v c, ao ≠ .miter m l v c := by
  intro m l v c e; subst e; cases h

/-- A new block, by the next name. -/
theorem Made.alloc {P : Program} {N : Bd} {G : Nat} {ρ : Names} {H : AH} {w : World} (hR : R N G ρ H w) {x : Sem Next} {ao : AO} {av : AV} {v : Value} {ob : Obj} {d : Nat} {s : Seg} (h : Made P ρ H.next x w ao av v ob d s) :
    R N G (ρ.put H.next s) (H.alloc ao) { w with heap := w.heap.push ob, drawn := d } ∧ Fr ρ H w (ρ.put H.next s) (H.alloc ao) { w with heap := w.heap.push ob, drawn := d } :=
  hR.alloc ob d ao s h.blk h.obj.base h.obj.rw (h.obj.or hR h.blk d) (fun m l v c e => absurd e (h.obj.nomiter m l v c)) h.drew

/-- n zeros -/
def zerosOf (z : List AV) (n : Nat) : List AV := (List.replicate n z).flatten

def newOp (C : Ctx) (ev : Operand → AV) (o : Oper) : Option (AO × (Nat → AV)) :=
  match o.op with
  | .alloc t => match C.ti t with
    | some i => match i.zero with
      | some z => bif notJunk z then some (.cells false z.cells, fun n => .ptr n 0) else none
      | none => none
    | none => none
  | .box _ x => bif notJunk (ev x) then some (.cells false (ev x).cells, fun n => .ptr n 0) else none
  | .buildSlice t len parts => match C.ti t with
    | some i => match i.d with
      | .slice e => match C.ti e with
        | some j => bif Nat.ble (len * j.size) 16777216 then
            match (if len * j.size = 0 then some [] else match j.zero with | some z => bif notJunk z && Nat.beq z.cells.length j.size then some (zerosOf z.cells len) else none | none => none) with
            | some zs => (afill (fun n => some (n * j.size, j.size)) zs (parts.toList.map fun p => (p.1, ev p.2))).map fun cs => (.cells false cs, fun n => .slice n 0 len (.ex len) j.size)
            | none => none
          else none
        | none => none
      | _ => none
    | none => none
  | .makeSlice t l c => match C.ti t, ev l, ev c with
    | some i, .int _ (.ofNat a), .int _ (.ofNat b) => (match i.d with
      | .slice e => match C.ti e with
        | some j => match j.zero with
          | some z => bif notJunk z && Nat.beq z.cells.length j.size && Nat.ble a b && Nat.ble (b * j.bytes) 281474976710656 && Nat.ble b 9223372036854775807 then some (.cells false (zerosOf z.cells b), fun n => .slice n 0 a (.ex b) j.size) else none
          | none => none
        | none => none
      | _ => none)
    | _, _, _ => none
  | .makeMap t r => match r with
    | none => some (.map [] 0, fun n => .map n)
    | some x => match C.ti t, ev x with
      | some i, .int _ _ => (match i.d with | .map _ _ => some (.map [] 0, fun n => .map n) | _ => none)
      | _, _ => none
  | .convert src dst x => match C.ti src, C.ti dst with
    | some i, some j => match i.d, j.d, ev x with
      | .string, .slice e, .str s => match C.ti e with
        | some k => (match k.d with
          | .int .u8 => some (.cells false (s.map fun b => .int .u8 b.toNat), fun n => .slice n 0 s.length (.lo s.length) 1)
          | _ => none)
        | none => none
      | _, _, _ => none
    | _, _ => none
  | _ => none

theorem VRs.cellsR {ρ : Names} {as : List AV} {c : Array Value} (h : VRs ρ as c.toList) : CellsR ρ as c 0 := by
  intro i a ha
  obtain ⟨v, hv, hr⟩ := h.get i a ha
  exact ⟨v, by simpa using hv, hr⟩

theorem run_newVar_ab {P : Program} (w : World) (t : TypeId) (v : Value) : (newVar t v).run P w = .ok ⟨w.heap.size, 0, none⟩ { w with heap := w.heap.push (.cells v.cells t) } := by
  unfold newVar newRow
  simp only [Sem.run_bind, run_newObj, Result.andThen_ok, Sem.run_pure]

theorem made_cells {P : Program} {ρ : Names} {w : World} (n : Nat) (hn : ρ n = none) {x : Sem Next} {as : List AV} {c : Array Value} {e : TypeId} {av : AV} {v : Value} {d : Nat} (hc : VRs ρ as c.toList)
    (hrun : x.run P w = .ok (.value v) { w with heap := w.heap.push (.cells c e), drawn := d }) (hval : ∀ ρ' : Names, ρ' n = some ⟨w.heap.size, 0, c.size⟩ → VR ρ' av v) (hd : w.drawn ≤ d := by first | exact Nat.le_refl _ | (simp; done) | omega) :
    Made P ρ n x w (.cells false as) av v (.cells c e) d ⟨w.heap.size, 0, c.size⟩ := by
  have hl := hc.length
  simp at hl
  exact ⟨hrun, rfl, hval _ (Names.put_same _ _ _), .cells _ _ _ _ _ ⟨rfl, Nat.le_refl _, by simp [hl], (hc.cellsR).ext (Names.put_ext hn), .inl rfl⟩, hd⟩


theorem zerosOf_length (z : List AV) (n : Nat) : (zerosOf z n).length = n * z.length := by
  simp [zerosOf, List.length_flatten, List.map_replicate, List.sum_replicate_nat]

theorem zerosOf_get (z : List AV) : ∀ (n i : Nat), i < n * z.length → (zerosOf z n)[i]? = z[i % z.length]?
  | 0, i, h => by simp at h
  | n + 1, i, h => by
    have hz : 0 < z.length := by
      rcases Nat.eq_zero_or_pos z.length with h0 | h0
      · rw [h0] at h; simp at h
      · exact h0
    have e : zerosOf z (n + 1) = z ++ zerosOf z n := by simp [zerosOf, List.replicate_succ]
    rw [e]
    by_cases hi : i < z.length
    · rw [List.getElem?_append_left hi, Nat.mod_eq_of_lt hi]
    · rw [List.getElem?_append_right (by omega), zerosOf_get z n (i - z.length) (by rw [Nat.add_mul] at h; omega)]
      congr 1
      conv => rhs; rw [show i = (i - z.length) + z.length by omega, Nat.add_mod_right]

theorem zerosOf_ok {ρ : Names} {z : List AV} {zs : Array Value} (h : VRs ρ z zs.toList) (n m : Nat) (hm : m = n * z.length) : VRs ρ (zerosOf z n) ((Array.range m).map fun i => zs[i % zs.size]!).toList := by
  have hl := h.length
  simp at hl
  refine VRs.of_get (by simp [zerosOf_length, hm]) fun i a v ha hv => ?_
  simp only [Array.toList_map, Array.toList_range, List.getElem?_map, List.getElem?_range] at hv
  by_cases hi : i < m
  · rw [List.getElem?_range hi] at hv
    simp only [Option.map_some, Option.some.injEq] at hv
    rw [zerosOf_get z n i (by omega)] at ha
    obtain ⟨v', hv', hr⟩ := h.get _ _ ha
    have h2 : zs[i % zs.size]? = some v' := by rw [hl]; simpa using hv'
    rw [getElem!_def, h2] at hv
    simp only at hv
    rw [← hv]; exact hr
  · rw [List.getElem?_eq_none (by simp; omega)] at hv; simp at hv

theorem modify_push (h : Array Obj) (o : Obj) (f : Obj → Obj) : (h.push o).modify h.size f = h.push (f o) := by
  apply Array.ext_getElem?
  intro i
  rw [Array.getElem?_modify, Array.getElem?_push, Array.getElem?_push]
  by_cases e : i = h.size
  · subst e; simp
  · rw [if_neg (fun x => e x.symm), if_neg e, if_neg e]

theorem newOp_ok {C : Ctx} (hC : C.OK) {ρ : Names} {w : World} {ev : Operand → AV} {e : Operand → Value} (hev : VEv ρ ev e) {o : Oper} {ao : AO} {mk : Nat → AV} (h : newOp C ev o = some (ao, mk)) (n : Nat) (hn : ρ n = none) :
    ∃ v ob d s, Made C.P ρ n (execOp e o) w ao (mk n) v ob d s := by
  obtain ⟨dst, op, type, pos, after, guard⟩ := o
  cases op <;> simp only [newOp, reduceCtorEq] at h <;> simp only [execOp]
  case alloc t =>
    split at h
    · rename_i i hi
      split at h
      · rename_i z hz
        cases hj : notJunk z
        · rw [hj] at h; cases h
        · rw [hj] at h
          simp only [cond_true, Option.some.injEq, Prod.mk.injEq] at h
          obtain ⟨rfl, rfl⟩ := h
          obtain ⟨zv, hzv, hr⟩ := hC.run_zero hi hz w ρ
          have hc := VR.cells hr hj
          refine ⟨_, _, w.drawn, _, made_cells (e := t) n hn hc (v := .pointer (some ⟨w.heap.size, 0, none⟩)) ?_ fun ρ' h' => by simp only [VR]; exact ⟨_, h', rfl⟩⟩
          unfold Instr.alloc
          simp only [Sem.run_bind, hzv, Result.andThen_ok, run_newVar_ab, Sem.run_pure]
      · cases h
    · cases h
  case box t x =>
    cases hj : notJunk (ev x)
    · rw [hj] at h; cases h
    · rw [hj] at h
      simp only [cond_true, Option.some.injEq, Prod.mk.injEq] at h
      obtain ⟨rfl, rfl⟩ := h
      have hc := VR.cells (hev x) hj
      refine ⟨_, _, w.drawn, _, made_cells (e := t) n hn hc (v := .pointer (some ⟨w.heap.size, 0, none⟩)) ?_ fun ρ' h' => by simp only [VR]; exact ⟨_, h', rfl⟩⟩
      unfold Instr.box
      simp only [Sem.run_bind, Result.andThen_ok, run_newVar_ab, Sem.run_pure]
  case buildSlice t len parts =>
    split at h
    · rename_i i hi
      split at h
      · rename_i el hd
        split at h
        · rename_i j hj
          cases hle : Nat.ble (len * j.size) 16777216
          · rw [hle] at h; cases h
          · rw [hle] at h
            simp only [cond_true] at h
            have hle' := Nat.le_of_ble_eq_true hle
            split at h
            · rename_i zs hzs
              simp only [Option.map_eq_some_iff, Prod.mk.injEq] at h
              obtain ⟨cs, hcs, rfl, rfl⟩ := h
              -- the zeros
              obtain ⟨zv, hz1, hz2⟩ : ∃ zv : Array Value, (len * j.size = 0 ∧ zv = #[] ∨ len * j.size ≠ 0 ∧ ∃ q, (zeroValue el).run C.P w = .ok q w ∧ q.cells = zv) ∧ VRs ρ zs ((Array.range (len * j.size)).map fun i => zv[i % zv.size]!).toList := by
                split at hzs
                · rename_i h0
                  simp only [Option.some.injEq] at hzs; subst hzs
                  exact ⟨#[], .inl ⟨h0, rfl⟩, by rw [h0]; simp [VRs]⟩
                · rename_i h0
                  split at hzs
                  · rename_i z hz
                    cases hjk : (notJunk z && Nat.beq z.cells.length j.size)
                    · rw [hjk] at hzs; cases hzs
                    · rw [hjk] at hzs
                      simp only [cond_true, Option.some.injEq] at hzs
                      subst hzs
                      simp only [Bool.and_eq_true] at hjk
                      obtain ⟨zv, hzv, hr⟩ := hC.run_zero hj hz w ρ
                      have hc := VR.cells hr hjk.1
                      refine ⟨zv.cells, .inr ⟨h0, zv, hzv, rfl⟩, ?_⟩
                      exact zerosOf_ok hc len _ (by rw [Nat.eq_of_beq_eq_true hjk.2])
                  · cases hzs
              have hm : (parts.map fun x => (x.1, e x.2)).toList = parts.toList.map fun x => (x.1, e x.2) := by simp
              obtain ⟨us, h1, h2⟩ := afill_ok (ρ := ρ) (place := fun n => some (n * j.size, j.size)) (ps := parts.toList.map fun p => (p.1, ev p.2)) (qs := (parts.map fun x => (x.1, e x.2)).toList)
                (by rw [hm]; simp [List.map_map, Function.comp_def])
                (by rw [hm]; simp only [List.map_map, Function.comp_def]
                    have := hev.list (parts.toList.map (·.2))
                    simpa [List.map_map, Function.comp_def] using this) hz2 hcs
              have hlen : us.size = len * j.size := by
                have a1 := h2.length
                have a2 : ∀ (l : List (Nat × AV)) (cs out : List AV), afill (fun n => some (n * j.size, j.size)) cs l = some out → out.length = cs.length := by
                  intro l
                  induction l with
                  | nil => intro cs out e; simp [afill] at e; rw [e]
                  | cons p l ih =>
                    intro cs out e
                    simp only [afill] at e
                    cases hcond : (notJunk p.2 && Nat.beq p.2.cells.length j.size && Nat.ble (p.1 * j.size + j.size) cs.length)
                    · rw [hcond] at e; cases e
                    · rw [hcond] at e
                      simp only [cond_true] at e
                      simp only [Bool.and_eq_true] at hcond
                      have b1 := Nat.eq_of_beq_eq_true hcond.1.2
                      have b2 := Nat.le_of_ble_eq_true hcond.2
                      rw [ih _ _ e]
                      simp only [splice, List.length_append, List.length_take, List.length_drop]
                      omega
                have a3 := a2 _ _ _ hcs
                have a4 := hz2.length
                simp at a1 a4
                omega
              refine ⟨_, _, w.drawn, _, made_cells (e := el) n hn h2 (v := .slice (some ⟨w.heap.size, 0, none⟩) len len) ?_ fun ρ' h' => by
                simp only [VR]; exact ⟨_, len, h', rfl, rfl, Nat.le_refl _, by show 0 + len * j.size ≤ us.size; omega⟩⟩
              unfold Instr.buildSlice
              simp only [Sem.run_bind, hC.run_und hi, hd, hC.run_size hj, Result.andThen_ok]
              rw [if_neg (by have : (2 : Nat) ^ 24 = 16777216 := rfl; omega)]
              rcases hz1 with ⟨h0, rfl⟩ | ⟨h0, q, hq, rfl⟩
              · rw [if_pos h0]
                simp only [pure_bind, h1, newRow, Sem.run_bind, run_newObj, Sem.run_pure, Result.andThen_ok]
              · rw [if_neg h0]
                simp only [pure_bind, Sem.run_bind, hq, h1, newRow, run_newObj, Sem.run_pure, Result.andThen_ok]
            · cases h
        · cases h
      · cases h
    · cases h
  case makeSlice t l c =>
    split at h
    · rename_i i k1 a k2 b hi hl hc
      split at h
      · rename_i el hd
        split at h
        · rename_i j hj
          split at h
          · rename_i z hz
            cases hcond : (notJunk z && Nat.beq z.cells.length j.size && Nat.ble a b && Nat.ble (b * j.bytes) 281474976710656 && Nat.ble b 9223372036854775807)
            · rw [hcond] at h; cases h
            · rw [hcond] at h
              simp only [cond_true, Option.some.injEq, Prod.mk.injEq] at h
              obtain ⟨rfl, rfl⟩ := h
              simp only [Bool.and_eq_true] at hcond
              obtain ⟨⟨⟨⟨c1, c2⟩, c3⟩, c4⟩, c5⟩ := hcond
              have c2 := Nat.eq_of_beq_eq_true c2
              have c3 := Nat.le_of_ble_eq_true c3
              have c4 := Nat.le_of_ble_eq_true c4
              have c5 := Nat.le_of_ble_eq_true c5
              have vl := hev l
              have vc := hev c
              rw [hl] at vl
              rw [hc] at vc
              simp only [VR] at vl vc
              obtain ⟨q, hq, hr⟩ := hC.run_zero hj hz w ρ
              have hcs := VR.cells hr c1
              have hlen := hcs.length
              simp at hlen
              have wrapN : ∀ m : Nat, m ≤ 9223372036854775807 → IntKind.i64.wrap (Int.ofNat m) = m := by
                intro m hm
                unfold IntKind.wrap IntKind.bits IntKind.signed
                simp only [Bool.true_and, decide_eq_true_eq]
                have e2 : ((2 : Int) ^ (64 - 1)) = 9223372036854775808 := by decide
                have e3 : ((2 : Int) ^ 64) = 18446744073709551616 := by decide
                have e : (Int.ofNat m) % 18446744073709551616 = m := by simp only [Int.ofNat_eq_natCast]; omega
                simp only [e2, e3]
                rw [e, if_neg (by omega)]
              obtain ⟨x, hx1, hx2, hx3⟩ := hC.run_info hj w
              have hzs := zerosOf_ok hcs b (b * j.size) (by rw [c2])
              have h48 : ((2 : Int) ^ 48) = 281474976710656 := by decide
              have hbig : ∀ m : Nat, m * j.bytes ≤ 281474976710656 → (decide ((Int.ofNat m) < 0) || decide ((x.bytes : Int) * (Int.ofNat m) > 2 ^ 48)) = false := by
                intro m hm
                rw [hx3, h48]
                have : ((m * j.bytes : Nat) : Int) ≤ 281474976710656 := by omega
                rw [Int.natCast_mul] at this
                have e : (j.bytes : Int) * (Int.ofNat m) = (m : Int) * j.bytes := by simp [Int.mul_comm]
                rw [e]
                simp; omega
              have hab : a * j.bytes ≤ 281474976710656 := Nat.le_trans (Nat.mul_le_mul_right _ c3) c4
              have hbb := hbig b c4
              refine ⟨_, _, w.drawn, _, made_cells (e := el) n hn hzs (v := .slice (some ⟨w.heap.size, 0, none⟩) a b) ?_ fun ρ' h' => by
                simp only [VR]; exact ⟨_, b, h', rfl, rfl, c3, by show 0 + b * j.size ≤ _; simp⟩⟩
              unfold Instr.makeSlice
              simp only [Sem.run_bind, hC.run_und hi, hd, Result.andThen_ok, vl, vc, asInt, asIntOf, Sem.run_pure, hx1, wrapN a (by omega), wrapN b c5, run_askRoom, hC.run_size hj, Int.toNat_natCast]
              have e1 : ((decide ((b : Int) < 0) || decide ((x.bytes : Int) * (b : Int) > 2 ^ 48)) || decide ((a : Int) < 0) || decide ((a : Int) > (b : Int))) = false := by
                have := hbb
                simp only [Int.ofNat_eq_natCast] at this
                rw [this]
                simp; omega
              rw [if_neg (by rw [e1]; simp)]
              simp only [Sem.run_bind, run_askRoom, hC.run_size hj, Result.andThen_ok]
              by_cases h0 : b * j.size = 0
              · rw [if_pos h0]
                simp only [Sem.run_pure, Result.andThen_ok, newRow, Sem.run_bind, run_newObj]
                congr 4
                rw [h0]; simp
              · rw [if_neg h0]
                simp only [Sem.run_bind, hq, Sem.run_pure, Result.andThen_ok, newRow, run_newObj]
          · cases h
        · cases h
      · cases h
    · cases h
  case makeMap t r =>
    have key : ∀ (x : Sem Next), x.run C.P w = .ok (.value (.map (some w.heap.size))) { w with heap := w.heap.push (.map #[] 0) } → ∃ v ob d s, Made C.P ρ n x w (.map [] 0) (.map n) v ob d s := by
      intro x hx
      exact ⟨_, _, w.drawn, ⟨w.heap.size, 0, 0⟩, ⟨hx, rfl, by simp only [VR]; exact ⟨_, Names.put_same _ _ _, rfl⟩, .map _ rfl, Nat.le_refl _⟩⟩
    split at h
    · simp only [Option.some.injEq, Prod.mk.injEq] at h
      obtain ⟨rfl, rfl⟩ := h
      refine key _ ?_
      simp [Instr.makeMap]
    · rename_i x
      split at h
      · rename_i i k q hi hx
        split at h
        · rename_i hd
          simp only [Option.some.injEq, Prod.mk.injEq] at h
          obtain ⟨rfl, rfl⟩ := h
          refine key _ ?_
          have hv := hev x
          rw [hx] at hv
          simp only [VR] at hv
          simp [Instr.makeMap, hC.run_und hi, hd, hv, asInt, asIntOf]
        · cases h
      · cases h
  case convert src dst x =>
    split at h
    · rename_i i j hi hj
      split at h
      · rename_i el s hd1 hd2 hx
        split at h
        · rename_i k hk
          split at h
          · rename_i hkd
            simp only [Option.some.injEq, Prod.mk.injEq] at h
            obtain ⟨rfl, rfl⟩ := h
            have hv := hev x
            rw [hx] at hv
            simp only [VR] at hv
            have hsz : (ByteArray.mk s.toArray).size = s.length := by simp [ByteArray.size]
            let q : Question := .appendCap s.length 0 el
            let cap := q.cut (w.tape w.drawn q)
            have hcap : s.length ≤ cap := Nat.le_add_right _ _
            let c : Array Value := (s.toArray.map fun b => Value.int .u8 b.toNat) ++ Array.replicate (cap - s.length) (.int .u8 0)
            have hcs : c.size = cap := by simp [c]; omega
            refine ⟨.slice (some ⟨w.heap.size, 0, none⟩) s.length cap, .cells c el (cap, cap + 1), w.drawn + 1, ⟨w.heap.size, 0, cap⟩, ⟨?_, rfl, ?_, ?_, Nat.le_succ _⟩⟩
            · unfold convert
              simp only [Sem.run_bind, hC.run_und hi, hC.run_und hj, Result.andThen_ok, hd1, hd2, hv, hC.run_und hk, hkd]
              unfold Conv.stringToBytes
              simp only [Sem.run_bind, hsz, run_choose, Question.forced, Bool.false_eq_true, if_false, Result.andThen_ok, newRow, run_newObj, Sem.run_pure]
              have hsh : ({ heap := w.heap.push (.cells c el (0, 0)), tape := w.tape, drawn := w.drawn + 1, os := w.os, output := w.output } : World).shape? w.heap.size = some (el, cap) := by
                simp [World.shape?, hcs]
              unfold markStringish
              simp only [Sem.run_bind, run_shape]
              rw [show (Obj.cells (Array.map (fun b => Value.int .u8 (b.toNat : Int)) s.toArray ++ Array.replicate (Question.cut (.appendCap s.length 0 el) (w.tape w.drawn (.appendCap s.length 0 el)) - s.length) (Value.int .u8 0)) el) = Obj.cells c el (0, 0) from rfl, hsh]
              simp only [Result.andThen_ok, run_freeze]
              congr 1
              simp only [World.freeze]
              rw [if_neg (by omega)]
              congr 1
              rw [modify_push]
              rfl
            · simp only [VR]
              exact ⟨_, cap, Names.put_same _ _ _, by simp, hcap, hcap, by simp⟩
            · refine .cells _ _ _ _ _ ⟨rfl, by rw [hcs]; exact Nat.le_refl _, by simpa using hcap, ?_, .inr (by rw [hcs]; exact Nat.le_refl _)⟩
              · intro i a ha
                rw [List.getElem?_map] at ha
                rcases hsi : s[i]? with _ | b
                · rw [hsi] at ha; cases ha
                · rw [hsi] at ha
                  simp only [Option.map_some, Option.some.injEq] at ha
                  subst ha
                  have hlt : i < s.length := by
                    rcases Nat.lt_or_ge i s.length with h | h
                    · exact h
                    · rw [List.getElem?_eq_none h] at hsi; cases hsi
                  refine ⟨.int .u8 b.toNat, ?_, by simp only [VR]⟩
                  simp only [c, Nat.zero_add]
                  rw [Array.getElem?_append_left (by simpa using hlt)]
                  simp [hsi]
          · cases h
        · cases h
      · cases h
    · cases h

end Go.AB

namespace Go.AB

/-- What a step that writes comes to. -/
def Did (P : Program) (N : Bd) (G : Nat) (ρ : Names) (H : AH) (w : World) {α : Type} (x : Sem α) (val : Names → α → Prop) (H' : AH) : Prop :=
  ∃ v w' ρ', x.run P w = .ok v w' ∧ val ρ' v ∧ R N G ρ' H' w' ∧ Fr ρ H w ρ' H' w'

theorem run_storeCells_ab (P : Program) (blk base : Nat) : ∀ (us : List Value) (i : Nat) (w : World) (c : Array Value) (e : TypeId) (lo hi : Nat), w.heap[blk]? = some (.cells c e (lo, hi)) → base + i + us.length ≤ c.size →
    (∀ j, base + i ≤ j → j < base + i + us.length → (decide (lo ≤ j) && decide (j < hi)) = false) → (∀ u ∈ us, u.oneCell' = true) →
    ∃ w' c', (storeCells ⟨blk, base, none⟩ us i).run P w = .ok () w' ∧ w'.heap.size = w.heap.size ∧ (∀ k, k ≠ blk → w'.heap[k]? = w.heap[k]?) ∧ w'.heap[blk]? = some (.cells c' e (lo, hi)) ∧ c'.size = c.size ∧
      (∀ j, c'[j]? = if base + i ≤ j ∧ j < base + i + us.length then us[j - (base + i)]? else c[j]?) ∧ w'.os = w.os ∧ w'.tape = w.tape ∧ w'.output = w.output ∧ w.drawn ≤ w'.drawn
  | [], i, w, c, e, lo, hi, h, _, _, _ => ⟨w, c, rfl, rfl, fun _ _ => rfl, h, rfl, fun j => by rw [if_neg (by simp only [List.length_nil]; omega)], rfl, rfl, rfl, Nat.le_refl _⟩
  | u :: us, i, w, c, e, lo, hi, h, hle, hfz, hone => by
    simp only [List.length_cons] at hle hfz
    have ha : (Addr.add ⟨blk, base, none⟩ i) = ⟨blk, base + i, none⟩ := by
      unfold Addr.add; split
      · subst_vars; rfl
      · rfl
    have hlt : base + i < c.size := by omega
    have hcell : w.cell? ⟨blk, base + i, none⟩ = some c[base + i] := by simp [World.cell?, h, hlt]
    have hfro : w.frozen? ⟨blk, base + i, none⟩ = false := by
      simp only [World.frozen?, h]; exact hfz (base + i) (by omega) (by omega)
    have h1 : u.oneCell' = true := hone u (by simp)
    let w1 := w.setCell ⟨blk, base + i, none⟩ u
    have hw1 : w1.heap[blk]? = some (.cells (c.setIfInBounds (base + i) u) e (lo, hi)) := by
      simp [w1, World.setCell, Array.getElem?_modify, h]
    have hother : ∀ k, k ≠ blk → w1.heap[k]? = w.heap[k]? := fun k hk => by
      simp only [w1, World.setCell, Array.getElem?_modify]
      rw [if_neg (fun e => hk e.symm)]
    obtain ⟨w', c', g1, g2, g3, g4, g5, g6, g7, g8, g9, g10⟩ := run_storeCells_ab P blk base us (i + 1) w1 (c.setIfInBounds (base + i) u) e lo hi hw1 (by simp; omega) (fun j a b => hfz j (by omega) (by omega)) (fun x hx => hone x (by simp [hx]))
    refine ⟨w', c', ?_, by rw [g2]; simp [w1, World.setCell], fun k hk => (g3 k hk).trans (hother k hk), g4, by rw [g5]; simp, fun j => ?_, g7, g8, g9, g10⟩
    · simp only [storeCells, Sem.run_bind, ha]
      rw [run_store P w _ u _ h1, hcell]
      simp only [hfro, Bool.false_eq_true, if_false, Result.andThen_ok]
      exact g1
    · rw [g6]
      simp only [List.length_cons]
      by_cases hj : base + (i + 1) ≤ j ∧ j < base + (i + 1) + us.length
      · rw [if_pos hj, if_pos (by omega), show j - (base + i) = (j - (base + (i + 1))) + 1 by omega]; simp
      · rw [if_neg hj]
        by_cases hj2 : j = base + i
        · subst hj2
          rw [if_pos (by omega)]
          simp [hlt]
        · rw [if_neg (by omega)]
          rw [Array.getElem?_setIfInBounds_ne (fun e => hj2 e.symm)]

/-- A row's cells, some of them stored anew. -/
theorem splice_get (vs cs : List AV) (o : Nat) (h : o + cs.length ≤ vs.length) (i : Nat) : (splice vs o cs)[i]? = if o ≤ i ∧ i < o + cs.length then cs[i - o]? else vs[i]? := by
  unfold splice
  have h1 : (vs.take o).length = o := by simp; omega
  by_cases hi : i < o
  · rw [if_neg (by omega), List.append_assoc, List.getElem?_append_left (by omega), List.getElem?_take, if_pos hi]
  · by_cases hi2 : i < o + cs.length
    · rw [if_pos ⟨by omega, hi2⟩, List.append_assoc, List.getElem?_append_right (by omega), h1, List.getElem?_append_left (by omega)]
    · rw [if_neg (by omega), List.getElem?_append_right (by simp; omega), List.getElem?_drop]
      congr 1
      simp only [List.length_append, h1]; omega

theorem splice_length (vs cs : List AV) (o : Nat) (h : o + cs.length ≤ vs.length) : (splice vs o cs).length = vs.length := by
  simp [splice]; omega

/-- **Cells are stored** into a row of the heap. -/
theorem R.storeCells {P : Program} {N : Bd} {G : Nat} {ρ : Names} {H : AH} {w : World} (hR : R N G ρ H w) {b o : Nat} {vs cs : List AV} {us : List Value} {s : Seg} (hb : H.get b = some (.cells false vs)) (hs : ρ b = some s)
    (hc : VRs ρ cs us) (hone : ∀ u ∈ us, u.oneCell' = true) (hle : o + cs.length ≤ vs.length) :
    ∃ w', (storeCells ⟨s.blk, s.base + o, none⟩ us).run P w = .ok () w' ∧ R N G ρ (H.set b (.cells false (splice vs o cs))) w' ∧ Fr ρ H w ρ (H.set b (.cells false (splice vs o cs))) w' := by
  obtain ⟨s', hs', c, e, lo, hi, h1, h2, h3, h4, h5, h6⟩ := hR.obj b _ hb
  rw [hs] at hs'; cases hs'
  obtain ⟨hN, hfz⟩ := h6 rfl
  have hlen := hc.length
  obtain ⟨w', c', g1, g2, g3, g4, g5, g6, g7, g8, g9, g10⟩ := run_storeCells_ab P s.blk (s.base + o) us 0 w c e lo hi h1 (by omega) (fun j a b => notFrozen hfz j (by omega)) hone
  refine ⟨w', g1, ?_⟩
  refine hR.write hb rfl hs rfl g2 (fun k hk => g3 k hk) g7 g8 g9 H.next (Nat.le_refl _) ?_ (fun m l v c e => by cases e) (fun k m l v c _ _ _ ps => by simp)
  refine ⟨c', e, lo, hi, g4, by omega, by rw [splice_length _ _ _ hle]; exact h3, fun i a ha => ?_, h5, fun _ => ⟨hN, by rw [g5]; exact hfz⟩⟩
  rw [splice_get _ _ _ hle] at ha
  rw [g6]
  by_cases hi2 : o ≤ i ∧ i < o + cs.length
  · rw [if_pos hi2] at ha
    rw [if_pos (by omega)]
    obtain ⟨v, hv, hr⟩ := hc.get _ _ ha
    exact ⟨v, by rw [← hv]; congr 1; omega, hr⟩
  · rw [if_neg hi2] at ha
    rw [if_neg (by omega)]
    exact h4 i a ha

def allOne : List AV → Bool
  | [] => true
  | a :: as => a.one && allOne as

theorem allOne_ok {ρ : Names} : ∀ {as : List AV} {vs : List Value}, VRs ρ as vs → allOne as = true → ∀ u ∈ vs, u.oneCell' = true
  | [], vs, h, _, u, hu => by simp only [VRs] at h; subst h; cases hu
  | a :: as, vs, h, ho, u, hu => by
    simp only [VRs] at h
    obtain ⟨v, vs', rfl, h1, h2⟩ := h
    simp only [allOne, Bool.and_eq_true] at ho
    rcases List.mem_cons.1 hu with rfl | hu
    · exact h1.one ho.1
    · exact allOne_ok h2 ho.2 u hu

def astore (C : Ctx) (H : AH) (t : TypeId) (x a : AV) : Option AH :=
  match x with
  | .ptr b o =>
    match H.get b, C.ti t with
    | some (.cells false vs), some i =>
      bif notJunk a && Nat.beq a.cells.length i.size && allOne a.cells && Nat.ble (o + a.cells.length) vs.length then forceList (splice vs o a.cells) (fun l => some (H.set b (.cells false l))) else none
    | _, _ => none
  | _ => none

theorem astore_ok {C : Ctx} (hC : C.OK) {N : Bd} {G : Nat} {ρ : Names} {H H' : AH} {w : World} (hR : R N G ρ H w) {t : TypeId} {x a : AV} {v u : Value} (hx : VR ρ x v) (ha : VR ρ a u) (h : astore C H t x a = some H') :
    Did C.P N G ρ H w (Instr.storeAt t v u) (fun _ _ => True) H' := by
  unfold astore at h
  split at h
  · rename_i b o
    split at h
    · rename_i vs i hb hi
      cases hc : (notJunk a && Nat.beq a.cells.length i.size && allOne a.cells && Nat.ble (o + a.cells.length) vs.length)
      · rw [hc] at h; cases h
      · rw [hc] at h
        simp only [cond_true, forceList_eq, Option.some.injEq] at h
        subst h
        simp only [Bool.and_eq_true] at hc
        obtain ⟨⟨⟨c1, c2⟩, c3⟩, c4⟩ := hc
        have c2 := Nat.eq_of_beq_eq_true c2
        have c4 := Nat.le_of_ble_eq_true c4
        simp only [VR] at hx
        obtain ⟨sg, hsg, rfl⟩ := hx
        have hcs := VR.cells ha c1
        have hl := hcs.length
        obtain ⟨w', g1, g2, g3⟩ := hR.storeCells (P := C.P) hb hsg hcs (allOne_ok hcs c3) c4
        refine ⟨(), w', ρ, ?_, trivial, g2, g3⟩
        unfold Instr.storeAt Instr.sureAddr storeVar
        simp only [Sem.run_bind, Sem.run_pure, Result.andThen_ok, hC.run_size hi]
        rw [if_neg (by simp at hl; omega)]
        exact g1
    · cases h
  · cases h

/-! ### Maps -/
def mset : List (List UInt8 × AV) → List UInt8 → AV → List (List UInt8 × AV)
  | [], k, v => [(k, v)]
  | p :: ps, k, v => bif beqL k p.1 then (k, v) :: ps else p :: mset ps k v

def mdel : List (List UInt8 × AV) → List UInt8 → List (List UInt8 × AV)
  | [], _ => []
  | p :: ps, k => bif beqL k p.1 then ps else p :: mdel ps k

theorem mget_none_keys : ∀ {ps : List (List UInt8 × AV)} {k : List UInt8}, mget ps k = none → k ∉ ps.map (·.1)
  | [], k, _ => by simp
  | p :: ps, k, h => by
    simp only [mget, beqL_eq] at h
    by_cases hk : k = p.1
    · simp [hk] at h
    · simp only [hk, decide_false, cond_false] at h
      simp only [List.map_cons, List.mem_cons, not_or]
      exact ⟨hk, mget_none_keys h⟩

theorem mset_none {ps : List (List UInt8 × AV)} {k : List UInt8} {v : AV} (h : mget ps k = none) : mset ps k v = ps ++ [(k, v)] := by
  induction ps with
  | nil => rfl
  | cons p ps ih =>
    simp only [mget, beqL_eq] at h
    by_cases hk : k = p.1
    · simp [hk] at h
    · simp only [hk, decide_false, cond_false] at h
      simp only [mset, beqL_eq, hk, decide_false, cond_false, List.cons_append, ih h]

theorem mset_keys : ∀ {ps : List (List UInt8 × AV)} {k : List UInt8} {v a : AV}, mget ps k = some a → (mset ps k v).map (·.1) = ps.map (·.1)
  | [], k, v, a, h => by simp [mget] at h
  | p :: ps, k, v, a, h => by
    simp only [mget, beqL_eq] at h
    by_cases hk : k = p.1
    · simp [mset, beqL_eq, hk]
    · simp only [hk, decide_false, cond_false] at h
      simp only [mset, beqL_eq, hk, decide_false, cond_false, List.map_cons, mset_keys h]

theorem EntsR.append {ρ : Names} : ∀ {ps qs : List (List UInt8 × AV)} {es fs : List MapEntry}, EntsR ρ ps es → EntsR ρ qs fs → EntsR ρ (ps ++ qs) (es ++ fs)
  | [], qs, es, fs, h, h' => by simp only [EntsR] at h; subst h; simpa using h'
  | p :: ps, qs, es, fs, h, h' => by
    simp only [EntsR] at h
    obtain ⟨e, es', rfl, h1, h2, h3⟩ := h
    simp only [List.cons_append, EntsR]
    exact ⟨e, es' ++ fs, rfl, h1, h2, h3.append h'⟩

theorem EntsR.modify {ρ : Names} {k : List UInt8} {v : AV} {key val : Value} (hk : key = .string ⟨k.toArray⟩) (hv : VR ρ v val) : ∀ {ps : List (List UInt8 × AV)} {es : List MapEntry} {j : Nat}, EntsR ρ ps es → (ps.map (·.1)).Nodup → (ps.map (·.1))[j]? = some k →
    EntsR ρ (mset ps k v) (es.modify j fun e => { e with key, val })
  | [], es, j, h, _, hj => by simp at hj
  | p :: ps, es, j, h, hn, hj => by
    simp only [EntsR] at h
    obtain ⟨e, es', rfl, h1, h2, h3⟩ := h
    simp only [List.map_cons, List.nodup_cons] at hn
    simp only [mset, beqL_eq]
    cases j with
    | zero =>
      simp at hj
      simp only [hj, decide_true, cond_true, List.modify_zero_cons, EntsR]
      exact ⟨_, es', rfl, hk, hv, h3⟩
    | succ j =>
      simp only [List.map_cons, List.getElem?_cons_succ] at hj
      have hne : ¬ k = p.1 := fun e => hn.1 (e ▸ List.mem_of_getElem? hj)
      simp only [hne, decide_false, cond_false, List.modify_succ_cons, EntsR]
      exact ⟨e, _, rfl, h1, h2, EntsR.modify hk hv h3 hn.2 hj⟩

theorem EntsR.erase {ρ : Names} {k : List UInt8} : ∀ {ps : List (List UInt8 × AV)} {es : List MapEntry} {j : Nat}, EntsR ρ ps es → (ps.map (·.1)).Nodup → (ps.map (·.1))[j]? = some k →
    EntsR ρ (mdel ps k) (es.eraseIdx j)
  | [], es, j, h, _, hj => by simp at hj
  | p :: ps, es, j, h, hn, hj => by
    simp only [EntsR] at h
    obtain ⟨e, es', rfl, h1, h2, h3⟩ := h
    simp only [List.map_cons, List.nodup_cons] at hn
    simp only [mdel, beqL_eq]
    cases j with
    | zero =>
      simp at hj
      simp only [hj, decide_true, cond_true, List.eraseIdx_cons_zero]
      exact h3
    | succ j =>
      simp only [List.map_cons, List.getElem?_cons_succ] at hj
      have hne : ¬ k = p.1 := fun e => hn.1 (e ▸ List.mem_of_getElem? hj)
      simp only [hne, decide_false, cond_false, List.eraseIdx_cons_succ, EntsR]
      exact ⟨e, _, rfl, h1, h2, EntsR.erase h3 hn.2 hj⟩

theorem mdel_keys : ∀ (ps : List (List UInt8 × AV)) (k : List UInt8), ((mdel ps k).map (·.1)).Sublist (ps.map (·.1))
  | [], k => by simp [mdel]
  | p :: ps, k => by
    simp only [mdel]
    cases beqL k p.1
    · simp only [cond_false, List.map_cons]; exact (mdel_keys ps k).cons_cons _
    · simp only [cond_true, List.map_cons]; exact List.sublist_cons_self _ _

theorem mdel_none : ∀ {ps : List (List UInt8 × AV)} {k : List UInt8}, mget ps k = none → mdel ps k = ps
  | [], k, _ => rfl
  | p :: ps, k, h => by
    simp only [mget, beqL_eq] at h
    by_cases hk : k = p.1
    · simp [hk] at h
    · simp only [hk, decide_false, cond_false] at h
      simp only [mdel, beqL_eq, hk, decide_false, cond_false, mdel_none h]

/-- A map's object written anew. -/
theorem R.setMap {N : Bd} {G : Nat} {ρ : Names} {H : AH} {w : World} (hR : R N G ρ H w) {b : Nat} {ps ps' : List (List UInt8 × AV)} {ver : Nat} {s : Seg} (hb : H.get b = some (.map ps ver)) (hs : ρ b = some s) {es : Array MapEntry} {clock : Nat} (hm : MapR ρ ps' es clock) :
    R N G ρ ⟨H.t.set b (.map ps' H.next), H.next + 1⟩ { w with heap := w.heap.setIfInBounds s.blk (.map es clock) } ∧
    Fr ρ H w ρ ⟨H.t.set b (.map ps' H.next), H.next + 1⟩ { w with heap := w.heap.setIfInBounds s.blk (.map es clock) } := by
  obtain ⟨hN, es0, clock0, h0, h1⟩ := hR.map hb hs
  have hlt : s.blk < w.heap.size := by
    rcases Nat.lt_or_ge s.blk w.heap.size with h | h
    · exact h
    · rw [Array.getElem?_eq_none h] at h0; cases h0
  refine hR.write (w' := { w with heap := w.heap.setIfInBounds s.blk (.map es clock) }) (o' := .map ps' H.next) hb rfl hs rfl (by simp) (fun k hk => by simp [Array.getElem?_setIfInBounds_ne (fun e => hk e.symm)]) rfl rfl rfl (H.next + 1) (by omega) ?_ (fun m l v c e => by cases e) (fun k m l v c hk _ _ ps e => ?_)
  · exact ⟨hN, es, clock, by simp [hlt], hm⟩
  · injection e with e1 e2
    have := hR.vers k m l v c hk
    omega

def amapUpdate (C : Ctx) (H : AH) (t : TypeId) (m k v : AV) : Option AH :=
  match C.ti t with
  | none => none
  | some i =>
    match i.d, m, k with
    | .map kt _, .map b, .str s =>
      bif isStrKey C kt then
        match H.get b with
        | some (.map ps _) => some ⟨H.t.set b (.map (mset ps s v) H.next), H.next + 1⟩
        | _ => none
      else none
    | _, _, _ => none

theorem amapUpdate_ok {C : Ctx} (hC : C.OK) {N : Bd} {G : Nat} {ρ : Names} {H H' : AH} {w : World} (hR : R N G ρ H w) {t : TypeId} {m k v : AV} {m' k' v' : Value} (hm : VR ρ m m') (hk : VR ρ k k') (hv : VR ρ v v') (h : amapUpdate C H t m k v = some H') :
    Did C.P N G ρ H w (Instr.mapUpdate t m' k' v') (fun _ _ => True) H' := by
  unfold amapUpdate at h
  split at h
  · cases h
  · rename_i i hi
    split at h
    · rename_i kt et b s hd
      cases hkey : isStrKey C kt
      · rw [hkey] at h; cases h
      · rw [hkey] at h
        simp only [cond_true] at h
        obtain ⟨ki, hki, hkd⟩ := isStrKey_some hkey
        split at h
        · rename_i ps ver hb
          simp only [Option.some.injEq] at h; subst h
          simp only [VR] at hm hk
          obtain ⟨sg, hsg, rfl⟩ := hm
          subst hk
          obtain ⟨hN, es, clock, h0, h1⟩ := hR.map hb hsg
          obtain ⟨f, hf, hq⟩ := findKey_string hC hki hkd s h1.ents w
          have hck := checkKey_string hC hki hkd false 9999 ⟨s.toArray⟩ w
          cases hg : mget ps s with
          | none =>
            rw [hg] at hq
            subst hq
            have hm' : MapR ρ (mset ps s v) (es.push { key := .string ⟨s.toArray⟩, val := v', born := clock }) (clock + 1) := by
              rw [mset_none hg]
              refine ⟨?_, ?_, ?_, ?_⟩
              · rw [Array.toList_push]
                exact h1.ents.append (by simp only [EntsR]; exact ⟨_, [], rfl, rfl, hv, rfl⟩)
              · rw [List.map_append, List.nodup_append]
                refine ⟨h1.keys, by simp, ?_⟩
                intro a ha b hb2
                simp at hb2
                subst hb2
                intro e; subst e
                exact mget_none_keys hg ha
              · rw [Array.toList_push, List.map_append, List.pairwise_append]
                refine ⟨h1.born, by simp, ?_⟩
                intro a ha b hb2
                simp at hb2; subst hb2
                obtain ⟨e, he, rfl⟩ := List.mem_map.1 ha
                exact h1.old e he
              · intro e he
                rw [Array.toList_push] at he
                rcases List.mem_append.1 he with he | he
                · have := h1.old e he; omega
                · simp at he; subst he; simp
            obtain ⟨r1, r2⟩ := hR.setMap hb hsg hm'
            refine ⟨(), _, ρ, ?_, trivial, r1, r2⟩
            unfold Instr.mapUpdate
            simp only [Sem.run_bind, hC.run_und hi, hd, Result.andThen_ok, getObj, Sem.run, h0, hck, hf, setObj]
          | some a =>
            rw [hg] at hq
            obtain ⟨j, u, e, rfl, hu, he, hev, hkj⟩ := hq
            have hjlt : j < es.toList.length := by
              rcases Nat.lt_or_ge j es.toList.length with h | h
              · exact h
              · rw [List.getElem?_eq_none h] at he; cases he
            have hkeyj : e.key = .string ⟨s.toArray⟩ := by
              have key : ∀ {ps : List (List UInt8 × AV)} {es : List MapEntry} {j : Nat}, EntsR ρ ps es → ∀ e, es[j]? = some e → (ps.map (·.1))[j]? = some s → e.key = .string ⟨s.toArray⟩ := by
                intro ps
                induction ps with
                | nil => intro es j h e he hj; simp at hj
                | cons p ps ih =>
                  intro es j h e he hj
                  simp only [EntsR] at h
                  obtain ⟨e0, es', rfl, k1, k2, k3⟩ := h
                  cases j with
                  | zero => simp at he hj; subst he; rw [k1, hj]
                  | succ j => exact ih k3 e (by simpa using he) (by simpa using hj)
              exact key h1.ents e he hkj
            have hes : (es.modify j fun e => { e with key := .string ⟨s.toArray⟩, val := v' }).toList = es.toList.modify j fun e => { e with key := .string ⟨s.toArray⟩, val := v' } := by
              simp [Array.toList_modify]
            have hm' : MapR ρ (mset ps s v) (es.modify j fun e => { e with key := .string ⟨s.toArray⟩, val := v' }) clock := by
              refine ⟨?_, by rw [mset_keys hg]; exact h1.keys, ?_, ?_⟩
              · rw [hes]
                exact EntsR.modify rfl hv h1.ents h1.keys hkj
              · rw [hes]
                have : (es.toList.modify j fun e => { e with key := .string ⟨s.toArray⟩, val := v' }).map (·.born) = es.toList.map (·.born) := by
                  apply List.ext_getElem?
                  intro n
                  rw [List.getElem?_map, List.getElem?_map, List.getElem?_modify]
                  by_cases hn : j = n
                  · subst hn; cases es.toList[j]? <;> simp
                  · cases es.toList[n]? <;> simp [hn]
                rw [this]; exact h1.born
              · intro x hx
                rw [hes] at hx
                obtain ⟨n, hn⟩ := List.getElem?_of_mem hx
                rw [List.getElem?_modify] at hn
                cases hy : es.toList[n]? with
                | none => rw [hy] at hn; simp at hn
                | some y =>
                  rw [hy] at hn
                  have := h1.old y (List.mem_of_getElem? hy)
                  by_cases hjn : j = n
                  · simp [hjn] at hn; subst hn; exact this
                  · simp [hjn] at hn; subst hn; exact this
            obtain ⟨r1, r2⟩ := hR.setMap hb hsg hm'
            refine ⟨(), _, ρ, ?_, trivial, r1, r2⟩
            unfold Instr.mapUpdate
            have he' : es[j]? = some e := by simpa using he
            simp only [Sem.run_bind, hC.run_und hi, hd, Result.andThen_ok, getObj, Sem.run, h0, hck, hf, he', Option.map_some, Option.getD_some, hkeyj]
            unfold Instr.keyThatStays
            have hsb : Instr.sameBits 10000 (Value.string ⟨s.toArray⟩) (Value.string ⟨s.toArray⟩) = true := by
              have : ((ByteArray.mk s.toArray) == ByteArray.mk s.toArray) = true := by rw [beqB]; simp
              exact this
            simp only [hsb, if_true, Sem.run_pure, Result.andThen_ok, setObj, Sem.run, h0]
        · cases h
    · cases h

end Go.AB

namespace Go.AB

/-! ### What is appended or copied -/
def acells (H : AH) (z n : Nat) (x : AV) : Option (List AV) :=
  match x with
  | .nils => bif Nat.beq n 0 then some [] else none
  | .empty _ => bif Nat.beq n 0 then some [] else none
  | .slice b o _ _ _ =>
    bif Nat.beq (n * z) 0 then some [] else
    match H.get b with
    | some (.cells _ vs) =>
      let cs := (vs.drop o).take (n * z)
      bif Nat.beq cs.length (n * z) then some cs else none
    | _ => none
  | .str s => bif Nat.ble n s.length then some ((s.take n).map fun b => .int .u8 b.toNat) else none
  | _ => none

theorem acells_ok {P : Program} {N : Bd} {G : Nat} {ρ : Names} {H : AH} {w : World} (hR : R N G ρ H w) {z n : Nat} {x : AV} {v : Value} (hx : VR ρ x v) {cs : List AV} (h : acells H z n x = some cs) :
    ∃ us, (Builtin.firstCells z n v).run P w = .ok ⟨us⟩ w ∧ VRs ρ cs us := by
  unfold acells at h
  split at h
  · cases hn : Nat.beq n 0
    · rw [hn] at h; cases h
    · rw [hn] at h
      simp only [cond_true, Option.some.injEq] at h; subst h
      simp only [VR] at hx; subst hx
      exact ⟨[], rfl, VRs.nil⟩
  · cases hn : Nat.beq n 0
    · rw [hn] at h; cases h
    · rw [hn] at h
      have hn' := Nat.eq_of_beq_eq_true hn
      subst hn'
      simp only [cond_true, Option.some.injEq] at h; subst h
      simp only [VR] at hx
      obtain ⟨s, o, cc, _, rfl⟩ := hx
      refine ⟨[], ?_, VRs.nil⟩
      simp [Builtin.firstCells, loadCells, loadCellsFrom]
  · rename_i b o l c zz
    simp only [VR] at hx
    obtain ⟨sg, cc, hsg, rfl, _⟩ := hx
    cases hn : Nat.beq (n * z) 0
    · rw [hn] at h
      simp only [cond_false] at h
      split at h
      · rename_i ro vs hb
        cases hl : Nat.beq ((vs.drop o).take (n * z)).length (n * z)
        · simp only [hl] at h; cases h
        · simp only [hl, cond_true, Option.some.injEq] at h
          subst h
          have hl' := Nat.eq_of_beq_eq_true hl
          obtain ⟨us, h1, h2⟩ := run_loadCells_ab (P := P) (w := w) (ρ := ρ) sg.blk ((vs.drop o).take (n * z)) (sg.base + o) 0 #[] (fun j a hj => by
            rw [List.getElem?_take] at hj
            split at hj
            · rw [List.getElem?_drop] at hj
              have := hR.cell hb hsg hj
              rwa [show sg.base + o + 0 + j = sg.base + (o + j) by omega]
            · cases hj)
          rw [hl'] at h1
          exact ⟨us, by simp only [Builtin.firstCells, loadCells, h1]; simp, h2⟩
      · cases h
    · rw [hn] at h
      simp only [cond_true, Option.some.injEq] at h; subst h
      have hn' := Nat.eq_of_beq_eq_true hn
      exact ⟨[], by simp [Builtin.firstCells, hn', loadCells, loadCellsFrom], VRs.nil⟩
  · rename_i s
    cases hn : Nat.ble n s.length
    · rw [hn] at h; cases h
    · rw [hn] at h
      simp only [cond_true, Option.some.injEq] at h; subst h
      have hn' := Nat.le_of_ble_eq_true hn
      simp only [VR] at hx; subst hx
      refine ⟨(s.take n).map fun b => .int .u8 b.toNat, ?_, ?_⟩
      · simp only [Builtin.firstCells, Sem.run_pure]
        congr 1
        apply Array.ext'
        have := Lib.extract_data (ByteArray.mk s.toArray) 0 n
        simp only [Array.toList_map, this]
        simp
      · refine VRs.of_get (by simp) fun i a v ha hv => ?_
        rw [List.getElem?_map] at ha hv
        cases hs : (s.take n)[i]? with
        | none => rw [hs] at ha; cases ha
        | some b => rw [hs] at ha hv; simp at ha hv; subst ha; subst hv; simp [VR]
  · cases h

/-- Cells are stored into a row, behind its end too where there is room. -/
theorem R.extendCells {P : Program} {N : Bd} {G : Nat} {ρ : Names} {H : AH} {w : World} (hR : R N G ρ H w) {b o : Nat} {vs cs : List AV} {us : List Value} {s : Seg} (hb : H.get b = some (.cells false vs)) (hs : ρ b = some s)
    (hc : VRs ρ cs us) (hone : ∀ u ∈ us, u.oneCell' = true) (ho : o ≤ vs.length) (hroom : o + cs.length ≤ s.room) :
    ∃ w', (Go.storeCells ⟨s.blk, s.base + o, none⟩ us).run P w = .ok () w' ∧ R N G ρ (H.set b (.cells false (splice vs o cs))) w' ∧ Fr ρ H w ρ (H.set b (.cells false (splice vs o cs))) w' ∧ w'.heap.size = w.heap.size ∧
      (∀ k, k ≠ s.blk → w'.heap[k]? = w.heap[k]?) := by
  obtain ⟨s', hs', c, e, lo, hi, h1, h2, h3, h4, h5, h6⟩ := hR.obj b _ hb
  rw [hs] at hs'; cases hs'
  obtain ⟨hN, hfz⟩ := h6 rfl
  have hlen := hc.length
  obtain ⟨w', c', g1, g2, g3, g4, g5, g6, g7, g8, g9, g10⟩ := run_storeCells_ab P s.blk (s.base + o) us 0 w c e lo hi h1 (by omega) (fun j a b => notFrozen hfz j (by omega)) hone
  refine ⟨w', g1, ?_⟩
  have hlen2 : (splice vs o cs).length ≤ s.room := by simp [splice]; omega
  have := hR.write (o' := .cells false (splice vs o cs)) hb rfl hs rfl g2 (fun k hk => g3 k hk) g7 g8 g9 H.next (Nat.le_refl _) (by
    refine ⟨c', e, lo, hi, g4, by omega, hlen2, fun i a ha => ?_, h5, fun _ => ⟨hN, by rw [g5]; exact hfz⟩⟩
    have hsp : (splice vs o cs)[i]? = if o ≤ i ∧ i < o + cs.length then cs[i - o]? else vs[i]? := by
      unfold splice
      have h1 : (vs.take o).length = o := by simp; omega
      by_cases hi : i < o
      · rw [if_neg (by omega), List.append_assoc, List.getElem?_append_left (by omega), List.getElem?_take, if_pos hi]
      · by_cases hi2 : i < o + cs.length
        · rw [if_pos ⟨by omega, hi2⟩, List.append_assoc, List.getElem?_append_right (by omega), h1, List.getElem?_append_left (by omega)]
        · rw [if_neg (by omega), List.getElem?_append_right (by simp; omega), List.getElem?_drop]
          congr 1
          simp only [List.length_append, h1]; omega
    rw [hsp] at ha
    rw [g6]
    by_cases hi2 : o ≤ i ∧ i < o + cs.length
    · rw [if_pos hi2] at ha
      rw [if_pos (by omega)]
      obtain ⟨v, hv, hr⟩ := hc.get _ _ ha
      exact ⟨v, by rw [← hv]; congr 1; omega, hr⟩
    · rw [if_neg hi2] at ha
      rw [if_neg (by omega)]
      exact h4 i a ha) (fun m l v c e => by cases e) (fun k m l v c _ _ _ ps => by simp)
  exact ⟨this.1, this.2, g2, g3⟩

theorem growBy_le (n : Nat) : ∀ (r c : Nat), c ≤ 2 * n + 1024 → Builtin.growBy n r c ≤ 2 * n + 1024
  | 0, c, h => h
  | r + 1, c, h => by
    unfold Builtin.growBy
    split
    · exact h
    · exact growBy_le n r _ (by omega)

theorem nextslicecap_le (n c : Nat) (h : c < n) : Builtin.nextslicecap n c ≤ 2 * n + 1024 := by
  unfold Builtin.nextslicecap
  split
  · omega
  · split
    · omega
    · exact growBy_le n 4 c (by omega)

/-- The element's zero is known. -/
def zOK (j : TI) : Bool :=
  match j.zero with
  | some z => notJunk z && Nat.beq z.cells.length j.size
  | none => false

/-- What is appended, and how many. -/
def aappended (C : Ctx) (H : AH) (j : TI) (xt : TypeId) (x : AV) : Option (Nat × List AV) :=
  match C.ti xt with
  | none => none
  | some xi =>
    match xi.d, x with
    | .int _, .int _ l =>
      match l, j.zero with
      | .ofNat n, some z => bif notJunk z && Nat.beq z.cells.length j.size && Nat.ble (n * j.bytes) 281474976710656 && Nat.ble n 9223372036854775807 then some (n, zerosOf z.cells n) else none
      | _, _ => none
    | .int _, _ => none
    | _, .str s => (acells H j.size s.length x).map fun cs => (s.length, cs)
    | _, x => match lenOfAV x with
      | some n => (acells H j.size n x).map fun cs => (n, cs)
      | none => none

def aappend (C : Ctx) (H : AH) (ats : List TypeId) (args : List AV) : Option (AV × AH) :=
  match ats, args with
  | st :: xt :: _, s :: x :: _ =>
    match C.ti st with
    | none => none
    | some si =>
      match si.d with
      | .slice elem =>
        match C.ti elem with
        | none => none
        | some j =>
          match aappended C H j xt x with
          | none => none
          | some (n, cs) =>
            bif allOne cs && Nat.beq cs.length (n * j.size) && zOK j then
              if n = 0 then (match s with
                | .nils => some (.nils, H)
                | .slice b o l c z => some (.slice b o l c z, H)
                | .empty b => some (.empty b, H)
                | _ => none)
              else match s with
              | .nils => bif Nat.ble ((2 * n + 1024) * j.bytes) 281474976710656 && Nat.ble n 4611686018427387904 then some (.slice H.next 0 n (.lo n) j.size, H.alloc (.cells false cs)) else none
              | .slice b o l c z =>
                bif Nat.beq z j.size && Nat.ble ((2 * (l + n) + 1024) * j.bytes) 281474976710656 && Nat.ble (l + n) 4611686018427387904 then
                  if l + n ≤ c.low then
                    match H.get b with
                    | some (.cells false vs) => bif Nat.ble (o + l * z) vs.length then some (.slice b o (l + n) c z, H.set b (.cells false (splice vs (o + l * z) cs))) else none
                    | _ => none
                  else match c with
                  | .ex _ => (acells H z l s).map fun old => (.slice H.next 0 (l + n) (.lo (l + n)) z, H.alloc (.cells false (old ++ cs)))
                  | .lo _ =>
                    match H.get b with
                    | some (.cells false vs) => bif Nat.beq o 0 && Nat.beq (o + l * z) vs.length then some (.slice H.next 0 (l + n) (.lo (l + n)) z, (H.del b).alloc (.cells false (vs.drop o ++ cs))) else none
                    | _ => none
                else none
              | _ => none
            else none
      | _ => none
  | _, _ => none


theorem lenOf_ok {P : Program} {w : World} {ρ : Names} {x : AV} {v : Value} {n : Nat} (hx : VR ρ x v) (h : lenOfAV x = some n) : (Builtin.lenOf v).run P w = .ok n w := by
  obtain ⟨a, c, rfl⟩ := lenOfAV_ok hx h
  rfl

/-- Both kinds of what is appended: how many, and the cells. -/
theorem aappended_ok {C : Ctx} (hC : C.OK) {N : Bd} {G : Nat} {ρ : Names} {H : AH} {w : World} (hR : R N G ρ H w) {elem : TypeId} {j : TI} (hj : C.ti elem = some j) {xt : TypeId} {x : AV} {v : Value} (hx : VR ρ x v) {n : Nat} {cs : List AV}
    (h : aappended C H j xt x = some (n, cs)) :
    ∃ (xi : TI) (us : List Value), C.ti xt = some xi ∧ VRs ρ cs us ∧
      ((∃ k, xi.d = .int k) ∧ (∃ k, v = .int k n) ∧ n ≤ 9223372036854775807 ∧ n * j.bytes ≤ 281474976710656 ∧ (if n * j.size = 0 then us = [] else ∃ q, (zeroValue elem).run C.P w = .ok q w ∧ Builtin.zeroCells q.cells n = ⟨us⟩) ∨
       ((∀ k, xi.d ≠ .int k) ∧ (Builtin.lenOf v).run C.P w = .ok n w ∧ (Builtin.firstCells j.size n v).run C.P w = .ok ⟨us⟩ w)) := by
  unfold aappended at h
  split at h
  · cases h
  · rename_i xi hxi
    split at h
    · rename_i k k' l hd
      split at h
      · rename_i m z hz
        cases hc : (notJunk z && Nat.beq z.cells.length j.size && Nat.ble (m * j.bytes) 281474976710656 && Nat.ble m 9223372036854775807)
        · rw [hc] at h; cases h
        · rw [hc] at h
          simp only [cond_true, Option.some.injEq, Prod.mk.injEq] at h
          obtain ⟨rfl, rfl⟩ := h
          simp only [Bool.and_eq_true] at hc
          obtain ⟨⟨⟨c1, c2⟩, c3⟩, c4⟩ := hc
          have c2 := Nat.eq_of_beq_eq_true c2
          have c3 := Nat.le_of_ble_eq_true c3
          have c4 := Nat.le_of_ble_eq_true c4
          simp only [VR] at hx
          obtain ⟨q, hq, hr⟩ := hC.run_zero hj hz w ρ
          have hcs := VR.cells hr c1
          have hl := hcs.length
          simp at hl
          have hzc := zerosOf_ok hcs m (m * q.cells.size) (by rw [hl])
          refine ⟨xi, _, hxi, hzc, .inl ⟨⟨k, hd⟩, ⟨k', hx⟩, c4, c3, ?_⟩⟩
          split
          · rename_i h0
            have : m * q.cells.size = 0 := by rw [hl, c2]; exact h0
            simp [this]
          · exact ⟨q, hq, by apply Array.ext'; simp [Builtin.zeroCells]⟩
      · cases h
    · cases h
    · rename_i s hd hni
      simp only [Option.map_eq_some_iff, Prod.mk.injEq] at h
      obtain ⟨cs', h, rfl, rfl⟩ := h
      obtain ⟨us, h1, h2⟩ := acells_ok (P := C.P) hR hx h
      refine ⟨xi, us, hxi, h2, .inr ⟨fun k e => ?_, ?_, h1⟩⟩
      · exact hni k e
      · simp only [VR] at hx; subst hx
        show Sem.run C.P (pure _) w = _
        simp [ByteArray.size]
    · rename_i hni _
      split at h
      · rename_i m hm
        simp only [Option.map_eq_some_iff, Prod.mk.injEq] at h
        obtain ⟨cs', h, rfl, rfl⟩ := h
        obtain ⟨us, h1, h2⟩ := acells_ok (P := C.P) hR hx h
        exact ⟨xi, us, hxi, h2, .inr ⟨fun k e => hni k e, lenOf_ok hx hm, h1⟩⟩
      · cases h


theorem getElem?_mk {α : Type} (l : List α) (i : Nat) : (Array.mk l)[i]? = l[i]? := by simp

/-- What is left of an append once it is known how many there are. -/
theorem append_run {C : Ctx} (hC : C.OK) {w : World} {st xt elem ty : TypeId} {si xi j : TI} (hsi : C.ti st = some si) (hd : si.d = .slice elem) (hj : C.ti elem = some j) (hxi : C.ti xt = some xi) {base : Option Addr} {sLen sCap n : Nat} {v : Value} {us : List Value}
    (hn : n ≤ 9223372036854775807)
    (hx : (∃ k, xi.d = .int k) ∧ (∃ k, v = .int k n) ∧ n ≤ 9223372036854775807 ∧ n * j.bytes ≤ 281474976710656 ∧ (if n * j.size = 0 then us = [] else ∃ q, (zeroValue elem).run C.P w = .ok q w ∧ Builtin.zeroCells q.cells n = ⟨us⟩) ∨
       ((∀ k, xi.d ≠ .int k) ∧ (Builtin.lenOf v).run C.P w = .ok n w ∧ (Builtin.firstCells j.size n v).run C.P w = .ok ⟨us⟩ w)) (ats : List TypeId) (args : List Value) :
    (sLen + n ≤ sCap → ∀ w', (match base with | some a => storeCells (a.add (sLen * j.size)) us | none => pure () : Sem Unit).run C.P w = .ok () w' →
      (Builtin.append_ ⟨st :: xt :: ats⟩ ty ⟨.slice base sLen sCap :: v :: args⟩).run C.P w = .ok (.slice base (sLen + n) sCap) w') ∧
    (¬ sLen + n ≤ sCap → sLen + n ≤ 4611686018427387904 → (2 * (sLen + n) + 1024) * j.bytes ≤ 281474976710656 → ∀ old : List Value, (∀ d, (Builtin.firstCells j.size sLen (.slice base sLen sCap)).run C.P { w with drawn := d } = .ok ⟨old⟩ { w with drawn := d }) →
      (∀ d, (Builtin.firstCells j.size n v).run C.P w = .ok ⟨us⟩ w → (Builtin.firstCells j.size n v).run C.P { w with drawn := d } = .ok ⟨us⟩ { w with drawn := d }) → (∃ q, ∀ w0, (zeroValue elem).run C.P w0 = .ok q w0 ∧ q.cells.size = j.size) →
      ∃ cap rest d, w.drawn ≤ d ∧ sLen + n ≤ cap ∧ rest.length = (cap - (sLen + n)) * j.size ∧ (Builtin.append_ ⟨st :: xt :: ats⟩ ty ⟨.slice base sLen sCap :: v :: args⟩).run C.P w =
        .ok (.slice (some ⟨w.heap.size, 0, none⟩) (sLen + n) cap) { w with heap := w.heap.push (.cells ⟨old ++ us ++ rest⟩ elem), drawn := d }) := by
  obtain ⟨ji, hj1, hj2, hj3⟩ := hC.run_info hj w
  have hwrap : IntKind.i64.wrap (n : Int) = n := by
    have : (n : Int) ≤ 9223372036854775807 := by omega
    unfold IntKind.wrap IntKind.bits IntKind.signed
    simp only [Bool.true_and, decide_eq_true_eq]
    have e : (n : Int) % (2 ^ 64 : Int) = n := by omega
    have e2 : ((2 : Int) ^ (64 - 1)) = 9223372036854775808 := by decide
    have e3 : ((2 : Int) ^ 64) = 18446744073709551616 := by decide
    simp only [e2, e3] at e ⊢
    rw [e, if_neg (by omega)]
  have hmax : ¬ (((sLen + n : Nat)) : Int) > IntKind.i64.max ∨ ¬ (sLen + n ≤ 4611686018427387904) := by
    have : IntKind.i64.max = 9223372036854775807 := by decide
    omega
  have h48 : ((2 : Int) ^ 48) = 281474976710656 := by decide
  have hnb : n * j.bytes ≤ 281474976710656 → ¬ ((n : Int) * (ji.bytes : Nat) > 2 ^ 48) := by
    intro h
    rw [hj3, h48]
    have : ((n * j.bytes : Nat) : Int) ≤ 281474976710656 := by omega
    rw [Int.natCast_mul] at this
    omega
  refine ⟨?_, ?_⟩
  · intro hle w' hst
    unfold Builtin.append_
    rcases hx with ⟨⟨k, hk⟩, ⟨k', rfl⟩, h1, h2, h3⟩ | ⟨hk, hlen, hfc⟩
    · have e1 : ¬ ((n : Int) < 0) := by omega
      have e2 := hnb h2
      simp only [getElem?_mk, List.getElem?_cons_zero, List.getElem?_cons_succ, Sem.run_bind, hC.run_und hsi, hd, Result.andThen_ok, hC.run_size hj, hC.run_und hxi, hk, Sem.run_pure, if_true, asInt, asIntOf, hwrap, hj1, e1, e2, if_false, Int.toNat_natCast, hle, Bool.not_true, Bool.false_eq_true]
      split at h3
      · rename_i h0
        subst h3
        rw [if_pos h0]
        simp only [Sem.run_pure, Result.andThen_ok]
        cases base with
        | none => cases hst; rfl
        | some a =>
          simp only at hst
          simp only [Sem.run_bind, hst, Result.andThen_ok, Sem.run_pure]
      · rename_i h0
        obtain ⟨q, hq, hz⟩ := h3
        rw [if_neg h0]
        simp only [Sem.run_bind, hq, hz, Sem.run_pure, Result.andThen_ok]
        cases base with
        | none => cases hst; rfl
        | some a =>
          simp only at hst
          simp only [Sem.run_bind, hst, Result.andThen_ok, Sem.run_pure]
    · simp only [getElem?_mk, List.getElem?_cons_zero, List.getElem?_cons_succ, Sem.run_bind, hC.run_und hsi, hd, Result.andThen_ok, hC.run_size hj, hC.run_und hxi, Sem.run_pure]
      simp only [Bool.false_eq_true, if_false, Bool.not_false, if_true, hlen, hle, hfc, Sem.run_bind, Result.andThen_ok]
      cases base with
      | none => cases hst; rfl
      | some a =>
        simp only at hst
        simp only [Sem.run_bind, hst, Result.andThen_ok, Sem.run_pure]
  · intro hnle hsm hby old hold hus hzero
    have hmax' : ¬ (((sLen + n : Nat) : Int) > IntKind.i64.max) := by
      rcases hmax with h | h
      · exact h
      · exact absurd hsm h
    have hcapb : ¬ (Builtin.nextslicecap (sLen + n) sCap * ji.bytes > 2 ^ 48) := by
      have h1 := nextslicecap_le (sLen + n) sCap (by omega)
      have h2 := Nat.mul_le_mul_right j.bytes h1
      have : (2 : Nat) ^ 48 = 281474976710656 := by decide
      rw [hj3]; omega
    obtain ⟨q, hq⟩ := hzero
    let Q : Question := .appendCap (sLen + n) sCap elem
    let cap := Q.cut (w.tape w.drawn Q)
    have hcap : sLen + n ≤ cap := Nat.le_add_right _ _
    refine ⟨cap, (Builtin.zeroCells q.cells (cap - (sLen + n))).toList, w.drawn + 1, Nat.le_succ _, hcap, by simp [Builtin.zeroCells, (hq w).2], ?_⟩
    unfold Builtin.append_
    have hinfo : ∀ w0, (typeInfo elem).run C.P w0 = .ok ji w0 := by
      intro w0
      obtain ⟨x, h1, h2, h3, h4⟩ := hC.info hj
      unfold typeInfo at hj1 ⊢
      simp only [Sem.run_bind, run_program, Result.andThen_ok, h1, Sem.run_pure, Result.ok.injEq] at hj1 ⊢
      exact ⟨hj1.1, trivial⟩
    rcases hx with ⟨⟨k, hk⟩, ⟨k', rfl⟩, h1, h2, h3⟩ | ⟨hk, hlen, hfc⟩
    · have e1 : ¬ ((n : Int) < 0) := by omega
      have e2 := hnb h2
      have hA : ∀ d, (if n * j.size = 0 then pure #[] else do pure (Builtin.zeroCells (← zeroValue elem).cells n) : Sem (Array Value)).run C.P { w with drawn := d } = .ok ⟨us⟩ { w with drawn := d } := by
        intro d
        split at h3
        · rename_i h0; subst h3; rw [if_pos h0]; rfl
        · rename_i h0
          obtain ⟨q', hq', hz'⟩ := h3
          rw [if_neg h0]
          have := (hq w).1
          rw [hq'] at this
          cases this
          simp only [Sem.run_bind, (hq _).1, Result.andThen_ok, Sem.run_pure, hz']
      simp only [getElem?_mk, List.getElem?_cons_zero, List.getElem?_cons_succ, Sem.run_bind, hC.run_und hsi, hd, Result.andThen_ok, hC.run_size hj, hC.run_und hxi, hk, Sem.run_pure, if_true, asInt, asIntOf, hwrap, hinfo, e1, e2, if_false, Int.toNat_natCast, hnle, Bool.not_true, Bool.false_eq_true, hmax', false_and, hcapb, run_choose, Question.forced, run_askRoom, hold, hq]
      rw [hA]
      simp only [Result.andThen_ok, Sem.run_bind, newRow, run_newObj, Sem.run_pure, (hq _).1]
      congr 3
      congr 1
      congr 1
      apply Array.ext'
      simp
      rfl
    · simp only [getElem?_mk, List.getElem?_cons_zero, List.getElem?_cons_succ, Sem.run_bind, hC.run_und hsi, hd, Result.andThen_ok, hC.run_size hj, hC.run_und hxi, Sem.run_pure]
      simp only [Bool.false_eq_true, if_false, Bool.not_false, if_true, hlen, hnle, hinfo, hmax', false_and, hcapb, run_choose, Question.forced, run_askRoom, hold, hus _ hfc, Sem.run_bind, Result.andThen_ok, newRow, run_newObj, Sem.run_pure, (hq _).1]
      congr 3
      congr 1
      congr 1
      apply Array.ext'
      simp
      rfl


/-- A read does not hang on how many draws there were. -/
theorem firstCells_drawn {P : Program} (z n : Nat) (v : Value) (w : World) (d : Nat) (us : Array Value) (h : (Builtin.firstCells z n v).run P w = .ok us w) : (Builtin.firstCells z n v).run P { w with drawn := d } = .ok us { w with drawn := d } := by
  have key : ∀ (k : Nat) (a : Addr) (i : Nat) (acc us : Array Value), (loadCellsFrom a i k acc).run P w = .ok us w → (loadCellsFrom a i k acc).run P { w with drawn := d } = .ok us { w with drawn := d } := by
    intro k
    induction k with
    | zero => intro a i acc us h; simp only [loadCellsFrom, Sem.run_pure, Result.ok.injEq] at h ⊢; exact ⟨h.1, trivial⟩
    | succ k ih =>
      intro a i acc us h
      simp only [loadCellsFrom, Sem.run_bind, run_load] at h ⊢
      have e : World.cell? { w with drawn := d } (a.add i) = w.cell? (a.add i) := rfl
      rw [e]
      cases hc : w.cell? (a.add i) with
      | some v =>
        rw [hc] at h
        exact ih _ _ _ _ h
      | none =>
        rw [hc] at h
        simp only at h ⊢
        have e2 : World.farLoad P { w with drawn := d } (a.add i) (Mode.plain == Mode.atomic) = w.farLoad P (a.add i) (Mode.plain == Mode.atomic) := rfl
        rw [e2]
        cases hf : w.farLoad P (a.add i) (Mode.plain == Mode.atomic) with
        | ok x => rw [hf] at h; exact ih _ _ _ _ h
        | error x => rw [hf] at h; simp at h
  unfold Builtin.firstCells at h ⊢
  split at h
  · exact key _ _ _ _ _ h
  · simp only [Sem.run_pure, Result.ok.injEq] at h ⊢; exact ⟨h.1, trivial⟩
  · simp only [Sem.run_pure, Result.ok.injEq] at h ⊢; exact ⟨h.1, trivial⟩
  · simp at h

theorem zero_always {C : Ctx} (hC : C.OK) {t : TypeId} {i : TI} (hi : C.ti t = some i) {w : World} {q : Value} (h : (zeroValue t).run C.P w = .ok q w) : ∀ w0, (zeroValue t).run C.P w0 = .ok q w0 := by
  intro w0
  obtain ⟨x, h1, _, _, h4⟩ := hC.info hi
  unfold zeroValue typeInfo at h ⊢
  simp only [Sem.run_bind, run_program, Result.andThen_ok, h1, Sem.run_pure] at h ⊢
  cases hz : x.zero with
  | none => rw [hz] at h; simp at h
  | some v => rw [hz] at h; simp only [Sem.run_pure, Result.ok.injEq] at h ⊢; exact ⟨h.1, trivial⟩

/-- A new block of an append that grows. -/
theorem R.grown {P : Program} {N : Bd} {G : Nat} {ρ : Names} {H : AH} {w : World} (hR : R N G ρ H w) {α : Sem Value} {as : List AV} {vs rest : List Value} {e : TypeId} {len cap z d : Nat} (hv : VRs ρ as vs) (hz : as.length = len * z) (hr : rest.length = (cap - len) * z) (hle : len ≤ cap)
    (hrun : α.run P w = .ok (.slice (some ⟨w.heap.size, 0, none⟩) len cap) { w with heap := w.heap.push (.cells ⟨vs ++ rest⟩ e), drawn := d }) (hd : w.drawn ≤ d := by first | exact Nat.le_refl _ | omega | (simp; done)) :
    Did P N G ρ H w α (fun ρ' v => VR ρ' (.slice H.next 0 len (.lo len) z) v) (H.alloc (.cells false as)) := by
  have hl := hv.length
  have hsz : (Array.mk (vs ++ rest)).size = cap * z := by
    simp only [List.size_toArray, List.length_append, hl, hz, hr]
    rw [← Nat.add_mul, Nat.add_sub_cancel' hle]
  have hnew : ρ H.next = none := hR.fresh _ (Nat.le_refl _)
  let s : Seg := ⟨w.heap.size, 0, cap * z⟩
  have hobj : NewObj (ρ.put H.next s) s (.cells false as) (.cells ⟨vs ++ rest⟩ e (0, 0)) := by
    refine .cells _ _ _ _ _ ⟨rfl, by rw [hsz]; exact Nat.le_refl _, ?_, ?_, .inl rfl⟩
    · show as.length ≤ cap * z
      rw [hz]; exact Nat.mul_le_mul_right _ hle
    · intro i a ha
      obtain ⟨v, hv', hr'⟩ := hv.get i a ha
      refine ⟨v, ?_, hr'.ext (Names.put_ext hnew)⟩
      have hi : i < vs.length := by
        rcases Nat.lt_or_ge i vs.length with h | h
        · exact h
        · rw [List.getElem?_eq_none h] at hv'; cases hv'
      simp only [Nat.zero_add, getElem?_mk]
      rw [List.getElem?_append_left hi]
      exact hv'
  obtain ⟨r1, r2⟩ := hR.alloc (.cells ⟨vs ++ rest⟩ e) d (.cells false as) s rfl rfl rfl (hobj.or hR rfl d) (fun m l v c e => by cases e) hd
  refine ⟨_, _, _, hrun, ?_, r1, r2⟩
  simp only [VR]
  exact ⟨s, cap, Names.put_same _ _ _, rfl, hle, hle, by simp [s]⟩

theorem R.congr {N : Bd} {G : Nat} {ρ : Names} {H H' : AH} {w : World} (hR : R N G ρ H w) (hg : ∀ k, H'.get k = H.get k) (hn : H'.next = H.next) : R N G ρ H' w where
  size := hR.size
  glob := hR.glob
  obj b o hb := by
    rw [hg] at hb
    obtain ⟨s, h1, h2⟩ := hR.obj b o hb
    exact ⟨s, h1, h2.keep (fun _ _ h => h) rfl (fun m l v c _ sm ps _ h => ⟨(hg m) ▸ h, rfl⟩)⟩
  inj b b' o o' s s' h1 h2 := by rw [hg] at h1 h2; exact hR.inj b b' o o' s s' h1 h2
  fresh b hb := hR.fresh b (hn ▸ hb)
  gn := hn ▸ hR.gn
  vers b m l v c hb := by rw [hg] at hb; rw [hn]; exact hR.vers b m l v c hb
  flat := hR.flat
  draws := hR.draws

theorem Fr.congr {ρ ρ' : Names} {H H1 H2 : AH} {w w' : World} (hF : Fr ρ H w ρ' H1 w') (hg : ∀ k, H2.get k = H1.get k) (hn : H2.next = H1.next) : Fr ρ H w ρ' H2 w' where
  same := hF.same
  next := hn ▸ hF.next
  size := hF.size
  keep := hF.keep
  own b o s h := by rw [hg] at h; exact hF.own b o s h
  dom b o hb h := by rw [hg] at h; exact hF.dom b o hb h
  os := hF.os
  tape := hF.tape
  output := hF.output

theorem Addr.add_mk (b o n : Nat) : Addr.add ⟨b, o, none⟩ n = ⟨b, o + n, none⟩ := by
  unfold Addr.add; split
  · subst_vars; rfl
  · rfl

/-- A row to whose end cells were laid goes by a new name. -/
theorem R.onward {N : Bd} {G : Nat} {ρ : Names} {H : AH} {w : World} (hR : R N G ρ H w) {b o cc z : Nat} {vs : List AV} {s : Seg} (hb : H.get b = some (.cells false vs)) (hs : ρ b = some s) (hroom : o + cc * z ≤ s.room) (hlen : vs.length ≤ o + cc * z) (ho : o = 0) :
    R N G (ρ.put H.next ⟨s.blk, s.base + o, cc * z⟩) ((H.del b).alloc (.cells false (vs.drop o))) w ∧ Fr ρ H w (ρ.put H.next ⟨s.blk, s.base + o, cc * z⟩) ((H.del b).alloc (.cells false (vs.drop o))) w := by
  obtain ⟨s', hs', c, e, lo, hi, h1, h2, h3, h4, h5, h6⟩ := hR.obj b _ hb
  rw [hs] at hs'; cases hs'
  obtain ⟨hN, hfz⟩ := h6 rfl
  refine hR.rename hb rfl hs rfl rfl (fun h => (by have := hR.flat b s hs h; show s.base + o = 0; omega)) rfl (fun _ _ => rfl) rfl rfl rfl ?_ (fun m l v c => by simp) (fun ps v => by simp)
  refine ⟨c, e, lo, hi, h1, by show s.base + o + cc * z ≤ c.size; omega, by show (vs.drop o).length ≤ cc * z; simp; omega, ?_, fun e => (by cases e), fun _ => ⟨hN, hfz⟩⟩
  · intro i a ha
    rw [List.getElem?_drop] at ha
    obtain ⟨v, hv, hr⟩ := h4 _ _ ha
    exact ⟨v, by rw [← hv]; congr 1; show s.base + o + i = _; omega, hr.ext (Names.put_ext (hR.fresh _ (Nat.le_refl _)))⟩

theorem aappend_ok {C : Ctx} (hC : C.OK) {N : Bd} {G : Nat} {ρ : Names} {H H' : AH} {w : World} (hR : R N G ρ H w) {ats : List TypeId} {ty : TypeId} {args : List AV} {vs : List Value} {r : AV} (hv : VRs ρ args vs) (h : aappend C H ats args = some (r, H')) :
    Did C.P N G ρ H w (Builtin.append_ ⟨ats⟩ ty ⟨vs⟩) (fun ρ' v => VR ρ' r v) H' := by
  unfold aappend at h
  split at h
  · rename_i st xt ats s x args
    simp only [VRs] at hv
    obtain ⟨sv, vs1, rfl, hs, xv, vs2, rfl, hx, _⟩ := hv
    split at h
    · cases h
    · rename_i si hsi
      split at h
      · rename_i elem hd
        split at h
        · cases h
        · rename_i j hj
          split at h
          · cases h
          · rename_i n cs hap
            cases hc : (allOne cs && Nat.beq cs.length (n * j.size) && zOK j)
            · rw [hc] at h; cases h
            · rw [hc] at h
              simp only [cond_true] at h
              simp only [Bool.and_eq_true] at hc
              obtain ⟨⟨hone, hlen⟩, hzok⟩ := hc
              have hlen := Nat.eq_of_beq_eq_true hlen
              obtain ⟨xi, us, hxi, hus, hcase⟩ := aappended_ok hC hR hj hx hap
              have hul := hus.length
              have huone := allOne_ok hus hone
              -- stores of nothing
              split at h
              · rename_i hn0
                subst hn0
                have hus0 : us = [] := by
                  apply List.eq_nil_of_length_eq_zero
                  rw [hul, hlen]; simp
                subst hus0
                have go : ∀ base sLen sCap, sLen ≤ sCap → sv = .slice base sLen sCap → VR ρ r sv → H' = H → Did C.P N G ρ H w (Builtin.append_ ⟨st :: xt :: ats⟩ ty ⟨sv :: xv :: vs2⟩) (fun ρ' v => VR ρ' r v) H' := by
                  intro base sLen sCap hle e hr hH
                  subst e; subst hH
                  have := (append_run hC (ty := ty) hsi hd hj hxi (base := base) (sLen := sLen) (sCap := sCap) (n := 0) (by omega) hcase ats vs2).1 (by omega) w (by cases base <;> rfl)
                  exact ⟨_, w, ρ, this, hr, hR, Fr.refl _ _ _⟩
                have hs0 := hs
                split at h
                · simp only [Option.some.injEq, Prod.mk.injEq] at h
                  obtain ⟨rfl, rfl⟩ := h
                  simp only [VR] at hs
                  exact go none 0 0 (Nat.le_refl _) hs hs0 rfl
                · simp only [Option.some.injEq, Prod.mk.injEq] at h
                  obtain ⟨rfl, rfl⟩ := h
                  simp only [VR] at hs
                  obtain ⟨sg, cc, _, e, _, hle, _⟩ := hs
                  exact go _ _ _ hle e hs0 rfl
                · simp only [Option.some.injEq, Prod.mk.injEq] at h
                  obtain ⟨rfl, rfl⟩ := h
                  simp only [VR] at hs
                  obtain ⟨_, _, e⟩ := hs
                  exact go _ _ _ (Nat.zero_le _) e hs0 rfl
                · cases h
              · rename_i hn0
                have hzero : ∃ q, ∀ w0, (zeroValue elem).run C.P w0 = .ok q w0 ∧ q.cells.size = j.size := by
                  unfold zOK at hzok
                  split at hzok
                  · rename_i z hz
                    simp only [Bool.and_eq_true] at hzok
                    have hzl := Nat.eq_of_beq_eq_true hzok.2
                    obtain ⟨q, hq, hr⟩ := hC.run_zero hj hz w ρ
                    have hcs := (VR.cells hr hzok.1).length
                    simp at hcs
                    exact ⟨q, fun w0 => ⟨zero_always hC hj hq w0, by omega⟩⟩
                  · cases hzok
                have hfd : ∀ d, (Builtin.firstCells j.size n xv).run C.P w = .ok ⟨us⟩ w → (Builtin.firstCells j.size n xv).run C.P { w with drawn := d } = .ok ⟨us⟩ { w with drawn := d } := fun d h => firstCells_drawn _ _ _ _ _ _ h
                -- it grows
                have grow : ∀ (H0 : AH), H0.next = H.next → R N G ρ H0 w → Fr ρ H w ρ H0 w → ∀ base sLen sCap (old : List AV) (ov : List Value), sv = .slice base sLen sCap → ¬ sLen + n ≤ sCap → sLen + n ≤ 4611686018427387904 → (2 * (sLen + n) + 1024) * j.bytes ≤ 281474976710656 →
                    old.length = sLen * j.size → VRs ρ old ov → (Builtin.firstCells j.size sLen sv).run C.P w = .ok ⟨ov⟩ w → r = .slice H.next 0 (sLen + n) (.lo (sLen + n)) j.size → H' = H0.alloc (.cells false (old ++ cs)) →
                    Did C.P N G ρ H w (Builtin.append_ ⟨st :: xt :: ats⟩ ty ⟨sv :: xv :: vs2⟩) (fun ρ' v => VR ρ' r v) H' := by
                  intro H0 hnx hR0 hF0 base sLen sCap old ov e hn1 hn2 hn3 hol hov hfo er eH
                  subst e; subst er; subst eH
                  obtain ⟨cap, rest, d, g0, g1, g2, g3⟩ := (append_run hC (ty := ty) hsi hd hj hxi (base := base) (sLen := sLen) (sCap := sCap) (n := n) (by omega) hcase ats vs2).2 hn1 hn2 hn3 ov
                    (fun d => firstCells_drawn _ _ _ _ _ _ hfo) hfd hzero
                  have := hR0.grown (P := C.P) (hov.append hus) (by simp only [List.length_append, hol, hlen]; rw [Nat.add_mul]) g2 g1 g3 g0
                  obtain ⟨v, w', ρ', q1, q2, q3, q4⟩ := this
                  rw [hnx] at q2
                  exact ⟨v, w', ρ', q1, q2, q3, hF0.trans q4⟩
                split at h
                · rename_i _
                  cases hcc : (Nat.ble ((2 * n + 1024) * j.bytes) 281474976710656 && Nat.ble n 4611686018427387904)
                  · rw [hcc] at h; cases h
                  · rw [hcc] at h
                    simp only [cond_true, Option.some.injEq, Prod.mk.injEq] at h
                    obtain ⟨rfl, rfl⟩ := h
                    simp only [Bool.and_eq_true] at hcc
                    simp only [VR] at hs
                    refine grow H rfl hR (Fr.refl _ _ _) none 0 0 [] [] hs (by omega) (by have := Nat.le_of_ble_eq_true hcc.2; omega) (by have := Nat.le_of_ble_eq_true hcc.1; simpa using this) (by simp) VRs.nil (by rw [hs]; rfl) (by simp) (by simp)
                · rename_i b o l c z
                  cases hcc : (Nat.beq z j.size && Nat.ble ((2 * (l + n) + 1024) * j.bytes) 281474976710656 && Nat.ble (l + n) 4611686018427387904)
                  · rw [hcc] at h; cases h
                  · rw [hcc] at h
                    simp only [cond_true] at h
                    simp only [Bool.and_eq_true] at hcc
                    have hz := Nat.eq_of_beq_eq_true hcc.1.1
                    subst hz
                    have hb1 := Nat.le_of_ble_eq_true hcc.1.2
                    have hb2 := Nat.le_of_ble_eq_true hcc.2
                    have hs0 := hs
                    simp only [VR] at hs
                    obtain ⟨sg, cc, hsg, e, hok, hle, hroom⟩ := hs
                    have hcl := hok.low
                    -- it fits
                    have fits : l + n ≤ cc → ∀ vs, H.get b = some (.cells false vs) → o + l * j.size ≤ vs.length →
                        ∃ w', (Builtin.append_ ⟨st :: xt :: ats⟩ ty ⟨sv :: xv :: vs2⟩).run C.P w = .ok (.slice (some ⟨sg.blk, sg.base + o, none⟩) (l + n) cc) w' ∧
                          R N G ρ (H.set b (.cells false (splice vs (o + l * j.size) cs))) w' ∧ Fr ρ H w ρ (H.set b (.cells false (splice vs (o + l * j.size) cs))) w' := by
                      intro hfit vs hb hol
                      have hmul := Nat.mul_le_mul_right j.size hfit
                      rw [Nat.add_mul] at hmul
                      obtain ⟨w', g1, g2, g3, g4, g5⟩ := hR.extendCells (P := C.P) hb hsg hus huone hol (by omega)
                      refine ⟨w', ?_, g2, g3⟩
                      rw [e]
                      refine (append_run hC (ty := ty) hsi hd hj hxi (n := n) (by omega) hcase ats vs2).1 hfit w' ?_
                      simp only [Addr.add_mk]
                      rw [Nat.add_assoc]; exact g1
                    split at h
                    · rename_i hfit
                      split at h
                      · rename_i vs hb
                        cases hol : Nat.ble (o + l * j.size) vs.length
                        · rw [hol] at h; cases h
                        · rw [hol] at h
                          simp only [cond_true, Option.some.injEq, Prod.mk.injEq] at h
                          obtain ⟨rfl, rfl⟩ := h
                          obtain ⟨w', g1, g2, g3⟩ := fits (by omega) vs hb (Nat.le_of_ble_eq_true hol)
                          refine ⟨_, w', ρ, g1, ?_, g2, g3⟩
                          simp only [VR]
                          exact ⟨sg, cc, hsg, rfl, hok, by omega, hroom⟩
                      · cases h
                    · rename_i hfit
                      split at h
                      · rename_i c0
                        simp only [Option.map_eq_some_iff, Prod.mk.injEq] at h
                        obtain ⟨old, hold, rfl, rfl⟩ := h
                        simp only [ACap.ok] at hok
                        simp only [ACap.low] at hfit
                        obtain ⟨ov, k1, k2⟩ := acells_ok (P := C.P) hR hs0 hold
                        have hol : old.length = l * j.size := by
                          unfold acells at hold
                          cases hq : Nat.beq (l * j.size) 0
                          · rw [hq] at hold
                            simp only [cond_false] at hold
                            split at hold
                            · rename_i ro vs hb
                              cases hq2 : Nat.beq ((vs.drop o).take (l * j.size)).length (l * j.size)
                              · simp only [hq2] at hold; cases hold
                              · simp only [hq2, cond_true, Option.some.injEq] at hold
                                subst hold
                                exact Nat.eq_of_beq_eq_true hq2
                            · cases hold
                          · rw [hq] at hold
                            simp only [cond_true, Option.some.injEq] at hold
                            subst hold
                            exact (Nat.eq_of_beq_eq_true hq).symm
                        exact grow H rfl hR (Fr.refl _ _ _) _ l cc old ov e (by omega) hb2 hb1 hol k2 k1 rfl rfl
                      · rename_i c0
                        split at h
                        · rename_i vs hb
                          cases hol : (Nat.beq o 0 && Nat.beq (o + l * j.size) vs.length)
                          · rw [hol] at h; cases h
                          · rw [hol] at h
                            simp only [cond_true, Option.some.injEq, Prod.mk.injEq] at h
                            obtain ⟨rfl, rfl⟩ := h
                            simp only [Bool.and_eq_true] at hol
                            have ho0 := Nat.eq_of_beq_eq_true hol.1
                            have hol := Nat.eq_of_beq_eq_true hol.2
                            by_cases hf2 : l + n ≤ cc
                            · obtain ⟨w', g1, g2, g3⟩ := fits hf2 vs hb (by omega)
                              have hsp : splice vs (o + l * j.size) cs = vs ++ cs := by
                                unfold splice
                                rw [hol, List.take_length, List.drop_of_length_le (by omega), List.append_nil]
                              rw [hsp] at g2 g3
                              have hmul := Nat.mul_le_mul_right j.size hf2
                              rw [Nat.add_mul] at hmul
                              obtain ⟨r1, r2⟩ := g2.onward (b := b) (o := o) (cc := cc) (z := j.size) (by rw [AH.get_set, if_pos rfl]) hsg hroom (by simp; omega) ho0
                              have hdr : (vs ++ cs).drop o = vs.drop o ++ cs := by rw [List.drop_append_of_le_length (by omega)]
                              rw [hdr] at r1 r2
                              have hg : ∀ k, ((H.del b).alloc (.cells false (vs.drop o ++ cs))).get k = (((H.set b (.cells false (vs ++ cs))).del b).alloc (.cells false (vs.drop o ++ cs))).get k := by
                                intro k
                                simp only [AH.get_alloc, AH.get_del, AH.get_set, AH.next_del, AH.next_set]
                                split
                                · rfl
                                · split <;> rfl
                              refine ⟨_, w', _, g1, ?_, r1.congr hg rfl, (g3.trans r2).congr hg rfl⟩
                              simp only [VR, AH.next_set]
                              exact ⟨_, cc, Names.put_same _ _ _, by simp, by simp only [ACap.ok]; omega, hf2, by simp⟩
                            · have hd1 : R N G ρ (H.del b) w := hR.del b
                              obtain ⟨ov, k1, k2⟩ := acells_ok (P := C.P) hR (n := l) (z := j.size) hs0 (cs := vs.drop o) (by
                                unfold acells
                                cases hq : Nat.beq (l * j.size) 0
                                · simp only [cond_false, hb]
                                  have : ((vs.drop o).take (l * j.size)) = vs.drop o := by rw [List.take_of_length_le (by simp; omega)]
                                  rw [this]
                                  have hl2 : (vs.drop o).length = l * j.size := by simp; omega
                                  rw [hl2, Nat.beq_refl]; rfl
                                · have hq' := Nat.eq_of_beq_eq_true hq
                                  simp only [cond_true]
                                  rw [List.drop_of_length_le (by omega)])
                              exact grow (H.del b) rfl hd1 (Fr.del b) _ l cc (vs.drop o) ov e (by omega) hb2 hb1 (by simp; omega) k2 k1 rfl rfl
                        · cases h
                · cases h
      · cases h
  · cases h

end Go.AB

namespace Go.AB

def acopy (C : Ctx) (H : AH) (ats : List TypeId) (args : List AV) : Option (AV × AH) :=
  match ats, args with
  | dt :: _, d :: x :: _ =>
    match C.ti dt with
    | none => none
    | some di =>
      match di.d with
      | .slice elem =>
        match C.ti elem, (match x with | .str s => some s.length | x => lenOfAV x), lenOfAV d with
        | some j, some xl, some dl =>
          let n := Nat.min xl dl
          match acells H j.size n x with
          | none => none
          | some cs =>
            if n = 0 then some (.int .i64 0, H) else
            match d with
            | .slice b o _ _ z =>
              match H.get b with
              | some (.cells false vs) => bif Nat.beq z j.size && allOne cs && Nat.beq cs.length (n * j.size) && Nat.ble (o + cs.length) vs.length then some (.int .i64 n, H.set b (.cells false (splice vs o cs))) else none
              | _ => none
            | _ => none
        | _, _, _ => none
      | _ => none
  | _, _ => none

theorem acells_zero {H : AH} {z : Nat} {x : AV} {cs : List AV} (h : acells H z 0 x = some cs) : cs = [] := by
  unfold acells at h
  split at h
  · simpa using h.symm
  · simpa using h.symm
  · rw [show Nat.beq (0 * z) 0 = true from by simp] at h; simpa using h.symm
  · rw [show Nat.ble 0 _ = true from by rw [Nat.ble_eq]; exact Nat.zero_le _] at h; simpa using h.symm
  · cases h

theorem acopy_ok {C : Ctx} (hC : C.OK) {N : Bd} {G : Nat} {ρ : Names} {H H' : AH} {w : World} (hR : R N G ρ H w) {ats : List TypeId} {ty : TypeId} {args : List AV} {vs : List Value} {r : AV} (hv : VRs ρ args vs) (h : acopy C H ats args = some (r, H')) :
    Did C.P N G ρ H w (Builtin.copy_ ⟨ats⟩ ty ⟨vs⟩) (fun ρ' v => VR ρ' r v) H' := by
  unfold acopy at h
  split at h
  · rename_i dt ats d x args
    simp only [VRs] at hv
    obtain ⟨dv, vs1, rfl, hd, xv, vs2, rfl, hx, _⟩ := hv
    split at h
    · cases h
    · rename_i di hdi
      split at h
      · rename_i elem hde
        split at h
        · rename_i j xl dl hj hxl hdl
          simp only at h
          have hlx : (Builtin.lenOf xv).run C.P w = .ok xl w := by
            split at hxl
            · simp only [VR] at hx; subst hx
              simp only [Option.some.injEq] at hxl; subst hxl
              show Sem.run C.P (pure _) w = _
              simp [ByteArray.size]
            · exact lenOf_ok hx hxl
          obtain ⟨a, c, hdv⟩ := lenOfAV_ok hd hdl
          split at h
          · cases h
          · rename_i cs hcs
            obtain ⟨us, h1, h2⟩ := acells_ok (P := C.P) hR hx hcs
            have hul := h2.length
            have run : ∀ w', (match a with | some a => storeCells a us | none => pure () : Sem Unit).run C.P w = .ok () w' → (Builtin.copy_ ⟨dt :: ats⟩ ty ⟨dv :: xv :: vs2⟩).run C.P w = .ok (.int .i64 (Nat.min xl dl : Nat)) w' := by
              intro w' hst
              unfold Builtin.copy_
              simp only [getElem?_mk, List.getElem?_cons_zero, List.getElem?_cons_succ, Sem.run_bind, hC.run_und hdi, hde, Result.andThen_ok, hdv, hlx, hC.run_size hj, h1]
              cases a with
              | none => cases hst; rfl
              | some a =>
                simp only at hst
                simp only [Sem.run_bind, hst, Result.andThen_ok, Sem.run_pure, goInt]
            split at h
            · rename_i hn0
              simp only [Option.some.injEq, Prod.mk.injEq] at h
              obtain ⟨rfl, rfl⟩ := h
              rw [hn0] at hcs
              have := acells_zero hcs
              subst this
              have : us = [] := List.eq_nil_of_length_eq_zero (by simpa using hul)
              subst this
              refine ⟨_, w, ρ, run w (by cases a <;> rfl), ?_, hR, Fr.refl _ _ _⟩
              rw [hn0]; simp [VR]
            · rename_i hn0
              split at h
              · rename_i b o l c z
                split at h
                · rename_i vs hb
                  cases hc : (Nat.beq z j.size && allOne cs && Nat.beq cs.length (Nat.min xl dl * j.size) && Nat.ble (o + cs.length) vs.length)
                  · rw [hc] at h; cases h
                  · rw [hc] at h
                    simp only [cond_true, Option.some.injEq, Prod.mk.injEq] at h
                    obtain ⟨rfl, rfl⟩ := h
                    simp only [Bool.and_eq_true] at hc
                    obtain ⟨⟨⟨c1, c2⟩, c3⟩, c4⟩ := hc
                    simp only [VR] at hd
                    obtain ⟨sg, cc, hsg, e, hok, hle, hroom⟩ := hd
                    rw [hdv] at e
                    injection e with e1 e2 e3
                    obtain ⟨w', g1, g2, g3⟩ := hR.storeCells (P := C.P) hb hsg h2 (allOne_ok h2 c2) (Nat.le_of_ble_eq_true c4)
                    refine ⟨_, w', ρ, run w' ?_, by simp only [VR], g2, g3⟩
                    rw [e1]; exact g1
                · cases h
              · cases h
        · cases h
      · cases h
  · cases h

def aclear (C : Ctx) (H : AH) (ats : List TypeId) (args : List AV) : Option (AV × AH) :=
  match ats, args with
  | t :: _, x :: _ =>
    match C.ti t with
    | none => none
    | some i =>
      match i.d, x with
      | .slice _, .nils => some (.tuple [], H)
      | .slice e, .slice b o n _ _ =>
        if n = 0 then some (.tuple [], H) else
        match C.ti e, H.get b with
        | some j, some (.cells false vs) =>
          match j.zero with
          | some z => bif notJunk z && allOne (zerosOf z.cells n) && Nat.ble (o + n * z.cells.length) vs.length then some (.tuple [], H.set b (.cells false (splice vs o (zerosOf z.cells n)))) else none
          | none => none
        | _, _ => none
      | _, _ => none
  | _, _ => none

theorem aclear_ok {C : Ctx} (hC : C.OK) {N : Bd} {G : Nat} {ρ : Names} {H H' : AH} {w : World} (hR : R N G ρ H w) {ats : List TypeId} {ty : TypeId} {args : List AV} {vs : List Value} {r : AV} (hv : VRs ρ args vs) (h : aclear C H ats args = some (r, H')) :
    Did C.P N G ρ H w (Builtin.clear_ ⟨ats⟩ ty ⟨vs⟩) (fun ρ' v => VR ρ' r v) H' := by
  unfold aclear at h
  split at h
  · rename_i t ats x args
    simp only [VRs] at hv
    obtain ⟨xv, vs1, rfl, hx, _⟩ := hv
    split at h
    · cases h
    · rename_i i hi
      have nothing : ∀ a c, xv = .slice a 0 c → r = .tuple [] → H' = H → Did C.P N G ρ H w (Builtin.clear_ ⟨t :: ats⟩ ty ⟨xv :: vs1⟩) (fun ρ' v => VR ρ' r v) H' := by
        intro a c e er eH
        subst e; subst er; subst eH
        refine ⟨.tuple #[], w, ρ, ?_, by simp only [VR]; exact ⟨[], rfl, VRs.nil⟩, hR, Fr.refl _ _ _⟩
        unfold Builtin.clear_
        simp only [getElem?_mk, List.getElem?_cons_zero, Sem.run_bind, hC.run_und hi, Result.andThen_ok]
        cases a <;> (cases i.d <;> rfl)
      split at h
      · rename_i e hd
        simp only [Option.some.injEq, Prod.mk.injEq] at h
        simp only [VR] at hx
        exact nothing none 0 hx h.1.symm h.2.symm
      · rename_i e b o n c z hd
        simp only [VR] at hx
        obtain ⟨sg, cc, hsg, hxe, hok, hle, hroom⟩ := hx
        split at h
        · rename_i hn
          subst hn
          simp only [Option.some.injEq, Prod.mk.injEq] at h
          exact nothing _ _ hxe h.1.symm h.2.symm
        · rename_i hn
          split at h
          · rename_i j vs hj hb
            split at h
            · rename_i zz hz
              cases hc : (notJunk zz && allOne (zerosOf zz.cells n) && Nat.ble (o + n * zz.cells.length) vs.length)
              · rw [hc] at h; cases h
              · rw [hc] at h
                simp only [cond_true, Option.some.injEq, Prod.mk.injEq] at h
                obtain ⟨rfl, rfl⟩ := h
                simp only [Bool.and_eq_true] at hc
                obtain ⟨⟨c1, c2⟩, c3⟩ := hc
                obtain ⟨q, hq, hr⟩ := hC.run_zero hj hz w ρ
                have hcs := VR.cells hr c1
                have hl := hcs.length
                simp at hl
                have hzs := zerosOf_ok hcs n (n * q.cells.size) (by rw [hl])
                obtain ⟨w', g1, g2, g3⟩ := hR.storeCells (P := C.P) hb hsg hzs (allOne_ok hzs c2) (by rw [zerosOf_length]; exact Nat.le_of_ble_eq_true c3)
                refine ⟨.tuple #[], w', ρ, ?_, by simp only [VR]; exact ⟨[], rfl, VRs.nil⟩, g2, g3⟩
                unfold Builtin.clear_
                obtain ⟨n', rfl⟩ : ∃ n', n = n' + 1 := ⟨n - 1, by omega⟩
                simp only [getElem?_mk, List.getElem?_cons_zero, Sem.run_bind, hC.run_und hi, Result.andThen_ok, hxe, hd, hq, Builtin.zeroCells, g1, Sem.run_pure]
            · cases h
          · cases h
      · cases h
  · cases h

def adelete (C : Ctx) (H : AH) (ats : List TypeId) (args : List AV) : Option (AV × AH) :=
  match ats, args with
  | t :: _, m :: k :: _ =>
    match C.ti t with
    | none => none
    | some i =>
      match i.d, k with
      | .map kt _, .str s =>
        bif isStrKey C kt then
          match m with
          | .nilm => some (.tuple [], H)
          | .map b => match H.get b with
            | some (.map ps _) => some (.tuple [], ⟨H.t.set b (.map (mdel ps s) H.next), H.next + 1⟩)
            | _ => none
          | _ => none
        else none
      | _, _ => none
  | _, _ => none

theorem adelete_ok {C : Ctx} (hC : C.OK) {N : Bd} {G : Nat} {ρ : Names} {H H' : AH} {w : World} (hR : R N G ρ H w) {ats : List TypeId} {ty : TypeId} {args : List AV} {vs : List Value} {r : AV} (hv : VRs ρ args vs) (h : adelete C H ats args = some (r, H')) :
    Did C.P N G ρ H w (Builtin.delete_ ⟨ats⟩ ty ⟨vs⟩) (fun ρ' v => VR ρ' r v) H' := by
  unfold adelete at h
  split at h
  · rename_i t ats m k args
    simp only [VRs] at hv
    obtain ⟨mv, vs1, rfl, hm, kv, vs2, rfl, hk, _⟩ := hv
    split at h
    · cases h
    · rename_i i hi
      split at h
      · rename_i kt et s hd
        cases hkey : isStrKey C kt
        · rw [hkey] at h; cases h
        · rw [hkey] at h
          simp only [cond_true] at h
          obtain ⟨ki, hki, hkd⟩ := isStrKey_some hkey
          simp only [VR] at hk
          subst hk
          have hck := fun b w => checkKey_string hC hki hkd b 9999 ⟨s.toArray⟩ w
          split at h
          · simp only [Option.some.injEq, Prod.mk.injEq] at h
            obtain ⟨rfl, rfl⟩ := h
            simp only [VR] at hm
            subst hm
            refine ⟨.tuple #[], w, ρ, ?_, by simp only [VR]; exact ⟨[], rfl, VRs.nil⟩, hR, Fr.refl _ _ _⟩
            unfold Builtin.delete_
            simp only [getElem?_mk, List.getElem?_cons_zero, List.getElem?_cons_succ, Sem.run_bind, hC.run_und hi, hd, Result.andThen_ok, hck, Sem.run_pure]
          · rename_i b
            split at h
            · rename_i ps ver hb
              simp only [Option.some.injEq, Prod.mk.injEq] at h
              obtain ⟨rfl, rfl⟩ := h
              simp only [VR] at hm
              obtain ⟨sg, hsg, rfl⟩ := hm
              obtain ⟨hN, es, clock, h0, h1⟩ := hR.map hb hsg
              obtain ⟨f, hf, hq⟩ := findKey_string hC hki hkd s h1.ents w
              cases hg : mget ps s with
              | none =>
                rw [hg] at hq
                subst hq
                have hm' : MapR ρ (mdel ps s) es clock := by rw [mdel_none hg]; exact h1
                obtain ⟨r1, r2⟩ := hR.setMap hb hsg hm'
                refine ⟨.tuple #[], _, ρ, ?_, by simp only [VR]; exact ⟨[], rfl, VRs.nil⟩, r1, r2⟩
                unfold Builtin.delete_
                simp only [getElem?_mk, List.getElem?_cons_zero, List.getElem?_cons_succ, Sem.run_bind, hC.run_und hi, hd, Result.andThen_ok, getObj, Sem.run, h0, hck, hf, setObj, Sem.run_pure]
              | some a =>
                rw [hg] at hq
                obtain ⟨j, u, e, rfl, hu, he, hev, hkj⟩ := hq
                have hjlt : j < es.toList.length := by
                  rcases Nat.lt_or_ge j es.toList.length with h | h
                  · exact h
                  · rw [List.getElem?_eq_none h] at he; cases he
                have hes : (es.eraseIdxIfInBounds j).toList = es.toList.eraseIdx j := by
                  simp at hjlt
                  simp [Array.eraseIdxIfInBounds, hjlt]
                have hm' : MapR ρ (mdel ps s) (es.eraseIdxIfInBounds j) clock := by
                  refine ⟨by rw [hes]; exact EntsR.erase h1.ents h1.keys hkj, (mdel_keys ps s).nodup h1.keys, ?_, ?_⟩
                  · rw [hes]
                    exact List.Pairwise.sublist ((List.eraseIdx_sublist _ _).map _) h1.born
                  · intro x hx
                    rw [hes] at hx
                    exact h1.old x (List.mem_of_mem_eraseIdx hx)
                obtain ⟨r1, r2⟩ := hR.setMap hb hsg hm'
                refine ⟨.tuple #[], _, ρ, ?_, by simp only [VR]; exact ⟨[], rfl, VRs.nil⟩, r1, r2⟩
                unfold Builtin.delete_
                simp only [getElem?_mk, List.getElem?_cons_zero, List.getElem?_cons_succ, Sem.run_bind, hC.run_und hi, hd, Result.andThen_ok, getObj, Sem.run, h0, hck, hf, setObj, Sem.run_pure]
            · cases h
          · cases h
      · cases h
  · cases h

end Go.AB
