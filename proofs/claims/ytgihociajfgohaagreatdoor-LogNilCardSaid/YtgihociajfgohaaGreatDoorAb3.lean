/- The program's tables; operations that reckon with what lies in temporaries alone. -/
import Derived.Test.YtgihociajfgohaaGreatDoorAb2
namespace Go.AB
set_option linter.unusedSimpArgs false

/-! ### Constants -/
mutual
def ofVal : Value → AV
  | .bool b => .bool b
  | .int k n => .int k n
  | .string s => .str s.data.toList
  | .pointer none => .nilp
  | .slice none 0 0 => .nils
  | .map none => .nilm
  | .nilFunc => .nilf
  | .nilIface => .nili
  | .agg cs => .agg (ofValA cs)
  | .tuple cs => .tuple (ofValA cs)
  | _ => .junk
def ofValA : Array Value → List AV
  | ⟨l⟩ => ofValL l
def ofValL : List Value → List AV
  | [] => []
  | v :: vs => ofVal v :: ofValL vs
end

mutual
theorem VR.ofVal (ρ : Names) : ∀ v : Value, VR ρ (ofVal v) v
  | .bool b => by simp [AB.ofVal, VR]
  | .int k n => by simp [AB.ofVal, VR]
  | .string s => by simp [AB.ofVal, VR]
  | .pointer none => by simp [AB.ofVal, VR]
  | .pointer (some _) => by simp [AB.ofVal, VR]
  | .slice none 0 0 => by simp [AB.ofVal, VR]
  | .slice (some _) _ _ => by simp [AB.ofVal, VR]
  | .slice none (_ + 1) _ => by simp [AB.ofVal, VR]
  | .slice none 0 (_ + 1) => by simp [AB.ofVal, VR]
  | .map none => by simp [AB.ofVal, VR]
  | .map (some _) => by simp [AB.ofVal, VR]
  | .nilFunc => by simp [AB.ofVal, VR]
  | .nilIface => by simp [AB.ofVal, VR]
  | .agg ⟨cs⟩ => by simp only [AB.ofVal, ofValA, VR]; exact ⟨cs, rfl, VRs.ofVal ρ cs⟩
  | .tuple ⟨cs⟩ => by simp only [AB.ofVal, ofValA, VR]; exact ⟨cs, rfl, VRs.ofVal ρ cs⟩
  | .float _ _ => by simp [AB.ofVal, VR]
  | .complex _ _ _ => by simp [AB.ofVal, VR]
  | .chan _ => by simp [AB.ofVal, VR]
  | .func _ _ _ => by simp [AB.ofVal, VR]
  | .iface _ _ => by simp [AB.ofVal, VR]
theorem VRs.ofVal (ρ : Names) : ∀ vs : List Value, VRs ρ (ofValL vs) vs
  | [] => by simp [ofValL, VRs]
  | v :: vs => by simp only [ofValL]; exact VRs.cons (VR.ofVal ρ v) (VRs.ofVal ρ vs)
end

/-! ### Tables -/
structure TI where
  d : TypeDesc
  size : Nat
  bytes : Nat
  zero : Option AV
  plainEq : Bool

def TI.agg (i : TI) : Bool := match i.d with
  | .struct _ | .array _ _ => true
  | _ => false

def tiOf (P : Program) (t : TypeId) : Option TI :=
  match P.info? t, P.underlying t with
  | some i, some d => some { d, size := i.size, bytes := i.bytes, zero := i.zero.map ofVal, plainEq := !P.stoodInHeld t && !P.eqGuardType P.depth t }
  | _, _ => none

structure Ctx where
  P : Program
  ti : TypeId → Option TI
  fn : FuncId → Option Func

structure Ctx.OK (C : Ctx) : Prop where
  ti : ∀ t i, C.ti t = some i → tiOf C.P t = some i
  fn : ∀ f g, C.fn f = some g → C.P.funcs[f]? = some g
  mixed : C.P.follows .mixedOrders = true

section
variable {C : Ctx} (hC : C.OK) {t : TypeId} {i : TI}
include hC
theorem Ctx.OK.und (h : C.ti t = some i) : C.P.underlying t = some i.d := by
  have := hC.ti t i h
  unfold tiOf at this
  split at this
  · rename_i a d h1 h2; cases this; exact h2
  · cases this
theorem Ctx.OK.info (h : C.ti t = some i) : ∃ x, C.P.info? t = some x ∧ x.size = i.size ∧ x.bytes = i.bytes ∧ x.zero.map ofVal = i.zero := by
  have := hC.ti t i h
  unfold tiOf at this
  split at this
  · rename_i a d h1 h2; cases this; exact ⟨a, h1, rfl, rfl, rfl⟩
  · cases this
theorem Ctx.OK.run_und (h : C.ti t = some i) (w : World) : (underlying t).run C.P w = .ok i.d w := by
  unfold underlying; simp [hC.und h]
theorem Ctx.OK.run_size (h : C.ti t = some i) (w : World) : (sizeOf t).run C.P w = .ok i.size w := by
  obtain ⟨x, h1, h2, _⟩ := hC.info h
  unfold sizeOf typeInfo; simp [h1, h2]
theorem Ctx.OK.run_info (h : C.ti t = some i) (w : World) : ∃ x, (typeInfo t).run C.P w = .ok x w ∧ x.size = i.size ∧ x.bytes = i.bytes := by
  obtain ⟨x, h1, h2, h3, _⟩ := hC.info h
  exact ⟨x, by unfold typeInfo; simp [h1], h2, h3⟩
theorem Ctx.OK.run_isAgg (h : C.ti t = some i) (w : World) : (isAgg t).run C.P w = .ok i.agg w := by
  unfold isAgg
  simp only [Sem.run_bind, hC.run_und h, Result.andThen_ok]
  unfold TI.agg
  cases i.d <;> simp
theorem Ctx.OK.run_zero (h : C.ti t = some i) {z : AV} (hz : i.zero = some z) (w : World) (ρ : Names) : ∃ v, (zeroValue t).run C.P w = .ok v w ∧ VR ρ z v := by
  obtain ⟨x, h1, _, _, h4⟩ := hC.info h
  rw [hz] at h4
  cases hx : x.zero with
  | none => rw [hx] at h4; cases h4
  | some v =>
    rw [hx] at h4
    simp only [Option.map_some, Option.some.injEq] at h4
    exact ⟨v, by unfold zeroValue typeInfo; simp [h1, hx], h4 ▸ VR.ofVal ρ v⟩
end

/-- Tables out of a program. -/
def mkTI (P : Program) : PT (Option TI) := PT.ofList .leaf 0 ((List.range P.types.size).map (tiOf P))
def mkFn (P : Program) : PT Func := PT.ofList .leaf 0 P.funcs.toList
def mkCtx (P : Program) : Ctx := { P, ti := fun t => ((mkTI P).get t).join, fn := fun f => (mkFn P).get f }

theorem mkCtx_ok (P : Program) (h : P.follows .mixedOrders = true) : (mkCtx P).OK where
  ti t i hi := by
    simp only [mkCtx, mkTI, PT.get_ofList0] at hi
    by_cases ht : t < P.types.size
    · simp [ht] at hi; exact hi
    · rw [List.getElem?_eq_none (by simpa using Nat.le_of_not_lt ht)] at hi; cases hi
  fn f g hf := by
    simp only [mkCtx, mkFn, PT.get_ofList0] at hf
    show P.funcs[f]? = some g
    simpa using hf
  mixed := h

/-! ### Parts of structs and arrays -/
def AV.cells : AV → List AV
  | .agg cs => cs
  | v => [v]

/-- May be a cell's value: whatever it stands for is no struct and no array. -/
def AV.one : AV → Bool
  | .junk | .agg _ | .tuple _ => false
  | _ => true

theorem VR.one {ρ : Names} {a : AV} {v : Value} (h : VR ρ a v) (ho : a.one = true) : v.oneCell' = true := by
  cases a <;> simp only [AV.one, Bool.false_eq_true] at ho <;> simp only [VR] at h
  case ptr => obtain ⟨_, _, rfl⟩ := h; rfl
  case slice => obtain ⟨_, _, _, rfl, _⟩ := h; rfl
  case empty => obtain ⟨_, _, rfl⟩ := h; rfl
  case map => obtain ⟨_, _, rfl⟩ := h; rfl
  case func => obtain ⟨_, _, rfl, _⟩ := h; rfl
  case iface => obtain ⟨_, rfl, _⟩ := h; rfl
  all_goals subst h; rfl

def notJunk : AV → Bool
  | .junk => false
  | _ => true

theorem VR.cells {ρ : Names} {a : AV} {v : Value} (h : VR ρ a v) (hj : notJunk a = true) : VRs ρ a.cells v.cells.toList := by
  cases a
  case junk => simp [notJunk] at hj
  case agg cs => simp only [VR] at h; obtain ⟨vs, rfl, hvs⟩ := h; simpa [Value.cells, AV.cells] using hvs
  all_goals
    have h0 := h
    simp only [VR] at h
    first
      | (subst h; exact VRs.cons h0 VRs.nil)
      | (obtain ⟨_, _, rfl⟩ := h; exact VRs.cons h0 VRs.nil)
      | (obtain ⟨_, _, _, rfl, _⟩ := h; exact VRs.cons h0 VRs.nil)
      | (obtain ⟨_, _, _, _, rfl⟩ := h; exact VRs.cons h0 VRs.nil)
      | (obtain ⟨_, rfl, _⟩ := h; exact VRs.cons h0 VRs.nil)
      | (obtain ⟨_, _, rfl, _⟩ := h; exact VRs.cons h0 VRs.nil)

def apart (C : Ctx) (t : TypeId) (cs : List AV) (off : Nat) : Option AV :=
  match C.ti t with
  | none => none
  | some i => bif i.agg then some (.agg ((cs.drop off).take i.size)) else cs[off]?

theorem apart_ok {C : Ctx} (hC : C.OK) {ρ : Names} {t : TypeId} {cs : List AV} {vs : List Value} (h : VRs ρ cs vs) {off : Nat} {a : AV} (ha : apart C t cs off = some a) (w : World) :
    ∃ v, (part t ⟨vs⟩ off).run C.P w = .ok v w ∧ VR ρ a v := by
  unfold apart at ha
  split at ha
  · cases ha
  · rename_i i hi
    unfold part
    simp only [Sem.run_bind, hC.run_isAgg hi, Result.andThen_ok]
    cases hg : i.agg
    · rw [hg] at ha
      simp only [cond_false] at ha
      obtain ⟨v, hv, hr⟩ := VRs.get h off a ha
      exact ⟨v, by simp [hv], hr⟩
    · rw [hg] at ha
      simp only [cond_true, Option.some.injEq] at ha
      subst ha
      refine ⟨.agg ⟨(vs.drop off).take i.size⟩, ?_, by simp only [VR]; exact ⟨_, rfl, (h.drop off).take i.size⟩⟩
      simp only [if_true, Sem.run_bind, hC.run_size hi, Result.andThen_ok, Sem.run_pure]
      congr 2
      rw [List.extract_toArray]
      simp [List.take_drop, List.extract_eq_take_drop, Nat.add_sub_cancel_left]

/-! ### Filling -/
/-- A list, its spine made plain first: for the kernel, which else keeps what is not yet reckoned. -/
def forceList {α β : Type} : List α → (List α → β) → β
  | [], k => k []
  | a :: as, k => forceList as fun l => k (a :: l)

theorem forceList_eq {α β : Type} : ∀ (l : List α) (k : List α → β), forceList l k = k l
  | [], _ => rfl
  | a :: as, k => forceList_eq as fun l => k (a :: l)

def splice (vs : List AV) (o : Nat) (cs : List AV) : List AV := vs.take o ++ cs ++ vs.drop (o + cs.length)

def afill (place : Nat → Option (Nat × Nat)) (cells : List AV) : List (Nat × AV) → Option (List AV)
  | [] => some cells
  | (i, v) :: rest =>
    match place i with
    | none => none
    | some (off, size) =>
      bif notJunk v && Nat.beq v.cells.length size && Nat.ble (off + size) cells.length then afill place (splice cells off v.cells) rest else none

theorem foldl_setIfInBounds (off : Nat) : ∀ (l : List Value) (k : Nat) (cs : Array Value),
    (l.zipIdx k).foldl (fun cs (x : Value × Nat) => cs.setIfInBounds (off + x.2) x.1) cs =
      ⟨(List.range cs.size).map fun j => if off + k ≤ j ∧ j < off + k + l.length then l.getD (j - (off + k)) undef else cs.getD j undef⟩
  | [], k, cs => by
    apply Array.ext'
    apply List.ext_getElem
    · simp
    · intro n h1 h2
      simp at h1 h2
      simp [h1]
      intro h3 h4; omega
  | v :: l, k, cs => by
    simp only [List.zipIdx_cons, List.foldl_cons]
    rw [foldl_setIfInBounds off l (k + 1)]
    apply Array.ext'
    simp only [Array.size_setIfInBounds]
    apply List.map_congr_left
    intro j hj
    simp at hj
    by_cases h1 : off + (k + 1) ≤ j ∧ j < off + (k + 1) + l.length
    · rw [if_pos h1, if_pos (by simp only [List.length_cons]; omega)]
      rw [show j - (off + k) = (j - (off + (k + 1))) + 1 by omega]
      simp
    · rw [if_neg h1]
      by_cases h2 : j = off + k
      · subst h2
        rw [if_pos (by simp only [List.length_cons]; omega)]
        simp [Array.getD, hj]
      · rw [if_neg (by simp only [List.length_cons]; omega)]
        simp [Array.getD, hj, Array.getElem_setIfInBounds_ne, Ne.symm h2]

theorem splice_ok {ρ : Names} {cs : List AV} {vs : Array Value} (h : VRs ρ cs vs.toList) {us : List AV} {xs : Array Value} (hu : VRs ρ us xs.toList) {off : Nat} (hle : off + us.length ≤ cs.length) :
    VRs ρ (splice cs off us) (xs.zipIdx.foldl (fun cs (x : Value × Nat) => cs.setIfInBounds (off + x.2) x.1) vs).toList := by
  have hl := h.length
  have hl2 := hu.length
  have e : (xs.zipIdx.foldl (fun cs (x : Value × Nat) => cs.setIfInBounds (off + x.2) x.1) vs) = (xs.toList.zipIdx 0).foldl (fun cs (x : Value × Nat) => cs.setIfInBounds (off + x.2) x.1) vs := by
    rw [← Array.foldl_toList]; simp
  rw [e, foldl_setIfInBounds]
  refine VRs.of_get ?_ ?_
  · simp only [splice, List.length_append, List.length_take, List.length_drop, List.length_map, List.length_range]
    simp at hl hl2
    omega
  · intro i a v ha hv
    simp only [List.getElem?_map, List.getElem?_range, Nat.add_zero] at hv
    simp at hl hl2
    by_cases hi : i < vs.size
    · rw [List.getElem?_range hi] at hv
      simp only [Option.map_some, Option.some.injEq] at hv
      unfold splice at ha
      by_cases h1 : off ≤ i ∧ i < off + us.length
      · have hx : i - off < xs.toList.length := by simp; omega
        rw [if_pos (by simp; omega)] at hv
        rw [List.append_assoc, List.getElem?_append_right (by simp; omega), List.getElem?_append_left (by simp; omega)] at ha
        simp only [List.length_take, Nat.min_eq_left (show off ≤ cs.length by omega)] at ha
        obtain ⟨v', hv', hr⟩ := hu.get _ _ ha
        rw [List.getD_eq_getElem?_getD, hv'] at hv
        simp at hv; subst hv; exact hr
      · rw [if_neg (by simp; omega)] at hv
        have : cs[i]? = some a := by
          by_cases h2 : i < off
          · rw [List.append_assoc, List.getElem?_append_left (by simp; omega)] at ha
            simpa [List.getElem?_take, h2] using ha
          · rw [List.getElem?_append_right (by simp; omega)] at ha
            simp only [List.length_append, List.length_take, Nat.min_eq_left (show off ≤ cs.length by omega), List.getElem?_drop] at ha
            rw [show off + us.length + (i - (off + us.length)) = i by omega] at ha
            exact ha
        obtain ⟨v', hv', hr⟩ := h.get _ _ this
        have : vs[i]? = some v' := by simpa using hv'
        rw [Array.getD_eq_getD_getElem?, this] at hv
        simp at hv; subst hv; exact hr
    · rw [List.getElem?_eq_none (by simp; omega)] at hv; simp at hv

theorem afill_ok {ρ : Names} {place : Nat → Option (Nat × Nat)} : ∀ {ps : List (Nat × AV)} {qs : List (Nat × Value)} {cs : List AV} {vs : Array Value} {out : List AV},
    (ps.map (·.1) = qs.map (·.1)) → VRs ρ (ps.map (·.2)) (qs.map (·.2)) → VRs ρ cs vs.toList → afill place cs ps = some out →
    ∃ us, Instr.fill place vs qs = some us ∧ VRs ρ out us.toList
  | [], [], cs, vs, out, _, _, h, e => by
    simp only [afill, Option.some.injEq] at e; subst e
    exact ⟨vs, by simp [Instr.fill], h⟩
  | [], q :: qs, _, _, _, e, _, _, _ => by simp at e
  | p :: ps, [], _, _, _, e, _, _, _ => by simp at e
  | (i, a) :: ps, (j, v) :: qs, cs, vs, out, e, hv, h, ha => by
    simp only [List.map_cons, List.cons.injEq] at e
    obtain ⟨rfl, e⟩ := e
    simp only [List.map_cons, VRs] at hv
    obtain ⟨v', vs', e', hv1, hv2⟩ := hv
    cases e'
    simp only [afill] at ha
    split at ha
    · cases ha
    · rename_i off size hp
      cases hcond : (notJunk a && Nat.beq a.cells.length size && Nat.ble (off + size) cs.length)
      · rw [hcond] at ha; cases ha
      · rw [hcond] at ha
        simp only [cond_true] at ha
        simp only [Bool.and_eq_true] at hcond
        obtain ⟨⟨hj, hs⟩, hle⟩ := hcond
        have hs' : a.cells.length = size := Nat.eq_of_beq_eq_true hs
        have hle' : off + size ≤ cs.length := Nat.le_of_ble_eq_true hle
        have hcells := VR.cells hv1 hj
        have hlen := hcells.length
        simp at hlen
        have hl := h.length
        simp at hl
        obtain ⟨us, h1, h2⟩ := afill_ok (place := place) e hv2 (splice_ok h hcells (off := off) (by omega)) ha
        refine ⟨us, ?_, h2⟩
        simp only [Instr.fill, hp]
        rw [if_neg (by simp; omega)]
        exact h1

def abuild (C : Ctx) (t : TypeId) (parts : List (Nat × AV)) : Option AV :=
  match C.ti t with
  | none => none
  | some i =>
    match i.zero with
    | none => none
    | some z =>
      bif notJunk z then
        match i.d with
        | .struct fields =>
          match fields.toList.mapM (m := Option) (fun f => (C.ti f.type).map fun j => (f.offset, j.size)) with
          | none => none
          | some places => (afill (places[·]?) z.cells parts).map .agg
        | .array _ elem =>
          match C.ti elem with
          | none => none
          | some j => (afill (fun n => some (n * j.size, j.size)) z.cells parts).map .agg
        | _ => none
      else none

theorem mapM_sizes {C : Ctx} (hC : C.OK) (w : World) : ∀ (fs : List Field) (ps : List (Nat × Nat)), fs.mapM (m := Option) (fun f => (C.ti f.type).map fun j => (f.offset, j.size)) = some ps →
    (fs.mapM (m := Sem) fun f => do pure (f.offset, ← sizeOf f.type)).run C.P w = .ok ps w
  | [], ps, h => by simp at h; subst h; simp
  | f :: fs, ps, h => by
    simp only [List.mapM_cons, Option.bind_eq_bind, Option.bind_eq_some_iff, Option.pure_def, Option.some.injEq, Option.map_eq_some_iff] at h
    obtain ⟨p, ⟨j, hj, rfl⟩, ps', hps, rfl⟩ := h
    have ih := mapM_sizes hC w fs ps' hps
    simp only [List.mapM_cons, Sem.run_bind, hC.run_size hj, Result.andThen_ok, Sem.run_pure, ih]

theorem abuild_ok {C : Ctx} (hC : C.OK) {ρ : Names} {t : TypeId} {ps : Array (Nat × AV)} {qs : Array (Nat × Value)} {a : AV} (hk : ps.toList.map (·.1) = qs.toList.map (·.1))
    (hv : VRs ρ (ps.toList.map (·.2)) (qs.toList.map (·.2))) (ha : abuild C t ps.toList = some a) (w : World) :
    ∃ v, (Instr.build t qs).run C.P w = .ok v w ∧ VR ρ a v := by
  unfold abuild at ha
  split at ha
  · cases ha
  · rename_i i hi
    split at ha
    · cases ha
    · rename_i z hz
      cases hj : notJunk z
      · rw [hj] at ha; cases ha
      · rw [hj] at ha
        simp only [cond_true] at ha
        obtain ⟨zv, hzr, hzv⟩ := hC.run_zero hi hz w ρ
        have hzc := VR.cells hzv hj
        unfold Instr.build
        simp only [Sem.run_bind, hzr, hC.run_und hi, Result.andThen_ok]
        split at ha
        · rename_i fields hd
          split at ha
          · cases ha
          · rename_i places hp
            simp only [Option.map_eq_some_iff] at ha
            obtain ⟨out, ho, rfl⟩ := ha
            obtain ⟨us, h1, h2⟩ := afill_ok hk hv hzc ho
            have hm := mapM_sizes hC w fields.toList places hp
            have hm' : (fields.mapM (m := Sem) fun f => do pure (f.offset, ← sizeOf f.type)).run C.P w = .ok places.toArray w := by
              rw [Array.mapM_eq_mapM_toList, Sem.run_map, hm]
              rfl
            simp only [hd]
            refine ⟨.agg us, ?_, by simp only [VR]; exact ⟨us.toList, by simp, h2⟩⟩
            rw [Sem.run_bind, hm', Result.andThen_ok]
            have e : (fun x : Nat => places.toArray[x]?) = (fun x : Nat => places[x]?) := by funext x; simp
            rw [e, h1]
            rfl
        · rename_i n elem hd
          split at ha
          · cases ha
          · rename_i j hj
            simp only [Option.map_eq_some_iff] at ha
            obtain ⟨out, ho, rfl⟩ := ha
            obtain ⟨us, h1, h2⟩ := afill_ok hk hv hzc ho
            refine ⟨.agg us, ?_, by simp only [VR]; exact ⟨us.toList, by simp, h2⟩⟩
            simp only [hd, Sem.run_bind, hC.run_size hj, Result.andThen_ok, h1]
            rfl
        · cases ha

end Go.AB
