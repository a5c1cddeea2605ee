/- Operations that reckon with what lies in temporaries alone: all together. -/
import Derived.Test.YtgihociajfgohaaGreatDoorAb6
namespace Go.AB
set_option linter.unusedSimpArgs false

/-- What the operands stand for. -/
def VEv (ρ : Names) (ev : Operand → AV) (e : Operand → Value) : Prop := ∀ x, VR ρ (ev x) (e x)

theorem VEv.list {ρ : Names} {ev : Operand → AV} {e : Operand → Value} (h : VEv ρ ev e) : ∀ l : List Operand, VRs ρ (l.map ev) (l.map e)
  | [] => VRs.nil
  | x :: l => VRs.cons (h x) (h.list l)

theorem VEv.opt {ρ : Names} {ev : Operand → AV} {e : Operand → Value} (h : VEv ρ ev e) (o : Option Operand) : OVR ρ (o.map ev) (o.map e) := by
  cases o with
  | none => trivial
  | some x => exact h x

def afieldAddr (C : Ctx) (s : TypeId) (x : AV) (f : Nat) : Option AV :=
  match C.ti s with
  | none => none
  | some i =>
    match i.d, x with
    | .struct fields, .ptr b o =>
      match fields.toList[f]? with
      | none => none
      | some fl =>
        match C.ti fl.type with
        | none => none
        | some j => bif Nat.beq j.size 0 then none else some (.ptr b (o + fl.offset))
    | _, _ => none

theorem afieldAddr_ok {C : Ctx} (hC : C.OK) {ρ : Names} {s : TypeId} {x r : AV} {v : Value} {f : Nat} (hx : VR ρ x v) (h : afieldAddr C s x f = some r) (w : World) :
    ∃ u, (Instr.fieldAt s v f).run C.P w = .ok u w ∧ VR ρ r u := by
  unfold afieldAddr at h
  split at h
  · cases h
  · rename_i i hi
    split at h
    · rename_i fields b o hd
      split at h
      · cases h
      · rename_i fl hfl
        split at h
        · cases h
        · rename_i j hj
          cases hz : Nat.beq j.size 0
          · rw [hz] at h
            simp only [cond_false, Option.some.injEq] at h
            subst h
            simp only [VR] at hx
            obtain ⟨sg, hsg, rfl⟩ := hx
            have hz' : j.size ≠ 0 := fun e => by rw [e] at hz; simp at hz
            have hfl' : fields[f]? = some fl := by simpa using hfl
            unfold Instr.fieldAt
            simp only [Sem.run_bind, hC.run_und hi, Result.andThen_ok, hd, hfl', Instr.sureAddr, Sem.run_pure]
            unfold fieldPlace
            simp only [Sem.run_bind, hC.run_size hj, Result.andThen_ok, hz', if_false, Sem.run_pure]
            refine ⟨_, rfl, ?_⟩
            simp only [VR]
            refine ⟨sg, hsg, ?_⟩
            unfold Addr.add
            split <;> simp_all [Nat.add_assoc]
          · rw [hz] at h; cases h
    · cases h

def afield (C : Ctx) (t : TypeId) (x : AV) (f : Nat) : Option AV :=
  match C.ti t with
  | none => none
  | some i =>
    match i.d, x with
    | .struct fields, .agg cs =>
      match fields.toList[f]? with
      | none => none
      | some fl => apart C fl.type cs fl.offset
    | _, _ => none

theorem afield_ok {C : Ctx} (hC : C.OK) {ρ : Names} {t : TypeId} {x r : AV} {v : Value} {f : Nat} (hx : VR ρ x v) (h : afield C t x f = some r) (w : World) :
    ∃ u, (Instr.field t v f).run C.P w = .ok u w ∧ VR ρ r u := by
  unfold afield at h
  split at h
  · cases h
  · rename_i i hi
    split at h
    · rename_i fields cs hd
      split at h
      · cases h
      · rename_i fl hfl
        simp only [VR] at hx
        obtain ⟨vs, rfl, hvs⟩ := hx
        have hfl' : fields[f]? = some fl := by simpa using hfl
        unfold Instr.field
        obtain ⟨u, hu, hr⟩ := apart_ok hC hvs h w
        simp only [Sem.run_bind, hC.run_und hi, Result.andThen_ok, hd, hfl', asAgg, Sem.run_pure, hu]
        exact ⟨u, rfl, hr⟩
    · cases h

/-- 0 ≤ i < n -/
def inRange (i : Int) (n : Nat) : Option Nat :=
  match i with
  | .ofNat m => bif Nat.blt m n then some m else none
  | .negSucc _ => none

theorem inRange_some {i : Int} {n m : Nat} (h : inRange i n = some m) : i = (m : Int) ∧ m < n := by
  cases i with
  | ofNat k =>
    simp only [inRange] at h
    cases hb : Nat.blt k n
    · rw [hb] at h; cases h
    · rw [hb] at h
      simp only [cond_true, Option.some.injEq] at h
      subst h
      exact ⟨rfl, Nat.le_of_ble_eq_true hb⟩
  | negSucc k => simp [inRange] at h

def aindexAddr (C : Ctx) (t : TypeId) (x ix : AV) : Option AV :=
  match ix with
  | .int _ i =>
    match C.ti t with
    | none => none
    | some d =>
      match d.d, x with
      | .array n e, .ptr b o =>
        match inRange i n, C.ti e with
        | some m, some j => some (.ptr b (o + m * j.size))
        | _, _ => none
      | .slice e, .slice b o len _ _ =>
        match inRange i len, C.ti e with
        | some m, some j => some (.ptr b (o + m * j.size))
        | _, _ => none
      | _, _ => none
  | _ => none

theorem aindexAddr_ok {C : Ctx} (hC : C.OK) {ρ : Names} {t : TypeId} {x ix r : AV} {v k : Value} (hx : VR ρ x v) (hk : VR ρ ix k) (h : aindexAddr C t x ix = some r) (w : World) :
    ∃ u, (Instr.indexAt t v k).run C.P w = .ok u w ∧ VR ρ r u := by
  unfold aindexAddr at h
  split at h
  · rename_i kk i
    simp only [VR] at hk
    subst hk
    split at h
    · cases h
    · rename_i d hd0
      split at h
      · rename_i n e b o hd
        split at h
        · rename_i m j hm hj
          simp only [Option.some.injEq] at h; subst h
          obtain ⟨rfl, hlt⟩ := inRange_some hm
          simp only [VR] at hx
          obtain ⟨sg, hsg, rfl⟩ := hx
          unfold Instr.indexAt asIntOf
          simp only [Sem.run_bind, Sem.run_pure, Result.andThen_ok, hC.run_und hd0, hd, Instr.sureAddr]
          rw [if_pos ⟨by omega, by omega⟩]
          simp only [Sem.run_bind, hC.run_size hj, Result.andThen_ok, Sem.run_pure]
          refine ⟨_, rfl, ?_⟩
          simp only [VR, Int.toNat_natCast]
          refine ⟨sg, hsg, ?_⟩
          unfold Addr.add
          split
          · rename_i e0; rw [e0]; simp
          · simp [Nat.add_assoc]
        · cases h
      · rename_i e b o len cap z hd
        split at h
        · rename_i m j hm hj
          simp only [Option.some.injEq] at h; subst h
          obtain ⟨rfl, hlt⟩ := inRange_some hm
          simp only [VR] at hx
          obtain ⟨sg, cc, hsg, rfl, _⟩ := hx
          unfold Instr.indexAt asIntOf
          simp only [Sem.run_bind, Sem.run_pure, Result.andThen_ok, hC.run_und hd0, hd]
          rw [if_pos ⟨by omega, by omega⟩]
          simp only [Sem.run_bind, hC.run_size hj, Result.andThen_ok, Sem.run_pure]
          refine ⟨_, rfl, ?_⟩
          simp only [VR, Int.toNat_natCast]
          refine ⟨sg, hsg, ?_⟩
          unfold Addr.add
          split
          · rename_i e0; rw [e0]; simp
          · simp [Nat.add_assoc]
        · cases h
      · cases h
  · cases h

def aindex (C : Ctx) (t : TypeId) (x ix : AV) : Option AV :=
  match ix with
  | .int _ i =>
    match C.ti t with
    | none => none
    | some d =>
      match d.d, x with
      | .array n e, .agg cs =>
        match inRange i n, C.ti e with
        | some m, some j => apart C e cs (m * j.size)
        | _, _ => none
      | .string, .str s =>
        match inRange i s.length with
        | some m => (s[m]?).map fun b => .int .u8 b.toNat
        | none => none
      | _, _ => none
  | _ => none

theorem aindex_ok {C : Ctx} (hC : C.OK) {ρ : Names} {t : TypeId} {x ix r : AV} {v k : Value} (hx : VR ρ x v) (hk : VR ρ ix k) (h : aindex C t x ix = some r) (w : World) :
    ∃ u, (Instr.index t v k).run C.P w = .ok u w ∧ VR ρ r u := by
  unfold aindex at h
  split at h
  · rename_i kk i
    simp only [VR] at hk
    subst hk
    split at h
    · cases h
    · rename_i d hd0
      split at h
      · rename_i n e cs hd
        split at h
        · rename_i m j hm hj
          obtain ⟨rfl, hlt⟩ := inRange_some hm
          simp only [VR] at hx
          obtain ⟨vs, rfl, hvs⟩ := hx
          obtain ⟨u, hu, hr⟩ := apart_ok hC hvs h w
          unfold Instr.index asIntOf
          simp only [Sem.run_bind, Sem.run_pure, Result.andThen_ok, hC.run_und hd0, hd]
          rw [if_pos ⟨by omega, by omega⟩]
          simp only [Sem.run_bind, hC.run_size hj, Result.andThen_ok, Int.toNat_natCast, hu]
          exact ⟨u, rfl, hr⟩
        · cases h
      · rename_i s hd
        split at h
        · rename_i m hm
          obtain ⟨rfl, hlt⟩ := inRange_some hm
          simp only [Option.map_eq_some_iff] at h
          obtain ⟨b, hb, rfl⟩ := h
          simp only [VR] at hx
          subst hx
          unfold Instr.index asIntOf
          simp only [Sem.run_bind, Sem.run_pure, Result.andThen_ok, hC.run_und hd0, hd]
          have hs : (ByteArray.mk s.toArray)[m]? = some b := by
            rw [ByteArray.getElem?_lt' _ _ (by simpa [ByteArray.size] using hlt)]
            rw [List.getElem?_eq_getElem hlt] at hb
            simpa [ByteArray.getElem_eq_getElem_data] using hb
          rw [if_pos (by omega), Int.toNat_natCast, hs]
          exact ⟨_, rfl, by simp only [VR]⟩
        · cases h
      · cases h
  · cases h

def aconv (C : Ctx) (src dst : TypeId) (x : AV) : Option AV :=
  match C.ti src, C.ti dst with
  | some _, some j =>
    match j.d, x with
    | .int k, .int _ n => some (.int k (k.wrap n))
    | .string, .str s => some (.str s)
    | _, _ => none
  | _, _ => none

theorem aconv_ok {C : Ctx} (hC : C.OK) {ρ : Names} {src dst : TypeId} {x r : AV} {v : Value} (hx : VR ρ x v) (h : aconv C src dst x = some r) (w : World) :
    ∃ u, (convert src dst v).run C.P w = .ok u w ∧ VR ρ r u := by
  unfold aconv at h
  split at h
  · rename_i i j hi hj
    unfold convert
    simp only [Sem.run_bind, hC.run_und hi, hC.run_und hj, Result.andThen_ok]
    split at h
    · rename_i k k' n hd
      simp only [Option.some.injEq] at h; subst h
      simp only [VR] at hx; subst hx
      rw [hd]
      exact ⟨.int k (k.wrap n), rfl, by simp only [VR]⟩
    · rename_i s hd
      simp only [Option.some.injEq] at h; subst h
      simp only [VR] at hx; subst hx
      rw [hd]
      refine ⟨.string ⟨s.toArray⟩, ?_, by simp only [VR]⟩
      cases i.d <;> rfl
    · cases h
  · cases h

def lenOfAV : AV → Option Nat
  | .nils => some 0
  | .slice _ _ n _ _ => some n
  | .empty _ => some 0
  | _ => none

def alen (C : Ctx) (t : TypeId) (x : AV) : Option AV :=
  match C.ti t with
  | none => none
  | some i =>
    match i.d, x with
    | .string, .str s => some (.int .i64 s.length)
    | .array n _, _ => some (.int .i64 n)
    | .slice _, x => match lenOfAV x with
      | some n => some (.int .i64 (n : Nat))
      | none => none
    | .map _ _, .nilm => some (.int .i64 0)
    | _, _ => none

theorem lenOfAV_ok {ρ : Names} {x : AV} {v : Value} {n : Nat} (hx : VR ρ x v) (h : lenOfAV x = some n) : ∃ a c, v = .slice a n c := by
  cases x <;> simp only [lenOfAV, reduceCtorEq, Option.some.injEq] at h <;> simp only [VR] at hx
  · subst h; exact ⟨_, _, hx⟩
  · subst h; obtain ⟨s, cc, _, e, _⟩ := hx; exact ⟨_, _, e⟩
  · subst h; obtain ⟨_, _, e⟩ := hx; exact ⟨_, _, e⟩

theorem alen_ok {C : Ctx} (hC : C.OK) {ρ : Names} {t : TypeId} {x r : AV} {v : Value} (hx : VR ρ x v) (h : alen C t x = some r) (w : World) (ats : Array TypeId) (ht : ats[0]? = some t) (ty : TypeId) (args : Array Value) (ha : args[0]? = some v) :
    ∃ u, (Builtin.len_ ats ty args).run C.P w = .ok u w ∧ VR ρ r u := by
  unfold alen at h
  split at h
  · cases h
  · rename_i i hi
    unfold Builtin.len_
    simp only [ht, ha, Sem.run_bind, hC.run_und hi, Result.andThen_ok]
    split at h
    · rename_i s hd
      simp only [Option.some.injEq] at h; subst h
      simp only [VR] at hx; subst hx
      simp only [hd]
      exact ⟨_, rfl, by simp [VR, goInt, ByteArray.size]⟩
    · rename_i x0 n e hd
      simp only [Option.some.injEq] at h; subst h
      simp only [hd]
      exact ⟨.int .i64 n, rfl, by simp [VR]⟩
    · rename_i x0 e hd
      split at h
      · rename_i n hn
        simp only [Option.some.injEq] at h; subst h
        obtain ⟨a, c, rfl⟩ := lenOfAV_ok hx hn
        simp only [hd]
        exact ⟨.int .i64 n, rfl, by simp [VR]⟩
      · cases h
    · rename_i k e hd
      simp only [Option.some.injEq] at h; subst h
      simp only [VR] at hx; subst hx
      simp only [hd]
      exact ⟨.int .i64 0, rfl, by simp [VR]⟩
    · cases h

def acap (C : Ctx) (t : TypeId) (x : AV) : Option AV :=
  match C.ti t with
  | none => none
  | some i =>
    match i.d, x with
    | .slice _, .nils => some (.int .i64 0)
    | .slice _, .slice _ _ _ (.ex c) _ => some (.int .i64 c)
    | _, _ => none

theorem acap_ok {C : Ctx} (hC : C.OK) {ρ : Names} {t : TypeId} {x r : AV} {v : Value} (hx : VR ρ x v) (h : acap C t x = some r) (w : World) (ats : Array TypeId) (ht : ats[0]? = some t) (ty : TypeId) (args : Array Value) (ha : args[0]? = some v) :
    ∃ u, (Builtin.cap_ ats ty args).run C.P w = .ok u w ∧ VR ρ r u := by
  unfold acap at h
  split at h
  · cases h
  · rename_i i hi
    unfold Builtin.cap_
    simp only [ht, ha, Sem.run_bind, hC.run_und hi, Result.andThen_ok]
    split at h
    · rename_i e hd
      simp only [Option.some.injEq] at h; subst h
      simp only [VR] at hx; subst hx
      simp only [hd]
      exact ⟨.int .i64 0, rfl, by simp [VR]⟩
    · rename_i e b o l c z hd
      simp only [Option.some.injEq] at h; subst h
      simp only [VR, ACap.ok] at hx
      obtain ⟨sg, cc, _, rfl, rfl, _⟩ := hx
      simp only [hd]
      exact ⟨.int .i64 cc, rfl, by simp [VR]⟩
    · cases h

def intVal : AV → Option Value
  | .int k n => some (.int k n)
  | _ => none

def intVals : List AV → Option (List Value)
  | [] => some []
  | a :: as => match intVal a, intVals as with
    | some v, some vs => some (v :: vs)
    | _, _ => none

theorem intVals_ok {ρ : Names} : ∀ {as : List AV} {vs us : List Value}, VRs ρ as vs → intVals as = some us → us = vs
  | [], vs, us, h, e => by simp only [VRs] at h; subst h; simpa [intVals] using e.symm
  | a :: as, vs, us, h, e => by
    simp only [VRs] at h
    obtain ⟨v, vs', rfl, h1, h2⟩ := h
    simp only [intVals] at e
    split at e
    · rename_i u us' e1 e2
      simp only [Option.some.injEq] at e
      subst e
      cases a <;> simp only [intVal, reduceCtorEq, Option.some.injEq] at e1
      subst e1
      simp only [VR] at h1
      rw [h1, intVals_ok h2 e2]
    · cases e

def abuiltin (C : Ctx) (b : Builtin) (ats : Array TypeId) (ty : TypeId) (args : List AV) : Option AV :=
  match b, ats.toList, args with
  | .len, t :: _, x :: _ => alen C t x
  | .cap, t :: _, x :: _ => acap C t x
  | .max, _, args => match intVals args with
    | some vs => pur (Builtin.max_ ats ty ⟨vs⟩)
    | none => none
  | .min, _, args => match intVals args with
    | some vs => pur (Builtin.min_ ats ty ⟨vs⟩)
    | none => none
  | _, _, _ => none

theorem abuiltin_ok {C : Ctx} (hC : C.OK) {ρ : Names} {b : Builtin} {ats : Array TypeId} {ty : TypeId} {args : List AV} {vs : List Value} {r : AV} {cs : Array Bool} (hv : VRs ρ args vs) (h : abuiltin C b ats ty args = some r) (w : World) :
    ∃ u, (builtin b ats ty cs ⟨vs⟩).run C.P w = .ok (.value u) w ∧ VR ρ r u := by
  obtain ⟨ats⟩ := ats
  unfold abuiltin at h
  split at h
  · rename_i t ts x xs ht
    simp only [VRs] at hv
    obtain ⟨v, vs', rfl, h1, h2⟩ := hv
    have : ats = t :: ts := ht
    subst this
    obtain ⟨u, hu, hr⟩ := alen_ok hC h1 h w ⟨t :: ts⟩ (by simp) ty ⟨v :: vs'⟩ (by simp)
    exact ⟨u, by simp only [builtin, Sem.run_bind, hu, Result.andThen_ok, Sem.run_pure], hr⟩
  · rename_i t ts x xs ht
    simp only [VRs] at hv
    obtain ⟨v, vs', rfl, h1, h2⟩ := hv
    have : ats = t :: ts := ht
    subst this
    obtain ⟨u, hu, hr⟩ := acap_ok hC h1 h w ⟨t :: ts⟩ (by simp) ty ⟨v :: vs'⟩ (by simp)
    exact ⟨u, by simp only [builtin, Sem.run_bind, hu, Result.andThen_ok, Sem.run_pure], hr⟩
  · split at h
    · rename_i us hus
      have := intVals_ok hv hus
      subst this
      obtain ⟨u, hu, hr⟩ := pur_ok h C.P w ρ
      exact ⟨u, by simp only [builtin, Sem.run_bind, hu, Result.andThen_ok, Sem.run_pure], hr⟩
    · cases h
  · split at h
    · rename_i us hus
      have := intVals_ok hv hus
      subst this
      obtain ⟨u, hu, hr⟩ := pur_ok h C.P w ρ
      exact ⟨u, by simp only [builtin, Sem.run_bind, hu, Result.andThen_ok, Sem.run_pure], hr⟩
    · cases h
  · cases h

def pureOp (C : Ctx) (ev : Operand → AV) (o : Oper) : Option AV :=
  match o.op with
  | .move x => some (ev x)
  | .assign x => some (ev x)
  | .pick c a b => match ev c with
    | .bool t => some (bif t then ev a else ev b)
    | _ => none
  | .build t parts => abuild C t (parts.toList.map fun p => (p.1, ev p.2))
  | .nilCheck x => match ev x with
    | .ptr b k => some (.ptr b k)
    | .func f fs cs => some (.func f fs cs)
    | _ => none
  | .binOp op t x y _ => abin C op t (isC x || isC y) (ev x) (ev y)
  | .unOp op _ x => match ev x with
    | .int k n => pur (Op.unary op (.int k n))
    | .bool b => pur (Op.unary op (.bool b))
    | _ => none
  | .convert src dst x => aconv C src dst (ev x)
  | .makeInterface t x => match C.ti t with
    | some i => (match i.d with
      | .interface _ => none
      | _ => some (.iface t (ev x)))
    | none => none
  | .makeFunc fn first cap => match fn with
    | .func f => some (.func f (first.toList.map ev) (cap.toList.map ev))
    | _ => none
  | .slice t x lo hi mx => aslice C t (ev x) (lo.map ev) (hi.map ev) (mx.map ev)
  | .fieldAddr s x f => afieldAddr C s (ev x) f
  | .field t x f => afield C t (ev x) f
  | .indexAddr t x i => aindexAddr C t (ev x) (ev i)
  | .index t x i => aindex C t (ev x) (ev i)
  | .extract t i => match ev t with
    | .tuple vs => vs[i]?
    | _ => none
  | .typeAssert x _ t ok => match C.ti t, ev x with
    | some i, .iface u v => (match i.d with
      | .interface _ => none
      | _ => if u = t then some (bif ok then .tuple [v, .bool true] else v) else none)
    | _, _ => none
  | .call c => match c.callee with
    | .builtin b => abuiltin C b c.argTypes o.type (c.args.toList.map ev)
    | _ => none
  | _ => none

theorem pureOp_ok {C : Ctx} (hC : C.OK) {ρ : Names} {ev : Operand → AV} {e : Operand → Value} (hev : VEv ρ ev e) {o : Oper} {r : AV} (h : pureOp C ev o = some r) (w : World) :
    ∃ u, (execOp e o).run C.P w = .ok (.value u) w ∧ VR ρ r u := by
  obtain ⟨dst, op, type, pos, after, guard⟩ := o
  cases op <;> simp only [pureOp, reduceCtorEq] at h <;> simp only [execOp]
  case move x => simp only [Option.some.injEq] at h; subst h; exact ⟨e x, rfl, hev x⟩
  case assign x => simp only [Option.some.injEq] at h; subst h; exact ⟨e x, rfl, hev x⟩
  case pick c a b =>
    have hc := hev c
    split at h
    · rename_i t ht
      rw [ht] at hc
      simp only [VR] at hc
      simp only [Option.some.injEq] at h
      subst h
      refine ⟨if t then e a else e b, ?_, ?_⟩
      · simp only [Sem.run_bind, hc, asBool, Sem.run_pure, Result.andThen_ok]
      · cases t
        · exact hev b
        · exact hev a
    · cases h
  case build t parts =>
    have hm : (parts.map fun x => (x.1, e x.2)).toList = parts.toList.map fun x => (x.1, e x.2) := by simp
    obtain ⟨u, hu, hr⟩ := abuild_ok hC (ps := (parts.toList.map fun p => (p.1, ev p.2)).toArray) (qs := parts.map fun x => (x.1, e x.2)) (ρ := ρ) (t := t) (a := r)
      (by rw [hm]; simp [List.map_map, Function.comp_def])
      (by rw [hm]; simp only [List.map_map, Function.comp_def]
          have := hev.list (parts.toList.map (·.2))
          simpa [List.map_map, Function.comp_def] using this)
      (by simpa using h) w
    exact ⟨u, by simp only [Sem.run_bind, hu, Result.andThen_ok, Sem.run_pure], hr⟩
  case nilCheck x =>
    have hx := hev x
    split at h
    · rename_i b k hb
      rw [hb] at hx
      simp only [Option.some.injEq] at h; subst h
      have hx' := hx
      simp only [VR] at hx
      obtain ⟨sg, _, hx⟩ := hx
      rw [hx] at hx' ⊢
      exact ⟨_, rfl, hx'⟩
    · rename_i f fs cs hb
      rw [hb] at hx
      simp only [Option.some.injEq] at h; subst h
      have hx' := hx
      simp only [VR] at hx
      obtain ⟨us, vs, hx, _⟩ := hx
      rw [hx] at hx' ⊢
      exact ⟨_, rfl, hx'⟩
    · cases h
  case binOp op t x y yt =>
    obtain ⟨u, hu, hr⟩ := abin_ok hC w (hev x) (hev y) h
    exact ⟨u, by rw [Sem.run_bind, hu]; rfl, hr⟩
  case unOp op t x =>
    have hx := hev x
    split at h
    · rename_i k n hb
      rw [hb] at hx
      simp only [VR] at hx
      rw [hx]
      obtain ⟨u, hu, hr⟩ := pur_ok h C.P w ρ
      exact ⟨u, by simp only [Sem.run_bind, hu, Result.andThen_ok, Sem.run_pure], hr⟩
    · rename_i b hb
      rw [hb] at hx
      simp only [VR] at hx
      rw [hx]
      obtain ⟨u, hu, hr⟩ := pur_ok h C.P w ρ
      exact ⟨u, by simp only [Sem.run_bind, hu, Result.andThen_ok, Sem.run_pure], hr⟩
    · cases h
  case convert src dst x =>
    obtain ⟨u, hu, hr⟩ := aconv_ok hC (hev x) h w
    exact ⟨u, by simp only [Sem.run_bind, hu, Result.andThen_ok, Sem.run_pure], hr⟩
  case makeInterface t x =>
    split at h
    · rename_i i hi
      split at h
      · cases h
      · rename_i hd
        simp only [Option.some.injEq] at h; subst h
        refine ⟨.iface t (e x), ?_, by simp only [VR]; exact ⟨_, rfl, hev x⟩⟩
        unfold Instr.makeInterface
        simp only [Sem.run_bind, hC.run_und hi, Result.andThen_ok]
        rfl
    · cases h
  case makeFunc fn first cap =>
    split at h
    · rename_i f
      simp only [Option.some.injEq] at h; subst h
      refine ⟨.func (.func f) ⟨first.toList.map e⟩ ⟨cap.toList.map e⟩, ?_, by simp only [VR]; exact ⟨_, _, rfl, hev.list _, hev.list _⟩⟩
      unfold Instr.makeFunc
      have h1 : cap.map e = ⟨cap.toList.map e⟩ := by apply Array.ext'; simp
      have h2 : first.map e = ⟨first.toList.map e⟩ := by apply Array.ext'; simp
      simp [h1, h2]
    · cases h
  case slice t x lo hi mx =>
    obtain ⟨u, hu, hr⟩ := aslice_ok hC (hev x) (hev.opt lo) (hev.opt hi) (hev.opt mx) h w
    exact ⟨u, by simp only [Sem.run_bind, hu, Result.andThen_ok, Sem.run_pure], hr⟩
  case fieldAddr s x f =>
    obtain ⟨u, hu, hr⟩ := afieldAddr_ok hC (hev x) h w
    exact ⟨u, by simp only [Sem.run_bind, hu, Result.andThen_ok, Sem.run_pure], hr⟩
  case field t x f =>
    obtain ⟨u, hu, hr⟩ := afield_ok hC (hev x) h w
    exact ⟨u, by simp only [Sem.run_bind, hu, Result.andThen_ok, Sem.run_pure], hr⟩
  case indexAddr t x i =>
    obtain ⟨u, hu, hr⟩ := aindexAddr_ok hC (hev x) (hev i) h w
    exact ⟨u, by simp only [Sem.run_bind, hu, Result.andThen_ok, Sem.run_pure], hr⟩
  case index t x i =>
    obtain ⟨u, hu, hr⟩ := aindex_ok hC (hev x) (hev i) h w
    exact ⟨u, by simp only [Sem.run_bind, hu, Result.andThen_ok, Sem.run_pure], hr⟩
  case extract t i =>
    have hx := hev t
    split at h
    · rename_i vs hb
      rw [hb] at hx
      simp only [VR] at hx
      obtain ⟨us, hx, hus⟩ := hx
      obtain ⟨v, hv, hr⟩ := hus.get _ _ h
      rw [hx]
      refine ⟨v, ?_, hr⟩
      unfold Instr.extract
      simp [hv]
    · cases h
  case typeAssert x xt t ok =>
    have hx := hev x
    split at h
    · rename_i i u v hi hb
      rw [hb] at hx
      simp only [VR] at hx
      obtain ⟨y, hx, hy⟩ := hx
      split at h
      · cases h
      · rename_i hd
        split at h
        · rename_i hut
          subst hut
          simp only [Option.some.injEq] at h; subst h
          rw [hx]
          refine ⟨if ok then .tuple #[y, .bool true] else y, ?_, ?_⟩
          · unfold Instr.typeAssert
            simp only [Sem.run_bind, hC.run_und hi, Result.andThen_ok]
            cases hid : i.d with
            | interface ms => exact absurd hid (hd ms)
            | _ => simp
          · cases ok
            · exact hy
            · simp only [cond_true, if_true, VR]
              exact ⟨[y, .bool true], rfl, VRs.cons hy (VRs.cons (by simp [VR]) VRs.nil)⟩
        · cases h
    · cases h
  case call c =>
    obtain ⟨callee, args, ats⟩ := c
    cases callee <;> simp only [reduceCtorEq] at h
    case builtin b =>
      obtain ⟨u, hu, hr⟩ := abuiltin_ok (cs := args.map fun | .const _ => true | _ => false) hC (hev.list args.toList) h w
      refine ⟨u, ?_, hr⟩
      simp only [resolve, Sem.run_bind, Sem.run_pure, Result.andThen_ok, invoke]
      have : args.map e = ⟨args.toList.map e⟩ := by apply Array.ext'; simp
      rw [this]
      exact hu

end Go.AB
