/- The evaluator: regions that draw their order; code; calls. Definitions. -/
import Derived.Test.YtgihociajfgohaaGreatDoorAb15
namespace Go.AB
set_option linter.unusedSimpArgs false

mutual
def AV.beq : AV → AV → Bool
  | .bool a, .bool b => a == b
  | .int k a, .int j b => decide (k = j) && decide (a = b)
  | .str a, .str b => beqL a b
  | .nilp, .nilp => true
  | .ptr a b, .ptr c d => Nat.beq a c && Nat.beq b d
  | .nils, .nils => true
  | .slice a b c (.ex d) e, .slice a' b' c' (.ex d') e' => Nat.beq a a' && Nat.beq b b' && Nat.beq c c' && Nat.beq d d' && Nat.beq e e'
  | .slice a b c (.lo d) e, .slice a' b' c' (.lo d') e' => Nat.beq a a' && Nat.beq b b' && Nat.beq c c' && Nat.beq d d' && Nat.beq e e'
  | .empty a, .empty b => Nat.beq a b
  | .nilm, .nilm => true
  | .map a, .map b => Nat.beq a b
  | .func f fs as, .func g gs bs => Nat.beq f g && AV.beqs fs gs && AV.beqs as bs
  | .nilf, .nilf => true
  | .iface t a, .iface u b => Nat.beq t u && AV.beq a b
  | .nili, .nili => true
  | .agg as, .agg bs => AV.beqs as bs
  | .tuple as, .tuple bs => AV.beqs as bs
  | _, _ => false
def AV.beqs : List AV → List AV → Bool
  | [], [] => true
  | a :: as, b :: bs => AV.beq a b && AV.beqs as bs
  | _, _ => false
end

mutual
theorem AV.beq_eq : ∀ a b : AV, AV.beq a b = true → a = b
  | .bool a, b, h => by cases b <;> simp [AV.beq] at h; simp [h]
  | .int k a, b, h => by cases b <;> simp [AV.beq] at h; simp [h]
  | .str a, b, h => by cases b <;> simp [AV.beq, beqL_eq] at h; simp [h]
  | .nilp, b, h => by cases b <;> simp [AV.beq] at h; rfl
  | .ptr _ _, b, h => by cases b <;> simp [AV.beq] at h; simp [h]
  | .nils, b, h => by cases b <;> simp [AV.beq] at h; rfl
  | .slice _ _ _ (.ex _) _, b, h => by cases b with
    | slice _ _ _ c _ => cases c <;> simp [AV.beq] at h; simp [h]
    | _ => simp [AV.beq] at h
  | .slice _ _ _ (.lo _) _, b, h => by cases b with
    | slice _ _ _ c _ => cases c <;> simp [AV.beq] at h; simp [h]
    | _ => simp [AV.beq] at h
  | .empty _, b, h => by cases b <;> simp [AV.beq] at h; simp [h]
  | .nilm, b, h => by cases b <;> simp [AV.beq] at h; rfl
  | .map _, b, h => by cases b <;> simp [AV.beq] at h; simp [h]
  | .func f fs as, b, h => by
    cases b <;> simp [AV.beq] at h
    rw [h.1.1, AV.beqs_eq _ _ h.1.2, AV.beqs_eq _ _ h.2]
  | .nilf, b, h => by cases b <;> simp [AV.beq] at h; rfl
  | .iface t a, b, h => by
    cases b <;> simp [AV.beq] at h
    rw [h.1, AV.beq_eq _ _ h.2]
  | .nili, b, h => by cases b <;> simp [AV.beq] at h; rfl
  | .agg as, b, h => by
    cases b <;> simp [AV.beq] at h
    rw [AV.beqs_eq _ _ h]
  | .tuple as, b, h => by
    cases b <;> simp [AV.beq] at h
    rw [AV.beqs_eq _ _ h]
  | .junk, b, h => by cases b <;> simp [AV.beq] at h
theorem AV.beqs_eq : ∀ a b : List AV, AV.beqs a b = true → a = b
  | [], b, h => by cases b <;> simp [AV.beqs] at h; rfl
  | a :: as, b, h => by
    cases b <;> simp [AV.beqs] at h
    rw [AV.beq_eq _ _ h.1, AV.beqs_eq _ _ h.2]
end

/-! ### A region that draws -/
/-- New blocks beside a heap: those that are selected, by their reserved names. -/
def addNews (n0 : Nat) (sel : Nat → Bool) : List (Nat × AO) → AH → AH
  | [], H => H
  | (a, ao) :: l, H => addNews n0 sel l (bif sel a then H.set (n0 + a) ao else H)

/-- A stage: the heap behind some of the operations that act, all that those waited for, which they are. -/
structure Stage where
  H : AH
  cm : Nat
  done : Nat

inductive Kind where
  | skip
  | pure
  | read
  | new (ao : AO)
  | chain (H' : AH)

structure Row where
  o : Oper
  i : Nat
  anc : Nat
  T : PT AV
  s : Stage
  v : AV
  kd : Kind

def stageOf (r : Row) : Stage :=
  match r.kd with
  | .chain H' => ⟨H', r.s.cm ||| r.anc, r.s.done ||| 2 ^ r.i⟩
  | _ => r.s

/-- What lies in memory for an operation: of the new blocks those that it waits for. -/
def viewOf (n0 : Nat) (news : List (Nat × AO)) (anc : Nat) (s : Stage) : AH := addNews n0 (fun a => anc.testBit a && !s.cm.testBit a) news s.H

def mkRow (C : Ctx) (F : Fns) (G n0 : Nat) (ops : Array Oper) (news : List (Nat × AO)) (i anc : Nat) (T : PT AV) (s : Stage) (o : Oper) : Option Row :=
  match awanted ops T o with
  | none => none
  | some false => some ⟨o, i, anc, T, s, .tuple [], .skip⟩
  | some true =>
    match pureOp C (aeval G T) o with
    | some v => some ⟨o, i, anc, T, s, v, .pure⟩
    | none =>
      match readOp C (viewOf n0 news anc s) (aeval G T) o with
      | some v => some ⟨o, i, anc, T, s, v, .read⟩
      | none =>
        match newOp C (aeval G T) o with
        | some (ao, mk) => some ⟨o, i, anc, T, s, mk (n0 + i), .new ao⟩
        | none =>
          match chainOp C F (viewOf n0 news anc s) (aeval G T) o with
          | some (v, H') => bif Nat.beq (s.done &&& anc) s.done then some ⟨o, i, anc, T, s, v, .chain H'⟩ else none
          | none => none

def newsOf (r : Row) : List (Nat × AO) :=
  match r.kd with
  | .new ao => [(r.i, ao)]
  | _ => []

def mkRows (C : Ctx) (F : Fns) (G n n0 : Nat) (ops : Array Oper) : List (Oper × Nat) → Nat → List (Nat × AO) → PT AV → Stage → Option (List Row × List (Nat × AO) × PT AV × Stage)
  | [], _, news, T, s => some ([], news, T, s)
  | (o, anc) :: rest, i, news, T, s =>
    match mkRow C F G n0 ops news i anc T s o with
    | none => none
    | some r =>
      match mkRows C F G n n0 ops rest (i + 1) (news ++ newsOf r) (aput n T o.dst r.v) (stageOf r) with
      | none => none
      | some (rs, x) => some (r :: rs, x)

def isChain : Kind → Bool
  | .chain _ => true
  | _ => false

def isRead : Kind → Bool
  | .read => true
  | _ => false

/-- A read yields the same at every stage at which it may come up. -/
def readAt (C : Ctx) (G n0 : Nat) (news : List (Nat × AO)) (chs : Nat) (r : Row) (s : Stage) : Bool :=
  bif Nat.beq (s.done &&& (r.anc &&& chs)) (r.anc &&& chs) && !s.cm.testBit r.i then
    match readOp C (viewOf n0 news r.anc s) (aeval G r.T) r.o with
    | some v => AV.beq v r.v
    | none => false
  else true

def allStages (s0 : Stage) (rs : List Row) : List Stage := s0 :: (rs.filter fun r => isChain r.kd).map stageOf

def PT.every {α : Type} (p : α → Bool) : PT α → Bool
  | .leaf => true
  | .node l v r => (match v with
    | some a => p a
    | none => true) && PT.every p l && PT.every p r

def notMap : AO → Bool
  | .map _ _ => false
  | _ => true

def plain : AO → Bool
  | .cells false _ => true
  | .map _ _ => true
  | _ => false

/-- No iterator goes over a new block that is not yet merged; asked only where a map is among the new blocks. -/
def mitOk (n0 len : Nat) (news : List (Nat × AO)) (st : Stage) : Bool :=
  (news.all fun p => notMap p.2) || st.H.t.every fun o => match o with
    | .miter m _ _ _ => Nat.blt m n0 || Nat.ble (n0 + len) m || st.cm.testBit (m - n0)
    | _ => true

def evDraw (C : Ctx) (F : Fns) (G n : Nat) (ops : Array Oper) (T : PT AV) (H : AH) : Option (PT AV × AH) :=
  let l := ops.toList
  let anc := (Region.before ops).toList
  let n0 := H.next
  let s0 : Stage := ⟨⟨H.t, n0 + l.length⟩, 0, 0⟩
  match mkRows C F G n n0 ops (l.zip anc) 0 [] T s0 with
  | none => none
  | some (rs, news, T', s) =>
    bif (news.all fun p => plain p.2) && ((allStages s0 rs).all fun st => mitOk n0 l.length news st) && (rs.filter fun r => isRead r.kd).all fun r => (allStages s0 rs).all fun st => readAt C G n0 news s.done r st then
      some (T', addNews n0 (fun a => !s.cm.testBit a) news s.H)
    else none

/-! ### Code -/
inductive AEx where
  | normal
  | exit (id : Nat)
  | ret

def evC (C : Ctx) (F : Fns) (G n : Nat) : Nat → Code → PT AV → AH → Option (AEx × PT AV × AH)
  | 0, _, _, _ => none
  | fuel + 1, c, T, H =>
    match c with
    | .skip => some (.normal, T, H)
    | .label _ => some (.normal, T, H)
    | .exit id => some (.exit id, T, H)
    | .ret => some (.ret, T, H)
    | .seq a b => match evC C F G n fuel a T H with
      | some (.normal, T', H') => evC C F G n fuel b T' H'
      | r => r
    | .cond c a b => match aeval G T c with
      | .bool true => evC C F G n fuel a T H
      | .bool false => evC C F G n fuel b T H
      | _ => none
    | .block id b => match evC C F G n fuel b T H with
      | some (.exit i, T', H') => if i = id then some (.normal, T', H') else some (.exit i, T', H')
      | r => r
    | .loop b => match evC C F G n fuel b T H with
      | some (.normal, T', H') => evC C F G n fuel (.loop b) T' H'
      | r => r
    | .scope b => evC C F G n fuel b T H
    | .region _ ops draw =>
      match (bif draw then evDraw C F G n ops T H else evOps C F G n ops ops.toList T H) with
      | some (T', H') => some (.normal, T', H')
      | none => none
    | _ => none

def aresult (C : Ctx) (T : PT AV) (H : AH) : ResultVar → Option AV
  | .tmp t => T.get t
  | .cell a t => match T.get a with
    | some p => aload C H t p
    | none => none

def aresults (C : Ctx) (T : PT AV) (H : AH) : List ResultVar → Option (List AV)
  | [] => some []
  | r :: rs => match aresult C T H r, aresults C T H rs with
    | some a, some as => some (a :: as)
    | _, _ => none

def one : List AV → AV
  | [a] => a
  | as => .tuple as

def evFn (C : Ctx) (F : Fns) (G fuel : Nat) (g : Func) (args : List AV) (H : AH) : Option (AV × AH) :=
  match g.body with
  | none => none
  | some c => bif Nat.ble args.length g.ntmps then
      match evC C F G g.ntmps fuel c (PT.ofList .leaf 0 args) H with
      | some (.exit _, _, _) => none
      | some (_, T, H') => (aresults C T H' g.results.toList).map fun as => (one as, H')
      | none => none
    else none

def fnOk (g : Func) : Bool := g.body.isSome && !(g.name == "runtime.NumGoroutine")

/-- Calls, so deep at most. What 'known' answers is taken as it is. -/
def evCall (C : Ctx) (known : FuncId → Option (List AV → AH → Option (AV × AH))) (ext : FuncId → List AV → AH → Option (AV × AH)) (G fuel : Nat) : Nat → FuncId → List AV → AH → Option (AV × AH)
  | 0, _, _, _ => none
  | d + 1, f, args, H =>
    match known f with
    | some k => k args H
    | none =>
      match C.fn f with
      | none => none
      | some g => bif fnOk g then evFn C ⟨evCall C known ext G fuel d, ext⟩ G fuel g args H else none

end Go.AB
