/- Regions that draw: what is asked of a region's text once; sub-heaps; what an operation's value hangs on. -/
import Derived.Test.YtgihociajfgohaaGreatDoorAb16
namespace Go.AB
set_option linter.unusedSimpArgs false

/-! ### Which operations an operation waits for -/
theorem foldl_push_get {α β : Type} (f : Array β → α → β) : ∀ (l : List α) (acc : Array β) (i : Nat), i < l.length →
    ∃ pre : Array β, (l.foldl (fun acc o => acc.push (f acc o)) acc)[acc.size + i]? = (l[i]?).map (fun o => f pre o) ∧ pre.size = acc.size + i ∧ (∀ k, k < pre.size → pre[k]? = (l.foldl (fun acc o => acc.push (f acc o)) acc)[k]?)
  | [], acc, i, h => by simp at h
  | o :: l, acc, i, h => by
    have keep : ∀ (l : List α) (acc : Array β) (k : Nat), k < acc.size → (l.foldl (fun acc o => acc.push (f acc o)) acc)[k]? = acc[k]? := by
      intro l
      induction l with
      | nil => intro acc k _; rfl
      | cons o l ih =>
        intro acc k hk
        simp only [List.foldl_cons]
        rw [ih _ _ (by simp; omega), Array.getElem?_push, if_neg (by omega)]
    cases i with
    | zero =>
      refine ⟨acc, ?_, by simp, ?_⟩
      · simp only [List.foldl_cons, Nat.add_zero]
        rw [keep _ _ _ (by simp)]
        simp
      · intro k hk
        rw [keep _ _ _ hk]
    | succ i =>
      obtain ⟨pre, h1, h2, h3⟩ := foldl_push_get f l (acc.push (f acc o)) i (by simpa using h)
      refine ⟨pre, ?_, by rw [h2]; simp; omega, fun k hk => ?_⟩
      · simp only [List.foldl_cons]
        rw [show acc.size + (i + 1) = (acc.push (f acc o)).size + i by simp; omega]
        simpa using h1
      · simpa using h3 k hk

/-- What an operation waits for, it waits for by way of an edge of its own. -/
theorem before_spec (ops : Array Oper) {i j : Nat} (h : ((Region.before ops).getD i 0).testBit j = true) :
    ∃ o, ops[i]? = some o ∧ ∃ e ∈ o.after, Region.binds .any e = true ∧ (e.on = j ∨ ((Region.before ops).getD e.on 0).testBit j = true ∧ e.on < i) := by
  have hsz : (Region.before ops).size = ops.size := by
    unfold Region.before
    rw [← Array.foldl_toList]
    have : ∀ (l : List Oper) (acc : Array Nat) (f : Array Nat → Oper → Nat), (l.foldl (fun acc o => acc.push (f acc o)) acc).size = acc.size + l.length := by
      intro l
      induction l with
      | nil => intro acc f; simp
      | cons o l ih => intro acc f; simp only [List.foldl_cons]; rw [ih]; simp; omega
    rw [this]; simp
  by_cases hi : i < ops.size
  · unfold Region.before at h ⊢
    rw [← Array.foldl_toList] at h ⊢
    obtain ⟨pre, h1, h2, h3⟩ := foldl_push_get (fun acc (o : Oper) => o.after.foldl (fun s e => if Region.binds .any e then s ||| 2 ^ e.on ||| acc.getD e.on 0 else s) 0) ops.toList #[] i (by simpa using hi)
    simp only [List.size_toArray, List.length_nil, Nat.zero_add] at h1 h2
    have ho : ops[i]? = some ops[i] := by simp [hi]
    have hol : ops.toList[i]? = some ops[i] := by simp [hi]
    rw [hol] at h1
    refine ⟨ops[i], ho, ?_⟩
    rw [Array.getD_eq_getD_getElem?, h1] at h
    simp only [Option.map_some, Option.getD_some] at h
    rw [← Array.foldl_toList] at h
    have key : ∀ (l : List Edge) (s0 : Nat), (l.foldl (fun s e => if Region.binds .any e then s ||| 2 ^ e.on ||| pre.getD e.on 0 else s) s0).testBit j = true → s0.testBit j = true ∨ ∃ e ∈ l, Region.binds .any e = true ∧ (e.on = j ∨ (pre.getD e.on 0).testBit j = true) := by
      intro l
      induction l with
      | nil => intro s0 h; exact .inl h
      | cons e l ih =>
        intro s0 h
        simp only [List.foldl_cons] at h
        rcases ih _ h with h | ⟨e', he', r⟩
        · split at h
          · rename_i hb
            simp only [Nat.testBit_or, Bool.or_eq_true] at h
            rcases h with (h | h) | h
            · exact .inl h
            · right
              refine ⟨e, by simp, hb, .inl ?_⟩
              rw [Nat.testBit_two_pow] at h
              simpa using h
            · exact .inr ⟨e, by simp, hb, .inr h⟩
          · exact .inl h
        · exact .inr ⟨e', by simp [he'], r⟩
    rcases key _ _ h with h | ⟨e, he, hb, h⟩
    · simp at h
    · refine ⟨e, Array.mem_toList_iff.1 he, hb, ?_⟩
      rcases h with h | h
      · exact .inl h
      · right
        have hlt : e.on < pre.size := by
          rcases Nat.lt_or_ge e.on pre.size with h' | h'
          · exact h'
          · rw [Array.getD_eq_getD_getElem?, Array.getElem?_eq_none h'] at h; simp at h
        refine ⟨?_, by omega⟩
        rw [Array.getD_eq_getD_getElem?, ← h3 e.on hlt, ← Array.getD_eq_getD_getElem?]
        exact h
  · rw [Array.getD_eq_getD_getElem?, Array.getElem?_eq_none (by omega)] at h
    simp at h

/-! ### What is asked of a region's text -/
def tmpsOf (ops : Array Oper) (o : Oper) : List Nat :=
  o.dst.toList ++ (o.op.operands.toList.filterMap fun | .tmp t => some t | _ => none) ++
  (match o.guard with
   | some (g, _) => ((ops[g]?).bind (·.dst)).toList
   | none => [])

def memB (d : Nat) : List Nat → Bool
  | [] => false
  | x :: l => Nat.beq d x || memB d l

theorem memB_iff {d : Nat} : ∀ {l : List Nat}, memB d l = true ↔ d ∈ l
  | [] => by simp [memB]
  | x :: l => by
    simp only [memB, Bool.or_eq_true, memB_iff, List.mem_cons]
    constructor
    · rintro (h | h)
      · exact .inl (Nat.eq_of_beq_eq_true h)
      · exact .inr h
    · rintro (h | h)
      · exact .inl (by subst h; exact Nat.beq_refl _)
      · exact .inr h

def clash (a b : Option Nat × List Nat) : Bool :=
  (match a.1 with
   | some d => memB d b.2
   | none => false) ||
  (match b.1 with
   | some d => memB d a.2
   | none => false)

/-- Each pair of operations of which one writes what the other names is in order. -/
def pairsOk (x : Option Nat × List Nat) (i : Nat) : List ((Option Nat × List Nat) × Nat) → Bool
  | [] => true
  | (y, anc) :: l => (!clash x y || anc.testBit i) && pairsOk x i l

def allPairs : Nat → List ((Option Nat × List Nat) × Nat) → Bool
  | _, [] => true
  | i, (x, _) :: l => pairsOk x i l && allPairs (i + 1) l

def edgesOk : Nat → List Oper → Bool
  | _, [] => true
  | i, o :: l => (o.after.toList.all fun e => !Region.binds .any e || Nat.blt e.on i) && edgesOk (i + 1) l

def drawOK (ops : Array Oper) : Bool :=
  edgesOk 0 ops.toList && allPairs 0 ((ops.toList.map fun o => (o.dst, tmpsOf ops o)).zip (Region.before ops).toList) && (ops.toList.all fun o => match o.op with | .select .. => false | _ => true) && Nat.beq (Region.before ops).size ops.size

def codeOK : Code → Bool
  | .region _ ops d => !d || drawOK ops
  | .seq a b => codeOK a && codeOK b
  | .cond _ a b => codeOK a && codeOK b
  | .block _ b => codeOK b
  | .loop b => codeOK b
  | .scope b => codeOK b
  | _ => true

theorem edgesOk_spec : ∀ {l : List Oper} {i : Nat}, edgesOk i l = true → ∀ k o, l[k]? = some o → ∀ e ∈ o.after, Region.binds .any e = true → e.on < i + k
  | [], i, _, k, o, h, _, _, _ => by simp at h
  | o :: l, i, h, k, o', hk, e, he, hb => by
    simp only [edgesOk, Bool.and_eq_true] at h
    cases k with
    | zero =>
      simp at hk; subst hk
      have := List.all_eq_true.1 h.1 e (Array.mem_toList_iff.2 he)
      simp only [hb, Bool.not_true, Bool.false_or] at this
      exact Nat.le_of_ble_eq_true this
    | succ k =>
      have := edgesOk_spec h.2 k o' (by simpa using hk) e he hb
      omega

theorem pairsOk_spec {x : Option Nat × List Nat} {i : Nat} : ∀ {l : List ((Option Nat × List Nat) × Nat)}, pairsOk x i l = true → ∀ (k : Nat) (y : Option Nat × List Nat) (anc : Nat), l[k]? = some (y, anc) → clash x y = true → anc.testBit i = true
  | [], _, k, y, anc, h, _ => by simp at h
  | (y, anc) :: l, h, k, y', anc', hk, hc => by
    simp only [pairsOk, Bool.and_eq_true] at h
    cases k with
    | zero =>
      simp at hk
      obtain ⟨rfl, rfl⟩ := hk
      have := h.1
      rw [hc] at this
      simpa using this
    | succ k => exact pairsOk_spec h.2 k y' anc' (by simpa using hk) hc

theorem allPairs_spec : ∀ {l : List ((Option Nat × List Nat) × Nat)} {i0 : Nat}, allPairs i0 l = true → ∀ (i j : Nat) (x y : Option Nat × List Nat) (ax ay : Nat), i < j → l[i]? = some (x, ax) → l[j]? = some (y, ay) → clash x y = true → ay.testBit (i0 + i) = true
  | [], _, _, i, j, _, _, _, _, _, h, _, _ => by simp at h
  | (x0, a0) :: l, i0, h, i, j, x, y, ax, ay, hij, hi, hj, hc => by
    simp only [allPairs, Bool.and_eq_true] at h
    obtain ⟨j, rfl⟩ : ∃ j', j = j' + 1 := ⟨j - 1, by omega⟩
    cases i with
    | zero =>
      simp at hi
      obtain ⟨rfl, rfl⟩ := hi
      exact pairsOk_spec h.1 j y ay (by simpa using hj) hc
    | succ i =>
      have := allPairs_spec h.2 i j x y ax ay (by omega) (by simpa using hi) (by simpa using hj) hc
      rwa [show i0 + (i + 1) = i0 + 1 + i by omega]

/-- What a region's text bears. -/
structure DrawOK (ops : Array Oper) : Prop where
  edges : ∀ k o, ops[k]? = some o → ∀ e ∈ o.after, Region.binds .any e = true → e.on < k
  pairs : ∀ i j a b, i < j → ops[i]? = some a → ops[j]? = some b → clash (a.dst, tmpsOf ops a) (b.dst, tmpsOf ops b) = true → ((Region.before ops).getD j 0).testBit i = true
  size : (Region.before ops).size = ops.size
  nosel : ∀ (j : Nat) (o : Oper) cs b, ops[j]? = some o → o.op ≠ .select cs b

theorem drawOK_spec {ops : Array Oper} (h : drawOK ops = true) : DrawOK ops := by
  simp only [drawOK, Bool.and_eq_true] at h
  obtain ⟨⟨⟨h1, h2⟩, h3⟩, h4⟩ := h
  have hsz := Nat.eq_of_beq_eq_true h4
  refine ⟨fun k o hk e he hb => ?_, fun i j a b hij ha hb hc => ?_, hsz, fun j o cs b ho e => ?_⟩
  · have := edgesOk_spec h1 k o (by simpa using hk) e he hb
    omega
  · have hj : j < ops.size := by
      rcases Nat.lt_or_ge j ops.size with h | h
      · exact h
      · rw [Array.getElem?_eq_none h] at hb; cases hb
    have gi : ((ops.toList.map fun o => (o.dst, tmpsOf ops o)).zip (Region.before ops).toList)[i]? = some ((a.dst, tmpsOf ops a), (Region.before ops).getD i 0) := by
      rw [List.getElem?_zip_eq_some]
      refine ⟨by rw [List.getElem?_map]; simp [ha], ?_⟩
      rw [Array.getD_eq_getD_getElem?]
      have : i < (Region.before ops).size := by omega
      simp [this]
    have gj : ((ops.toList.map fun o => (o.dst, tmpsOf ops o)).zip (Region.before ops).toList)[j]? = some ((b.dst, tmpsOf ops b), (Region.before ops).getD j 0) := by
      rw [List.getElem?_zip_eq_some]
      refine ⟨by rw [List.getElem?_map]; simp [hb], ?_⟩
      rw [Array.getD_eq_getD_getElem?]
      have : j < (Region.before ops).size := by omega
      simp [this]
    have := allPairs_spec h2 i j _ _ _ _ hij gi gj hc
    simpa using this
  · have := List.all_eq_true.1 h3 o (List.mem_of_getElem? (by simpa using ho))
    rw [e] at this
    simp at this

/-! ### What an operation's value hangs on: its own operands -/
section
variable {C : Ctx} {ev ev' : Operand → AV} {o : Oper}

theorem pureOp_congr (h : ∀ x ∈ o.op.operands, ev x = ev' x) : pureOp C ev o = pureOp C ev' o := by
  obtain ⟨dst, op, type, pos, after, guard⟩ := o
  have pairs : ∀ ps : Array (Nat × Operand), (∀ x ∈ (ps.toList.map (·.2)).toArray, ev x = ev' x) → (ps.toList.map fun p => (p.1, ev p.2)) = (ps.toList.map fun p => (p.1, ev' p.2)) := fun ps hp =>
    List.map_congr_left fun p hm => by rw [hp p.2 (by simp; exact ⟨p.1, by simpa using hm⟩)]
  have list : ∀ l : List Operand, (∀ x ∈ l, ev x = ev' x) → l.map ev = l.map ev' := fun l hl => List.map_congr_left hl
  cases op <;> simp only [Op.operands] at h <;> simp only [pureOp]
  case build t ps => rw [pairs ps h]
  case makeFunc fn first cap => rw [list first.toList (fun x hx => h x (by simp; left; simpa using hx)), list cap.toList (fun x hx => h x (by simp; right; simpa using hx))]
  case slice t x lo hi mx =>
    have e1 : lo.map ev = lo.map ev' := by cases lo with | none => rfl | some y => simp [h y (by simp)]
    have e2 : hi.map ev = hi.map ev' := by cases hi with | none => rfl | some y => simp [h y (by simp)]
    have e3 : mx.map ev = mx.map ev' := by cases mx with | none => rfl | some y => simp [h y (by simp)]
    rw [h x (by simp), e1, e2, e3]
  case call c =>
    obtain ⟨callee, args, ats⟩ := c
    cases callee <;> simp only [Call.operands] at h ⊢
    case builtin b => rw [list args.toList (fun x hx => h x (by simpa using hx))]
  all_goals (try rw [h _ (by simp)])
  all_goals (try rw [h _ (by simp)])
  all_goals (try rw [h _ (by simp)])

theorem readOp_congr {H : AH} (h : ∀ x ∈ o.op.operands, ev x = ev' x) : readOp C H ev o = readOp C H ev' o := by
  obtain ⟨dst, op, type, pos, after, guard⟩ := o
  cases op <;> simp only [Op.operands] at h <;> simp only [readOp]
  case slice t x lo hi mx =>
    have e1 : lo.map ev = lo.map ev' := by cases lo with | none => rfl | some y => simp [h y (by simp)]
    have e2 : hi.map ev = hi.map ev' := by cases hi with | none => rfl | some y => simp [h y (by simp)]
    have e3 : mx.map ev = mx.map ev' := by cases mx with | none => rfl | some y => simp [h y (by simp)]
    rw [h x (by simp), e1, e2, e3]
  case call c =>
    obtain ⟨callee, ⟨args⟩, ⟨ats⟩⟩ := c
    cases callee <;> simp only [Call.operands] at h ⊢
    case builtin b =>
      cases b <;> simp only
      cases ats <;> cases args <;> simp only
      rw [h _ (by simp)]
  all_goals (try rw [h _ (by simp)])
  all_goals (try rw [h _ (by simp)])

theorem newOp_congr (h : ∀ x ∈ o.op.operands, ev x = ev' x) : newOp C ev o = newOp C ev' o := by
  obtain ⟨dst, op, type, pos, after, guard⟩ := o
  have pairs : ∀ ps : Array (Nat × Operand), (∀ x ∈ (ps.toList.map (·.2)).toArray, ev x = ev' x) → (ps.toList.map fun p => (p.1, ev p.2)) = (ps.toList.map fun p => (p.1, ev' p.2)) := fun ps hp =>
    List.map_congr_left fun p hm => by rw [hp p.2 (by simp; exact ⟨p.1, by simpa using hm⟩)]
  cases op <;> simp only [Op.operands] at h <;> simp only [newOp]
  case buildSlice t n ps => rw [pairs ps h]
  case makeMap t r =>
    cases r with
    | none => rfl
    | some x => simp only; rw [h x (by simp)]
  all_goals (try rw [h _ (by simp)])
  all_goals (try rw [h _ (by simp)])

theorem chainOp_congr {F : Fns} {H : AH} (h : ∀ x ∈ o.op.operands, ev x = ev' x) : chainOp C F H ev o = chainOp C F H ev' o := by
  obtain ⟨dst, op, type, pos, after, guard⟩ := o
  have list : ∀ l : List Operand, (∀ x ∈ l, ev x = ev' x) → l.map ev = l.map ev' := fun l hl => List.map_congr_left hl
  cases op <;> simp only [Op.operands] at h <;> simp only [chainOp]
  case call c =>
    obtain ⟨callee, args, ats⟩ := c
    cases callee <;> simp only [Call.operands] at h ⊢
    case builtin b => rw [list args.toList (fun x hx => h x (by simpa using hx))]; cases b <;> rfl
    case value f => rw [list args.toList (fun x hx => h x (by simp; right; simpa using hx)), h f (by simp)]
  all_goals (try rw [h _ (by simp)])
  all_goals (try rw [h _ (by simp)])
  all_goals (try rw [h _ (by simp)])
end

end Go.AB
