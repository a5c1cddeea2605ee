/- Operations that reckon with what lies in temporaries alone: what they yield, and that the model yields it. -/
import Derived.Test.YtgihociajfgohaaGreatDoorAb3
import Derived.Laws.Strings
namespace Go.AB
set_option linter.unusedSimpArgs false

/-- What a computation that asks for nothing yields. -/
def pur : Sem Value → Option AV
  | .pure v => some (ofVal v)
  | _ => none

theorem pur_ok {s : Sem Value} {a : AV} (h : pur s = some a) (P : Program) (w : World) (ρ : Names) : ∃ v, s.run P w = .ok v w ∧ VR ρ a v := by
  cases s <;> simp only [pur, reduceCtorEq, Option.some.injEq] at h
  subst h
  exact ⟨_, rfl, VR.ofVal _ _⟩

def beqL : List UInt8 → List UInt8 → Bool
  | [], [] => true
  | a :: as, b :: bs => Nat.beq a.toNat b.toNat && beqL as bs
  | _, _ => false

theorem beqL_eq : ∀ a b : List UInt8, beqL a b = decide (a = b)
  | [], [] => by simp [beqL]
  | [], _ :: _ => by simp [beqL]
  | _ :: _, [] => by simp [beqL]
  | a :: as, b :: bs => by
    simp only [beqL, beqL_eq as bs, List.cons.injEq]
    have : Nat.beq a.toNat b.toNat = decide (a = b) := by
      rw [Bool.eq_iff_iff, decide_eq_true_iff]
      exact ⟨fun h => UInt8.toNat_inj.1 (Nat.eq_of_beq_eq_true h), fun h => by subst h; exact Nat.beq_refl _⟩
    rw [this]; simp

def astr (op : BinOp) (a b : List UInt8) : Option AV :=
  match op with
  | .add => bif Nat.ble (a.length + b.length) 9223372036854775807 then some (.str (a ++ b)) else none
  | .eql => some (.bool (beqL a b))
  | .neq => some (.bool !(beqL a b))
  | .lss => some (.bool (Op.bytesLess a b))
  | .leq => some (.bool (Op.bytesLess a b || beqL a b))
  | .gtr => some (.bool !(Op.bytesLess a b || beqL a b))
  | .geq => some (.bool !(Op.bytesLess a b))
  | _ => none

theorem astr_ok {op : BinOp} {a b : List UInt8} {x : AV} (h : astr op a b = some x) (P : Program) (w : World) (ρ : Names) :
    ∃ v, (Op.stringOp op ⟨a.toArray⟩ ⟨b.toArray⟩).run P w = .ok v w ∧ VR ρ x v := by
  have e1 : (ByteArray.mk a.toArray).toList = a := by rw [ByteArray.toList_eq]
  have e2 : (ByteArray.mk b.toArray).toList = b := by rw [ByteArray.toList_eq]
  have eb : (a == b) = beqL a b := by rw [beqL_eq, Bool.eq_iff_iff]; simp
  unfold Op.stringOp
  simp only [e1, e2, eb]
  cases op <;> simp only [astr, reduceCtorEq, Option.some.injEq] at h
  case add =>
    cases hc : Nat.ble (a.length + b.length) 9223372036854775807
    · rw [hc] at h; cases h
    · rw [hc] at h
      simp only [cond_true, Option.some.injEq] at h
      subst h
      have hl := Nat.le_of_ble_eq_true hc
      have hs : ¬ (((ByteArray.mk a.toArray).size + (ByteArray.mk b.toArray).size : Nat) : Int) > IntKind.i64.max := by
        show ¬ (((a.length + b.length : Nat)) : Int) > IntKind.i64.max
        have : IntKind.i64.max = 9223372036854775807 := by decide
        omega
      rw [if_neg hs]
      refine ⟨_, rfl, ?_⟩
      simp only [VR]
      exact congrArg Value.string (ByteArray.ext (by simp))
  all_goals
    subst h
    exact ⟨_, rfl, by simp only [VR]⟩

theorem beqB (a b : List UInt8) : ((ByteArray.mk a.toArray) == ByteArray.mk b.toArray) = decide (a = b) := by
  show (ByteArray.mk a.toArray).beq (ByteArray.mk b.toArray) = _
  unfold ByteArray.beq
  rw [Bool.eq_iff_iff]
  simp

/-- Equality, at types without addresses that differ. -/
def aeqGo (C : Ctx) (E : TypeId → AV → AV → Option Bool) : List Field → List AV → List AV → Option Bool
  | [], _, _ => some true
  | f :: fs, xs, ys =>
    if f.name = "_" then aeqGo C E fs xs ys else
    match apart C f.type xs f.offset, apart C f.type ys f.offset with
    | some a, some b =>
      match E f.type a b with
      | some true => aeqGo C E fs xs ys
      | r => r
    | _, _ => none

def aeq (C : Ctx) : Nat → TypeId → AV → AV → Option Bool
  | 0, _, _, _ => none
  | d + 1, t, x, y =>
    match C.ti t with
    | none => none
    | some i =>
      match i.d, x, y with
      | .bool, .bool a, .bool b => some (a == b)
      | .int _, .int k a, .int k' b => if k = k' then some (a == b) else none
      | .string, .str a, .str b => some (beqL a b)
      | .pointer _, .nilp, .nilp => some true
      | .pointer _, .nilp, .ptr _ _ => some false
      | .pointer _, .ptr _ _, .nilp => some false
      | .interface _, .nili, .nili => some true
      | .interface _, .nili, .iface _ _ => some false
      | .interface _, .iface _ _, .nili => some false
      | .slice _, .nils, .nils => some true
      | .slice _, .slice _ _ _ _ _, .nils => some false
      | .slice _, .nils, .slice _ _ _ _ _ => some false
      | .slice _, .empty _, .nils => some false
      | .map _ _, .nilm, .nilm => some true
      | .map _ _, .map _, .nilm => some false
      | .map _ _, .nilm, .map _ => some false
      | .func _ _ _, .nilf, .nilf => some true
      | .func _ _ _, .func _ _ _, .nilf => some false
      | .struct fields, .agg xs, .agg ys => bif i.plainEq then aeqGo C (aeq C d) fields.toList xs ys else none
      | _, _, _ => none

theorem plainEq_held {C : Ctx} (hC : C.OK) {t : TypeId} {i : TI} (hi : C.ti t = some i) (h : i.plainEq = true) : C.P.stoodInHeld t = false ∧ C.P.eqGuardType C.P.depth t = false := by
  have := hC.ti t i hi
  unfold tiOf at this
  split at this
  · cases this; simpa using h
  · cases this

set_option maxHeartbeats 1000000 in
mutual
theorem aeq_ok {C : Ctx} (hC : C.OK) {ρ : Names} (w : World) (D : Nat) : ∀ (d : Nat) (t : TypeId) (x y : AV) (u v : Value) (r : Bool), VR ρ x u → VR ρ y v → aeq C d t x y = some r →
    (Op.equalIn (D + d) t u v).run C.P w = .ok r w
  | 0, t, x, y, u, v, r, _, _, h => by simp [aeq] at h
  | d + 1, t, x, y, u, v, r, hx, hy, h => by
    unfold aeq at h
    split at h
    · cases h
    · rename_i i hi
      rw [show D + (d + 1) = (D + d) + 1 by omega]
      unfold Op.equalIn
      simp only [Sem.run_bind, hC.run_und hi, Result.andThen_ok]
      split at h <;> rename_i hd <;> (try simp only [VR] at hx hy)
      · subst hx; subst hy; simp only [hd]; simp at h; subst h; rfl
      · subst hx; subst hy; simp only [hd]
        split at h
        · subst_vars; simp at h; subst h; simp
        · cases h
      · subst hx; subst hy; simp only [hd]; simp at h; subst h
        rename_i a b
        simp only [Sem.run_pure]
        congr 1
        rw [beqL_eq, beqB]
      · subst hx; subst hy; simp only [hd]; simp at h; subst h; rfl
      · obtain ⟨s, _, rfl⟩ := hy; subst hx; simp only [hd]; simp at h; subst h; rfl
      · obtain ⟨s, _, rfl⟩ := hx; subst hy; simp only [hd]; simp at h; subst h; rfl
      · subst hx; subst hy; simp only [hd]; simp at h; subst h; rfl
      · obtain ⟨z, rfl, _⟩ := hy; subst hx; simp only [hd]; simp at h; subst h; rfl
      · obtain ⟨z, rfl, _⟩ := hx; subst hy; simp only [hd]; simp at h; subst h; rfl
      · subst hx; subst hy; simp only [hd]; simp at h; subst h; rfl
      · obtain ⟨s, cc, _, rfl, _⟩ := hx; subst hy; simp only [hd]; simp at h; subst h; rfl
      · obtain ⟨s, cc, _, rfl, _⟩ := hy; subst hx; simp only [hd]; simp at h; subst h; rfl
      · obtain ⟨s, off, cc, _, rfl⟩ := hx; subst hy; simp only [hd]; simp at h; subst h; rfl
      · subst hx; subst hy; simp only [hd]; simp at h; subst h; rfl
      · obtain ⟨s, _, rfl⟩ := hx; subst hy; simp only [hd]; simp at h; subst h; rfl
      · obtain ⟨s, _, rfl⟩ := hy; subst hx; simp only [hd]; simp at h; subst h; rfl
      · subst hx; subst hy; simp only [hd]; simp at h; subst h; rfl
      · obtain ⟨us, vs, rfl, _⟩ := hx; subst hy; simp only [hd]; simp at h; subst h; rfl
      · obtain ⟨us, rfl, hus⟩ := hx
        obtain ⟨vs, rfl, hvs⟩ := hy
        cases hp : i.plainEq
        · rw [hp] at h; cases h
        · rw [hp] at h
          simp only [cond_true] at h
          obtain ⟨hh, hh2⟩ := plainEq_held hC hi hp
          clear hh2
          rename_i fields xs ys
          have := aeq_go_ok hC w D d fields.toList xs ys us vs r hus hvs h
          simp only [hd, Sem.run_bind, run_program, Result.andThen_ok, hh, Bool.false_eq_true, if_false]
          rw [← Array.forIn_toList]
          rw [Sem.run_bind] at this
          exact this
      · cases h
theorem aeq_go_ok {C : Ctx} (hC : C.OK) {ρ : Names} (w : World) (D : Nat) : ∀ (d : Nat) (fs : List Field) (xs ys : List AV) (us vs : List Value) (r : Bool), VRs ρ xs us → VRs ρ ys vs → aeqGo C (aeq C d) fs xs ys = some r →
    ((do
      for f in fs do
        if f.name ≠ "_" then
          if !(← Op.equalIn (D + d) f.type (← part f.type ⟨us⟩ f.offset) (← part f.type ⟨vs⟩ f.offset)) then return false
      pure true) : Sem Bool).run C.P w = .ok r w
  | d, [], xs, ys, us, vs, r, _, _, h => by
    simp [aeqGo] at h; subst h; simp
  | d, f :: fs, xs, ys, us, vs, r, hx, hy, h => by
    simp only [aeqGo] at h
    split at h
    · rename_i hn
      have ih := aeq_go_ok hC w D d fs xs ys us vs r hx hy h
      simp only [List.forIn_cons, hn, ne_eq, not_true_eq_false, if_false, Sem.run_bind, Sem.run_pure, Result.andThen_ok] at ih ⊢
      exact ih
    · rename_i hn
      split at h
      · rename_i a b ha hb
        obtain ⟨u, hu, hur⟩ := apart_ok hC hx ha w
        obtain ⟨v, hv, hvr⟩ := apart_ok hC hy hb w
        split at h
        · rename_i he
          have h1 := aeq_ok hC w D d f.type a b u v true hur hvr he
          have ih := aeq_go_ok hC w D d fs xs ys us vs r hx hy h
          simp only [List.forIn_cons, hn, ne_eq, not_false_eq_true, if_true, Sem.run_bind, hu, hv, h1, Sem.run_pure, Result.andThen_ok, Bool.not_true, Bool.false_eq_true, if_false] at ih ⊢
          exact ih
        · rename_i he
          cases r with
          | true => exact absurd h he
          | false =>
            have h1 := aeq_ok hC w D d f.type a b u v false hur hvr h
            simp [List.forIn_cons, hn, hu, hv, h1]
      · cases h
end

end Go.AB
