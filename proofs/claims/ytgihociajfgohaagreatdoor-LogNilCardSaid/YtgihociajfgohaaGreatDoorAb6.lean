/- Operations that reckon with what lies in temporaries alone: the rest, and all together. -/
import Derived.Test.YtgihociajfgohaaGreatDoorAb5
namespace Go.AB
set_option linter.unusedSimpArgs false

def isC : Operand → Bool
  | .const _ => true
  | _ => false

def eqRes (op : BinOp) (b : Option Bool) : Option AV :=
  match op with
  | .eql => b.map .bool
  | .neq => b.map fun b => .bool !b
  | _ => none

def abin (C : Ctx) (op : BinOp) (t : TypeId) (cst : Bool) (x y : AV) : Option AV :=
  match x, y with
  | .int k a, .int k' b => pur (binOp op t (.int k a) (.int k' b))
  | .str a, .str b => astr op a b
  | .nili, .nili => bif cst then eqRes op (aeq C 8 t .nili .nili) else none
  | x, y => eqRes op (aeq C 8 t x y)

theorem run_equal {C : Ctx} (hC : C.OK) {ρ : Names} (w : World) {t : TypeId} {x y : AV} {u v : Value} {r : Bool} (hx : VR ρ x u) (hy : VR ρ y v) (h : aeq C 8 t x y = some r) : (Op.equal t u v).run C.P w = .ok r w := by
  unfold Op.equal
  have : Op.maxDepth = 9992 + 8 := rfl
  rw [this]
  exact aeq_ok hC w 9992 8 t x y u v r hx hy h

/-- What is compared has no address in it: no guard. -/
theorem aeq_agg {C : Ctx} (hC : C.OK) {t : TypeId} {xs ys : List AV} {d : Nat} {r : Bool} (h : aeq C (d + 1) t (.agg xs) (.agg ys) = some r) : C.P.eqGuardType C.P.depth t = false := by
  unfold aeq at h
  split at h
  · cases h
  · rename_i i hi
    split at h <;> rename_i e1 e2 <;> first
      | (cases e1; done)
      | (cases hp : i.plainEq
         · rw [hp] at h; cases h
         · exact (plainEq_held hC hi hp).2)
      | (cases h; done)

theorem aeq_notJunk {C : Ctx} {t : TypeId} {x y : AV} {d : Nat} {r : Bool} (h : aeq C (d + 1) t x y = some r) : x ≠ .junk ∧ y ≠ .junk := by
  unfold aeq at h
  split at h
  · cases h
  · split at h <;> first
      | (cases h; done)
      | exact ⟨(by intro e; cases e), (by intro e; cases e)⟩

theorem VR.nili_inv {ρ : Names} {x : AV} {v : Value} (h : VR ρ x v) (hx : x ≠ .junk) (hv : v = .nilIface) : x = .nili := by
  subst hv
  cases x <;> simp only [VR] at h <;> first
    | rfl
    | (exact absurd rfl hx)
    | (cases h; done)
    | (obtain ⟨_, h⟩ := h; cases h.1; done)
    | (obtain ⟨_, _, h⟩ := h; cases h; done)
    | (obtain ⟨_, _, _, h, _⟩ := h; cases h; done)
    | (obtain ⟨_, _, h, _⟩ := h; cases h; done)
    | (obtain ⟨_, _, _, _, h⟩ := h; cases h; done)

theorem VR.agg_inv {ρ : Names} {x : AV} {cs : Array Value} (h : VR ρ x (.agg cs)) (hx : x ≠ .junk) : ∃ as, x = .agg as := by
  cases x <;> simp only [VR] at h <;> first
    | exact ⟨_, rfl⟩
    | (exact absurd rfl hx)
    | (cases h; done)
    | (obtain ⟨_, h⟩ := h; cases h.1; done)
    | (obtain ⟨_, _, h⟩ := h; cases h; done)
    | (obtain ⟨_, _, _, h, _⟩ := h; cases h; done)
    | (obtain ⟨_, _, h, _⟩ := h; cases h; done)
    | (obtain ⟨_, _, _, _, h⟩ := h; cases h; done)

theorem eqGuard_run {P : Program} {w : World} {op : BinOp} {t : TypeId} {xo yo : Operand} {u v : Value} (h1 : u = .nilIface → v = .nilIface → (isC xo || isC yo) = true)
    (h2 : ∀ a b, u = .agg a → v = .agg b → P.eqGuardType P.depth t = false) : (eqGuard op t xo yo u v).run P w = .ok () w := by
  unfold eqGuard
  cases op
  case eql =>
    simp only [Bool.not_true, Bool.false_eq_true, if_false]
    split
    · have hx : (isC xo = true) ∨ (isC yo = true) := by simpa using h1 rfl rfl
      rw [if_pos]
      · rfl
      · cases xo <;> cases yo <;> simp_all [isC]
    · rename_i a b
      have := h2 _ _ rfl rfl
      simp only [Sem.run_bind, run_program, Result.andThen_ok, this]
      rfl
    · rfl
  case neq =>
    simp only [Bool.not_true, Bool.false_eq_true, if_false]
    split
    · have hx : (isC xo = true) ∨ (isC yo = true) := by simpa using h1 rfl rfl
      rw [if_pos]
      · rfl
      · cases xo <;> cases yo <;> simp_all [isC]
    · rename_i a b
      have := h2 _ _ rfl rfl
      simp only [Sem.run_bind, run_program, Result.andThen_ok, this]
      rfl
    · rfl
  all_goals rfl

theorem VR.int_inv {ρ : Names} {x : AV} {k : IntKind} {n : Int} (h : VR ρ x (.int k n)) (hx : x ≠ .junk) : x = .int k n := by
  cases x <;> simp only [VR] at h <;> first
    | (cases h; rfl)
    | (exact absurd rfl hx)
    | (cases h; done)
    | (obtain ⟨_, h⟩ := h; cases h.1; done)
    | (obtain ⟨_, _, h⟩ := h; cases h; done)
    | (obtain ⟨_, _, _, h, _⟩ := h; cases h; done)
    | (obtain ⟨_, _, h, _⟩ := h; cases h; done)
    | (obtain ⟨_, _, _, _, h⟩ := h; cases h; done)

theorem VR.str_inv {ρ : Names} {x : AV} {s : ByteArray} (h : VR ρ x (.string s)) (hx : x ≠ .junk) : ∃ l, x = .str l := by
  cases x <;> simp only [VR] at h <;> first
    | exact ⟨_, rfl⟩
    | (exact absurd rfl hx)
    | (cases h; done)
    | (obtain ⟨_, h⟩ := h; cases h.1; done)
    | (obtain ⟨_, _, h⟩ := h; cases h; done)
    | (obtain ⟨_, _, _, h, _⟩ := h; cases h; done)
    | (obtain ⟨_, _, h, _⟩ := h; cases h; done)
    | (obtain ⟨_, _, _, _, h⟩ := h; cases h; done)

theorem VR.float_inv {ρ : Names} {x : AV} {k : FloatKind} {n : Nat} (h : VR ρ x (.float k n)) (hx : x ≠ .junk) : False := by
  cases x <;> simp only [VR] at h <;> first
    | (exact absurd rfl hx)
    | (cases h; done)
    | (obtain ⟨_, h⟩ := h; cases h.1; done)
    | (obtain ⟨_, _, h⟩ := h; cases h; done)
    | (obtain ⟨_, _, _, h, _⟩ := h; cases h; done)
    | (obtain ⟨_, _, h, _⟩ := h; cases h; done)
    | (obtain ⟨_, _, _, _, h⟩ := h; cases h; done)

theorem VR.complex_inv {ρ : Names} {x : AV} {k : FloatKind} {n m : Nat} (h : VR ρ x (.complex k n m)) (hx : x ≠ .junk) : False := by
  cases x <;> simp only [VR] at h <;> first
    | (exact absurd rfl hx)
    | (cases h; done)
    | (obtain ⟨_, h⟩ := h; cases h.1; done)
    | (obtain ⟨_, _, h⟩ := h; cases h; done)
    | (obtain ⟨_, _, _, h, _⟩ := h; cases h; done)
    | (obtain ⟨_, _, h, _⟩ := h; cases h; done)
    | (obtain ⟨_, _, _, _, h⟩ := h; cases h; done)

theorem binOp_eql {t : TypeId} {u v : Value} (hi : ∀ k a k' b, u = .int k a → v = .int k' b → False) (hs : ∀ a b, u = .string a → v = .string b → False)
    (hf : ∀ k a, u = .float k a → False) (hc : ∀ k a b, u = .complex k a b → False) : binOp .eql t u v = (do pure (.bool (← Op.equal t u v))) ∧ binOp .neq t u v = (do pure (.bool (!(← Op.equal t u v)))) := by
  cases u
  case int k a => cases v <;> first | exact (hi _ _ _ _ rfl rfl).elim | exact ⟨rfl, rfl⟩
  case string a => cases v <;> first | exact (hs _ _ rfl rfl).elim | exact ⟨rfl, rfl⟩
  case float k a => exact (hf _ _ rfl).elim
  case complex k a b => exact (hc _ _ _ rfl).elim
  all_goals exact ⟨rfl, rfl⟩

theorem abin_ok {C : Ctx} (hC : C.OK) {ρ : Names} (w : World) {op : BinOp} {t : TypeId} {xo yo : Operand} {x y r : AV} {u v : Value} (hx : VR ρ x u) (hy : VR ρ y v) (h : abin C op t (isC xo || isC yo) x y = some r) :
    ∃ z, (do eqGuard op t xo yo u v; binOp op t u v).run C.P w = .ok z w ∧ VR ρ r z := by
  have Q : ∀ b, aeq C 8 t x y = some b → (x = .nili → y = .nili → (isC xo || isC yo) = true) → (∀ k a k' c, x = .int k a → y = .int k' c → False) → (∀ a c, x = .str a → y = .str c → False) →
      (do eqGuard .eql t xo yo u v; binOp .eql t u v).run C.P w = .ok (.bool b) w ∧ (do eqGuard .neq t xo yo u v; binOp .neq t u v).run C.P w = .ok (.bool !b) w := by
    intro b hb hn hi hs
    have hq := run_equal hC w hx hy hb
    have hj := aeq_notJunk hb
    have he : ∀ op, (eqGuard op t xo yo u v).run C.P w = .ok () w := fun op => by
      refine eqGuard_run (fun e1 e2 => hn (hx.nili_inv hj.1 e1) (hy.nili_inv hj.2 e2)) fun a c e1 e2 => ?_
      subst e1; subst e2
      obtain ⟨as, rfl⟩ := hx.agg_inv hj.1
      obtain ⟨cs, rfl⟩ := hy.agg_inv hj.2
      exact aeq_agg hC hb
    obtain ⟨b1, b2⟩ := binOp_eql (t := t) (u := u) (v := v) (fun k a k' c e1 e2 => by subst e1; subst e2; exact hi _ _ _ _ (hx.int_inv hj.1) (hy.int_inv hj.2))
      (fun a c e1 e2 => by subst e1; subst e2; obtain ⟨_, e1⟩ := hx.str_inv hj.1; obtain ⟨_, e2⟩ := hy.str_inv hj.2; exact hs _ _ e1 e2)
      (fun k a e => by subst e; exact hx.float_inv hj.1) (fun k a c e => by subst e; exact hx.complex_inv hj.1)
    constructor
    · simp only [Sem.run_bind, he, Result.andThen_ok, b1, hq, Sem.run_pure]
    · simp only [Sem.run_bind, he, Result.andThen_ok, b2, hq, Sem.run_pure]
  have F : (x = .nili → y = .nili → (isC xo || isC yo) = true) → (∀ k a k' c, x = .int k a → y = .int k' c → False) → (∀ a c, x = .str a → y = .str c → False) →
      eqRes op (aeq C 8 t x y) = some r →
      ∃ z, (do eqGuard op t xo yo u v; binOp op t u v).run C.P w = .ok z w ∧ VR ρ r z := by
    intro hn hi hs h
    cases op <;> simp only [eqRes, reduceCtorEq, Option.map_eq_some_iff] at h
    case eql => obtain ⟨b, hb, rfl⟩ := h; exact ⟨_, (Q b hb hn hi hs).1, by simp only [VR]⟩
    case neq => obtain ⟨b, hb, rfl⟩ := h; exact ⟨_, (Q b hb hn hi hs).2, by simp only [VR]⟩
  unfold abin at h
  split at h
  · rename_i k a k' b
    simp only [VR] at hx hy
    subst hx; subst hy
    obtain ⟨z, hz, hr⟩ := pur_ok h C.P w ρ
    refine ⟨z, ?_, hr⟩
    have he : (eqGuard op t xo yo (.int k a) (.int k' b)).run C.P w = .ok () w := eqGuard_run (fun e => by cases e) (fun _ _ e => by cases e)
    simp only [Sem.run_bind, he, Result.andThen_ok, hz]
  · rename_i a b
    simp only [VR] at hx hy
    subst hx; subst hy
    obtain ⟨z, hz, hr⟩ := astr_ok h C.P w ρ
    refine ⟨z, ?_, hr⟩
    have he : (eqGuard op t xo yo (.string ⟨a.toArray⟩) (.string ⟨b.toArray⟩)).run C.P w = .ok () w := eqGuard_run (fun e => by cases e) (fun _ _ e => by cases e)
    have hb : binOp op t (.string ⟨a.toArray⟩) (.string ⟨b.toArray⟩) = Op.stringOp op ⟨a.toArray⟩ ⟨b.toArray⟩ := by cases op <;> rfl
    simp only [Sem.run_bind, he, Result.andThen_ok, hb, hz]
  · cases hc : (isC xo || isC yo)
    · rw [hc] at h; cases h
    · rw [hc] at h
      simp only [cond_true] at h
      exact F (fun _ _ => hc) (fun _ _ _ _ e => by cases e) (fun _ _ e => by cases e) h
  · rename_i h1 h2 h3
    exact F (fun e1 e2 => (h3 e1 e2).elim) (fun _ _ _ _ e1 e2 => (h1 _ _ _ _ e1 e2).elim) (fun _ _ e1 e2 => (h2 _ _ e1 e2).elim) h

end Go.AB
