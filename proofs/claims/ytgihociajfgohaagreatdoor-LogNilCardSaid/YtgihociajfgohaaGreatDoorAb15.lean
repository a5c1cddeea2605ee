/- The evaluator: operations, regions without a draw. -/
import Derived.Test.YtgihociajfgohaaGreatDoorAb14
namespace Go.AB
set_option linter.unusedSimpArgs false

/-- What is called: functions with a body, and others. -/
structure Fns where
  call : FuncId → List AV → AH → Option (AV × AH)
  ext : FuncId → List AV → AH → Option (AV × AH)

structure Fns.OK (C : Ctx) (N G : Nat) (F : Fns) : Prop where
  call : ∀ f args H r H', F.call f args H = some (r, H') → (∃ g, C.P.funcs[f]? = some g ∧ g.body.isSome = true ∧ (g.name == "runtime.NumGoroutine") = false) ∧
    ∀ ρ w vs, R N G ρ H w → VRs ρ args vs → Calls C.P f ⟨vs⟩ w fun e w' => ∃ v ρ', e = .returned v ∧ VR ρ' r v ∧ R N G ρ' H' w' ∧ Fr ρ H w ρ' H' w'
  ext : ∀ f args H r H', F.ext f args H = some (r, H') → ∀ ρ w vs, R N G ρ H w → VRs ρ args vs →
    ∃ v w' ρ', (callFunc f ⟨vs⟩).run C.P w = .ok (.value v) w' ∧ VR ρ' r v ∧ R N G ρ' H' w' ∧ Fr ρ H w ρ' H' w'

def chainOp (C : Ctx) (F : Fns) (H : AH) (ev : Operand → AV) (o : Oper) : Option (AV × AH) :=
  match o.op with
  | .store t x a => (astore C H t (ev x) (ev a)).map fun H' => (.tuple [], H')
  | .mapUpdate t m k x => (amapUpdate C H t (ev m) (ev k) (ev x)).map fun H' => (.tuple [], H')
  | .insert t m k x => (amapUpdate C H t (ev m) (ev k) (ev x)).map fun H' => (.tuple [], H')
  | .range t x => arange C H t (ev x)
  | .next it s => anext H (ev it) s
  | .call c => match c.callee with
    | .builtin .append => aappend C H c.argTypes.toList (c.args.toList.map ev)
    | .builtin .copy => acopy C H c.argTypes.toList (c.args.toList.map ev)
    | .builtin .clear => aclear C H c.argTypes.toList (c.args.toList.map ev)
    | .builtin .delete => adelete C H c.argTypes.toList (c.args.toList.map ev)
    | .value f => match ev f with
      | .func f fs cs => match F.call f (fs ++ c.args.toList.map ev ++ cs) H with
        | some r => some r
        | none => F.ext f (fs ++ c.args.toList.map ev ++ cs) H
      | _ => none
    | _ => none
  | _ => none

/-- Behind an operation: its value in its temporary. -/
def OpWp (P : Program) (N G : Nat) (ρ : Names) (H : AH) (w : World) (o : Oper) (a : Act) (r : AV) (H' : AH) : Prop :=
  ∀ (next : Act → World → Prop) (Q : Exit → Act → World → Prop), (∀ v w' ρ', VR ρ' r v → R N G ρ' H' w' → Fr ρ H w ρ' H' w' → next (a.put o.dst v) w') → o.wp P a w next Q

theorem opWp_value {P : Program} {N G : Nat} {ρ ρ' : Names} {H H' : AH} {w w' : World} {o : Oper} {a : Act} {r : AV} {v : Value} (hrun : (execOp a.eval o).run P w = .ok (.value v) w') (hv : VR ρ' r v) (hR : R N G ρ' H' w') (hF : Fr ρ H w ρ' H' w') :
    OpWp P N G ρ H w o a r H' := by
  intro next Q h
  unfold Oper.wp
  rw [hrun]
  exact h v w' ρ' hv hR hF

theorem opWp_skip {P : Program} {N G : Nat} {ρ ρ' : Names} {H H' : AH} {w w' : World} {o : Oper} {a : Act} (hrun : (execOp a.eval o).run P w = .ok .skip w') (hR : R N G ρ' H' w') (hF : Fr ρ H w ρ' H' w') :
    OpWp P N G ρ H w o a (.tuple []) H' := by
  intro next Q h
  unfold Oper.wp
  rw [hrun]
  exact h undef w' ρ' (by simp only [VR, undef]; exact ⟨[], rfl, VRs.nil⟩) hR hF

theorem chainOp_ok {C : Ctx} (hC : C.OK) {N G : Nat} {F : Fns} (hF : F.OK C N G) {ρ : Names} {H H' : AH} {w : World} (hR : R N G ρ H w) {ev : Operand → AV} {a : Act} (hev : VEv ρ ev a.eval) {o : Oper} {r : AV} (h : chainOp C F H ev o = some (r, H')) :
    OpWp C.P N G ρ H w o a r H' := by
  obtain ⟨dst, op, type, pos, after, guard⟩ := o
  cases op <;> simp only [chainOp, reduceCtorEq] at h
  case store t x b =>
    simp only [Option.map_eq_some_iff, Prod.mk.injEq] at h
    obtain ⟨H1, h, rfl, rfl⟩ := h
    obtain ⟨u, w', ρ', h1, _, h3, h4⟩ := astore_ok hC hR (hev x) (hev b) h
    exact opWp_skip (by simp only [execOp, Sem.run_bind, h1, Result.andThen_ok, Sem.run_pure]) h3 h4
  case mapUpdate t m k x =>
    simp only [Option.map_eq_some_iff, Prod.mk.injEq] at h
    obtain ⟨H1, h, rfl, rfl⟩ := h
    obtain ⟨u, w', ρ', h1, _, h3, h4⟩ := amapUpdate_ok hC hR (hev m) (hev k) (hev x) h
    exact opWp_skip (by simp only [execOp, Sem.run_bind, h1, Result.andThen_ok, Sem.run_pure]) h3 h4
  case insert t m k x =>
    simp only [Option.map_eq_some_iff, Prod.mk.injEq] at h
    obtain ⟨H1, h, rfl, rfl⟩ := h
    obtain ⟨u, w', ρ', h1, _, h3, h4⟩ := amapUpdate_ok hC hR (hev m) (hev k) (hev x) h
    exact opWp_skip (by simp only [execOp, Sem.run_bind, h1, Result.andThen_ok, Sem.run_pure]) h3 h4
  case range t x =>
    obtain ⟨u, w', ρ', h1, h2, h3, h4⟩ := arange_ok hC hR (hev x) h
    exact opWp_value (by simp only [execOp, Sem.run_bind, h1, Result.andThen_ok, Sem.run_pure]) h2 h3 h4
  case next it s =>
    obtain ⟨u, w', ρ', h1, h2, h3, h4⟩ := anext_ok (P := C.P) hR (hev it) h type
    exact opWp_value (by simp only [execOp, Sem.run_bind, h1, Result.andThen_ok, Sem.run_pure]) h2 h3 h4
  case call c =>
    obtain ⟨callee, ⟨args⟩, ⟨ats⟩⟩ := c
    have hargs : (Array.mk args).map a.eval = ⟨args.map a.eval⟩ := by apply Array.ext'; simp
    cases callee <;> simp only [reduceCtorEq] at h
    case value f =>
      have hf := hev f
      split at h
      · rename_i g fs cs hg
        rw [hg] at hf
        simp only [VR] at hf
        obtain ⟨us, vs, hfv, hus, hvs⟩ := hf
        have hall := (hus.append (hev.list args)).append hvs
        have hexec : (execOp a.eval { dst, op := .call { callee := .value f, args := ⟨args⟩, argTypes := ⟨ats⟩ }, type, pos, after, guard }).run C.P w = (callFunc g ⟨us ++ args.map a.eval ++ vs⟩).run C.P w := by
          simp only [execOp, resolve, hargs, Deferred.ofValue, hfv, Sem.run_bind, Sem.run_pure, Result.andThen_ok, invoke]
          simp
        split at h
        · rename_i q hq
          simp only [Option.some.injEq] at h
          subst h
          obtain ⟨⟨fn, hfn, hbody, hname⟩, hcall⟩ := hF.call _ _ _ _ _ hq
          intro next Q hn
          unfold Oper.wp
          rw [hexec]
          have : (callFunc g ⟨us ++ args.map a.eval ++ vs⟩).run C.P w = .ok (.enter g ⟨us ++ args.map a.eval ++ vs⟩) w := by
            unfold callFunc
            have hb : fn.body.isNone = false := by
              cases hb : fn.body with
              | none => rw [hb] at hbody; cases hbody
              | some _ => rfl
            simp only [Sem.run_bind, run_program, Result.andThen_ok, hfn, hname, Bool.false_eq_true, if_false, hb, Sem.run_pure]
          rw [this, Oper.upon_enter]
          refine (hcall ρ w _ hR hall).mono ?_
          rintro e w' ⟨v, ρ', rfl, hv, hR', hF'⟩
          exact hn v w' ρ' hv hR' hF'
        · obtain ⟨v, w', ρ', h1, h2, h3, h4⟩ := hF.ext _ _ _ _ _ h ρ w _ hR hall
          exact opWp_value (hexec.trans h1) h2 h3 h4
      · cases h
    case builtin b =>
      have run : ∀ x : Sem Value, (∀ cs : Array Bool, builtin b ⟨ats⟩ type cs ⟨args.map a.eval⟩ = (do pure (.value (← x)))) →
          Did C.P N G ρ H w x (fun ρ' v => VR ρ' r v) H' → OpWp C.P N G ρ H w { dst, op := .call { callee := .builtin b, args := ⟨args⟩, argTypes := ⟨ats⟩ }, type, pos, after, guard } a r H' := by
        rintro x hx ⟨v, w', ρ', h1, h2, h3, h4⟩
        refine opWp_value (v := v) ?_ h2 h3 h4
        simp only [execOp, resolve, hargs, Sem.run_bind, Sem.run_pure, Result.andThen_ok, invoke]
        rw [hx]
        simp only [Sem.run_bind, h1, Result.andThen_ok, Sem.run_pure]
      cases b <;> simp only [reduceCtorEq] at h
      case append => exact run _ (fun _ => rfl) (aappend_ok hC hR (hev.list args) h)
      case copy => exact run _ (fun _ => rfl) (acopy_ok hC hR (hev.list args) h)
      case clear => exact run _ (fun _ => rfl) (aclear_ok hC hR (hev.list args) h)
      case delete => exact run _ (fun _ => rfl) (adelete_ok hC hR (hev.list args) h)

/-! ### Temporaries -/
structure AR (ρ : Names) (T : PT AV) (n : Nat) (a : Act) : Prop where
  defers : a.defers = []
  size : a.tmps.size = n
  vals : ∀ d v, T.get d = some v → ∃ x, a.tmps[d]? = some x ∧ VR ρ v x

def aeval (G : Nat) (T : PT AV) : Operand → AV
  | .tmp t => match T.get t with
    | some v => v
    | none => .junk
  | .const v => ofVal v
  | .global g => bif Nat.blt g G then .ptr g 0 else .junk
  | .func f => .func f [] []

theorem AR.eval {N G : Nat} {ρ : Names} {H : AH} {w : World} (hR : R N G ρ H w) {T : PT AV} {n : Nat} {a : Act} (h : AR ρ T n a) : VEv ρ (aeval G T) a.eval := by
  intro x
  cases x with
  | tmp t =>
    simp only [aeval, Act.eval]
    cases ht : T.get t with
    | none => simp [VR]
    | some v =>
      obtain ⟨y, hy, hr⟩ := h.vals t v ht
      simp only [Array.getD_eq_getD_getElem?, hy, Option.getD_some]
      exact hr
  | const v => exact VR.ofVal ρ v
  | global g =>
    simp only [aeval, Act.eval]
    cases hg : Nat.blt g G
    · simp [VR]
    · obtain ⟨room, hs⟩ := hR.glob g (Nat.le_of_ble_eq_true hg)
      simp only [cond_true, VR]
      exact ⟨_, hs, rfl⟩
  | func f => simp only [aeval, Act.eval, VR]; exact ⟨[], [], rfl, VRs.nil, VRs.nil⟩

theorem AR.ext {ρ ρ' : Names} (he : Ext ρ ρ') {T : PT AV} {n : Nat} {a : Act} (h : AR ρ T n a) : AR ρ' T n a :=
  ⟨h.defers, h.size, fun d v hd => let ⟨x, h1, h2⟩ := h.vals d v hd; ⟨x, h1, h2.ext he⟩⟩

def aput (n : Nat) (T : PT AV) (dst : Option Tmp) (v : AV) : PT AV :=
  match dst with
  | none => T
  | some d => bif Nat.blt d n then T.set d v else T

theorem AR.put {ρ : Names} {T : PT AV} {n : Nat} {a : Act} (h : AR ρ T n a) {v : AV} {x : Value} (hv : VR ρ v x) (dst : Option Tmp) : AR ρ (aput n T dst v) n (a.put dst x) := by
  cases dst with
  | none => exact h
  | some d =>
    simp only [aput, Act.put]
    cases hd : Nat.blt d n
    · have hge : n ≤ d := by
        rcases Nat.lt_or_ge d n with h | h
        · have : Nat.blt d n = true := Nat.ble_eq_true_of_le h
          rw [this] at hd; cases hd
        · exact h
      simp only [cond_false]
      refine ⟨h.defers, by simp [h.size], fun k v hk => ?_⟩
      obtain ⟨y, hy, hr⟩ := h.vals k v hk
      refine ⟨y, ?_, hr⟩
      show (a.tmps.setIfInBounds d x)[k]? = some y
      rw [Array.setIfInBounds, dif_neg (by rw [h.size]; omega)]; exact hy
    · have hlt : d < n := Nat.le_of_ble_eq_true hd
      simp only [cond_true]
      refine ⟨h.defers, by simp [h.size], fun k u hk => ?_⟩
      rw [PT.get_set] at hk
      show ∃ y, (a.tmps.setIfInBounds d x)[k]? = some y ∧ VR ρ u y
      split at hk
      · rename_i e
        subst e
        simp only [Option.some.injEq] at hk
        subst hk
        exact ⟨x, by simp [h.size, hlt], hv⟩
      · rename_i hne
        obtain ⟨y, hy, hr⟩ := h.vals k u hk
        exact ⟨y, by rw [Array.getElem?_setIfInBounds_ne (fun e => hne e.symm)]; exact hy, hr⟩

/-- Is the operation wanted? none: it is not known. -/
def awanted (ops : Array Oper) (T : PT AV) (o : Oper) : Option Bool :=
  match o.guard with
  | none => some true
  | some (j, want) => match (ops[j]?).bind (·.dst) with
    | none => some false
    | some d => match T.get d with
      | some (.bool b) => some (b == want)
      | some (.tuple []) => some false
      | _ => none

theorem awanted_ok {ρ : Names} {T : PT AV} {n : Nat} {a : Act} (h : AR ρ T n a) {ops : Array Oper} {o : Oper} {b : Bool} (hb : awanted ops T o = some b) : Region.wanted o (yielded ops a.tmps) = b := by
  unfold awanted at hb
  unfold Region.wanted
  split at hb
  · rename_i hg; rw [hg]; simpa using hb
  · rename_i j want hg
    rw [hg]
    simp only
    unfold yielded
    split at hb
    · rename_i hd
      rw [hd]
      simp at hb; subst hb; rfl
    · rename_i d hd
      rw [hd]
      simp only [Option.bind_some]
      split at hb
      · rename_i c hc
        obtain ⟨x, hx, hr⟩ := h.vals d _ hc
        simp only [VR] at hr; subst hr
        rw [hx]
        simp only [Option.some.injEq] at hb
        subst hb
        cases c <;> cases want <;> rfl
      · rename_i hc
        obtain ⟨x, hx, hr⟩ := h.vals d _ hc
        simp only [VR, VRs] at hr
        obtain ⟨vs, rfl, rfl⟩ := hr
        rw [hx]
        simp at hb; subst hb; rfl
      · cases hb

/-! ### One operation, whatever its kind -/
def evOp (C : Ctx) (F : Fns) (H : AH) (ev : Operand → AV) (o : Oper) : Option (AV × AH) :=
  match pureOp C ev o with
  | some v => some (v, H)
  | none => match readOp C H ev o with
    | some v => some (v, H)
    | none => match newOp C ev o with
      | some (ao, mk) => some (mk H.next, H.alloc ao)
      | none => chainOp C F H ev o

theorem evOp_ok {C : Ctx} (hC : C.OK) {N G : Nat} {F : Fns} (hF : F.OK C N G) {ρ : Names} {H H' : AH} {w : World} (hR : R N G ρ H w) {ev : Operand → AV} {a : Act} (hev : VEv ρ ev a.eval) {o : Oper} {r : AV} (h : evOp C F H ev o = some (r, H')) :
    OpWp C.P N G ρ H w o a r H' := by
  unfold evOp at h
  split at h
  · rename_i v hv
    simp only [Option.some.injEq, Prod.mk.injEq] at h
    obtain ⟨rfl, rfl⟩ := h
    obtain ⟨u, hu, hr⟩ := pureOp_ok hC hev hv w
    exact opWp_value hu hr hR (Fr.refl _ _ _)
  · split at h
    · rename_i v hv
      simp only [Option.some.injEq, Prod.mk.injEq] at h
      obtain ⟨rfl, rfl⟩ := h
      obtain ⟨u, w', hu, hr, hR', hF'⟩ := readOp_ok hC hR hev hv
      exact opWp_value hu hr hR' hF'
    · split at h
      · rename_i ao mk hn
        simp only [Option.some.injEq, Prod.mk.injEq] at h
        obtain ⟨rfl, rfl⟩ := h
        obtain ⟨v, ob, d, s, hm⟩ := newOp_ok hC (w := w) hev hn H.next (hR.fresh _ (Nat.le_refl _))
        obtain ⟨h1, h2⟩ := hm.alloc hR
        exact opWp_value hm.run hm.val h1 h2
      · exact chainOp_ok hC hF hR hev h

/-! ### A region in the order of the text -/
def evOps (C : Ctx) (F : Fns) (G n : Nat) (ops : Array Oper) : List Oper → PT AV → AH → Option (PT AV × AH)
  | [], T, H => some (T, H)
  | o :: rest, T, H =>
    match awanted ops T o with
    | none => none
    | some false => evOps C F G n ops rest (aput n T o.dst (.tuple [])) H
    | some true =>
      match evOp C F H (aeval G T) o with
      | none => none
      | some (v, H') => evOps C F G n ops rest (aput n T o.dst v) H'

theorem evOps_ok {C : Ctx} (hC : C.OK) {N G : Nat} {F : Fns} (hF : F.OK C N G) {n : Nat} {ops : Array Oper} : ∀ {l : List Oper} {T T' : PT AV} {H H' : AH}, evOps C F G n ops l T H = some (T', H') → ∀ {ρ : Names} {w : World} {a : Act}, R N G ρ H w → AR ρ T n a →
    ∀ (Q : Exit → Act → World → Prop), (∀ ρ' a' w', AR ρ' T' n a' → R N G ρ' H' w' → Fr ρ H w ρ' H' w' → Q .normal a' w') → wpList C.P ops Q l a w
  | [], T, T', H, H', h, ρ, w, a, hR, hA, Q, hQ => by
    simp only [evOps, Option.some.injEq, Prod.mk.injEq] at h
    obtain ⟨rfl, rfl⟩ := h
    exact hQ ρ a w hA hR (Fr.refl _ _ _)
  | o :: rest, T, T', H, H', h, ρ, w, a, hR, hA, Q, hQ => by
    simp only [evOps] at h
    split at h
    · cases h
    · rename_i hw
      have hw' := awanted_ok hA hw
      unfold wpList
      rw [hw']
      simp only [Bool.false_eq_true, if_false]
      exact evOps_ok hC hF h hR (hA.put (by simp only [VR, undef]; exact ⟨[], rfl, VRs.nil⟩) o.dst) Q hQ
    · rename_i hw
      have hw' := awanted_ok hA hw
      split at h
      · cases h
      · rename_i v H1 hop
        unfold wpList
        rw [hw']
        simp only [if_true]
        refine .inl (evOp_ok hC hF hR (hA.eval hR) hop _ _ fun x w1 ρ1 hx hR1 hF1 => ?_)
        exact evOps_ok hC hF h hR1 ((hA.ext (hR.ext hF1)).put hx o.dst) Q fun ρ2 a2 w2 hA2 hR2 hF2 => hQ ρ2 a2 w2 hA2 hR2 (hF1.trans hF2)

end Go.AB
