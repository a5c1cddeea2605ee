/- Code, functions, calls: the evaluator is right. -/
import Derived.Test.YtgihociajfgohaaGreatDoorAb20
import Derived.LoopN
namespace Go.AB
set_option linter.unusedSimpArgs false

def AEx.to : AEx → Exit
  | .normal => .normal
  | .exit id => .exit id
  | .ret => .ret

theorem region_wp {C : Ctx} (hC : C.OK) {N G : Nat} {F : Fns} (hF : F.OK C N G) {n : Nat} {id : Nat} {ops : Array Oper} {draw : Bool} (hD : codeOK (.region id ops draw) = true) {T T' : PT AV} {H H' : AH}
    (h : (bif draw then evDraw C F G n ops T H else evOps C F G n ops ops.toList T H) = some (T', H')) {ρ : Names} {w : World} {a : Act} (hR : R N G ρ H w) (hA : AR ρ T n a)
    (Q : Exit → Act → World → Prop) (hQ : ∀ ρ' a' w', AR ρ' T' n a' → R N G ρ' H' w' → Fr ρ H w ρ' H' w' → Q .normal a' w') : (Code.region id ops draw).wp C.P Q a w := by
  cases draw with
  | true =>
    simp only [codeOK, Bool.not_true, Bool.false_or] at hD
    exact evDraw_ok hC hF (drawOK_spec hD) h hR hA Q hQ
  | false =>
    exact wp_region_list (evOps_ok hC hF h hR hA Q hQ)

theorem evC_ok {C : Ctx} (hC : C.OK) {N G : Nat} {F : Fns} (hF : F.OK C N G) {n : Nat} : ∀ (fuel : Nat),
    (∀ (c : Code) (T T' : PT AV) (H H' : AH) (e : AEx), codeOK c = true → evC C F G n fuel c T H = some (e, T', H') → ∀ (ρ : Names) (w : World) (a : Act), R N G ρ H w → AR ρ T n a →
      ∀ (Q : Exit → Act → World → Prop), (∀ ρ' a' w', AR ρ' T' n a' → R N G ρ' H' w' → Fr ρ H w ρ' H' w' → Q e.to a' w') → c.wp C.P Q a w) ∧
    (∀ (c : Code) (T T' : PT AV) (H H' : AH) (e : AEx), codeOK c = true → evC C F G n fuel (.loop c) T H = some (e, T', H') → ∀ (ρ : Names) (w : World) (a : Act), R N G ρ H w → AR ρ T n a →
      ∀ (Q : Exit → Act → World → Prop), (∀ ρ' a' w', AR ρ' T' n a' → R N G ρ' H' w' → Fr ρ H w ρ' H' w' → Q e.to a' w') → Code.rounds C.P c Q fuel a w)
  | 0 => ⟨fun c T T' H H' e _ h => by simp [evC] at h, fun c T T' H H' e _ h => by simp [evC] at h⟩
  | fuel + 1 => by
    obtain ⟨ih, ihl⟩ := evC_ok hC hF (n := n) fuel
    have loop : ∀ (c : Code) (T T' : PT AV) (H H' : AH) (e : AEx), codeOK c = true → evC C F G n (fuel + 1) (.loop c) T H = some (e, T', H') → ∀ (ρ : Names) (w : World) (a : Act), R N G ρ H w → AR ρ T n a →
        ∀ (Q : Exit → Act → World → Prop), (∀ ρ' a' w', AR ρ' T' n a' → R N G ρ' H' w' → Fr ρ H w ρ' H' w' → Q e.to a' w') → Code.rounds C.P c Q (fuel + 1) a w := by
      intro c T T' H H' e hc h ρ w a hR hA Q hQ
      simp only [evC] at h
      rw [rounds_succ]
      split at h
      · rename_i T1 H1 h1
        refine ih c T T1 H H1 .normal hc h1 ρ w a hR hA _ fun ρ1 a1 w1 hA1 hR1 hF1 => ?_
        exact ihl c T1 T' H1 H' e hc h ρ1 w1 a1 hR1 hA1 Q fun ρ2 a2 w2 hA2 hR2 hF2 => hQ ρ2 a2 w2 hA2 hR2 (hF1.trans hF2)
      · rename_i hne
        refine ih c T T' H H' e hc h ρ w a hR hA _ fun ρ1 a1 w1 hA1 hR1 hF1 => ?_
        have := hQ ρ1 a1 w1 hA1 hR1 hF1
        cases e with
        | normal => exact absurd h (hne _ _)
        | exit i => exact this
        | ret => exact this
    refine ⟨fun c T T' H H' e hc h ρ w a hR hA Q hQ => ?_, loop⟩
    cases c with
    | skip =>
      simp only [evC, Option.some.injEq, Prod.mk.injEq] at h
      obtain ⟨rfl, rfl, rfl⟩ := h
      exact wp_skip (hQ ρ a w hA hR (Fr.refl _ _ _))
    | label l =>
      simp only [evC, Option.some.injEq, Prod.mk.injEq] at h
      obtain ⟨rfl, rfl, rfl⟩ := h
      exact wp_label (hQ ρ a w hA hR (Fr.refl _ _ _))
    | exit id =>
      simp only [evC, Option.some.injEq, Prod.mk.injEq] at h
      obtain ⟨rfl, rfl, rfl⟩ := h
      exact wp_exit (hQ ρ a w hA hR (Fr.refl _ _ _))
    | ret =>
      simp only [evC, Option.some.injEq, Prod.mk.injEq] at h
      obtain ⟨rfl, rfl, rfl⟩ := h
      exact wp_ret (hQ ρ a w hA hR (Fr.refl _ _ _))
    | seq x y =>
      simp only [codeOK, Bool.and_eq_true] at hc
      simp only [evC] at h
      refine wp_seq ?_
      split at h
      · rename_i T1 H1 h1
        refine ih x T T1 H H1 .normal hc.1 h1 ρ w a hR hA _ fun ρ1 a1 w1 hA1 hR1 hF1 => ?_
        exact ih y T1 T' H1 H' e hc.2 h ρ1 w1 a1 hR1 hA1 Q fun ρ2 a2 w2 hA2 hR2 hF2 => hQ ρ2 a2 w2 hA2 hR2 (hF1.trans hF2)
      · rename_i hne
        refine ih x T T' H H' e hc.1 h ρ w a hR hA _ fun ρ1 a1 w1 hA1 hR1 hF1 => ?_
        have := hQ ρ1 a1 w1 hA1 hR1 hF1
        cases e with
        | normal => exact absurd h (hne _ _)
        | exit i => exact this
        | ret => exact this
    | cond b x y =>
      simp only [codeOK, Bool.and_eq_true] at hc
      simp only [evC] at h
      have hev := hA.eval hR b
      split at h
      · rename_i hb
        rw [hb] at hev
        simp only [VR] at hev
        exact wp_cond_true hev (ih x T T' H H' e hc.1 h ρ w a hR hA Q hQ)
      · rename_i hb
        rw [hb] at hev
        simp only [VR] at hev
        exact wp_cond_false hev (ih y T T' H H' e hc.2 h ρ w a hR hA Q hQ)
      · cases h
    | block id b =>
      simp only [codeOK] at hc
      simp only [evC] at h
      refine wp_block ?_
      split at h
      · rename_i i T1 H1 h1
        refine ih b T T1 H H1 (.exit i) hc h1 ρ w a hR hA _ fun ρ1 a1 w1 hA1 hR1 hF1 => ?_
        simp only [AEx.to, Exit.inBlock]
        split at h
        · rename_i hi
          simp only [Option.some.injEq, Prod.mk.injEq] at h
          obtain ⟨rfl, rfl, rfl⟩ := h
          rw [if_pos hi]
          exact hQ ρ1 a1 w1 hA1 hR1 hF1
        · rename_i hi
          simp only [Option.some.injEq, Prod.mk.injEq] at h
          obtain ⟨rfl, rfl, rfl⟩ := h
          rw [if_neg hi]
          exact hQ ρ1 a1 w1 hA1 hR1 hF1
      · rename_i hne
        refine ih b T T' H H' e hc h ρ w a hR hA _ fun ρ1 a1 w1 hA1 hR1 hF1 => ?_
        have := hQ ρ1 a1 w1 hA1 hR1 hF1
        cases e with
        | normal => exact this
        | exit i => exact absurd h (hne _ _ _)
        | ret => exact this
    | loop b =>
      exact wp_loop_rounds (fuel + 1) (loop b T T' H H' e hc h ρ w a hR hA Q hQ)
    | scope b =>
      simp only [codeOK] at hc
      simp only [evC] at h
      refine wp_scope_straight (ih b T T' H H' e hc h ρ w a hR hA _ fun ρ1 a1 w1 hA1 hR1 hF1 => ?_)
      have := hQ ρ1 a1 w1 hA1 hR1 hF1
      cases e <;> exact this
    | region id ops draw =>
      simp only [evC] at h
      split at h
      · rename_i T1 H1 h1
        simp only [Option.some.injEq, Prod.mk.injEq] at h
        obtain ⟨rfl, rfl, rfl⟩ := h
        exact region_wp hC hF hc h1 hR hA Q hQ
      · cases h
    | rangeFunc f ps as b => simp [evC] at h
    | goto l => simp [evC] at h
    | refuse s => simp [evC] at h

theorem aresult_ok {C : Ctx} (hC : C.OK) {N G : Nat} {ρ : Names} {H : AH} {w : World} {T : PT AV} {n : Nat} {a : Act} (hR : R N G ρ H w) (hA : AR ρ T n a) {f : ResultVar → Sem Value}
    (hf1 : ∀ t, f (.tmp t) = pure (a.tmps.getD t undef)) (hf2 : ∀ b t, f (.cell b t) = (do loadVar t (← asAddr (a.tmps.getD b undef)))) {x : ResultVar} {r : AV} (h : aresult C T H x = some r) :
    ∃ u, (f x).run C.P w = .ok u w ∧ VR ρ r u := by
  cases x with
  | tmp t =>
    obtain ⟨y, hy, hr⟩ := hA.vals t r h
    exact ⟨y, by simp [hf1, Array.getD_eq_getD_getElem?, hy], hr⟩
  | cell b t =>
    simp only [aresult] at h
    split at h
    · rename_i p hp
      obtain ⟨y, hy, hr⟩ := hA.vals b p hp
      obtain ⟨u, hu, hru⟩ := aload_ok hC hR hr h
      refine ⟨u, ?_, hru⟩
      rw [hf2]
      simp only [Array.getD_eq_getD_getElem?, hy, Option.getD_some]
      have hp : ∃ bb k, p = .ptr bb k := by
        unfold aload at h
        split at h
        · exact ⟨_, _, rfl⟩
        · cases h
      obtain ⟨bb, k, rfl⟩ := hp
      simp only [VR] at hr
      obtain ⟨sg, _, rfl⟩ := hr
      exact hu
    · cases h

theorem aresults_ok {C : Ctx} (hC : C.OK) {N G : Nat} {ρ : Names} {H : AH} {w : World} {T : PT AV} {n : Nat} {a : Act} (hR : R N G ρ H w) (hA : AR ρ T n a) {f : ResultVar → Sem Value}
    (hf1 : ∀ t, f (.tmp t) = pure (a.tmps.getD t undef)) (hf2 : ∀ b t, f (.cell b t) = (do loadVar t (← asAddr (a.tmps.getD b undef)))) : ∀ {l : List ResultVar} {as : List AV}, aresults C T H l = some as →
    ∃ vs, (l.mapM f).run C.P w = .ok vs w ∧ VRs ρ as vs
  | [], as, h => by
    simp only [aresults, Option.some.injEq] at h
    subst h
    exact ⟨[], by simp, VRs.nil⟩
  | x :: l, as, h => by
    simp only [aresults] at h
    split at h
    · rename_i r rs h1 h2
      simp only [Option.some.injEq] at h
      subst h
      obtain ⟨u, hu, hr⟩ := aresult_ok hC hR hA hf1 hf2 h1
      obtain ⟨us, hus, hrs⟩ := aresults_ok hC hR hA hf1 hf2 h2
      refine ⟨u :: us, ?_, VRs.cons hr hrs⟩
      simp only [List.mapM_cons, Sem.run_bind, hu, Result.andThen_ok, hus, Sem.run_pure]
    · cases h

theorem results_gen {C : Ctx} (hC : C.OK) {N G : Nat} {ρ : Names} {H : AH} {w : World} {T : PT AV} {n : Nat} {a : Act} (hR : R N G ρ H w) (hA : AR ρ T n a) {g : Func} {as : List AV} (h : aresults C T H g.results.toList = some as) (f : ResultVar → Sem Value)
    (hf1 : ∀ t, f (.tmp t) = pure (a.tmps.getD t undef)) (hf2 : ∀ b t, f (.cell b t) = (do loadVar t (← asAddr (a.tmps.getD b undef)))) :
    ∃ v, (do let vs ← g.results.mapM f; pure (if h : vs.size = 1 then vs[0] else .tuple vs) : Sem Value).run C.P w = .ok v w ∧ VR ρ (one as) v := by
  obtain ⟨vs, h1, h2⟩ := aresults_ok hC hR hA hf1 hf2 h
  rw [Array.mapM_eq_mapM_toList]
  simp only [Sem.run_bind, map_eq_pure_bind, h1, Result.andThen_ok, Sem.run_pure]
  refine ⟨_, rfl, ?_⟩
  cases as with
  | nil =>
    simp only [VRs] at h2
    subst h2
    simp only [one, VR]
    exact ⟨[], by simp, VRs.nil⟩
  | cons b bs =>
    simp only [VRs] at h2
    obtain ⟨v, vs', rfl, hv, hvs⟩ := h2
    cases bs with
    | nil =>
      simp only [VRs] at hvs
      subst hvs
      simpa [one] using hv
    | cons c cs =>
      have hl := hvs.length
      have hne : ¬ ((v :: vs').toArray.size = 1) := by simp only [List.size_toArray, List.length_cons, hl]; omega
      rw [dif_neg hne]
      simp only [one, VR]
      exact ⟨_, rfl, VRs.cons hv hvs⟩

theorem results_ok {C : Ctx} (hC : C.OK) {N G : Nat} {ρ : Names} {H : AH} {w : World} {T : PT AV} {n : Nat} {a : Act} (hR : R N G ρ H w) (hA : AR ρ T n a) {g : Func} {as : List AV} (h : aresults C T H g.results.toList = some as) :
    ∃ v, (results g a.tmps).run C.P w = .ok v w ∧ VR ρ (one as) v := by
  unfold results
  exact results_gen hC hR hA h _ (fun _ => rfl) (fun _ _ => rfl)

/-- Every body's regions are such as the evaluator asks. -/
def CodesOK (C : Ctx) : Prop := ∀ f g c, C.fn f = some g → g.body = some c → codeOK c = true

theorem evFn_ok {C : Ctx} (hC : C.OK) (hK : CodesOK C) {N G : Nat} {F : Fns} (hF : F.OK C N G) {fuel : Nat} {f : FuncId} {g : Func} (hg : C.fn f = some g) {args : List AV} {H H' : AH} {r : AV} (h : evFn C F G fuel g args H = some (r, H')) {ρ : Names} {w : World} {vs : List Value} (hR : R N G ρ H w) (hv : VRs ρ args vs) :
    Calls C.P f ⟨vs⟩ w fun e w' => ∃ v ρ', e = .returned v ∧ VR ρ' r v ∧ R N G ρ' H' w' ∧ Fr ρ H w ρ' H' w' := by
  unfold evFn at h
  split at h
  · cases h
  · rename_i c hb
    cases hl : Nat.ble args.length g.ntmps
    · rw [hl] at h; cases h
    · rw [hl] at h
      have hlen : args.length ≤ g.ntmps := Nat.le_of_ble_eq_true hl
      have hvl := hv.length
      simp only [cond_true] at h
      have hA : AR ρ (PT.ofList .leaf 0 args) g.ntmps { tmps := (⟨vs⟩ : Array Value) ++ Array.replicate (g.ntmps - (⟨vs⟩ : Array Value).size) undef, defers := [] } := by
        refine ⟨rfl, by simp; omega, fun d v hd => ?_⟩
        rw [PT.get_ofList0] at hd
        obtain ⟨x, hx, hr⟩ := hv.get d v hd
        refine ⟨x, ?_, hr⟩
        have hlt : d < vs.length := (List.getElem?_eq_some_iff.1 hx).1
        simp only [Array.getElem?_append]
        rw [if_pos (by simpa using hlt)]
        simpa using hx
      have main : ∀ (e : AEx) (T' : PT AV) (H1 : AH), evC C F G g.ntmps fuel c (PT.ofList .leaf 0 args) H = some (e, T', H1) → (∀ i, e ≠ .exit i) → (aresults C T' H1 g.results.toList).map (fun as => (one as, H1)) = some (r, H') →
          Calls C.P f ⟨vs⟩ w fun e w' => ∃ v ρ', e = .returned v ∧ VR ρ' r v ∧ R N G ρ' H' w' ∧ Fr ρ H w ρ' H' w' := by
        intro e T' H1 he hne hres
        simp only [Option.map_eq_some_iff, Prod.mk.injEq] at hres
        obtain ⟨as, has, rfl, rfl⟩ := hres
        refine calls_of_wp (hC.fn f g hg) hb ((evC_ok hC hF (n := g.ntmps) fuel).1 c _ T' H H1 e (hK f g c hg hb) he ρ w _ hR hA _ fun ρ' a' w' hA' hR' hF' => ?_)
        obtain ⟨v, h1, h2⟩ := results_ok hC hR' hA' has
        have hd := hA'.defers
        cases e with
        | normal => exact ⟨hd, v, h1, v, ρ', rfl, h2, hR', hF'⟩
        | ret => exact ⟨hd, v, h1, v, ρ', rfl, h2, hR', hF'⟩
        | exit i => exact absurd rfl (hne i)
      split at h
      · cases h
      · rename_i e T' H1 hne he
        exact main e T' H1 he (fun i hi => hne i hi) h
      · cases h

/-- What is known of functions and of those without a body. -/
structure KnownOK (C : Ctx) (N G : Nat) (known : FuncId → Option (List AV → AH → Option (AV × AH))) (ext : FuncId → List AV → AH → Option (AV × AH)) : Prop where
  call : ∀ f k, known f = some k → (∃ g, C.P.funcs[f]? = some g ∧ g.body.isSome = true ∧ (g.name == "runtime.NumGoroutine") = false) ∧
    ∀ args H r H', k args H = some (r, H') → ∀ ρ w vs, R N G ρ H w → VRs ρ args vs → Calls C.P f ⟨vs⟩ w fun e w' => ∃ v ρ', e = .returned v ∧ VR ρ' r v ∧ R N G ρ' H' w' ∧ Fr ρ H w ρ' H' w'
  ext : ∀ f args H r H', ext f args H = some (r, H') → ∀ ρ w vs, R N G ρ H w → VRs ρ args vs →
    ∃ v w' ρ', (callFunc f ⟨vs⟩).run C.P w = .ok (.value v) w' ∧ VR ρ' r v ∧ R N G ρ' H' w' ∧ Fr ρ H w ρ' H' w'

theorem evCall_fns {C : Ctx} (hC : C.OK) (hK : CodesOK C) {N G : Nat} {known : FuncId → Option (List AV → AH → Option (AV × AH))} {ext : FuncId → List AV → AH → Option (AV × AH)} (hn : KnownOK C N G known ext) {fuel : Nat} : ∀ d, (Fns.mk (evCall C known ext G fuel d) ext).OK C N G
  | 0 => ⟨fun f args H r H' h => by simp [evCall] at h, hn.ext⟩
  | d + 1 => by
    have ih := evCall_fns hC hK hn (fuel := fuel) d
    refine ⟨fun f args H r H' h => ?_, hn.ext⟩
    simp only [evCall] at h
    split at h
    · rename_i k hk
      obtain ⟨h1, h2⟩ := hn.call f k hk
      exact ⟨h1, h2 args H r H' h⟩
    · split at h
      · cases h
      · rename_i g hg
        cases ho : fnOk g
        · rw [ho] at h; cases h
        · rw [ho] at h
          simp only [cond_true] at h
          unfold fnOk at ho
          simp only [Bool.and_eq_true, Bool.not_eq_true'] at ho
          exact ⟨⟨g, hC.fn f g hg, ho.1, ho.2⟩, fun ρ w vs hR hv => evFn_ok hC hK ih hg h hR hv⟩

/-- **A call, run by the evaluator.** -/
theorem evCall_ok {C : Ctx} (hC : C.OK) (hK : CodesOK C) {N G : Nat} {known : FuncId → Option (List AV → AH → Option (AV × AH))} {ext : FuncId → List AV → AH → Option (AV × AH)} (hn : KnownOK C N G known ext) {fuel d : Nat} {f : FuncId} {args : List AV} {H H' : AH} {r : AV}
    (h : evCall C known ext G fuel d f args H = some (r, H')) {ρ : Names} {w : World} {vs : List Value} (hR : R N G ρ H w) (hv : VRs ρ args vs) :
    Calls C.P f ⟨vs⟩ w fun e w' => ∃ v ρ', e = .returned v ∧ VR ρ' r v ∧ R N G ρ' H' w' ∧ Fr ρ H w ρ' H' w' :=
  ((evCall_fns hC hK hn d).call f args H r H' h).2 ρ w vs hR hv

end Go.AB
