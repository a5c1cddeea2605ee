/- Own abstract heaps and operations: functions, calls, sorted keys; no condition. -/
import Derived.Test.YtapokkpdgfpokaaGreatHeap3
import Derived.LoopN
import Derived.KernelRfl
import Derived.Laws.Externs
import Derived.Maps.Own
import Derived.Sort.KeysCollected
import Derived.Laws.AppendOwn
import Derived.RowKit3
import Derived.WalkKit
import Derived.ProofKit
import GoSem.Extern.MathBitsCarry
set_option linter.unusedSimpArgs false
set_option linter.unusedVariables false
namespace Go.AB

def AEx.to : AEx → Exit
  | .normal => .normal
  | .exit id => .exit id
  | .ret => .ret

theorem region_wp {C : Ctx} (hC : C.OK) {N : Bd} {G : Nat} {F : Fns} (hF : F.OK C N G) {n : Nat} {id : Nat} {ops : Array Oper} {draw : Bool} (hD : codeOK (.region id ops draw) = true) {T T' : PT AV} {H H' : AH}
    (h : (bif draw then evDraw C F G n ops T H else evOps C F G n ops ops.toList T H) = some (T', H')) {ρ : Names} {w : World} {a : Act} (hR : R N G ρ H w) (hA : AR ρ T n a)
    (Q : Exit → Act → World → Prop) (hQ : ∀ ρ' a' w', AR ρ' T' n a' → R N G ρ' H' w' → Fr ρ H w ρ' H' w' → Q .normal a' w') : (Code.region id ops draw).wp C.P Q a w := by
  cases draw with
  | true =>
    simp only [codeOK, Bool.not_true, Bool.false_or] at hD
    exact evDraw_ok hC hF (drawOK_spec hD) h hR hA Q hQ
  | false =>
    exact wp_region_list (evOps_ok hC hF h hR hA Q hQ)

theorem evC_ok {C : Ctx} (hC : C.OK) {N : Bd} {G : Nat} {F : Fns} (hF : F.OK C N G) {n : Nat} : ∀ (fuel : Nat),
    (∀ (c : Code) (T T' : PT AV) (H H' : AH) (e : AEx), codeOK c = true → evC C F G n fuel c T H = some (e, T', H') → ∀ (ρ : Names) (w : World) (a : Act), R N G ρ H w → AR ρ T n a →
      ∀ (Q : Exit → Act → World → Prop), (∀ ρ' a' w', AR ρ' T' n a' → R N G ρ' H' w' → Fr ρ H w ρ' H' w' → Q e.to a' w') → c.wp C.P Q a w) ∧
    (∀ (c : Code) (T T' : PT AV) (H H' : AH) (e : AEx), codeOK c = true → evC C F G n fuel (.loop c) T H = some (e, T', H') → ∀ (ρ : Names) (w : World) (a : Act), R N G ρ H w → AR ρ T n a →
      ∀ (Q : Exit → Act → World → Prop), (∀ ρ' a' w', AR ρ' T' n a' → R N G ρ' H' w' → Fr ρ H w ρ' H' w' → Q e.to a' w') → Code.rounds C.P c Q fuel a w)
  | 0 => ⟨fun c T T' H H' e _ h => by simp [evC] at h, fun c T T' H H' e _ h => by simp [evC] at h⟩
  | fuel + 1 => by
    obtain ⟨ih, ihl⟩ := evC_ok hC hF (n := n) fuel
    have loop : ∀ (c : Code) (T T' : PT AV) (H H' : AH) (e : AEx), codeOK c = true → evC C F G n (fuel + 1) (.loop c) T H = some (e, T', H') → ∀ (ρ : Names) (w : World) (a : Act), R N G ρ H w → AR ρ T n a →
        ∀ (Q : Exit → Act → World → Prop), (∀ ρ' a' w', AR ρ' T' n a' → R N G ρ' H' w' → Fr ρ H w ρ' H' w' → Q e.to a' w') → Code.rounds C.P c Q (fuel + 1) a w := by
      intro c T T' H H' e hc h ρ w a hR hA Q hQ
      simp only [evC] at h
      rw [rounds_succ]
      split at h
      · rename_i T1 H1 h1
        refine ih c T T1 H H1 .normal hc h1 ρ w a hR hA _ fun ρ1 a1 w1 hA1 hR1 hF1 => ?_
        exact ihl c T1 T' H1 H' e hc h ρ1 w1 a1 hR1 hA1 Q fun ρ2 a2 w2 hA2 hR2 hF2 => hQ ρ2 a2 w2 hA2 hR2 (hF1.trans hF2)
      · rename_i hne
        refine ih c T T' H H' e hc h ρ w a hR hA _ fun ρ1 a1 w1 hA1 hR1 hF1 => ?_
        have := hQ ρ1 a1 w1 hA1 hR1 hF1
        cases e with
        | normal => exact absurd h (hne _ _)
        | exit i => exact this
        | ret => exact this
    refine ⟨fun c T T' H H' e hc h ρ w a hR hA Q hQ => ?_, loop⟩
    cases c with
    | skip =>
      simp only [evC, Option.some.injEq, Prod.mk.injEq] at h
      obtain ⟨rfl, rfl, rfl⟩ := h
      exact wp_skip (hQ ρ a w hA hR (Fr.refl _ _ _))
    | label l =>
      simp only [evC, Option.some.injEq, Prod.mk.injEq] at h
      obtain ⟨rfl, rfl, rfl⟩ := h
      exact wp_label (hQ ρ a w hA hR (Fr.refl _ _ _))
    | exit id =>
      simp only [evC, Option.some.injEq, Prod.mk.injEq] at h
      obtain ⟨rfl, rfl, rfl⟩ := h
      exact wp_exit (hQ ρ a w hA hR (Fr.refl _ _ _))
    | ret =>
      simp only [evC, Option.some.injEq, Prod.mk.injEq] at h
      obtain ⟨rfl, rfl, rfl⟩ := h
      exact wp_ret (hQ ρ a w hA hR (Fr.refl _ _ _))
    | seq x y =>
      simp only [codeOK, Bool.and_eq_true] at hc
      simp only [evC] at h
      refine wp_seq ?_
      split at h
      · rename_i T1 H1 h1
        refine ih x T T1 H H1 .normal hc.1 h1 ρ w a hR hA _ fun ρ1 a1 w1 hA1 hR1 hF1 => ?_
        exact ih y T1 T' H1 H' e hc.2 h ρ1 w1 a1 hR1 hA1 Q fun ρ2 a2 w2 hA2 hR2 hF2 => hQ ρ2 a2 w2 hA2 hR2 (hF1.trans hF2)
      · rename_i hne
        refine ih x T T' H H' e hc.1 h ρ w a hR hA _ fun ρ1 a1 w1 hA1 hR1 hF1 => ?_
        have := hQ ρ1 a1 w1 hA1 hR1 hF1
        cases e with
        | normal => exact absurd h (hne _ _)
        | exit i => exact this
        | ret => exact this
    | cond b x y =>
      simp only [codeOK, Bool.and_eq_true] at hc
      simp only [evC] at h
      have hev := hA.eval hR b
      split at h
      · rename_i hb
        rw [hb] at hev
        simp only [VR] at hev
        exact wp_cond_true hev (ih x T T' H H' e hc.1 h ρ w a hR hA Q hQ)
      · rename_i hb
        rw [hb] at hev
        simp only [VR] at hev
        exact wp_cond_false hev (ih y T T' H H' e hc.2 h ρ w a hR hA Q hQ)
      · cases h
    | block id b =>
      simp only [codeOK] at hc
      simp only [evC] at h
      refine wp_block ?_
      split at h
      · rename_i i T1 H1 h1
        refine ih b T T1 H H1 (.exit i) hc h1 ρ w a hR hA _ fun ρ1 a1 w1 hA1 hR1 hF1 => ?_
        simp only [AEx.to, Exit.inBlock]
        split at h
        · rename_i hi
          simp only [Option.some.injEq, Prod.mk.injEq] at h
          obtain ⟨rfl, rfl, rfl⟩ := h
          rw [if_pos hi]
          exact hQ ρ1 a1 w1 hA1 hR1 hF1
        · rename_i hi
          simp only [Option.some.injEq, Prod.mk.injEq] at h
          obtain ⟨rfl, rfl, rfl⟩ := h
          rw [if_neg hi]
          exact hQ ρ1 a1 w1 hA1 hR1 hF1
      · rename_i hne
        refine ih b T T' H H' e hc h ρ w a hR hA _ fun ρ1 a1 w1 hA1 hR1 hF1 => ?_
        have := hQ ρ1 a1 w1 hA1 hR1 hF1
        cases e with
        | normal => exact this
        | exit i => exact absurd h (hne _ _ _)
        | ret => exact this
    | loop b =>
      exact wp_loop_rounds (fuel + 1) (loop b T T' H H' e hc h ρ w a hR hA Q hQ)
    | scope b =>
      simp only [codeOK] at hc
      simp only [evC] at h
      refine wp_scope_straight (ih b T T' H H' e hc h ρ w a hR hA _ fun ρ1 a1 w1 hA1 hR1 hF1 => ?_)
      have := hQ ρ1 a1 w1 hA1 hR1 hF1
      cases e <;> exact this
    | region id ops draw =>
      simp only [evC] at h
      split at h
      · rename_i T1 H1 h1
        simp only [Option.some.injEq, Prod.mk.injEq] at h
        obtain ⟨rfl, rfl, rfl⟩ := h
        exact region_wp hC hF hc h1 hR hA Q hQ
      · cases h
    | rangeFunc f ps as b => simp [evC] at h
    | goto l => simp [evC] at h
    | refuse s => simp [evC] at h

theorem aresult_ok {C : Ctx} (hC : C.OK) {N : Bd} {G : Nat} {ρ : Names} {H : AH} {w : World} {T : PT AV} {n : Nat} {a : Act} (hR : R N G ρ H w) (hA : AR ρ T n a) {f : ResultVar → Sem Value}
    (hf1 : ∀ t, f (.tmp t) = pure (a.tmps.getD t undef)) (hf2 : ∀ b t, f (.cell b t) = (do loadVar t (← asAddr (a.tmps.getD b undef)))) {x : ResultVar} {r : AV} (h : aresult C T H x = some r) :
    ∃ u, (f x).run C.P w = .ok u w ∧ VR ρ r u := by
  cases x with
  | tmp t =>
    obtain ⟨y, hy, hr⟩ := hA.vals t r h
    exact ⟨y, by simp [hf1, Array.getD_eq_getD_getElem?, hy], hr⟩
  | cell b t =>
    simp only [aresult] at h
    split at h
    · rename_i p hp
      obtain ⟨y, hy, hr⟩ := hA.vals b p hp
      obtain ⟨u, hu, hru⟩ := aload_ok hC hR hr h
      refine ⟨u, ?_, hru⟩
      rw [hf2]
      simp only [Array.getD_eq_getD_getElem?, hy, Option.getD_some]
      have hp : ∃ bb k, p = .ptr bb k := by
        unfold aload at h
        split at h
        · exact ⟨_, _, rfl⟩
        · cases h
      obtain ⟨bb, k, rfl⟩ := hp
      simp only [VR] at hr
      obtain ⟨sg, _, rfl⟩ := hr
      exact hu
    · cases h

theorem aresults_ok {C : Ctx} (hC : C.OK) {N : Bd} {G : Nat} {ρ : Names} {H : AH} {w : World} {T : PT AV} {n : Nat} {a : Act} (hR : R N G ρ H w) (hA : AR ρ T n a) {f : ResultVar → Sem Value}
    (hf1 : ∀ t, f (.tmp t) = pure (a.tmps.getD t undef)) (hf2 : ∀ b t, f (.cell b t) = (do loadVar t (← asAddr (a.tmps.getD b undef)))) : ∀ {l : List ResultVar} {as : List AV}, aresults C T H l = some as →
    ∃ vs, (l.mapM f).run C.P w = .ok vs w ∧ VRs ρ as vs
  | [], as, h => by
    simp only [aresults, Option.some.injEq] at h
    subst h
    exact ⟨[], by simp, VRs.nil⟩
  | x :: l, as, h => by
    simp only [aresults] at h
    split at h
    · rename_i r rs h1 h2
      simp only [Option.some.injEq] at h
      subst h
      obtain ⟨u, hu, hr⟩ := aresult_ok hC hR hA hf1 hf2 h1
      obtain ⟨us, hus, hrs⟩ := aresults_ok hC hR hA hf1 hf2 h2
      refine ⟨u :: us, ?_, VRs.cons hr hrs⟩
      simp only [List.mapM_cons, Sem.run_bind, hu, Result.andThen_ok, hus, Sem.run_pure]
    · cases h

theorem results_gen {C : Ctx} (hC : C.OK) {N : Bd} {G : Nat} {ρ : Names} {H : AH} {w : World} {T : PT AV} {n : Nat} {a : Act} (hR : R N G ρ H w) (hA : AR ρ T n a) {g : Func} {as : List AV} (h : aresults C T H g.results.toList = some as) (f : ResultVar → Sem Value)
    (hf1 : ∀ t, f (.tmp t) = pure (a.tmps.getD t undef)) (hf2 : ∀ b t, f (.cell b t) = (do loadVar t (← asAddr (a.tmps.getD b undef)))) :
    ∃ v, (do let vs ← g.results.mapM f; pure (if h : vs.size = 1 then vs[0] else .tuple vs) : Sem Value).run C.P w = .ok v w ∧ VR ρ (one as) v := by
  obtain ⟨vs, h1, h2⟩ := aresults_ok hC hR hA hf1 hf2 h
  rw [Array.mapM_eq_mapM_toList]
  simp only [Sem.run_bind, map_eq_pure_bind, h1, Result.andThen_ok, Sem.run_pure]
  refine ⟨_, rfl, ?_⟩
  cases as with
  | nil =>
    simp only [VRs] at h2
    subst h2
    simp only [one, VR]
    exact ⟨[], by simp, VRs.nil⟩
  | cons b bs =>
    simp only [VRs] at h2
    obtain ⟨v, vs', rfl, hv, hvs⟩ := h2
    cases bs with
    | nil =>
      simp only [VRs] at hvs
      subst hvs
      simpa [one] using hv
    | cons c cs =>
      have hl := hvs.length
      have hne : ¬ ((v :: vs').toArray.size = 1) := by simp only [List.size_toArray, List.length_cons, hl]; omega
      rw [dif_neg hne]
      simp only [one, VR]
      exact ⟨_, rfl, VRs.cons hv hvs⟩

theorem results_ok {C : Ctx} (hC : C.OK) {N : Bd} {G : Nat} {ρ : Names} {H : AH} {w : World} {T : PT AV} {n : Nat} {a : Act} (hR : R N G ρ H w) (hA : AR ρ T n a) {g : Func} {as : List AV} (h : aresults C T H g.results.toList = some as) :
    ∃ v, (results g a.tmps).run C.P w = .ok v w ∧ VR ρ (one as) v := by
  unfold results
  exact results_gen hC hR hA h _ (fun _ => rfl) (fun _ _ => rfl)

/-- Every body's regions are such as the evaluator asks. -/
def CodesOK (C : Ctx) : Prop := ∀ f g c, C.fn f = some g → g.body = some c → codeOK c = true

theorem evFn_ok {C : Ctx} (hC : C.OK) (hK : CodesOK C) {N : Bd} {G : Nat} {F : Fns} (hF : F.OK C N G) {fuel : Nat} {f : FuncId} {g : Func} (hg : C.fn f = some g) {args : List AV} {H H' : AH} {r : AV} (h : evFn C F G fuel g args H = some (r, H')) {ρ : Names} {w : World} {vs : List Value} (hR : R N G ρ H w) (hv : VRs ρ args vs) :
    Calls C.P f ⟨vs⟩ w fun e w' => ∃ v ρ', e = .returned v ∧ VR ρ' r v ∧ R N G ρ' H' w' ∧ Fr ρ H w ρ' H' w' := by
  unfold evFn at h
  split at h
  · cases h
  · rename_i c hb
    cases hl : Nat.ble args.length g.ntmps
    · rw [hl] at h; cases h
    · rw [hl] at h
      have hlen : args.length ≤ g.ntmps := Nat.le_of_ble_eq_true hl
      have hvl := hv.length
      simp only [cond_true] at h
      have hA : AR ρ (PT.ofList .leaf 0 args) g.ntmps { tmps := (⟨vs⟩ : Array Value) ++ Array.replicate (g.ntmps - (⟨vs⟩ : Array Value).size) undef, defers := [] } := by
        refine ⟨rfl, by simp; omega, fun d v hd => ?_⟩
        rw [PT.get_ofList0] at hd
        obtain ⟨x, hx, hr⟩ := hv.get d v hd
        refine ⟨x, ?_, hr⟩
        have hlt : d < vs.length := (List.getElem?_eq_some_iff.1 hx).1
        simp only [Array.getElem?_append]
        rw [if_pos (by simpa using hlt)]
        simpa using hx
      have main : ∀ (e : AEx) (T' : PT AV) (H1 : AH), evC C F G g.ntmps fuel c (PT.ofList .leaf 0 args) H = some (e, T', H1) → (∀ i, e ≠ .exit i) → (aresults C T' H1 g.results.toList).map (fun as => (one as, H1)) = some (r, H') →
          Calls C.P f ⟨vs⟩ w fun e w' => ∃ v ρ', e = .returned v ∧ VR ρ' r v ∧ R N G ρ' H' w' ∧ Fr ρ H w ρ' H' w' := by
        intro e T' H1 he hne hres
        simp only [Option.map_eq_some_iff, Prod.mk.injEq] at hres
        obtain ⟨as, has, rfl, rfl⟩ := hres
        refine calls_of_wp (hC.fn f g hg) hb ((evC_ok hC hF (n := g.ntmps) fuel).1 c _ T' H H1 e (hK f g c hg hb) he ρ w _ hR hA _ fun ρ' a' w' hA' hR' hF' => ?_)
        obtain ⟨v, h1, h2⟩ := results_ok hC hR' hA' has
        have hd := hA'.defers
        cases e with
        | normal => exact ⟨hd, v, h1, v, ρ', rfl, h2, hR', hF'⟩
        | ret => exact ⟨hd, v, h1, v, ρ', rfl, h2, hR', hF'⟩
        | exit i => exact absurd rfl (hne i)
      split at h
      · cases h
      · rename_i e T' H1 hne he
        exact main e T' H1 he (fun i hi => hne i hi) h
      · cases h

/-- What is known of functions and of those without a body. -/
structure KnownOK (C : Ctx) (N : Bd) (G : Nat) (known : FuncId → Option (List AV → AH → Option (AV × AH))) (ext : FuncId → List AV → AH → Option (AV × AH)) : Prop where
  call : ∀ f k, known f = some k → (∃ g, C.P.funcs[f]? = some g ∧ g.body.isSome = true ∧ (g.name == "runtime.NumGoroutine") = false) ∧
    ∀ args H r H', k args H = some (r, H') → ∀ ρ w vs, R N G ρ H w → VRs ρ args vs → Calls C.P f ⟨vs⟩ w fun e w' => ∃ v ρ', e = .returned v ∧ VR ρ' r v ∧ R N G ρ' H' w' ∧ Fr ρ H w ρ' H' w'
  ext : ∀ f args H r H', ext f args H = some (r, H') → ∀ ρ w vs, R N G ρ H w → VRs ρ args vs →
    ∃ v w' ρ', (callFunc f ⟨vs⟩).run C.P w = .ok (.value v) w' ∧ VR ρ' r v ∧ R N G ρ' H' w' ∧ Fr ρ H w ρ' H' w'

theorem evCall_fns {C : Ctx} (hC : C.OK) (hK : CodesOK C) {N : Bd} {G : Nat} {known : FuncId → Option (List AV → AH → Option (AV × AH))} {ext : FuncId → List AV → AH → Option (AV × AH)} (hn : KnownOK C N G known ext) {fuel : Nat} : ∀ d, (Fns.mk (evCall C known ext G fuel d) ext).OK C N G
  | 0 => ⟨fun f args H r H' h => by simp [evCall] at h, hn.ext⟩
  | d + 1 => by
    have ih := evCall_fns hC hK hn (fuel := fuel) d
    refine ⟨fun f args H r H' h => ?_, hn.ext⟩
    simp only [evCall] at h
    split at h
    · rename_i k hk
      obtain ⟨h1, h2⟩ := hn.call f k hk
      exact ⟨h1, h2 args H r H' h⟩
    · split at h
      · cases h
      · rename_i g hg
        cases ho : fnOk g
        · rw [ho] at h; cases h
        · rw [ho] at h
          simp only [cond_true] at h
          unfold fnOk at ho
          simp only [Bool.and_eq_true, Bool.not_eq_true'] at ho
          exact ⟨⟨g, hC.fn f g hg, ho.1, ho.2⟩, fun ρ w vs hR hv => evFn_ok hC hK ih hg h hR hv⟩

/-- **A call, run by the evaluator.** -/
theorem evCall_ok {C : Ctx} (hC : C.OK) (hK : CodesOK C) {N : Bd} {G : Nat} {known : FuncId → Option (List AV → AH → Option (AV × AH))} {ext : FuncId → List AV → AH → Option (AV × AH)} (hn : KnownOK C N G known ext) {fuel d : Nat} {f : FuncId} {args : List AV} {H H' : AH} {r : AV}
    (h : evCall C known ext G fuel d f args H = some (r, H')) {ρ : Names} {w : World} {vs : List Value} (hR : R N G ρ H w) (hv : VRs ρ args vs) :
    Calls C.P f ⟨vs⟩ w fun e w' => ∃ v ρ', e = .returned v ∧ VR ρ' r v ∧ R N G ρ' H' w' ∧ Fr ρ H w ρ' H' w' :=
  ((evCall_fns hC hK hn d).call f args H r H' h).2 ρ w vs hR hv

end Go.AB

namespace Go.AB

end Go.AB

namespace Go.AB

/-- A new object in a new block, behind a step that left all that was there. -/
theorem R.adopt {N : Bd} {G : Nat} {ρ : Names} {H : AH} {w w' : World} (hR : R N G ρ H w) (hb : Go.RowKit.Below w.heap.size w w') (o : AO) (s : Seg) (hs : w.heap.size ≤ s.blk) (hz : s.base = 0) (hrw : o.rw = true)
    (ho : OR N.n (ρ.put H.next s) (H.alloc o) w' s o) (hv : ∀ m l v c, o = .miter m l v c → v < H.next) (hd : N.d ≤ w'.drawn) :
    R N G (ρ.put H.next s) (H.alloc o) w' ∧ Fr ρ H w (ρ.put H.next s) (H.alloc o) w' := by
  have hnew : ρ H.next = none := hR.fresh _ (Nat.le_refl _)
  have hext : Ext ρ (ρ.put H.next s) := Names.put_ext hnew
  have hold := hb.block
  have hsz := hb.size
  have hother : ∀ k, k ≠ H.next → (ρ.put H.next s) k = ρ k := fun k hk => by simp [Names.put, hk]
  refine ⟨⟨by have := hR.size; omega, ?_, ?_, ?_, ?_, ?_, ?_, fun k t hk hN => (by
      by_cases e : k = H.next
      · subst e; rw [Names.put_same] at hk; cases hk; exact hz
      · rw [hother k e] at hk; exact hR.flat k t hk hN), hd⟩, ⟨?_, by simp, hsz, ?_, ?_, fun k o hk h => ⟨o, by rw [AH.get_alloc, if_neg (by omega)] at h; exact h⟩, hb.os, hb.tape, hb.output⟩⟩
  · intro g hg
    have : g ≠ H.next := by have := hR.gn; omega
    rw [hother g this]
    exact hR.glob g hg
  · intro k ok hk
    rw [AH.get_alloc] at hk
    split at hk
    · cases hk; subst_vars; exact ⟨s, Names.put_same _ _ _, ho⟩
    · rename_i hne
      obtain ⟨t, h1, h2⟩ := hR.obj k ok hk
      refine ⟨t, hext _ _ h1, h2.keep hext (hold _ h2.lt) fun m l v c e sm ps hm hg => ?_⟩
      rw [AH.get_alloc] at hg
      split at hg
      · rename_i hmn; subst hmn; rw [hnew] at hm; cases hm
      · refine ⟨hg, hold _ ?_⟩
        obtain ⟨t', h3, h4⟩ := hR.obj m _ hg
        rw [hm] at h3; cases h3; exact h4.lt
  · intro k k' o1 o2 s1 s2 h1 h2 r1 r2 e1 e2 he
    rw [AH.get_alloc] at h1 h2
    split at h1 <;> split at h2
    · subst_vars; rfl
    · rename_i hk hk'
      subst hk
      rw [Names.put_same] at e1; cases e1
      rw [hother _ hk'] at e2
      obtain ⟨t, h3, h4⟩ := hR.obj k' _ h2
      rw [e2] at h3; cases h3
      have := h4.lt; omega
    · rename_i hk hk'
      subst hk'
      rw [Names.put_same] at e2; cases e2
      rw [hother _ hk] at e1
      obtain ⟨t, h3, h4⟩ := hR.obj k _ h1
      rw [e1] at h3; cases h3
      have := h4.lt; omega
    · rename_i hk hk'
      rw [hother _ hk] at e1
      rw [hother _ hk'] at e2
      exact hR.inj k k' o1 o2 s1 s2 h1 h2 r1 r2 e1 e2 he
  · intro b hb
    simp at hb
    rw [hother b (by omega)]; exact hR.fresh b (by omega)
  · have := hR.gn; simp; omega
  · intro b m l v c hb
    rw [AH.get_alloc] at hb
    split at hb
    · cases hb; have := hv m l v c rfl; simp; omega
    · have := hR.vers b m l v c hb; simp; omega
  · intro b hb
    exact hother b (by omega)
  · intro k hk _
    exact hold k hk
  · intro k o1 s1 h1 r1 e1
    rw [AH.get_alloc] at h1
    split at h1
    · rename_i hk; subst hk; rw [Names.put_same] at e1; cases e1; left; omega
    · rename_i hk; rw [hother k hk] at e1
      exact .inr ⟨k, o1, s1, h1, r1, e1, rfl⟩


/-! ### Sorted keys -/
def leK (a b : List UInt8) : Bool := decide (a ≤ b)

def insK (k : List UInt8) : List (List UInt8) → List (List UInt8)
  | [] => [k]
  | x :: xs => bif leK k x then k :: x :: xs else x :: insK k xs

def isortK : List (List UInt8) → List (List UInt8)
  | [] => []
  | x :: xs => insK x (isortK xs)

theorem insK_perm (k : List UInt8) : ∀ l, (insK k l).Perm (k :: l)
  | [] => List.Perm.refl _
  | x :: xs => by
    unfold insK
    cases leK k x
    · exact ((insK_perm k xs).cons x).trans (List.Perm.swap k x xs)
    · exact List.Perm.refl _

theorem isortK_perm : ∀ l, (isortK l).Perm l
  | [] => List.Perm.refl _
  | x :: xs => (insK_perm x _).trans ((isortK_perm xs).cons x)

theorem insK_sorted (k : List UInt8) : ∀ l, l.Pairwise (fun a b => leK a b = true) → (insK k l).Pairwise (fun a b => leK a b = true)
  | [], _ => by simp [insK]
  | x :: xs, h => by
    unfold insK
    rw [List.pairwise_cons] at h
    cases hd : leK k x
    · have hx : x ≤ k := by
        have := of_decide_eq_false hd
        rcases List.le_total x k with h | h
        · exact h
        · exact absurd h this
      simp only [cond_false, List.pairwise_cons]
      refine ⟨fun y hy => ?_, insK_sorted k xs h.2⟩
      rcases List.mem_cons.1 ((insK_perm k xs).mem_iff.1 hy) with rfl | hy
      · exact decide_eq_true hx
      · exact h.1 y hy
    · have hx : k ≤ x := of_decide_eq_true hd
      simp only [cond_true, List.pairwise_cons]
      refine ⟨fun y hy => ?_, h.1, h.2⟩
      rcases List.mem_cons.1 hy with rfl | hy
      · exact decide_eq_true hx
      · exact decide_eq_true (List.le_trans hx (of_decide_eq_true (h.1 y hy)))

theorem isortK_sorted : ∀ l, (isortK l).Pairwise (fun a b => leK a b = true)
  | [] => List.Pairwise.nil
  | x :: xs => insK_sorted x _ (isortK_sorted xs)

theorem mergeSort_isortK {ss ks : List (List UInt8)} (h : ss.Perm ks) : ss.mergeSort (fun x y => decide (x ≤ y)) = isortK ks := by
  have tr : ∀ a b c : List UInt8, leK a b = true → leK b c = true → leK a c = true := fun a b c h1 h2 => decide_eq_true (List.le_trans (of_decide_eq_true h1) (of_decide_eq_true h2))
  have to : ∀ a b : List UInt8, (leK a b || leK b a) = true := fun a b => by
    rcases List.le_total a b with h | h
    · simp [leK, h]
    · simp [leK, h]
  exact List.Perm.eq_of_pairwise (le := fun a b => leK a b = true) (fun a b _ _ h1 h2 => List.le_antisymm (of_decide_eq_true h1) (of_decide_eq_true h2))
    (List.pairwise_mergeSort (le := leK) tr to ss) (isortK_sorted ks) (((List.mergeSort_perm ss _).trans h).trans (isortK_perm ks).symm)

theorem insert_perm {H : Type} (x : Lit × DataW H) : ∀ l, (DataW.insert x l).Perm (x :: l)
  | [] => List.Perm.refl _
  | y :: l => by
    unfold DataW.insert
    split
    · exact List.Perm.refl _
    · exact ((insert_perm x l).cons y).trans (List.Perm.swap x y l)

theorem foldr_insert_perm {H : Type} : ∀ l : List (Lit × DataW H), (l.foldr DataW.insert []).Perm l
  | [] => List.Perm.refl _
  | x :: l => (insert_perm x _).trans ((foldr_insert_perm l).cons x)

end Go.AB

namespace Go.AB

theorem EntsR.keys {ρ : Names} : ∀ {ps : List (List UInt8 × AV)} {es : List MapEntry}, EntsR ρ ps es → es.map (·.key) = ps.map fun p => Value.string ⟨p.1.toArray⟩
  | [], es, h => by simp only [EntsR] at h; simp [h]
  | p :: ps, es, h => by
    simp only [EntsR] at h
    obtain ⟨e, es', rfl, hk, _, hr⟩ := h
    simp [hk, EntsR.keys hr]

/-- What is asked of an element: nothing. -/
def anyElem : Value → Option (DataW Unit × List MemPlace) := fun _ => some (.nil, [])

theorem mapKey_str {P : Program} {k : TypeId} (hk : P.underlying k = some .string) (x : List UInt8) (hx : x.length ≤ maxLen) : keyOf P k (.string ⟨x.toArray⟩) = some (.string x) := by
  have : (ByteArray.mk x.toArray).size ≤ maxLen := by show x.toArray.size ≤ maxLen; simpa using hx
  simp [keyOf, hk, mapKey, this]

theorem rg_keys {P : Program} {k : TypeId} (hk : P.underlying k = some .string) {ρ : Names} : ∀ {ps : List (List UInt8 × AV)} {es : List MapEntry}, EntsR ρ ps es → (∀ p ∈ ps, p.1.length ≤ maxLen) →
    (es.map (WideElems.rg P k anyElem)).map (fun p => strOf p.1) = ps.map (·.1) ∧ ∀ x ∈ es, ∃ y, WideElems.rd P k anyElem x = some y
  | [], es, h, _ => by simp only [EntsR] at h; simp [h]
  | p :: ps, es, h, hl => by
    simp only [EntsR] at h
    obtain ⟨e, es', rfl, hke, _, hr⟩ := h
    obtain ⟨h1, h2⟩ := rg_keys hk hr fun q hq => hl q (by simp [hq])
    have hrd : WideElems.rd P k anyElem e = some (.string p.1, .nil) := by
      simp [WideElems.rd, hke, mapKey_str hk p.1 (hl p (by simp)), anyElem]
    refine ⟨?_, fun x hx => ?_⟩
    · rw [List.map_cons, List.map_cons, h1]
      simp [WideElems.rg, hrd, strOf]
    · rcases List.mem_cons.1 hx with rfl | hx
      · exact ⟨_, hrd⟩
      · exact h2 x hx

theorem ownsMap_of {P : Program} {k : TypeId} (hk : P.underlying k = some .string) {ρ : Names} {ps : List (List UInt8 × AV)} {es : Array MapEntry} {clock b : Nat} {w : World} (hb : w.heap[b]? = some (.map es clock)) (hm : MapR ρ ps es clock)
    (hl : ∀ p ∈ ps, p.1.length ≤ maxLen) (hn : ps.length ≤ maxLen) :
    ∃ D0 : DataW Unit, w.ownsMap P k anyElem b es.size D0 ∧ (strKeys D0).Perm (ps.map (·.1)) ∧ Maps.size D0 = ps.length := by
  obtain ⟨h1, h2⟩ := rg_keys hk hm.ents hl
  have hlen : es.size = ps.length := by
    have := congrArg List.length hm.ents.keys
    simpa using this
  have hperm := foldr_insert_perm (es.toList.map (WideElems.rg P k anyElem))
  refine ⟨.map ((es.toList.map (WideElems.rg P k anyElem)).foldr DataW.insert []), ⟨es, clock, hb, ⟨by omega, ⟨hm.old, ?_, ?_⟩, h2⟩, Nat.le_refl _, rfl⟩, ?_, ?_⟩
  · exact hm.born.imp (fun h e => by omega)
  · rw [hm.ents.keys]
    have := hm.keys
    rw [List.nodup_iff_pairwise_ne] at this ⊢
    rw [List.pairwise_map] at this ⊢
    refine this.imp fun hne e => hne ?_
    injection e with e
    have := congrArg (fun b : ByteArray => b.data.toList) e
    simpa using this
  · rw [← h1]
    exact hperm.map _
  · show List.length _ = _
    rw [hperm.length_eq]
    simp [hlen]

def bigLen : Nat := 9223372036854775807

def lensOk : List (List UInt8 × AV) → Bool
  | [] => true
  | p :: ps => Nat.ble p.1.length bigLen && lensOk ps

theorem lensOk_spec : ∀ {ps : List (List UInt8 × AV)}, lensOk ps = true → ∀ p ∈ ps, p.1.length ≤ maxLen
  | [], _, p, hp => by simp at hp
  | q :: ps, h, p, hp => by
    simp only [lensOk, Bool.and_eq_true] at h
    rcases List.mem_cons.1 hp with rfl | hp
    · have := Nat.le_of_ble_eq_true h.1
      unfold bigLen at this
      unfold maxLen
      omega
    · exact lensOk_spec h.2 p hp

def specSorted (it : Nat) (args : List AV) (H : AH) : Option (AV × AH) :=
  match args with
  | [.func g [] [.ptr b 0]] => bif Nat.beq g it then
    match H.get b with
    | some (.cells false (.map m :: _)) =>
      match H.get m with
      | some (.map ps _) =>
        bif lensOk ps && Nat.ble (ps.length * 16) 140737488355328 then
          match isortK (ps.map (·.1)) with
          | [] => some (.nils, H)
          | k :: ks => some (.slice H.next 0 (k :: ks).length (.lo (k :: ks).length) 1, H.alloc (.cells false ((k :: ks).map .str)))
        else none
      | _ => none
    | _ => none
    else none
  | _ => none

theorem R.below {N : Bd} {G : Nat} {ρ : Names} {H : AH} {w w' : World} (hR : R N G ρ H w) (hb : Go.RowKit.Below w.heap.size w w') (hd : N.d ≤ w'.drawn) : R N G ρ H w' ∧ Fr ρ H w ρ H w' := by
  refine ⟨⟨Nat.le_trans hR.size hb.size, hR.glob, fun b o hbo => ?_, hR.inj, hR.fresh, hR.gn, hR.vers, hR.flat, hd⟩, ⟨fun _ _ => rfl, Nat.le_refl _, hb.size, fun k hk _ => hb.block k hk, fun b o s h1 h2 h3 => .inr ⟨b, o, s, h1, h2, h3, rfl⟩, fun _ o _ h => ⟨o, h⟩, hb.os, hb.tape, hb.output⟩⟩
  obtain ⟨s, h1, h2⟩ := hR.obj b o hbo
  refine ⟨s, h1, h2.keep (fun _ _ h => h) (hb.block _ h2.lt) fun m l v c _ sm ps hsm hg => ⟨hg, hb.block _ ?_⟩⟩
  obtain ⟨s', h3, h4⟩ := hR.obj m _ hg
  rw [hsm] at h3; cases h3
  exact h4.lt

theorem specSorted_ok {P : Program} {f it : FuncId} {kt : TypeId} (hk : P.underlying kt = some .string)
    (hcon : ∀ (Bm b nn : Nat) (D0 : DataW Unit) (w : World), Bm < w.heap.size → w.cell? ⟨Bm, 0, none⟩ = some (.map (some b)) → w.ownsMap P kt anyElem b nn D0 → Maps.size D0 ≤ maxLen → Maps.size D0 * 16 ≤ 140737488355328 →
      Calls P f #[.func (.func it) #[] #[.pointer (some ⟨Bm, 0, none⟩)]] w fun e w' => ∃ (v : Value) (ss : List (List UInt8)), e = .returned v ∧ ss.Perm (strKeys D0) ∧
        w'.ownsRow w.heap.size kt 1 v ss.length ((ss.mergeSort (fun x y => decide (x ≤ y))).map Go.Proofs.encStr) ∧ (v = .slice none 0 0 ↔ ss = []) ∧ Go.RowKit.Below w.heap.size w w')
    {N : Bd} {G : Nat} {ρ : Names} {H H' : AH} {w : World} {args : List AV} {vs : List Value} {r : AV} (hd0 : N.d = 0) (h : specSorted it args H = some (r, H')) (hR : R N G ρ H w) (hv : VRs ρ args vs) :
    Calls P f ⟨vs⟩ w fun e w' => ∃ v ρ', e = .returned v ∧ VR ρ' r v ∧ R N G ρ' H' w' ∧ Fr ρ H w ρ' H' w' := by
  unfold specSorted at h
  split at h
  · rename_i g b
    cases hg : Nat.beq g it
    · rw [hg] at h; cases h
    · rw [hg] at h
      obtain rfl := Nat.eq_of_beq_eq_true hg
      simp only [cond_true] at h
      simp only [VRs, VR] at hv
      obtain ⟨fv, vs', rfl, ⟨us, cs, rfl, rfl, ⟨cv, cs', rfl, ⟨s, hs, rfl⟩, rfl⟩⟩, rfl⟩ := hv
      split at h
      · rename_i m rest hgb
        split at h
        · rename_i ps ver hgm
          cases hc : (lensOk ps && Nat.ble (ps.length * 16) 140737488355328)
          · rw [hc] at h; cases h
          · rw [hc] at h
            simp only [cond_true] at h
            simp only [Bool.and_eq_true] at hc
            have hl := lensOk_spec hc.1
            have hn := Nat.le_of_ble_eq_true hc.2
            obtain ⟨s', hs', c, e, lo, hi, g1, g2, g3, g4, g5, g6⟩ := hR.obj b _ hgb
            rw [hs] at hs'; cases hs'
            have hbase : s.base = 0 := hR.flat b s hs (g6 rfl).1
            obtain ⟨cell, hcell, hcr⟩ := g4 0 (.map m) (by simp)
            simp only [VR] at hcr
            obtain ⟨sm, hsm, rfl⟩ := hcr
            obtain ⟨hNm, es, clock, k0, k1⟩ := hR.map hgm hsm
            obtain ⟨D0, q1, q2, q3⟩ := ownsMap_of hk k0 k1 hl (by unfold maxLen; omega)
            have hlt : s.blk < w.heap.size := by
              rcases Nat.lt_or_ge s.blk w.heap.size with h | h
              · exact h
              · rw [Array.getElem?_eq_none h] at g1; cases g1
            have hcl : w.cell? ⟨s.blk, 0, none⟩ = some (.map (some sm.blk)) := by
              rw [hbase] at hcell
              simp only [World.cell?, g1]
              simpa using hcell
            have hargs : (⟨[.func (.func g) ⟨[]⟩ ⟨[.pointer (some ⟨s.blk, s.base + 0, none⟩)]⟩]⟩ : Array Value) = #[.func (.func g) #[] #[.pointer (some ⟨s.blk, 0, none⟩)]] := by rw [hbase]
            rw [hargs]
            refine (hcon s.blk sm.blk es.size D0 w hlt hcl q1 (by rw [q3]; unfold maxLen; omega) (by rw [q3]; exact hn)).mono ?_
            rintro e' w' ⟨v, ss, rfl, hperm, hrow, hnil, hbl⟩
            have hsorted := mergeSort_isortK (hperm.trans q2)
            rw [hsorted] at hrow
            have hlen : ss.length = (isortK (ps.map (·.1))).length := by
              rw [(isortK_perm _).length_eq, (hperm.trans q2).length_eq]
            split at h
            · rename_i hks
              simp only [Option.some.injEq, Prod.mk.injEq] at h
              obtain ⟨rfl, rfl⟩ := h
              rw [hks] at hlen
              have hss : ss = [] := List.eq_nil_of_length_eq_zero hlen
              obtain ⟨r1, r2⟩ := hR.below hbl (by omega)
              exact ⟨v, ρ, rfl, by simp only [VR]; exact hnil.2 hss, r1, r2⟩
            · rename_i k ks hks
              simp only [Option.some.injEq, Prod.mk.injEq] at h
              obtain ⟨rfl, rfl⟩ := h
              rw [hks] at hlen hrow
              obtain ⟨_, hrow⟩ := hrow
              rcases hrow with ⟨_, h0⟩ | ⟨gb, cap, cur, rfl, hge, hgb', hle, hcap, hsz, htake⟩
              · rw [hlen] at h0; simp at h0
              · rw [hlen] at hle htake
                simp only [Nat.mul_one] at htake hsz
                have hnew : ρ H.next = none := hR.fresh _ (Nat.le_refl _)
                let sg : Seg := ⟨gb, 0, cap⟩
                have hor : OR N.n (ρ.put H.next sg) (H.alloc (.cells false ((k :: ks).map .str))) w' sg (.cells false ((k :: ks).map .str)) := by
                  refine ⟨cur, kt, 0, 0, hgb', by show 0 + cap ≤ cur.size; omega, by show ((k :: ks).map AV.str).length ≤ cap; simpa using hle, fun i a ha => ?_, fun e => (by cases e), fun _ => ⟨by show N.n ≤ gb; have := hR.size; omega, .inl rfl⟩⟩
                  rw [List.getElem?_map, Option.map_eq_some_iff] at ha
                  obtain ⟨x, hx, rfl⟩ := ha
                  have hi : i < (k :: ks).length := (List.getElem?_eq_some_iff.1 hx).1
                  have : (cur.toList.take (k :: ks).length)[i]? = some (Go.Proofs.encStr x) := by rw [htake, List.getElem?_map, hx]; rfl
                  rw [List.getElem?_take, if_pos hi] at this
                  exact ⟨Go.Proofs.encStr x, by show cur[0 + i]? = _; rw [Nat.zero_add]; simpa using this, by simp only [VR]⟩
                obtain ⟨r1, r2⟩ := hR.adopt hbl (.cells false ((k :: ks).map .str)) sg hge rfl rfl hor (fun m l v c e => by cases e) (by omega)
                refine ⟨_, _, rfl, ?_, r1, r2⟩
                simp only [VR, hlen]
                exact ⟨sg, cap, Names.put_same _ _ _, rfl, hle, hle, by show 0 + cap * 1 ≤ cap; omega⟩
        · cases h
      · cases h
  · cases h

end Go.AB

namespace Go.AB

theorem codesOK_of {P : Program} (h : (P.funcs.toList.all fun g => match g.body with
    | some c => codeOK c
    | none => true) = true) : CodesOK (mkCtx P) := by
  intro f g c hg hc
  simp only [mkCtx, mkFn, PT.get_ofList0] at hg
  have := List.all_eq_true.1 h g (List.mem_of_getElem? hg)
  rw [hc] at this
  exact this

/-- The heap of which nothing is known. -/
def H0 : AH := ⟨.leaf, 0⟩

theorem R.start (w : World) : R ⟨w.heap.size, 0⟩ 0 (fun _ => none) H0 w where
  size := Nat.le_refl _
  glob g hg := by omega
  obj b o hb := by simp [H0, AH.get, PT.get] at hb
  inj b b' o o' s s' hb := by simp [H0, AH.get, PT.get] at hb
  fresh _ _ := rfl
  gn := Nat.le_refl _
  vers b m l v c hb := by simp [H0, AH.get, PT.get] at hb
  flat b s hs := by cases hs
  draws := Nat.zero_le _

theorem Fr.start {w w' : World} {ρ' : Names} {H' : AH} (h : Fr (fun _ => none) H0 w ρ' H' w') : Go.RowKit.Below w.heap.size w w' :=
  ⟨h.os, h.tape, h.output, h.size, fun k hk => h.keep k hk fun b o s hb => by simp [H0, AH.get, PT.get] at hb⟩

end Go.AB

namespace Go.AB
open Go.ChangeShapes Go.WideShapes Go.ChangeAt Go.RowKit

section
variable {P : Program} {H : Type} {enc : TypeId × Value → H}

/-- As 'post_of_same', of a world that is as it was below its old end. -/
theorem post_of_below {f : Func} {s : ChangeSpec} {apart fresh handsOn again : Bool} {W W' : World} {args : Array Value} {v : Value} {ds gs : List (DataW H)} {before pa pv : List MemPlace}
    (hW : DataW.Whole enc P f.params.toList s.vars apart W args.toList ds gs before)
    (hres : ∀ (b : Nat) (sp : Nat → Bool) (hd : Bool), DataW.TrodAll enc P W' b sp hd f.resultTypes.toList (v.resultList f.resultTypes.size) (s.fn H (ds ++ gs)).results [])
    (hargs : ∀ sp : Nat → Bool, (∀ p ∈ before, sp p.block = true) → DataW.TrodAll enc P W' 0 sp true f.params.toList args.toList (s.fn H (ds ++ gs)).args pa)
    (hvars : ∀ sp : Nat → Bool, (∀ p ∈ before, sp p.block = true) → DataW.TrodVars enc P W' sp s.vars (s.fn H (ds ++ gs)).vars pv)
    (hps : before = pa ++ pv) (hb : Below W.heap.size W W')
    (hok : ∀ (j : Nat) (t : TypeId) (r : Value), f.resultTypes[j]? = some t → (v.resultList f.resultTypes.size)[j]? = some r → Value.okWide P W' .any 0 t r) :
    s.post enc P f apart fresh handsOn again W args v W' := by
  have hlt := hW.lt
  have hold : ∀ p ∈ before, (fun b => decide (b < W.heap.size)) p.block = true := fun p hp => by simpa using hlt p hp
  refine ⟨ds, gs, before, [], pa, pv, hW, hres _ _ _, hargs _ hold, hvars _ hold, World.keptBut_mono (fun p hp => ⟨hp, ?_⟩) (hb.frame (· ∈ before)), fun _ => ?_⟩
  · rw [hps, List.mem_append] at hp
    exact Or.inr hp
  · obtain ⟨_, _, _, _, _, hz, hn⟩ := hW
    refine ⟨hok, _, _, ([] ++ pa) ++ pv, ⟨[] ++ pa, pv, trodAll_append (hargs _ (fun _ _ => rfl)) (hres _ _ _), hvars _ (fun _ _ => rfl), rfl, ?_, ?_⟩, ?_⟩
    · intro b off hp
      have hp' : MemPlace.cell b off ∈ before := by rw [hps]; simpa using hp
      rw [hb.frozen (p := ⟨b, off, none⟩) (hlt _ hp')]
      exact hz b off hp'
    · intro ha
      have := hn ha
      rw [hps] at this
      simpa using this
    · intro p hp _
      rw [hps]
      simpa using hp
end

end Go.AB

namespace Go.AB

mutual
def AV.plainV : AV → Bool
  | .bool _ => true
  | .int _ _ => true
  | .str _ => true
  | .agg cs => AV.plainVs cs
  | _ => false
def AV.plainVs : List AV → Bool
  | [] => true
  | a :: as => AV.plainV a && AV.plainVs as
end

mutual
theorem AV.plainV_ok {ρ ρ' : Names} : ∀ (a : AV) (v : Value), a.plainV = true → VR ρ a v → VR ρ' a v
  | .bool b, v, _, h => by simpa [VR] using h
  | .int k n, v, _, h => by simpa [VR] using h
  | .str s, v, _, h => by simpa [VR] using h
  | .agg cs, v, hp, h => by
    simp only [AV.plainV] at hp
    simp only [VR] at h ⊢
    obtain ⟨vs, e, hvs⟩ := h
    exact ⟨vs, e, AV.plainVs_ok cs vs hp hvs⟩
  | .junk, v, hp, _ => by simp [AV.plainV] at hp
  | .nilp, v, hp, _ => by simp [AV.plainV] at hp
  | .ptr _ _, v, hp, _ => by simp [AV.plainV] at hp
  | .nils, v, hp, _ => by simp [AV.plainV] at hp
  | .slice _ _ _ _ _, v, hp, _ => by simp [AV.plainV] at hp
  | .empty _, v, hp, _ => by simp [AV.plainV] at hp
  | .nilm, v, hp, _ => by simp [AV.plainV] at hp
  | .map _, v, hp, _ => by simp [AV.plainV] at hp
  | .func _ _ _, v, hp, _ => by simp [AV.plainV] at hp
  | .nilf, v, hp, _ => by simp [AV.plainV] at hp
  | .iface _ _, v, hp, _ => by simp [AV.plainV] at hp
  | .nili, v, hp, _ => by simp [AV.plainV] at hp
  | .tuple _, v, hp, _ => by simp [AV.plainV] at hp
theorem AV.plainVs_ok {ρ ρ' : Names} : ∀ (as : List AV) (vs : List Value), AV.plainVs as = true → VRs ρ as vs → VRs ρ' as vs
  | [], vs, _, h => by simpa [VRs] using h
  | a :: as, vs, hp, h => by
    simp only [AV.plainVs, Bool.and_eq_true] at hp
    simp only [VRs] at h ⊢
    obtain ⟨v, vs', e, h1, h2⟩ := h
    exact ⟨v, vs', e, AV.plainV_ok a v hp.1 h1, AV.plainVs_ok as vs' hp.2 h2⟩
end

def constOut (r : AV) : Option (AV × AH) → Bool
  | some (v, _) => AV.beq v r && r.plainV
  | none => false

def specConst (r : AV) (args : List AV) (H : AH) : Option (AV × AH) :=
  match args with
  | [] => some (r, H)
  | _ => none

theorem specConst_ok {C : Ctx} (hC : C.OK) (hK : CodesOK C) {known : FuncId → Option (List AV → AH → Option (AV × AH))} {ext : FuncId → List AV → AH → Option (AV × AH)} (hn : ∀ N : Bd, N.d = 0 → KnownOK C N 0 known ext) {fuel d : Nat} {f : FuncId} {r : AV}
    (h : constOut r (evCall C known ext 0 fuel d f [] H0) = true) {args : List AV} {H H' : AH} {u : AV} (hu : specConst r args H = some (u, H')) {N : Bd} {G : Nat} {ρ : Names} {w : World} {vs : List Value} (hd0 : N.d = 0) (hR : R N G ρ H w) (hv : VRs ρ args vs) :
    Calls C.P f ⟨vs⟩ w fun e w' => ∃ v ρ', e = .returned v ∧ VR ρ' u v ∧ R N G ρ' H' w' ∧ Fr ρ H w ρ' H' w' := by
  cases args with
  | cons a as => cases hu
  | nil =>
    simp only [specConst, Option.some.injEq, Prod.mk.injEq] at hu
    obtain ⟨rfl, rfl⟩ := hu
    simp only [VRs] at hv
    subst hv
    cases hx : evCall C known ext 0 fuel d f [] H0 with
    | none => rw [hx] at h; cases h
    | some p =>
      obtain ⟨x, H1⟩ := p
      rw [hx] at h
      simp only [constOut, Bool.and_eq_true] at h
      obtain rfl := AV.beq_eq _ _ h.1
      refine (evCall_ok hC hK (hn ⟨w.heap.size, 0⟩ rfl) hx (R.start w) VRs.nil).mono ?_
      rintro e w' ⟨v, ρ', rfl, hv, _, hF⟩
      obtain ⟨r1, r2⟩ := hR.below hF.start (by omega)
      exact ⟨v, ρ, rfl, AV.plainV_ok x v h.2 hv, r1, r2⟩

end Go.AB

namespace Go.AB

def specAdd64 (args : List AV) (H : AH) : Option (AV × AH) :=
  match args with
  | [.int .u64 (.ofNat x), .int .u64 (.ofNat y), .int .u64 (.ofNat c)] => bif Nat.ble c 1 then some (.tuple [.int .u64 (.ofNat ((x + y + c) % 18446744073709551616)), .int .u64 (.ofNat ((x + y + c) / 18446744073709551616))], H) else none
  | _ => none

theorem specAdd64_ok {P : Program} {f : FuncId}
    (hrun : ∀ (x y c : Nat) (w : World), c ≤ 1 → (callFunc f #[.int .u64 (.ofNat x), .int .u64 (.ofNat y), .int .u64 (.ofNat c)]).run P w = .ok (.value (.tuple #[.int .u64 (.ofNat ((x + y + c) % 18446744073709551616)), .int .u64 (.ofNat ((x + y + c) / 18446744073709551616))])) w)
    {N : Bd} {G : Nat} {ρ : Names} {H H' : AH} {w : World} {args : List AV} {vs : List Value} {r : AV} (h : specAdd64 args H = some (r, H')) (hR : R N G ρ H w) (hv : VRs ρ args vs) :
    ∃ v w' ρ', (callFunc f ⟨vs⟩).run P w = .ok (.value v) w' ∧ VR ρ' r v ∧ R N G ρ' H' w' ∧ Fr ρ H w ρ' H' w' := by
  unfold specAdd64 at h
  split at h
  · rename_i x y c
    cases hc : Nat.ble c 1
    · rw [hc] at h; cases h
    rw [hc] at h
    simp only [cond_true, Option.some.injEq, Prod.mk.injEq] at h
    obtain ⟨rfl, rfl⟩ := h
    simp only [VRs, VR] at hv
    obtain ⟨a, vs1, rfl, rfl, b, vs2, rfl, rfl, d, vs3, rfl, rfl, rfl⟩ := hv
    refine ⟨_, w, ρ, hrun x y c w (Nat.le_of_ble_eq_true hc), ?_, hR, Fr.refl _ _ _⟩
    simp only [VR]
    exact ⟨_, rfl, VRs.cons (by simp only [VR]) (VRs.cons (by simp only [VR]) VRs.nil)⟩
  · cases h

end Go.AB
