/- Triples over abstract states: what a call and a code do from an abstract heap; loops of any length. -/
import Derived.Test.YtgihociajfgohaaGreatDoorAb27
namespace Go.AB
set_option linter.unusedSimpArgs false
set_option linter.unusedVariables false

/-- What a call does from an abstract heap. -/
def AC (C : Ctx) (N G : Nat) (f : FuncId) (args : List AV) (H : AH) (Q : AV → AH → Prop) : Prop :=
  ∀ ρ w vs, R N G ρ H w → VRs ρ args vs → Calls C.P f ⟨vs⟩ w fun e w' => ∃ v ρ' r H', Q r H' ∧ e = .returned v ∧ VR ρ' r v ∧ R N G ρ' H' w' ∧ Fr ρ H w ρ' H' w'

/-- What a code does. -/
def AW (C : Ctx) (N G n : Nat) (c : Code) (T : PT AV) (H : AH) (Q : AEx → PT AV → AH → Prop) : Prop :=
  ∀ ρ w a, R N G ρ H w → AR ρ T n a → ∀ K : Exit → Act → World → Prop,
    (∀ ρ' a' w' e T' H', Q e T' H' → AR ρ' T' n a' → R N G ρ' H' w' → Fr ρ H w ρ' H' w' → K e.to a' w') → c.wp C.P K a w

/-- What operations in a row do. -/
def AOs (C : Ctx) (N G n : Nat) (ops : Array Oper) (l : List Oper) (T : PT AV) (H : AH) (Q : PT AV → AH → Prop) : Prop :=
  ∀ ρ w a, R N G ρ H w → AR ρ T n a → ∀ K : Exit → Act → World → Prop,
    (∀ ρ' a' w' T' H', Q T' H' → AR ρ' T' n a' → R N G ρ' H' w' → Fr ρ H w ρ' H' w' → K .normal a' w') → wpList C.P ops K l a w

def andThen (P : PT AV → AH → Prop) (Q : AEx → PT AV → AH → Prop) : AEx → PT AV → AH → Prop
  | .normal, T, H => P T H
  | .exit i, T, H => Q (.exit i) T H
  | .ret, T, H => Q .ret T H

def inBlock (id : Nat) (Q : AEx → PT AV → AH → Prop) : AEx → PT AV → AH → Prop
  | .normal, T, H => Q .normal T H
  | .exit i, T, H => if i = id then Q .normal T H else Q (.exit i) T H
  | .ret, T, H => Q .ret T H

section
variable {C : Ctx} {N G n : Nat} {T : PT AV} {H : AH} {Q : AEx → PT AV → AH → Prop}

theorem AC.mono {f : FuncId} {args : List AV} {Q Q' : AV → AH → Prop} (h : AC C N G f args H Q) (hq : ∀ r H', Q r H' → Q' r H') : AC C N G f args H Q' :=
  fun ρ w vs hR hv => (h ρ w vs hR hv).mono fun _ _ ⟨v, ρ', r, H', hQ, h⟩ => ⟨v, ρ', r, H', hq _ _ hQ, h⟩

theorem AW.mono {c : Code} {Q' : AEx → PT AV → AH → Prop} (h : AW C N G n c T H Q) (hq : ∀ e T' H', Q e T' H' → Q' e T' H') : AW C N G n c T H Q' :=
  fun ρ w a hR hA K hK => h ρ w a hR hA K fun ρ' a' w' e T' H' hQ => hK ρ' a' w' e T' H' (hq _ _ _ hQ)

theorem AW.skip (h : Q .normal T H) : AW C N G n .skip T H Q := fun ρ w a hR hA _ hK => wp_skip (hK ρ a w .normal T H h hA hR (Fr.refl _ _ _))
theorem AW.label {l : Nat} (h : Q .normal T H) : AW C N G n (.label l) T H Q := fun ρ w a hR hA _ hK => wp_label (hK ρ a w .normal T H h hA hR (Fr.refl _ _ _))
theorem AW.exit {i : Nat} (h : Q (.exit i) T H) : AW C N G n (.exit i) T H Q := fun ρ w a hR hA _ hK => wp_exit (hK ρ a w (.exit i) T H h hA hR (Fr.refl _ _ _))
theorem AW.ret (h : Q .ret T H) : AW C N G n .ret T H Q := fun ρ w a hR hA _ hK => wp_ret (hK ρ a w .ret T H h hA hR (Fr.refl _ _ _))

theorem AW.seq {x y : Code} (h : AW C N G n x T H (andThen (fun T' H' => AW C N G n y T' H' Q) Q)) : AW C N G n (.seq x y) T H Q := fun ρ w a hR hA K hK =>
  wp_seq (h ρ w a hR hA _ fun ρ1 a1 w1 e T1 H1 hQ hA1 hR1 hF1 => match e with
    | .normal => hQ ρ1 w1 a1 hR1 hA1 K fun ρ2 a2 w2 e2 T2 H2 hQ2 hA2 hR2 hF2 => hK ρ2 a2 w2 e2 T2 H2 hQ2 hA2 hR2 (hF1.trans hF2)
    | .exit i => hK ρ1 a1 w1 (.exit i) T1 H1 hQ hA1 hR1 hF1
    | .ret => hK ρ1 a1 w1 .ret T1 H1 hQ hA1 hR1 hF1)

theorem AW.cond {c : Operand} {x y : Code} {b : Bool} (hc : aeval G T c = .bool b) (ht : b = true → AW C N G n x T H Q) (hf : b = false → AW C N G n y T H Q) : AW C N G n (.cond c x y) T H Q := fun ρ w a hR hA K hK => by
  have hev := hA.eval hR c
  rw [hc] at hev
  simp only [VR] at hev
  cases b with
  | true => exact wp_cond_true hev (ht rfl ρ w a hR hA K hK)
  | false => exact wp_cond_false hev (hf rfl ρ w a hR hA K hK)

theorem AW.block {id : Nat} {b : Code} (h : AW C N G n b T H (inBlock id Q)) : AW C N G n (.block id b) T H Q := fun ρ w a hR hA K hK =>
  wp_block (h ρ w a hR hA _ fun ρ1 a1 w1 e T1 H1 hQ hA1 hR1 hF1 => match e with
    | .normal => hK ρ1 a1 w1 .normal T1 H1 hQ hA1 hR1 hF1
    | .exit i => by
      simp only [inBlock] at hQ
      simp only [AEx.to, Exit.inBlock]
      split at hQ
      · rename_i hi
        rw [if_pos hi]
        exact hK ρ1 a1 w1 .normal T1 H1 hQ hA1 hR1 hF1
      · rename_i hi
        rw [if_neg hi]
        exact hK ρ1 a1 w1 (.exit i) T1 H1 hQ hA1 hR1 hF1
    | .ret => hK ρ1 a1 w1 .ret T1 H1 hQ hA1 hR1 hF1)

theorem AW.scope {b : Code} (h : AW C N G n b T H Q) : AW C N G n (.scope b) T H Q := fun ρ w a hR hA K hK =>
  wp_scope_straight (h ρ w a hR hA _ fun ρ1 a1 w1 e T1 H1 hQ hA1 hR1 hF1 => by
    have := hK ρ1 a1 w1 e T1 H1 hQ hA1 hR1 hF1
    cases e <;> exact this)

/-- A loop: what holds at its head, with a measure that falls. -/
theorem AW.loop {b : Code} (I : Nat → PT AV → AH → Prop) (step : ∀ m T H, I m T H → AW C N G n b T H (andThen (fun T' H' => ∃ m', m' < m ∧ I m' T' H') Q)) : ∀ (m : Nat) {T : PT AV} {H : AH}, I m T H → AW C N G n (.loop b) T H Q := by
  have key : ∀ (k m : Nat) (T : PT AV) (H : AH), m < k → I m T H → ∀ ρ w a, R N G ρ H w → AR ρ T n a → ∀ K : Exit → Act → World → Prop,
      (∀ ρ' a' w' e T' H', Q e T' H' → AR ρ' T' n a' → R N G ρ' H' w' → Fr ρ H w ρ' H' w' → K e.to a' w') → Code.rounds C.P b K k a w := by
    intro k
    induction k with
    | zero => intro m T H h; omega
    | succ k ih =>
      intro m T H hm hI ρ w a hR hA K hK
      rw [rounds_succ]
      refine step m T H hI ρ w a hR hA _ fun ρ1 a1 w1 e T1 H1 hQ hA1 hR1 hF1 => ?_
      cases e with
      | normal =>
        obtain ⟨m', hlt, hI'⟩ := hQ
        exact ih m' T1 H1 (by omega) hI' ρ1 w1 a1 hR1 hA1 K fun ρ2 a2 w2 e2 T2 H2 hQ2 hA2 hR2 hF2 => hK ρ2 a2 w2 e2 T2 H2 hQ2 hA2 hR2 (hF1.trans hF2)
      | exit i => exact hK ρ1 a1 w1 (.exit i) T1 H1 hQ hA1 hR1 hF1
      | ret => exact hK ρ1 a1 w1 .ret T1 H1 hQ hA1 hR1 hF1
  intro m T H hI ρ w a hR hA K hK
  exact wp_loop_rounds (m + 1) (key (m + 1) m T H (by omega) hI ρ w a hR hA K hK)

theorem AW.region {id : Nat} {ops : Array Oper} (h : AOs C N G n ops ops.toList T H (Q .normal)) : AW C N G n (.region id ops false) T H Q := fun ρ w a hR hA K hK =>
  wp_region_list (h ρ w a hR hA K fun ρ' a' w' T' H' hQ => hK ρ' a' w' .normal T' H' hQ)

/-- What the evaluator finds. -/
theorem AW.ev (hC : C.OK) {F : Fns} (hF : F.OK C N G) {fuel : Nat} {c : Code} (hc : codeOK c = true) {e : AEx} {T' : PT AV} {H' : AH} (h : evC C F G n fuel c T H = some (e, T', H')) (hQ : Q e T' H') : AW C N G n c T H Q := fun ρ w a hR hA K hK =>
  (evC_ok hC hF fuel).1 c T T' H H' e hc h ρ w a hR hA K fun ρ' a' w' => hK ρ' a' w' e T' H' hQ

theorem AW.draw (hC : C.OK) {F : Fns} (hF : F.OK C N G) {id : Nat} {ops : Array Oper} (hc : drawOK ops = true) {T' : PT AV} {H' : AH} (h : evDraw C F G n ops T H = some (T', H')) (hQ : Q .normal T' H') : AW C N G n (.region id ops true) T H Q := fun ρ w a hR hA K hK =>
  evDraw_ok hC hF (drawOK_spec hc) h hR hA K fun ρ' a' w' => hK ρ' a' w' .normal T' H' hQ

/-- Fewer temporaries are known. -/
theorem AW.weaken {c : Code} {T1 : PT AV} (ht : ∀ d v, T1.get d = some v → T.get d = some v) (h : AW C N G n c T1 H Q) : AW C N G n c T H Q := fun ρ w a hR hA K hK =>
  h ρ w a hR ⟨hA.defers, hA.size, fun d v hd => hA.vals d v (ht d v hd)⟩ K hK

theorem Fr.more {ρ ρ' : Names} {H1 H' : AH} {w w' : World} (hs : ∀ b o, H1.get b = some o → H.get b = some o) (hn : H1.next = H.next) (h : Fr ρ H1 w ρ' H' w') : Fr ρ H w ρ' H' w' where
  same b hb := h.same b (by omega)
  next := by rw [← hn]; exact h.next
  size := h.size
  keep k hk hno := h.keep k hk fun b o s hb => hno b o s (hs b o hb)
  own b o s h1 h2 h3 := (h.own b o s h1 h2 h3).imp id fun ⟨b0, o0, s0, g1, g2⟩ => ⟨b0, o0, s0, hs _ _ g1, g2⟩
  dom b o hb ho := (h.dom b o (by omega) ho).imp fun o0 h0 => hs _ _ h0
  os := h.os
  tape := h.tape
  output := h.output

/-- Fewer objects are known. -/
theorem AW.forget {c : Code} {H1 : AH} (hs : ∀ b o, H1.get b = some o → H.get b = some o) (hn : H1.next = H.next) (h : AW C N G n c T H1 Q) : AW C N G n c T H Q := fun ρ w a hR hA K hK =>
  h ρ w a (hR.sub hs hn) hA K fun ρ' a' w' e T' H' hQ hA' hR' hF' => hK ρ' a' w' e T' H' hQ hA' hR' (hF'.more hs hn)

theorem AOs.nil {ops : Array Oper} {Q : PT AV → AH → Prop} (h : Q T H) : AOs C N G n ops [] T H Q := fun ρ w a hR hA _ hK => hK ρ a w T H h hA hR (Fr.refl _ _ _)

theorem AOs.skip {ops : Array Oper} {o : Oper} {l : List Oper} {Q : PT AV → AH → Prop} (hw : awanted ops T o = some false) (h : AOs C N G n ops l (aput n T o.dst (.tuple [])) H Q) : AOs C N G n ops (o :: l) T H Q := fun ρ w a hR hA K hK => by
  have hw' := awanted_ok hA hw
  unfold wpList
  rw [hw']
  simp only [Bool.false_eq_true, if_false]
  exact h ρ w _ hR (hA.put (by simp only [VR, undef]; exact ⟨[], rfl, VRs.nil⟩) o.dst) K hK

theorem AOs.op (hC : C.OK) {F : Fns} (hF : F.OK C N G) {ops : Array Oper} {o : Oper} {l : List Oper} {Q : PT AV → AH → Prop} {v : AV} {H' : AH} (hw : awanted ops T o = some true) (hv : evOp C F H (aeval G T) o = some (v, H'))
    (h : AOs C N G n ops l (aput n T o.dst v) H' Q) : AOs C N G n ops (o :: l) T H Q := fun ρ w a hR hA K hK => by
  have hw' := awanted_ok hA hw
  unfold wpList
  rw [hw']
  simp only [if_true]
  refine .inl (evOp_ok hC hF hR (hA.eval hR) hv _ _ fun x w' ρ' hx hR' hF' => ?_)
  exact h ρ' w' _ hR' ((hA.ext (hR.ext hF')).put hx o.dst) K fun ρ2 a2 w2 T2 H2 hQ hA2 hR2 hF2 => hK ρ2 a2 w2 T2 H2 hQ hA2 hR2 (hF'.trans hF2)

theorem AOs.evs (hC : C.OK) {F : Fns} (hF : F.OK C N G) {ops : Array Oper} {l : List Oper} {Q : PT AV → AH → Prop} {T' : PT AV} {H' : AH} (h : evOps C F G n ops l T H = some (T', H')) (hQ : Q T' H') : AOs C N G n ops l T H Q := fun ρ w a hR hA K hK =>
  evOps_ok hC hF h hR hA K fun ρ' a' w' => hK ρ' a' w' T' H' hQ

/-- A function's call, out of its body. -/
theorem AC.of (hC : C.OK) {f : FuncId} {g : Func} {c : Code} (hg : C.fn f = some g) (hb : g.body = some c) {args : List AV} (hl : args.length ≤ g.ntmps) {Q : AV → AH → Prop}
    (h : AW C N G g.ntmps c (PT.ofList .leaf 0 args) H fun e T' H' => match e with
      | .exit _ => False
      | _ => ∃ as, aresults C T' H' g.results.toList = some as ∧ Q (one as) H') : AC C N G f args H Q := fun ρ w vs hR hv => by
  have hvl := hv.length
  have hA : AR ρ (PT.ofList .leaf 0 args) g.ntmps { tmps := (⟨vs⟩ : Array Value) ++ Array.replicate (g.ntmps - (⟨vs⟩ : Array Value).size) undef, defers := [] } := by
    refine ⟨rfl, by simp; omega, fun d v hd => ?_⟩
    rw [PT.get_ofList0] at hd
    obtain ⟨x, hx, hr⟩ := hv.get d v hd
    refine ⟨x, ?_, hr⟩
    have hlt : d < vs.length := (List.getElem?_eq_some_iff.1 hx).1
    simp only [Array.getElem?_append]
    rw [if_pos (by simpa using hlt)]
    simpa using hx
  refine calls_of_wp (hC.fn f g hg) hb (h ρ w _ hR hA _ fun ρ' a' w' e T' H' hQ hA' hR' hF' => ?_)
  have hd := hA'.defers
  cases e with
  | normal =>
    obtain ⟨as, has, hq⟩ := hQ
    obtain ⟨v, h1, h2⟩ := results_ok hC hR' hA' has
    exact ⟨hd, v, h1, v, ρ', _, _, hq, rfl, h2, hR', hF'⟩
  | ret =>
    obtain ⟨as, has, hq⟩ := hQ
    obtain ⟨v, h1, h2⟩ := results_ok hC hR' hA' has
    exact ⟨hd, v, h1, v, ρ', _, _, hq, rfl, h2, hR', hF'⟩
  | exit i => exact hQ.elim

/-- What a call is known to do, as a function of the abstract heap. -/
theorem AC.known {f : FuncId} {args : List AV} {r : AV} {H' : AH} (h : AC C N G f args H fun x K => x = r ∧ K = H') : ∀ ρ w vs, R N G ρ H w → VRs ρ args vs → Calls C.P f ⟨vs⟩ w fun e w' => ∃ v ρ', e = .returned v ∧ VR ρ' r v ∧ R N G ρ' H' w' ∧ Fr ρ H w ρ' H' w' :=
  fun ρ w vs hR hv => (h ρ w vs hR hv).mono fun e w' ⟨v, ρ', x, K, ⟨hx, hK⟩, he, h1, h2, h3⟩ => by
    subst hx; subst hK
    exact ⟨v, ρ', he, h1, h2, h3⟩
end
end Go.AB
