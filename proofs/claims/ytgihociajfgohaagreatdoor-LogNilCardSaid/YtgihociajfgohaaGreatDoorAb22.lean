/- Functions that go over a map and write nothing that was there: all orders, all of one result. -/
import Derived.Test.YtgihociajfgohaaGreatDoorAb21
namespace Go.AB
set_option linter.unusedSimpArgs false

def bindAll {α β : Type} (f : α → Option (List β)) : List α → Option (List β)
  | [] => some []
  | a :: l => match f a with
    | none => none
    | some x => match bindAll f l with
      | none => none
      | some y => some (x ++ y)

theorem bindAll_mem {α β : Type} {f : α → Option (List β)} : ∀ {l : List α} {out : List β}, bindAll f l = some out → ∀ a ∈ l, ∃ x, f a = some x ∧ ∀ b ∈ x, b ∈ out
  | [], _, _, a, h => by simp at h
  | a0 :: l, out, h, a, ha => by
    simp only [bindAll] at h
    split at h
    · cases h
    · rename_i x hx
      split at h
      · cases h
      · rename_i y hy
        simp only [Option.some.injEq] at h
        subst h
        rcases List.mem_cons.1 ha with rfl | ha
        · exact ⟨x, hx, fun b hb => List.mem_append.2 (.inl hb)⟩
        · obtain ⟨z, hz, hm⟩ := bindAll_mem hy a ha
          exact ⟨z, hz, fun b hb => List.mem_append.2 (.inr (hm b hb))⟩

def anextD (n0 : Nat) (H : AH) (it : AV) : Option (List (AV × AH)) :=
  match it with
  | .ptr b 0 => bif Nat.ble n0 b then
    match H.get b with
    | some (.miter m left ver _) =>
      match H.get m with
      | some (.map ps ver') => bif Nat.beq ver ver' then
          match left with
          | [] => some [(.tuple [.bool false], H)]
          | _ :: _ => bindAll (fun k => (mget ps k).map fun a => [(.tuple [.bool true, .str k, a], H.set b (.miter m (left.erase k) ver (some k)))]) left
        else none
      | _ => none
    | _ => none
    else none
  | _ => none

def evOpD (C : Ctx) (n0 : Nat) (H : AH) (ev : Operand → AV) (o : Oper) : Option (List (AV × AH)) :=
  match pureOp C ev o with
  | some v => some [(v, H)]
  | none => match readOp C H ev o with
    | some v => some [(v, H)]
    | none => match newOp C ev o with
      | some (ao, mk) => some [(mk H.next, H.alloc ao)]
      | none => match o.op with
        | .range t x => (arange C H t (ev x)).map fun r => [r]
        | .next it false => anextD n0 H (ev it)
        | _ => none

/-- The names below n0 hold what they held. -/
def Keeps (n0 : Nat) (H H' : AH) : Prop := ∀ b, b < n0 → H'.get b = H.get b

theorem Keeps.refl (n0 : Nat) (H : AH) : Keeps n0 H H := fun _ _ => rfl
theorem Keeps.trans {n0 : Nat} {H H1 H2 : AH} (a : Keeps n0 H H1) (b : Keeps n0 H1 H2) : Keeps n0 H H2 := fun k hk => (b k hk).trans (a k hk)
theorem Keeps.alloc {n0 : Nat} {H : AH} (h : n0 ≤ H.next) (o : AO) : Keeps n0 H (H.alloc o) := fun k hk => by rw [AH.get_alloc, if_neg (by omega)]
theorem Keeps.set {n0 : Nat} {H : AH} {b : Nat} (h : n0 ≤ b) (o : AO) : Keeps n0 H (H.set b o) := fun k hk => by rw [AH.get_set, if_neg (by omega)]

theorem arange_keeps {C : Ctx} {H H' : AH} {t : TypeId} {x r : AV} (h : arange C H t x = some (r, H')) {n0 : Nat} (hn : n0 ≤ H.next) : Keeps n0 H H' := by
  unfold arange at h
  split at h
  · cases h
  · split at h
    · simp only [Option.some.injEq, Prod.mk.injEq] at h
      obtain ⟨_, rfl⟩ := h
      exact Keeps.alloc hn _
    · split at h
      · rename_i ps ver _
        cases hb : Nat.blt ver H.next
        · rw [hb] at h; cases h
        · rw [hb] at h
          simp only [cond_true, Option.some.injEq, Prod.mk.injEq] at h
          obtain ⟨_, rfl⟩ := h
          exact Keeps.alloc hn _
      · cases h
    · cases h

theorem evOpD_ok {C : Ctx} (hC : C.OK) {N G n0 : Nat} {ρ : Names} {H : AH} {w : World} (hR : R N G ρ H w) (hn0 : n0 ≤ H.next) {ev : Operand → AV} {a : Act} (hev : VEv ρ ev a.eval) {o : Oper} {outs : List (AV × AH)} (h : evOpD C n0 H ev o = some outs)
    (next : Act → World → Prop) (Q : Exit → Act → World → Prop) (hnext : ∀ r H', (r, H') ∈ outs → Keeps n0 H H' → ∀ v w' ρ', VR ρ' r v → R N G ρ' H' w' → Fr ρ H w ρ' H' w' → next (a.put o.dst v) w') : o.wp C.P a w next Q := by
  unfold evOpD at h
  split at h
  · rename_i v hv
    simp only [Option.some.injEq] at h; subst h
    obtain ⟨u, hu, hr⟩ := pureOp_ok hC hev hv w
    unfold Oper.wp
    rw [hu]
    exact hnext v H (by simp) (Keeps.refl _ _) u w ρ hr hR (Fr.refl _ _ _)
  · split at h
    · rename_i v hv
      simp only [Option.some.injEq] at h; subst h
      obtain ⟨u, w', hu, hr, hR', hF'⟩ := readOp_ok hC hR hev hv
      unfold Oper.wp
      rw [hu]
      exact hnext v H (by simp) (Keeps.refl _ _) u w' ρ hr hR' hF'
    · split at h
      · rename_i ao mk hn
        simp only [Option.some.injEq] at h; subst h
        obtain ⟨v, ob, d, s, hm⟩ := newOp_ok hC (w := w) hev hn H.next (hR.fresh _ (Nat.le_refl _))
        obtain ⟨h1, h2⟩ := hm.alloc hR
        unfold Oper.wp
        rw [hm.run]
        exact hnext (mk H.next) (H.alloc ao) (by simp) (Keeps.alloc hn0 _) v _ _ hm.val h1 h2
      · obtain ⟨dst, op, type, pos, after, guard⟩ := o
        simp only at h
        split at h
        · rename_i t x _ _ _
          simp only [Option.map_eq_some_iff] at h
          obtain ⟨⟨r, H'⟩, h, rfl⟩ := h
          obtain ⟨u, w', ρ', h1, h2, h3, h4⟩ := arange_ok hC hR (hev x) h
          unfold Oper.wp
          have : (execOp a.eval { dst, op := .range t x, type, pos, after, guard }).run C.P w = .ok (.value u) w' := by
            simp only [execOp, Sem.run_bind, h1, Result.andThen_ok, Sem.run_pure]
          rw [this]
          exact hnext r H' (by simp) (arange_keeps h hn0) u w' ρ' h2 h3 h4
        · rename_i it _ _ _
          have hit := hev it
          unfold anextD at h
          split at h
          · rename_i b hb
            rw [hb] at hit
            cases hbl : Nat.ble n0 b
            · rw [hbl] at h; cases h
            · rw [hbl] at h
              have hle := Nat.le_of_ble_eq_true hbl
              simp only [cond_true] at h
              split at h
              · rename_i m left ver cur hgb
                split at h
                · rename_i ps ver' hgm
                  cases hv : Nat.beq ver ver'
                  · rw [hv] at h; cases h
                  · rw [hv] at h
                    obtain rfl := Nat.eq_of_beq_eq_true hv
                    simp only [cond_true] at h
                    obtain ⟨g1, g2⟩ := next_any (P := C.P) hR hgb hgm hit type
                    split at h
                    · simp only [Option.some.injEq] at h; subst h
                      unfold Oper.wp
                      have : (execOp a.eval { dst, op := .next it false, type, pos, after, guard }).run C.P w = .ok (.value (.tuple #[.bool false])) w := by
                        simp only [execOp, Sem.run_bind, g1 rfl, Result.andThen_ok, Sem.run_pure]
                      rw [this]
                      refine hnext (.tuple [.bool false]) H (by simp) (Keeps.refl _ _) _ w ρ ?_ hR (Fr.refl _ _ _)
                      simp only [VR]
                      exact ⟨_, rfl, VRs.cons (by simp [VR]) VRs.nil⟩
                    · rename_i k0 l0
                      obtain ⟨k, x, u, w', hk, hx, hrun, hvu, hR', hF'⟩ := g2 (by simp)
                      obtain ⟨y, hy, hmem⟩ := bindAll_mem h k hk
                      rw [hx] at hy
                      simp only [Option.map_some, Option.some.injEq] at hy
                      subst hy
                      unfold Oper.wp
                      have : (execOp a.eval { dst, op := .next it false, type, pos, after, guard }).run C.P w = .ok (.value u) w' := by
                        simp only [execOp, Sem.run_bind, hrun, Result.andThen_ok, Sem.run_pure]
                      rw [this]
                      exact hnext _ _ (hmem _ (by simp)) (Keeps.set hle _) u w' ρ hvu hR' hF'
                · cases h
              · cases h
          · cases h
        · cases h

def evOpsD (C : Ctx) (G n n0 : Nat) (ops : Array Oper) : List Oper → PT AV → AH → Option (List (PT AV × AH))
  | [], T, H => some [(T, H)]
  | o :: rest, T, H =>
    match awanted ops T o with
    | none => none
    | some false => evOpsD C G n n0 ops rest (aput n T o.dst (.tuple [])) H
    | some true =>
      match evOpD C n0 H (aeval G T) o with
      | none => none
      | some outs => bindAll (fun x => evOpsD C G n n0 ops rest (aput n T o.dst x.1) x.2) outs

theorem evOpsD_ok {C : Ctx} (hC : C.OK) {N G n0 : Nat} {n : Nat} {ops : Array Oper} : ∀ {l : List Oper} {T : PT AV} {H : AH} {outs : List (PT AV × AH)}, evOpsD C G n n0 ops l T H = some outs → ∀ {ρ : Names} {w : World} {a : Act}, R N G ρ H w → n0 ≤ H.next → AR ρ T n a →
    ∀ (Q : Exit → Act → World → Prop), (∀ ρ' a' w' T' H', (T', H') ∈ outs → Keeps n0 H H' → AR ρ' T' n a' → R N G ρ' H' w' → Fr ρ H w ρ' H' w' → Q .normal a' w') → wpList C.P ops Q l a w
  | [], T, H, outs, h, ρ, w, a, hR, hn0, hA, Q, hQ => by
    simp only [evOpsD, Option.some.injEq] at h
    subst h
    exact hQ ρ a w T H (by simp) (Keeps.refl _ _) hA hR (Fr.refl _ _ _)
  | o :: rest, T, H, outs, h, ρ, w, a, hR, hn0, hA, Q, hQ => by
    simp only [evOpsD] at h
    split at h
    · cases h
    · rename_i hw
      have hw' := awanted_ok hA hw
      unfold wpList
      rw [hw']
      simp only [Bool.false_eq_true, if_false]
      exact evOpsD_ok hC h hR hn0 (hA.put (by simp only [VR, undef]; exact ⟨[], rfl, VRs.nil⟩) o.dst) Q hQ
    · rename_i hw
      have hw' := awanted_ok hA hw
      split at h
      · cases h
      · rename_i outs1 hop
        unfold wpList
        rw [hw']
        simp only [if_true]
        refine .inl (evOpD_ok hC hR hn0 (hA.eval hR) hop _ _ fun r H1 hm1 hk1 x w1 ρ1 hx hR1 hF1 => ?_)
        obtain ⟨outs2, h2, hm2⟩ := bindAll_mem h _ hm1
        refine evOpsD_ok hC h2 hR1 (Nat.le_trans hn0 hF1.next) ((hA.ext (hR.ext hF1)).put hx o.dst) Q fun ρ2 a2 w2 T2 H2 hmem hk2 hA2 hR2 hF2 => ?_
        exact hQ ρ2 a2 w2 T2 H2 (hm2 _ hmem) (hk1.trans hk2) hA2 hR2 (hF1.trans hF2)

def evCD (C : Ctx) (G n n0 : Nat) : Nat → Code → PT AV → AH → Option (List (AEx × PT AV × AH))
  | 0, _, _, _ => none
  | fuel + 1, c, T, H =>
    match c with
    | .skip => some [(.normal, T, H)]
    | .label _ => some [(.normal, T, H)]
    | .exit id => some [(.exit id, T, H)]
    | .ret => some [(.ret, T, H)]
    | .seq a b => match evCD C G n n0 fuel a T H with
      | none => none
      | some outs => bindAll (fun x => match x with
        | (.normal, T', H') => evCD C G n n0 fuel b T' H'
        | r => some [r]) outs
    | .cond c a b => match aeval G T c with
      | .bool true => evCD C G n n0 fuel a T H
      | .bool false => evCD C G n n0 fuel b T H
      | _ => none
    | .block id b => match evCD C G n n0 fuel b T H with
      | none => none
      | some outs => bindAll (fun x => match x with
        | (.exit i, T', H') => if i = id then some [(.normal, T', H')] else some [(.exit i, T', H')]
        | r => some [r]) outs
    | .loop b => match evCD C G n n0 fuel b T H with
      | none => none
      | some outs => bindAll (fun x => match x with
        | (.normal, T', H') => evCD C G n n0 fuel (.loop b) T' H'
        | r => some [r]) outs
    | .scope b => evCD C G n n0 fuel b T H
    | .region _ ops false => (evOpsD C G n n0 ops ops.toList T H).map fun l => l.map fun x => (.normal, x.1, x.2)
    | _ => none

theorem evCD_ok {C : Ctx} (hC : C.OK) {N G n0 : Nat} {n : Nat} : ∀ (fuel : Nat),
    (∀ (c : Code) (T : PT AV) (H : AH) (outs : List (AEx × PT AV × AH)), evCD C G n n0 fuel c T H = some outs → ∀ (ρ : Names) (w : World) (a : Act), R N G ρ H w → n0 ≤ H.next → AR ρ T n a →
      ∀ (Q : Exit → Act → World → Prop), (∀ ρ' a' w' e T' H', (e, T', H') ∈ outs → Keeps n0 H H' → AR ρ' T' n a' → R N G ρ' H' w' → Fr ρ H w ρ' H' w' → Q e.to a' w') → c.wp C.P Q a w) ∧
    (∀ (c : Code) (T : PT AV) (H : AH) (outs : List (AEx × PT AV × AH)), evCD C G n n0 fuel (.loop c) T H = some outs → ∀ (ρ : Names) (w : World) (a : Act), R N G ρ H w → n0 ≤ H.next → AR ρ T n a →
      ∀ (Q : Exit → Act → World → Prop), (∀ ρ' a' w' e T' H', (e, T', H') ∈ outs → Keeps n0 H H' → AR ρ' T' n a' → R N G ρ' H' w' → Fr ρ H w ρ' H' w' → Q e.to a' w') → Code.rounds C.P c Q fuel a w)
  | 0 => ⟨fun c T H outs h => by simp [evCD] at h, fun c T H outs h => by simp [evCD] at h⟩
  | fuel + 1 => by
    obtain ⟨ih, ihl⟩ := evCD_ok hC (N := N) (n := n) (n0 := n0) fuel
    have loop : ∀ (c : Code) (T : PT AV) (H : AH) (outs : List (AEx × PT AV × AH)), evCD C G n n0 (fuel + 1) (.loop c) T H = some outs → ∀ (ρ : Names) (w : World) (a : Act), R N G ρ H w → n0 ≤ H.next → AR ρ T n a →
        ∀ (Q : Exit → Act → World → Prop), (∀ ρ' a' w' e T' H', (e, T', H') ∈ outs → Keeps n0 H H' → AR ρ' T' n a' → R N G ρ' H' w' → Fr ρ H w ρ' H' w' → Q e.to a' w') → Code.rounds C.P c Q (fuel + 1) a w := by
      intro c T H outs h ρ w a hR hn0 hA Q hQ
      simp only [evCD] at h
      rw [rounds_succ]
      split at h
      · cases h
      · rename_i outs1 h1
        refine ih c T H outs1 h1 ρ w a hR hn0 hA _ fun ρ1 a1 w1 e1 T1 H1 hm hk1 hA1 hR1 hF1 => ?_
        obtain ⟨outs2, h2, hm2⟩ := bindAll_mem h _ hm
        cases e1 with
        | normal =>
          simp only at h2
          exact ihl c T1 H1 outs2 h2 ρ1 w1 a1 hR1 (Nat.le_trans hn0 hF1.next) hA1 Q fun ρ2 a2 w2 e2 T2 H2 hm' hk2 hA2 hR2 hF2 => hQ ρ2 a2 w2 e2 T2 H2 (hm2 _ hm') (hk1.trans hk2) hA2 hR2 (hF1.trans hF2)
        | exit i =>
          simp only [Option.some.injEq] at h2
          subst h2
          exact hQ ρ1 a1 w1 _ T1 H1 (hm2 _ (by simp)) hk1 hA1 hR1 hF1
        | ret =>
          simp only [Option.some.injEq] at h2
          subst h2
          exact hQ ρ1 a1 w1 _ T1 H1 (hm2 _ (by simp)) hk1 hA1 hR1 hF1
    refine ⟨fun c T H outs h ρ w a hR hn0 hA Q hQ => ?_, loop⟩
    cases c with
    | skip =>
      simp only [evCD, Option.some.injEq] at h
      subst h
      exact wp_skip (hQ ρ a w .normal T H (by simp) (Keeps.refl _ _) hA hR (Fr.refl _ _ _))
    | label l =>
      simp only [evCD, Option.some.injEq] at h
      subst h
      exact wp_label (hQ ρ a w .normal T H (by simp) (Keeps.refl _ _) hA hR (Fr.refl _ _ _))
    | exit id =>
      simp only [evCD, Option.some.injEq] at h
      subst h
      exact wp_exit (hQ ρ a w (.exit id) T H (by simp) (Keeps.refl _ _) hA hR (Fr.refl _ _ _))
    | ret =>
      simp only [evCD, Option.some.injEq] at h
      subst h
      exact wp_ret (hQ ρ a w .ret T H (by simp) (Keeps.refl _ _) hA hR (Fr.refl _ _ _))
    | seq x y =>
      simp only [evCD] at h
      refine wp_seq ?_
      split at h
      · cases h
      · rename_i outs1 h1
        refine ih x T H outs1 h1 ρ w a hR hn0 hA _ fun ρ1 a1 w1 e1 T1 H1 hm hk1 hA1 hR1 hF1 => ?_
        obtain ⟨outs2, h2, hm2⟩ := bindAll_mem h _ hm
        cases e1 with
        | normal =>
          simp only at h2
          exact ih y T1 H1 outs2 h2 ρ1 w1 a1 hR1 (Nat.le_trans hn0 hF1.next) hA1 Q fun ρ2 a2 w2 e2 T2 H2 hm' hk2 hA2 hR2 hF2 => hQ ρ2 a2 w2 e2 T2 H2 (hm2 _ hm') (hk1.trans hk2) hA2 hR2 (hF1.trans hF2)
        | exit i =>
          simp only [Option.some.injEq] at h2
          subst h2
          exact hQ ρ1 a1 w1 _ T1 H1 (hm2 _ (by simp)) hk1 hA1 hR1 hF1
        | ret =>
          simp only [Option.some.injEq] at h2
          subst h2
          exact hQ ρ1 a1 w1 _ T1 H1 (hm2 _ (by simp)) hk1 hA1 hR1 hF1
    | cond b x y =>
      simp only [evCD] at h
      have hev := hA.eval hR b
      split at h
      · rename_i hb
        rw [hb] at hev
        simp only [VR] at hev
        exact wp_cond_true hev (ih x T H outs h ρ w a hR hn0 hA Q hQ)
      · rename_i hb
        rw [hb] at hev
        simp only [VR] at hev
        exact wp_cond_false hev (ih y T H outs h ρ w a hR hn0 hA Q hQ)
      · cases h
    | block id b =>
      simp only [evCD] at h
      refine wp_block ?_
      split at h
      · cases h
      · rename_i outs1 h1
        refine ih b T H outs1 h1 ρ w a hR hn0 hA _ fun ρ1 a1 w1 e1 T1 H1 hm hk1 hA1 hR1 hF1 => ?_
        obtain ⟨outs2, h2, hm2⟩ := bindAll_mem h _ hm
        cases e1 with
        | normal =>
          simp only [Option.some.injEq] at h2
          subst h2
          exact hQ ρ1 a1 w1 _ T1 H1 (hm2 _ (by simp)) hk1 hA1 hR1 hF1
        | exit i =>
          simp only [AEx.to, Exit.inBlock]
          simp only at h2
          split at h2
          · rename_i hi
            simp only [Option.some.injEq] at h2
            subst h2
            rw [if_pos hi]
            exact hQ ρ1 a1 w1 .normal T1 H1 (hm2 _ (by simp)) hk1 hA1 hR1 hF1
          · rename_i hi
            simp only [Option.some.injEq] at h2
            subst h2
            rw [if_neg hi]
            exact hQ ρ1 a1 w1 (.exit i) T1 H1 (hm2 _ (by simp)) hk1 hA1 hR1 hF1
        | ret =>
          simp only [Option.some.injEq] at h2
          subst h2
          exact hQ ρ1 a1 w1 _ T1 H1 (hm2 _ (by simp)) hk1 hA1 hR1 hF1
    | loop b =>
      exact wp_loop_rounds (fuel + 1) (loop b T H outs h ρ w a hR hn0 hA Q hQ)
    | scope b =>
      simp only [evCD] at h
      refine wp_scope_straight (ih b T H outs h ρ w a hR hn0 hA _ fun ρ1 a1 w1 e1 T1 H1 hm hk1 hA1 hR1 hF1 => ?_)
      have := hQ ρ1 a1 w1 e1 T1 H1 hm hk1 hA1 hR1 hF1
      cases e1 <;> exact this
    | region id ops draw =>
      cases draw with
      | true => simp [evCD] at h
      | false =>
        simp only [evCD, Option.map_eq_some_iff] at h
        obtain ⟨l, hl, rfl⟩ := h
        exact wp_region_list (evOpsD_ok hC hl hR hn0 hA Q fun ρ1 a1 w1 T1 H1 hm hk1 hA1 hR1 hF1 => hQ ρ1 a1 w1 .normal T1 H1 (List.mem_map.2 ⟨(T1, H1), hm, rfl⟩) hk1 hA1 hR1 hF1)
    | rangeFunc f ps as b => simp [evCD] at h
    | goto l => simp [evCD] at h
    | refuse s => simp [evCD] at h

/-- What an outcome yields. -/
def outOf (C : Ctx) (g : Func) (x : AEx × PT AV × AH) : Option (AV × Nat) :=
  match x with
  | (.exit _, _, _) => none
  | (_, T, H) => (aresults C T H g.results.toList).map fun as => (one as, H.next)

/-- All outcomes yield the same; n: a bound of the names. -/
def allOut (C : Ctx) (g : Func) (r : AV) : List (AEx × PT AV × AH) → Nat → Option Nat
  | [], n => some n
  | x :: l, n => match outOf C g x with
    | none => none
    | some (v, m) => bif AV.beq v r then allOut C g r l (bif Nat.ble n m then m else n) else none

theorem allOut_le {C : Ctx} {g : Func} {r : AV} : ∀ {l : List (AEx × PT AV × AH)} {n k : Nat}, allOut C g r l n = some k → n ≤ k ∧ ∀ x ∈ l, ∃ m, outOf C g x = some (r, m) ∧ m ≤ k
  | [], n, k, h => by simp only [allOut, Option.some.injEq] at h; subst h; simp
  | x :: l, n, k, h => by
    simp only [allOut] at h
    split at h
    · cases h
    · rename_i v m hx
      cases hb : AV.beq v r
      · rw [hb] at h; cases h
      · rw [hb] at h
        simp only [cond_true] at h
        obtain rfl := AV.beq_eq _ _ hb
        obtain ⟨h1, h2⟩ := allOut_le h
        have hm : n ≤ k ∧ m ≤ k := by
          cases hc : Nat.ble n m
          · rw [hc] at h1
            simp only [cond_false] at h1
            have : ¬ n ≤ m := fun e => by rw [Nat.ble_eq_true_of_le e] at hc; cases hc
            omega
          · rw [hc] at h1
            have := Nat.le_of_ble_eq_true hc
            simp only [cond_true] at h1
            omega
        refine ⟨hm.1, fun y hy => ?_⟩
        rcases List.mem_cons.1 hy with rfl | hy
        · exact ⟨m, hx, hm.2⟩
        · exact h2 y hy

/-- A function's call, in whatever order its loops go over maps. -/
def evFnD (C : Ctx) (G fuel : Nat) (f : FuncId) (args : List AV) (H : AH) : Option (AV × AH) :=
  match C.fn f with
  | none => none
  | some g => match g.body with
    | none => none
    | some c => bif Nat.ble args.length g.ntmps then
        match evCD C G g.ntmps H.next fuel c (PT.ofList .leaf 0 args) H with
        | some (x :: l) => match outOf C g x with
          | some (r, _) => match allOut C g r (x :: l) H.next with
            | some k => some (r, ⟨H.t, k⟩)
            | none => none
          | none => none
        | _ => none
      else none

theorem Keeps.back {N G : Nat} {ρ ρ' : Names} {H H' : AH} {w w' : World} {k : Nat} (hR : R N G ρ H w) (hR' : R N G ρ' H' w') (hF : Fr ρ H w ρ' H' w') (hk : Keeps H.next H H') (hle : H'.next ≤ k) :
    R N G ρ' ⟨H.t, k⟩ w' ∧ Fr ρ H w ρ' ⟨H.t, k⟩ w' := by
  have hget : ∀ b o, AH.get ⟨H.t, H'.next⟩ b = some o → H'.get b = some o := fun b o hb => by
    have hb' : H.get b = some o := hb
    rw [hk b (hR.dom_lt hb')]; exact hb'
  have h1 : R N G ρ' ⟨H.t, H'.next⟩ w' := hR'.sub hget rfl
  refine ⟨h1.bump hle, ⟨hF.same, Nat.le_trans hF.next hle, hF.size, hF.keep, fun b o s hb hrw hs => ?_, fun b o _ hb => ⟨o, hb⟩, hF.os, hF.tape, hF.output⟩⟩
  exact hF.own b o s (hget b o hb) hrw hs

theorem evFnD_ok {C : Ctx} (hC : C.OK) {N G : Nat} {fuel : Nat} {f : FuncId} {args : List AV} {H H' : AH} {r : AV} (h : evFnD C G fuel f args H = some (r, H')) {ρ : Names} {w : World} {vs : List Value} (hR : R N G ρ H w) (hv : VRs ρ args vs) :
    Calls C.P f ⟨vs⟩ w fun e w' => ∃ v ρ', e = .returned v ∧ VR ρ' r v ∧ R N G ρ' H' w' ∧ Fr ρ H w ρ' H' w' := by
  unfold evFnD at h
  split at h
  · cases h
  · rename_i g hg
    split at h
    · cases h
    · rename_i c hb
      cases hl : Nat.ble args.length g.ntmps
      · rw [hl] at h; cases h
      · rw [hl] at h
        have hlen : args.length ≤ g.ntmps := Nat.le_of_ble_eq_true hl
        have hvl := hv.length
        simp only [cond_true] at h
        have hA : AR ρ (PT.ofList .leaf 0 args) g.ntmps { tmps := (⟨vs⟩ : Array Value) ++ Array.replicate (g.ntmps - (⟨vs⟩ : Array Value).size) undef, defers := [] } := by
          refine ⟨rfl, by simp; omega, fun d v hd => ?_⟩
          rw [PT.get_ofList0] at hd
          obtain ⟨x, hx, hr⟩ := hv.get d v hd
          refine ⟨x, ?_, hr⟩
          have hlt : d < vs.length := (List.getElem?_eq_some_iff.1 hx).1
          simp only [Array.getElem?_append]
          rw [if_pos (by simpa using hlt)]
          simpa using hx
        split at h
        · rename_i x l hev
          split at h
          · rename_i r1 m1 hx
            split at h
            · rename_i k hall
              simp only [Option.some.injEq, Prod.mk.injEq] at h
              obtain ⟨rfl, rfl⟩ := h
              obtain ⟨_, hall⟩ := allOut_le hall
              refine calls_of_wp (hC.fn f g hg) hb ((evCD_ok hC (N := N) (n := g.ntmps) (n0 := H.next) fuel).1 c _ H _ hev ρ w _ hR (Nat.le_refl _) hA _ fun ρ' a' w' e T1 H1 hm hk hA' hR' hF' => ?_)
              obtain ⟨m, ho, hle⟩ := hall _ hm
              have hd := hA'.defers
              have main : (aresults C T1 H1 g.results.toList).map (fun as => (one as, H1.next)) = some (r1, m) → ∃ v, (results g a'.tmps).run C.P w' = .ok v w' ∧ ∃ v' ρ'', Ending.returned v = .returned v' ∧ VR ρ'' r1 v' ∧ R N G ρ'' ⟨H.t, k⟩ w' ∧ Fr ρ H w ρ'' ⟨H.t, k⟩ w' := by
                intro hres
                simp only [Option.map_eq_some_iff, Prod.mk.injEq] at hres
                obtain ⟨as, has, rfl, rfl⟩ := hres
                obtain ⟨v, h1, h2⟩ := results_ok hC hR' hA' has
                obtain ⟨h3, h4⟩ := Keeps.back hR hR' hF' hk hle
                exact ⟨v, h1, v, ρ', rfl, h2, h3, h4⟩
              cases e with
              | normal => exact ⟨hd, main ho⟩
              | ret => exact ⟨hd, main ho⟩
              | exit i => simp [outOf] at ho
            · cases h
          · cases h
        · cases h

end Go.AB
