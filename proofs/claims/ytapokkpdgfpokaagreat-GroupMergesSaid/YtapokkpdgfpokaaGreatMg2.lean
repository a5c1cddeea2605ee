/- Group: bags put to and taken from; what a cell tells; no condition. -/
import Derived.Test.YtapokkpdgfpokaaGreatMg1
set_option linter.unusedSimpArgs false
set_option linter.unusedVariables false
set_option maxRecDepth 100000
open Go Go.AB Go.Proofs
namespace Go.Proofs.YtapokkpdgfpokaaGreat
set_option maxRecDepth 100000

theorem ok_sub {t : Tr} (h : t.ok) : subT t := by
  cases t with
  | leaf => trivial
  | node b n k a x l r => exact ⟨h.1, h.2.2.2.1, h.2.2.2.2⟩
/-- A side comes to the place of its node. -/
theorem TD.lift {H K : AH} {p o b : Nat} {n : Int} {k a h : Nat} {l r s : Tr} {v w : AV} (wf : WF H) (hs : SlotAt H p o v) (hp : p ∉ (Tr.node b n k a h l r).blks) (hnd : s.blks.Nodup) (hsub : ∀ c ∈ s.blks, c ∈ (Tr.node b n k a h l r).blks) (hw : TrAt H w s)
    (hk : ∀ ps, H.get p = some (.cells false ps) → K.get p = some (.cells false (ps.set o w))) (ho : ∀ j, j ≠ p → ∀ y, H.get j = some y → K.get j = some y) (hn : H.next ≤ K.next) : TD H K p o (.node b n k a h l r) s :=
  ⟨⟨w, hk, hw.keep fun c hc y hy => ho c (fun e => hp (e ▸ hsub c hc)) y hy⟩, fun c hc => .inl (hsub c hc), hnd, fun j y h1 _ hy => ho j h1 y hy, hn⟩

set_option maxHeartbeats 16000000 in
theorem first141 (N : Bd) (t : Tr) : ∀ (H : AH) (p o : Nat) (v : AV), SlotAt H p o v → TrAt H v t → p ∉ t.blks → t.blks.Nodup → t.ok → t.ino ≠ [] → sumT t.ino ≤ 1000000000 →
    AC tC N 0 141 [.agg [.ptr p o]] H fun x K => ∃ (n0 : Int) (k0 : Nat) (rest : List (Int × Nat)) (t' : Tr), t.ino = (n0, k0) :: rest ∧ x = .tuple [.int .i64 n0, .int .i64 (k0 : Nat)] ∧ TD H K p o t t' ∧ t'.ok ∧ t'.ino = rest := by
  induction t with
  | leaf => intro H p o v hs ht hp hnd hok hne; exact absurd rfl hne
  | node b m k0 a h l r ihl ihr =>
    intro H p o v hs ht hp hnd hok hne hN
    refine AC.wf0 fun wfH => ?_
    refine AC.by (n := 41) (rs := [.tmp 2, .tmp 3]) tOK fn141 rfl rfl rfl rfl ?_
    have e0 : (PT.ofList .leaf 0 [AV.agg [.ptr p o]]).get 0 = some (.agg [.ptr p o]) := rfl
    obtain ⟨ps, hps, hpo, hpl⟩ := hs.cells
    have pN := wfH _ _ hps
    obtain ⟨k0p, ha, hh, okl, okr⟩ := hok
    have hlt := ht.lt wfH
    have bN : b < H.next := hlt b (by simp [Tr.blks])
    obtain ⟨bl, br, ndl, ndr⟩ := nd_sides hnd
    have hN1 : sumT l.ino + (k0 + sumT r.ino) ≤ 1000000000 := by
      have hN : sumT (l.ino ++ (m, k0) :: r.ino) ≤ 1000000000 := hN
      rwa [sumT_app, sumT_cons] at hN
    have pb : p ≠ b := fun e => hp (by simp [Tr.blks, e])
    generalize hK1 : H.alloc (.cells false [.ptr p o]) = K1
    obtain ⟨sK1, wfK1, nK1, gK1⟩ := laid wfH hK1
    have hps := sK1 _ _ hps
    have t1 : TD H K1 p o (.node b m k0 a h l r) (.node b m k0 a h l r) := TD.stay hs ht hnd sK1 (by omega)
    obtain ⟨v1, hs1, ht1⟩ := t1.slotAt hs
    have hv1 : v1 = v := by
      obtain ⟨q, g1, g2⟩ := hs1
      rw [hps] at g1; cases g1
      rw [hpo] at g2; exact (Option.some.inj g2).symm
    subst hv1
    have ht1' := ht1
    obtain ⟨rfl, vl, vr, hb1, hl1, hr1⟩ := ht1'
    have hb1' : K1.get b = some (.cells false [.int .i64 m, .int .i64 (k0 : Nat), .int .i64 (a : Nat), .int .i64 (h : Nat), vl, vr]) := hb1
    have boxn : ∀ c ∈ (Tr.node b m k0 a h l r).blks, H.next ≠ c := fun c hc => by have := hlt c hc; omega
    cases l with
    | leaf =>
      have hvl : vl = .nilp := hl1
      subst hvl
      have hvr := hr1.one
      generalize hK2 : K1.set p (.cells false (ps.set o vr)) = K2
      have ho2 : ∀ j, j ≠ p → ∀ y, K1.get j = some y → K2.get j = some y := fun j hj y hy => by rw [← hK2, AH.get_set, if_neg hj]; exact hy
      have T2 : TD K1 K2 p o (.node b m k0 a h .leaf r) r := TD.lift wfK1 hs1 hp ndr (fun c hc => by simp [Tr.blks, hc]) hr1 (fun qs hq => by rw [hps] at hq; cases hq; rw [← hK2, AH.get_set, if_pos rfl]) ho2 (by rw [← hK2]; exact Nat.le_refl _)
      have hb2 := ho2 b (Ne.symm pb) _ hb1'
      with_reducible repeat' first | refine za ?_ | refine AW.drawT tOK wu (by simp only [pickAll, Nat.reduceAdd]; rfl) ?_ | refine DN.nil tOK ?_ | (refine zd ?_; refine zq3 @gK1 @hb1' @hb2 ?_; refine Same.mk ?_) | ((first | refine AOs.o1 tOK ?_ | refine DN.act0E tOK (by kernel_rfl) wu ?_); refine zq8 @e0 @hK1 @gK1 @hps @hpo @hb1' @hvr (And.intro @hpl @hK2) ?_) | fail
      exact fnPost_ret2 gt1 gt1 ⟨m, k0, r.ino, r, rfl, rfl, t1.trans wfH hs T2, okr, rfl⟩
    | node c m2 k2 a2 h2 l2 r2 =>
      have hl1' := hl1
      obtain ⟨rfl, vl2, vr2, hc1, _, _⟩ := hl1'
      have hne2 : (Tr.node c m2 k2 a2 h2 l2 r2).ino ≠ [] := by simp [Tr.ino]
      refine zp7 @e0 @hK1 @gK1 @hps @hpo @hb1' @bd150 ?_
      refine AOs.cq tOK fn141 ok141 (ihl K1 b 4 (.ptr c 0) ⟨_, hb1, rfl⟩ hl1 bl ndl okl hne2 (by omega)).wf ?_
      rintro x K2 ⟨⟨n0, k00, rest, l', hino, rfl, td2, ok2, ino2⟩, wf2⟩
      have T2 := t1.trans wfH hs (TD.left wfK1 hs1 ht1 hp hnd td2)
      have gb2 : K2.get H.next = some (.cells false [.ptr p o]) := td2.keep _ _ (boxn b (by simp [Tr.blks])) (fun hc => boxn _ (by simp only [Tr.blks, List.mem_cons, List.mem_append] at hc ⊢; exact .inr (.inl hc)) rfl) gK1
      have hsum : sumT rest ≤ sumT (Tr.node c m2 k2 a2 h2 l2 r2).ino := by rw [hino, sumT_cons]; omega
      refine zs3 @ld150 @gb2 @ld1 ?_
      refine AOs.cq tOK fn142 ok142 (level_ac (K1 := K1) (ti := rest ++ (m, k0) :: r.ino) wfH hs hp pN T2 ⟨k0p, ok2, okr⟩ (by rw [← ino2]; rfl) (by rw [sumT_app, sumT_cons]; omega)) ?_
      rintro x K4 ⟨t', h4, h5, h6⟩
      refine zs0 ?_
      exact fnPost_ret2 gt1 gt1 ⟨n0, k00, rest ++ (m, k0) :: r.ino, t', by show (Tr.node c m2 k2 a2 h2 l2 r2).ino ++ _ = _; rw [hino]; rfl, rfl, h4, h5, h6⟩

set_option maxHeartbeats 16000000 in
theorem take110 (N : Bd) (n : Int) (t : Tr) : ∀ (H : AH) (p o : Nat) (v : AV), SlotAt H p o v → TrAt H v t → p ∉ t.blks → t.blks.Nodup → t.ok → Srt t.ino → (∃ k, (n, k) ∈ t.ino) → sumT t.ino ≤ 1000000000 →
    AC tC N 0 110 [.agg [.ptr p o], .int .i64 n] H fun x K => ∃ t', TD H K p o t t' ∧ t'.ok ∧ t'.ino = delL n t.ino := by
  induction t with
  | leaf => intro H p o v hs ht hp hnd hok hsrt hmem; obtain ⟨k, hk⟩ := hmem; simp [Tr.ino] at hk
  | node b m k0 a h l r ihl ihr =>
    intro H p o v hs ht hp hnd hok hsrt hmem hN
    refine AC.wf0 fun wfH => ?_
    refine AC.by (n := 77) (rs := []) tOK fn110 rfl rfl rfl rfl ?_
    have e0 : (PT.ofList .leaf 0 [AV.agg [.ptr p o], .int .i64 n]).get 0 = some (.agg [.ptr p o]) := rfl
    have e1 : (PT.ofList .leaf 0 [AV.agg [.ptr p o], .int .i64 n]).get 1 = some (.int .i64 n) := rfl
    obtain ⟨ps, hps, hpo, hpl⟩ := hs.cells
    have pN := wfH _ _ hps
    obtain ⟨k0p, ha, hh, okl, okr⟩ := hok
    have hlt := ht.lt wfH
    have bN : b < H.next := hlt b (by simp [Tr.blks])
    obtain ⟨bl, br, ndl, ndr⟩ := nd_sides hnd
    obtain ⟨sl, sr, lm, rm⟩ := Srt.split (l := l.ino) (r := r.ino) hsrt
    have hN1 : sumT l.ino + (k0 + sumT r.ino) ≤ 1000000000 := by
      have hN : sumT (l.ino ++ (m, k0) :: r.ino) ≤ 1000000000 := hN
      rwa [sumT_app, sumT_cons] at hN
    have pb : p ≠ b := fun e => hp (by simp [Tr.blks, e])
    obtain ⟨kk, hkk⟩ := hmem
    have hkk : (n, kk) ∈ l.ino ++ (m, k0) :: r.ino := hkk
    have hdl : ∀ x : List (Int × Nat), sumT (delL n x) ≤ sumT x := by
      intro x
      induction x with
      | nil => exact Nat.le_refl _
      | cons q x ih =>
        unfold delL
        split
        · split
          · rw [sumT_cons, sumT_cons]; show q.2 - 1 + _ ≤ _; omega
          · rw [sumT_cons]; omega
        · rw [sumT_cons, sumT_cons]; omega
    generalize hK1 : H.alloc (.cells false [.ptr p o]) = K1
    obtain ⟨sK1, wfK1, nK1, gK1⟩ := laid wfH hK1
    have hps := sK1 _ _ hps
    have t1 : TD H K1 p o (.node b m k0 a h l r) (.node b m k0 a h l r) := TD.stay hs ht hnd sK1 (by omega)
    obtain ⟨v1, hs1, ht1⟩ := t1.slotAt hs
    have hv1 : v1 = v := by
      obtain ⟨q, g1, g2⟩ := hs1
      rw [hps] at g1; cases g1
      rw [hpo] at g2; exact (Option.some.inj g2).symm
    subst hv1
    have ht1' := ht1
    obtain ⟨rfl, vl, vr, hb1, hl1, hr1⟩ := ht1'
    have hb1' : K1.get b = some (.cells false [.int .i64 m, .int .i64 (k0 : Nat), .int .i64 (a : Nat), .int .i64 (h : Nat), vl, vr]) := hb1
    have boxn : ∀ c ∈ (Tr.node b m k0 a h l r).blks, H.next ≠ c := fun c hc => by have := hlt c hc; omega
    by_cases c1 : n < m
    · have d1 : decide (n < m) = true := decide_eq_true c1
      have hml : ∃ k, (n, k) ∈ l.ino := by
        rcases List.mem_append.1 hkk with h | h
        · exact ⟨kk, h⟩
        · rcases List.mem_cons.1 h with h | h
          · cases h; omega
          · have := rm _ h; simp at this; omega
      have hdel : delL n (Tr.node b m k0 a h l r).ino = delL n l.ino ++ (m, k0) :: r.ino := delL_left _ hml
      refine zp8 @e0 @e1 @hK1 @gK1 @hps @hpo @hb1' (And.intro @d1 @bd150) ?_
      refine AOs.cq tOK fn110 ok110 (ihl K1 b 4 vl ⟨_, hb1, rfl⟩ hl1 bl ndl okl sl hml (by omega)).wf ?_
      rintro x K2 ⟨⟨l', td2, ok2, ino2⟩, wf2⟩
      have T2 := t1.trans wfH hs (TD.left wfK1 hs1 ht1 hp hnd td2)
      have gb2 : K2.get H.next = some (.cells false [.ptr p o]) := td2.keep _ _ (boxn b (by simp [Tr.blks])) (fun hc => boxn _ (by simp only [Tr.blks, List.mem_cons, List.mem_append]; exact .inr (.inl hc)) rfl) gK1
      refine zs3 @ld150 @gb2 @ld1 ?_
      refine AOs.cq tOK fn142 ok142 (level_ac (K1 := K1) (ti := delL n (Tr.node b m k0 a h l r).ino) wfH hs hp pN T2 ⟨k0p, ok2, okr⟩ (by rw [hdel, ← ino2]; rfl) (Nat.le_trans (hdl _) hN)) ?_
      rintro x K4 h4
      refine zs0 ?_
      exact fnPost_normal0 h4
    have d1 : decide (n < m) = false := decide_eq_false c1
    have hnl : ∀ q ∈ l.ino, q.1 ≠ n := fun q hq => by have := lm q hq; omega
    by_cases c2 : m < n
    · have d2 : decide (m < n) = true := decide_eq_true c2
      have hmr : ∃ k, (n, k) ∈ r.ino := by
        rcases List.mem_append.1 hkk with h | h
        · have := lm _ h; simp at this; omega
        · rcases List.mem_cons.1 h with h | h
          · cases h; omega
          · exact ⟨kk, h⟩
      have hdel : delL n (Tr.node b m k0 a h l r).ino = l.ino ++ (m, k0) :: delL n r.ino := by
        show delL n (l.ino ++ (m, k0) :: r.ino) = _
        rw [delL_right _ hnl, delL, if_neg (by show ¬ m = n; omega)]
      refine zp8 @e0 @e1 @hK1 @gK1 @hps @hpo @hb1' (And.intro @d1 (And.intro @d2 @bd150)) ?_
      refine AOs.cq tOK fn110 ok110 (ihr K1 b 5 vr ⟨_, hb1, rfl⟩ hr1 br ndr okr sr hmr (by omega)).wf ?_
      rintro x K2 ⟨⟨r', td2, ok2, ino2⟩, wf2⟩
      have T2 := t1.trans wfH hs (TD.right wfK1 hs1 ht1 hp hnd td2)
      have gb2 : K2.get H.next = some (.cells false [.ptr p o]) := td2.keep _ _ (boxn b (by simp [Tr.blks])) (fun hc => boxn _ (by simp only [Tr.blks, List.mem_cons, List.mem_append]; exact .inr (.inr hc)) rfl) gK1
      refine zs3 @ld150 @gb2 @ld1 ?_
      refine AOs.cq tOK fn142 ok142 (level_ac (K1 := K1) (ti := delL n (Tr.node b m k0 a h l r).ino) wfH hs hp pN T2 ⟨k0p, okl, ok2⟩ (by rw [hdel, ← ino2]; rfl) (Nat.le_trans (hdl _) hN)) ?_
      rintro x K4 h4
      refine zs0 ?_
      exact fnPost_normal0 h4
    have hnm : n = m := by omega
    subst hnm
    have d2 : decide (n < n) = false := decide_eq_false (by omega)
    have hdel : delL n (Tr.node b n k0 a h l r).ino = l.ino ++ (if 1 < k0 then (n, k0 - 1) :: r.ino else r.ino) := by
      show delL n (l.ino ++ (n, k0) :: r.ino) = _
      rw [delL_right _ hnl, delL, if_pos rfl]
    by_cases c3 : 1 < k0
    · have d3 : decide ((1 : Int) < ((k0 : Nat) : Int)) = true := decide_eq_true (by omega)
      have w1 : IntKind.i64.wrap (((k0 : Nat) : Int) - 1) = ((k0 - 1 : Nat) : Int) := by rw [wrap64 (by omega) (by omega)]; omega
      rw [if_pos c3] at hdel
      generalize hK2 : K1.set b (.cells false [.int .i64 n, .int .i64 (k0 - 1 : Nat), .int .i64 (a : Nat), .int .i64 (h : Nat), vl, vr]) = K2
      obtain ⟨sK2, nK2, wfK2, gK2⟩ := puts wfK1 hK2
      have T2 := t1.trans wfH hs (TD.here (k' := k0 - 1) (a' := a) (h' := h) (n' := n) (K := K2) hs1 ht1 hp hnd (fun vl' vr' hq => by rw [hb1] at hq; cases hq; exact gK2) (fun j hj y hy => sK2 j y hj hy) (by omega))
      have gb2 := sK2 _ _ (boxn b (by simp [Tr.blks])) gK1
      refine zp8 @e0 @e1 @hK1 @gK1 @hps @hpo @hb1' (And.intro @d1 (And.intro @d3 (And.intro @w1 (And.intro @hK2 (And.intro @gb2 @ld1))))) ?_
      refine AOs.cq tOK fn142 ok142 (level_ac (K1 := K1) (ti := delL n (Tr.node b n k0 a h l r).ino) wfH hs hp pN T2 ⟨by omega, okl, okr⟩ (by rw [hdel]; rfl) (Nat.le_trans (hdl _) hN)) ?_
      rintro x K4 h4
      refine zs0 ?_
      exact fnPost_normal0 h4
    have d3 : decide ((1 : Int) < ((k0 : Nat) : Int)) = false := decide_eq_false (by omega)
    rw [if_neg c3] at hdel
    cases r with
    | leaf =>
      have hvr : vr = .nilp := hr1
      subst hvr
      have hvl := hl1.one
      generalize hK2 : K1.set p (.cells false (ps.set o vl)) = K2
      have ho2 : ∀ j, j ≠ p → ∀ y, K1.get j = some y → K2.get j = some y := fun j hj y hy => by rw [← hK2, AH.get_set, if_neg hj]; exact hy
      have T2 := t1.trans wfH hs (TD.lift wfK1 hs1 hp ndl (fun c hc => by simp [Tr.blks, hc]) hl1 (fun qs hq => by rw [hps] at hq; cases hq; rw [← hK2, AH.get_set, if_pos rfl]) ho2 (by rw [← hK2]; exact Nat.le_refl _))
      have gb2 := ho2 _ (by omega) _ gK1
      with_reducible repeat' first | refine za ?_ | refine AW.drawT tOK wu (by simp only [pickAll, Nat.reduceAdd]; rfl) ?_ | refine DN.nil tOK ?_ | (refine zd ?_; refine zr6 @ld137 @fa139_4 @ld148 @fa150_0 @gK1 @hb1' ?_; refine Same.mk ?_) | ((first | refine AOs.o1 tOK ?_ | refine DN.act0E tOK (by kernel_rfl) wu ?_); refine zq8 @e0 @e1 @hK1 @gK1 @hps @hpo @hb1' (And.intro @d1 (And.intro @d3 (And.intro @hvl (And.intro @hpl (And.intro @hK2 (And.intro @gb2 @ld1)))))) ?_) | fail
      refine AOs.cq tOK fn142 ok142 (level_ac (K1 := K1) (ti := delL n (Tr.node b n k0 a h l .leaf).ino) wfH hs hp pN T2 (ok_sub okl) (by rw [hdel]; simp [Tr.ino]) (Nat.le_trans (hdl _) hN)) ?_
      rintro x K4 h4
      refine zs0 ?_
      exact fnPost_normal0 h4
    | node c m2 k2 a2 h2 l2 r2 =>
      have hr1' := hr1
      obtain ⟨rfl, vl2, vr2, hc1, _, _⟩ := hr1'
      have hne2 : (Tr.node c m2 k2 a2 h2 l2 r2).ino ≠ [] := by simp [Tr.ino]
      refine zp8 @e0 @e1 @hK1 @gK1 @hps @hpo @hb1' (And.intro @d1 (And.intro @d3 @bd150)) ?_
      refine AOs.cq tOK fn141 ok141 (first141 N (.node c m2 k2 a2 h2 l2 r2) K1 b 5 (.ptr c 0) ⟨_, hb1, rfl⟩ hr1 br ndr okr hne2 (by omega)).wf ?_
      rintro x K2 ⟨⟨n0, k00, rest, r', hino, rfl, td2, ok2, ino2⟩, wfK2⟩
      have T2r := TD.right wfK1 hs1 ht1 hp hnd td2
      have T2 := t1.trans wfH hs T2r
      obtain ⟨v2, hs2, ht2⟩ := T2r.slotAt hs1
      have gb2 : K2.get H.next = some (.cells false [.ptr p o]) := td2.keep _ _ (boxn b (by simp [Tr.blks])) (fun hc => boxn _ (by simp only [Tr.blks, List.mem_cons, List.mem_append] at hc ⊢; exact .inr (.inr hc)) rfl) gK1
      obtain ⟨vr', hsl2, _⟩ := td2.slot
      have hb2 : K2.get b = some (.cells false [.int .i64 n, .int .i64 (k0 : Nat), .int .i64 (a : Nat), .int .i64 (h : Nat), vl, vr']) := hsl2 _ hb1
      have k00p : 1 ≤ k00 := Tr.ino_pos okr (n0, k00) (by rw [hino]; exact List.mem_cons_self)
      have n12 := td2.next
      generalize hK3 : K2.set b (.cells false [.int .i64 n0, .int .i64 (k0 : Nat), .int .i64 (a : Nat), .int .i64 (h : Nat), vl, vr']) = K3
      obtain ⟨sK3, nK3, wfK3, gK3⟩ := puts wfK2 hK3
      generalize hK4 : K3.set b (.cells false [.int .i64 n0, .int .i64 (k00 : Nat), .int .i64 (a : Nat), .int .i64 (h : Nat), vl, vr']) = K4
      obtain ⟨sK4, nK4, wfK4, gK4⟩ := puts wfK3 hK4
      have hpK := T2r.apart hp (by omega)
      have T4 := T2.trans wfH hs (TD.here (k' := k00) (a' := a) (h' := h) (n' := n0) (K := K4) hs2 ht2 hpK T2r.nd (fun vl' vr'' hq => by rw [hb2] at hq; cases hq; exact gK4) (fun j hj y hy => sK4 j y hj (sK3 j y hj hy)) (by omega))
      have gb4 := sK4 _ _ (boxn b (by simp [Tr.blks])) (sK3 _ _ (boxn b (by simp [Tr.blks])) gb2)
      refine zp6 @hb2 @hK3 @gK3 @hK4 @gb4 @ld1 ?_
      refine AOs.cq tOK fn142 ok142 (level_ac (K1 := K1) (ti := delL n (Tr.node b n k0 a h l (.node c m2 k2 a2 h2 l2 r2)).ino) wfH hs hp pN T4 ⟨k00p, okl, ok2⟩ (by rw [hdel, hino, ← ino2]; rfl) (Nat.le_trans (hdl _) hN)) ?_
      rintro x K5 h4
      refine zs0 ?_
      exact fnPost_normal0 h4

/-- A bag in a heap. -/
structure BagAt (H : AH) (p : Nat) (t : Tr) (c : Nat) : Prop where
  here : ∃ v, H.get p = some (.cells false [.bool true, v, .int .i64 (c : Nat)]) ∧ TrAt H v t
  apart : p ∉ t.blks
  nd : t.blks.Nodup
  ok : t.ok
  srt : Srt t.ino
theorem BagAt.keep {H K : AH} {p : Nat} {t : Tr} {c : Nat} (h : BagAt H p t c) (hk : ∀ b, b ∈ p :: t.blks → ∀ y, H.get b = some y → K.get b = some y) : BagAt K p t c := by
  obtain ⟨v, h1, h2⟩ := h.here
  exact ⟨⟨v, hk p (List.mem_cons_self) _ h1, h2.keep fun b hb => hk b (List.mem_cons_of_mem _ hb)⟩, h.apart, h.nd, h.ok, h.srt⟩
/-- What was done to a bag leaves the rest alone. -/
structure BT (H K : AH) (p : Nat) (t t' : Tr) : Prop where
  old : ∀ b ∈ t'.blks, b ∈ t.blks ∨ H.next ≤ b
  keep : ∀ k y, k ≠ p → k ∉ t.blks → H.get k = some y → K.get k = some y
  next : H.next ≤ K.next
theorem bd147 : abuild tC 147 [(0, .bool true)] = some (.agg [.bool true, .nilp, .int .i64 0]) := by kernel_rfl

theorem new84 (N : Bd) (H : AH) : AC tC N 0 84 [] H fun r K => ∃ b, r = .ptr b 0 ∧ H.next ≤ b ∧ BagAt K b .leaf 0 ∧ (∀ j y, H.get j = some y → K.get j = some y) ∧ H.next ≤ K.next := by
  refine AC.wf0 fun wfH => ?_
  refine AC.by (n := 3) (rs := [.tmp 0]) tOK fn84 rfl rfl rfl rfl ?_
  generalize hK1 : H.alloc (.cells false [.bool true, .nilp, .int .i64 0]) = K1
  obtain ⟨sK1, wfK1, nK1, gK1⟩ := laid wfH hK1
  refine zs2 @bd147 @hK1 ?_
  exact fnPost_ret1 gt1 ⟨H.next, rfl, Nat.le_refl _, ⟨⟨.nilp, gK1, rfl⟩, by simp [Tr.blks], by simp [Tr.blks], trivial, by simp [Tr.ino, Srt]⟩, sK1, by omega⟩

theorem right108 (N : Bd) (H : AH) {p : Nat} {t : Tr} {c : Nat} (hb : BagAt H p t c) : AC tC N 0 108 [.ptr p 0] H fun r K => r = .bool true ∧ K = H := by
  obtain ⟨v, hp, ht⟩ := hb.here
  refine AC.by (n := 11) (rs := [.tmp 2]) tOK fn108 rfl rfl rfl rfl ?_
  have e0 : (PT.ofList .leaf 0 [AV.ptr p 0]).get 0 = some (.ptr p 0) := rfl
  refine zs6 @ld4 @ne97a @fa147_0 @ne97a @e0 @hp ?_
  exact fr1 ⟨rfl, rfl⟩

set_option maxHeartbeats 8000000 in
theorem bput86 (N : Bd) (H : AH) {p : Nat} {t : Tr} {c : Nat} {n : Int} {o : Bool} (hb : BagAt H p t c) (hv : numM n o = 0) (hN : sumT t.ino ≤ 100000000) (hc : c ≤ 100000000) :
    AC tC N 0 86 [.ptr p 0, .agg [.int .i64 n, .bool o]] H fun r K => ∃ t', BagAt K p t' (if o = true then c + 1 else c) ∧ BT H K p t t' ∧ t'.ino = (if o = true then t.ino else insL n 1 t.ino) := by
  refine AC.wf0 fun wfH => ?_
  refine AC.by (n := 30) (rs := [.tmp 4]) tOK fn86 rfl rfl rfl rfl ?_
  have e0 : (PT.ofList .leaf 0 [AV.ptr p 0, AV.agg [.int .i64 n, .bool o]]).get 0 = some (.ptr p 0) := rfl
  have e1 : (PT.ofList .leaf 0 [AV.ptr p 0, AV.agg [.int .i64 n, .bool o]]).get 1 = some (.agg [.int .i64 n, .bool o]) := rfl
  obtain ⟨v, hp, ht⟩ := hb.here
  have pN := wfH _ _ hp
  generalize hK1 : H.alloc (.cells false [.int .i64 n, .bool o]) = K1
  obtain ⟨sK1, wfK1, nK1, gK1⟩ := laid wfH hK1
  have hp := sK1 _ _ hp
  have hb1 := hb.keep (K := K1) fun b _ y hy => sK1 _ _ hy
  have d1 : decide (numM n o = 0) = true := decide_eq_true hv
  refine zs3 @e0 @e1 @hK1 ?_
  refine AOs.cq tOK fn108 ok108 (right108 N K1 hb1) ?_
  rintro r K2 ⟨rfl, rfl⟩
  refine zs3 @ld31 @gK1 @tk2 ?_
  refine AOs.cq tOK fn30 ok30 (num30 N K2 n o) ?_
  rintro r K3 ⟨rfl, rfl⟩
  rw [hv]
  cases o with
  | true =>
    have w1 : IntKind.i64.wrap (((c : Nat) : Int) + 1) = ((c + 1 : Nat) : Int) := wrap64_succ (by omega)
    have wfK3 := wfK1
    generalize hK4 : K3.set p (.cells false [.bool true, v, .int .i64 (c + 1 : Nat)]) = K4
    obtain ⟨sK4, nK4, wfK4, gK4⟩ := puts wfK3 hK4
    refine zp5 @e0 @gK1 @hp @w1 @hK4 ?_
    refine fnPost_ret1 gt1 ⟨t, ⟨⟨v, gK4, ht.keep fun b hb' y hy => sK4 _ _ (fun e => hb.apart (e ▸ hb')) (sK1 _ _ hy)⟩, hb.apart, hb.nd, hb.ok, hb.srt⟩, ⟨fun b hb' => .inl hb', fun k y h1 h2 hy => sK4 _ _ h1 (sK1 _ _ hy), by omega⟩, rfl⟩
  | false =>
    refine zs3 @ld4 @fa31_1 @gK1 ?_
    refine AW.drawN tOK (Qs := []) [0, 1, 2, 3, 4, 5, 6] (by kernel_rfl) pk1 ?_
    with_reducible repeat' first | (refine zd ?_; refine zr6 @ld2 @fa31_0 @fa147_1 @e0 @gK1 @bd150 ?_; refine Same.mk ?_) | (refine DN.actE tOK (by kernel_rfl) wu wu ?_; refine zq4 @e0 @e1 @gK1 @bd150 ?_) | fail
    refine DN.call tOK (fs := []) (cs := []) rfl fn111 ok111 rfl ar1 (put111 N n 1 (by decide) t K3 p 1 v ⟨_, hp, rfl⟩ (ht.keep fun b _ y hy => sK1 _ _ hy) hb.apart hb.nd hb.ok hb.srt (by omega)) wu ?_
    rintro x K4 ⟨t', td, ok', ino'⟩
    obtain ⟨v', h1, h2⟩ := td.slot
    with_reducible repeat' first | refine za ?_ | refine DN.nil tOK ?_ | (refine AOs.o1 tOK ?_; refine zr0 ?_) | fail
    refine fnPost_ret1 gt1 ⟨t', ⟨⟨v', h1 _ hp, h2⟩, td.apart hb.apart (by omega), td.nd, ok', by rw [ino']; exact hb.srt.ins⟩, ⟨fun b hb' => ?_, fun k y h1 h2 hy => td.keep _ _ h1 h2 (sK1 _ _ hy), by have := td.next; omega⟩, ino'⟩
    exact (td.old b hb').imp id fun h => by omega

theorem tms_left {n : Int} : ∀ {l : List (Int × Nat)} (x : List (Int × Nat)), (∀ p ∈ x, p.1 ≠ n) → tms (l ++ x) n = tms l n
  | [], x, h => tms_none h
  | q :: l, x, h => by
    rw [List.cons_append, tms, tms, tms_left x h]
theorem tms_right {n : Int} : ∀ {l : List (Int × Nat)} (x : List (Int × Nat)), (∀ p ∈ l, p.1 ≠ n) → tms (l ++ x) n = tms x n
  | [], x, _ => rfl
  | q :: l, x, h => by
    rw [List.cons_append, tms, if_neg (h q (List.mem_cons_self)), tms_right x fun p hp => h p (List.mem_cons_of_mem _ hp)]

set_option maxHeartbeats 4000000 in
theorem find140 (N : Bd) (H : AH) {p : Nat} {t : Tr} {c : Nat} {n : Int} (hb : BagAt H p t c) : AC tC N 0 140 [.ptr p 0, .int .i64 n] H fun r K => r = .int .i64 (tms t.ino n : Nat) ∧ K = H := by
  obtain ⟨v, hp, ht⟩ := hb.here
  refine AC.by (n := 38) (rs := [.tmp 4]) tOK fn140 rfl rfl rfl rfl ?_
  have e0 : (PT.ofList .leaf 0 [AV.ptr p 0, .int .i64 n]).get 0 = some (.ptr p 0) := rfl
  have e1 : (PT.ofList .leaf 0 [AV.ptr p 0, .int .i64 n]).get 1 = some (.int .i64 n) := rfl
  refine zs4 @ld137 @fa147_1 @e0 @hp ?_
  refine AW.loop (fun m T K => K = H ∧ T.get 1 = some (.int .i64 n) ∧ ∃ (x : AV) (s : Tr), m = s.blks.length ∧ T.get 5 = some x ∧ TrAt H x s ∧ Srt s.ino ∧ tms t.ino n = tms s.ino n) ?_ t.blks.length
    ⟨rfl, by simp [PT.get_set, e1], v, t, rfl, by simp [PT.get_set], ht, hb.srt, rfl⟩
  rintro m T K ⟨rfl, g1, x, s, rfl, g5, hx, hsr, htm⟩
  cases s with
  | leaf =>
    have hxn : x = .nilp := hx
    subst hxn
    refine zs3 @ne137b @ne137b @g5 ?_
    exact fnPost_ret1 gt1 ⟨by rw [htm]; rfl, rfl⟩
  | node b m k a h l r =>
    obtain ⟨rfl, vl, vr, hbk, hl, hr⟩ := hx
    have hbk : K.get b = some (.cells false [.int .i64 m, .int .i64 (k : Nat), .int .i64 (a : Nat), .int .i64 (h : Nat), vl, vr]) := hbk
    obtain ⟨sl, sr, lm, rm⟩ := Srt.split (l := l.ino) (r := r.ino) hsr
    have htm : tms t.ino n = tms (l.ino ++ (m, k) :: r.ino) n := htm
    by_cases c1 : n = m
    · have d1 : decide (n = m) = true := decide_eq_true c1
      refine zp4 @g1 @g5 @hbk @d1 ?_
      exact fnPost_ret1 gt1 ⟨by rw [htm, tms_right _ fun q hq => by have := lm q hq; omega, tms, if_pos c1.symm], rfl⟩
    have d1 : decide (n = m) = false := decide_eq_false c1
    by_cases c2 : n < m
    · have d2 : decide (n < m) = true := decide_eq_true c2
      refine zp5 @g1 @g5 @hbk @d1 @d2 ?_
      refine ⟨l.blks.length, by simp [Tr.blks]; omega, rfl, by simp only [PT.get_set, Nat.reduceEqDiff, reduceIte, g1], vl, l, rfl, gt1, hl, sl, ?_⟩
      rw [htm, tms_left _ fun q hq => by
        rcases List.mem_cons.1 hq with rfl | hq
        · exact fun e => c1 e.symm
        · have := rm q hq; omega]
    · have d2 : decide (n < m) = false := decide_eq_false c2
      refine zp5 @g1 @g5 @hbk @d1 @d2 ?_
      refine ⟨r.blks.length, by simp [Tr.blks]; omega, rfl, by simp only [PT.get_set, Nat.reduceEqDiff, reduceIte, g1], vr, r, rfl, gt1, hr, sr, ?_⟩
      rw [htm, tms_right _ fun q hq => by have := lm q hq; omega, tms, if_neg fun e => c1 e.symm]

def cntM (t : Tr) (c : Nat) (n : Int) (o : Bool) : Nat := if o = true then c else tms t.ino n
set_option maxHeartbeats 4000000 in
theorem count109 (N : Bd) (H : AH) {p : Nat} {t : Tr} {c : Nat} {n : Int} {o : Bool} (hb : BagAt H p t c) (hv : numM n o = 0) : AC tC N 0 109 [.ptr p 0, .agg [.int .i64 n, .bool o]] H fun r K => r = .int .i64 (cntM t c n o : Nat) ∧ K = H := by
  refine AC.quiet rfl ?_
  refine AC.wf0 fun wfH => ?_
  refine AC.by (n := 25) (rs := [.tmp 4]) tOK fn109 rfl rfl rfl rfl ?_
  have e0 : (PT.ofList .leaf 0 [AV.ptr p 0, AV.agg [.int .i64 n, .bool o]]).get 0 = some (.ptr p 0) := rfl
  have e1 : (PT.ofList .leaf 0 [AV.ptr p 0, AV.agg [.int .i64 n, .bool o]]).get 1 = some (.agg [.int .i64 n, .bool o]) := rfl
  obtain ⟨v, hp, ht⟩ := hb.here
  generalize hK1 : H.alloc (.cells false [.int .i64 n, .bool o]) = K1
  obtain ⟨sK1, wfK1, nK1, gK1⟩ := laid wfH hK1
  have hp := sK1 _ _ hp
  have hb1 := hb.keep (K := K1) fun b _ y hy => sK1 _ _ hy
  refine zs3 @e0 @e1 @hK1 ?_
  refine AOs.cq tOK fn108 ok108 (right108 N K1 hb1) ?_
  rintro r K2 ⟨rfl, rfl⟩
  refine zs3 @ld31 @gK1 @tk2 ?_
  refine AOs.cq tOK fn30 ok30 (num30 N K2 n o) ?_
  rintro r K3 ⟨rfl, rfl⟩
  rw [hv]
  cases o with
  | true =>
    refine zs7 @ld3 @ld4 @fa31_1 @fa147_2 @e0 @gK1 @hp ?_
    exact fr1 ⟨rfl, sK1⟩
  | false =>
    refine zs6 @ld2 @ld4 @fa31_0 @fa31_1 @e0 @gK1 ?_
    refine AOs.cq tOK fn140 ok140 (find140 N K3 hb1) ?_
    rintro r K4 ⟨rfl, rfl⟩
    refine zs0 ?_
    exact fr1 ⟨rfl, sK1⟩

set_option maxHeartbeats 8000000 in
theorem btake83 (N : Bd) (H : AH) {p : Nat} {t : Tr} {c : Nat} {n : Int} {o : Bool} (hb : BagAt H p t c) (hv : numM n o = 0) (hN : sumT t.ino ≤ 100000000) (hc : c ≤ 100000000) (hthere : 0 < cntM t c n o) :
    AC tC N 0 83 [.ptr p 0, .agg [.int .i64 n, .bool o]] H fun r K => ∃ t', BagAt K p t' (if o = true then c - 1 else c) ∧ BT H K p t t' ∧ t'.ino = (if o = true then t.ino else delL n t.ino) := by
  refine AC.wf0 fun wfH => ?_
  refine AC.by (n := 36) (rs := [.tmp 4]) tOK fn83 rfl rfl rfl rfl ?_
  have e0 : (PT.ofList .leaf 0 [AV.ptr p 0, AV.agg [.int .i64 n, .bool o]]).get 0 = some (.ptr p 0) := rfl
  have e1 : (PT.ofList .leaf 0 [AV.ptr p 0, AV.agg [.int .i64 n, .bool o]]).get 1 = some (.agg [.int .i64 n, .bool o]) := rfl
  obtain ⟨v, hp, ht⟩ := hb.here
  have pN := wfH _ _ hp
  generalize hK1 : H.alloc (.cells false [.int .i64 n, .bool o]) = K1
  obtain ⟨sK1, wfK1, nK1, gK1⟩ := laid wfH hK1
  have hp := sK1 _ _ hp
  have hb1 := hb.keep (K := K1) fun b _ y hy => sK1 _ _ hy
  have d1 : decide (numM n o = 0) = true := decide_eq_true hv
  have d2 : decide (((cntM t c n o : Nat) : Int) = 0) = false := decide_eq_false (by omega)
  refine zs3 @e0 @e1 @hK1 ?_
  refine AOs.cq tOK fn108 ok108 (right108 N K1 hb1) ?_
  rintro r K2 ⟨rfl, rfl⟩
  refine zs3 @ld31 @gK1 @tk2 ?_
  refine AOs.cq tOK fn30 ok30 (num30 N K2 n o) ?_
  rintro r K3 ⟨rfl, rfl⟩
  rw [hv]
  refine zs4 @ld31 @e0 @gK1 @tk2 ?_
  refine AOs.cq tOK fn109 ok109 (count109 N K3 hb1 hv) ?_
  rintro r K4 ⟨rfl, rfl⟩
  cases o with
  | true =>
    have hc0 : 0 < c := hthere
    have w1 : IntKind.i64.wrap (((c : Nat) : Int) - 1) = ((c - 1 : Nat) : Int) := by rw [wrap64 (by omega) (by omega)]; omega
    have wfK4 := wfK1
    generalize hK5 : K4.set p (.cells false [.bool true, v, .int .i64 (c - 1 : Nat)]) = K5
    obtain ⟨sK5, nK5, wfK5, gK5⟩ := puts wfK4 hK5
    refine zp6 @e0 @gK1 @hp @d2 @w1 @hK5 ?_
    refine fnPost_ret1 gt1 ⟨t, ⟨⟨v, gK5, ht.keep fun b hb' y hy => sK5 _ _ (fun e => hb.apart (e ▸ hb')) (sK1 _ _ hy)⟩, hb.apart, hb.nd, hb.ok, hb.srt⟩, ⟨fun b hb' => .inl hb', fun k y h1 h2 hy => sK5 _ _ h1 (sK1 _ _ hy), by omega⟩, rfl⟩
  | false =>
    refine zs4 @ld4 @fa31_1 @gK1 @d2 ?_
    refine AW.drawN tOK (Qs := []) [0, 1, 2, 3, 4, 5, 6] (by kernel_rfl) pk1 ?_
    with_reducible repeat' first | (refine zd ?_; refine zr6 @ld2 @fa31_0 @fa147_1 @e0 @gK1 @bd150 ?_; refine Same.mk ?_) | (refine DN.actE tOK (by kernel_rfl) wu wu ?_; refine zq4 @e0 @e1 @gK1 @bd150 ?_) | fail
    refine DN.call tOK (fs := []) (cs := []) rfl fn110 ok110 rfl ar1 (take110 N n t K4 p 1 v ⟨_, hp, rfl⟩ (ht.keep fun b _ y hy => sK1 _ _ hy) hb.apart hb.nd hb.ok hb.srt (tms_mem hthere) (by omega)) wu ?_
    rintro x K5 ⟨t', td, ok', ino'⟩
    obtain ⟨v', h1, h2⟩ := td.slot
    with_reducible repeat' first | refine za ?_ | refine DN.nil tOK ?_ | (refine AOs.o1 tOK ?_; refine zr0 ?_) | fail
    refine fnPost_ret1 gt1 ⟨t', ⟨⟨v', h1 _ hp, h2⟩, td.apart hb.apart (by omega), td.nd, ok', by rw [ino']; exact hb.srt.del⟩, ⟨fun b hb' => ?_, fun k y h1 h2 hy => td.keep _ _ h1 h2 (sK1 _ _ hy), by have := td.next; omega⟩, ino'⟩
    exact (td.old b hb').imp id fun h => by omega

theorem fnPost_retCT {C : Ctx} {T : PT AV} {H : AH} {a b : Nat} {t : TypeId} {Q : AV → AH → Prop} {p x y : AV} (h : T.get a = some p) (h2 : aload C H t p = some x) (h3 : T.get b = some y) (hq : Q (.tuple [x, y]) H) : fnPost C [.cell a t, .tmp b] Q .ret T H := ⟨[x, y], by simp only [aresults, aresult, h, h2, h3], hq⟩

theorem len138 (N : Bd) (H : AH) {p : Nat} {t : Tr} {c : Nat} (hb : BagAt H p t c) (hN : sumT t.ino ≤ 100000000) (hc : c ≤ 100000000) : AC tC N 0 138 [.ptr p 0] H fun r K => r = .int .i64 (c + t.cnt : Nat) ∧ K = H := by
  obtain ⟨v, hp, ht⟩ := hb.here
  have hcn := Tr.cnt_ino hb.ok
  have w1 : IntKind.i64.wrap (((c : Nat) : Int) + ((t.cnt : Nat) : Int)) = ((c + t.cnt : Nat) : Int) := by rw [wrap64 (by omega) (by omega)]; omega
  refine AC.by (n := 16) (rs := [.tmp 2]) tOK fn138 rfl rfl rfl rfl ?_
  have e0 : (PT.ofList .leaf 0 [AV.ptr p 0]).get 0 = some (.ptr p 0) := rfl
  refine zs1 @e0 ?_
  refine AOs.cq tOK fn108 ok108 (right108 N H hb) ?_
  rintro r K ⟨rfl, rfl⟩
  refine zs0 ?_
  refine AW.drawN tOK (Qs := [8]) [0, 1, 2, 3, 4, 5, 6, 7, 8, 9, 10] (by kernel_rfl) pk1 ?_
  with_reducible repeat' first | (refine zd ?_; refine zr6 @ld3 @ld137 @fa147_1 @fa147_2 @e0 @hp ?_; refine Same.mk ?_) | fail
  refine DN.callQ (fs := []) (cs := []) rfl fn162 ok162 rfl ar1 (count162 N K ht) ?_
  with_reducible repeat' first | refine zb ?_ | refine DN.nil tOK ?_ | (refine DN.fl1E wu wu ?_; refine zr1 @w1 ?_; refine Same.mk ?_) | fail
  exact fr1 ⟨rfl, rfl⟩

theorem left103 (N : Bd) (H : AH) {b : Nat} {n : Int} {k a h : Nat} {vl vr : AV} (hb : H.get b = some (.cells false (ndC n k a h vl vr))) : AC tC N 0 103 [.ptr b 0] H fun r K => r = vl ∧ K = H := by
  have hb : H.get b = some (.cells false [.int .i64 n, .int .i64 (k : Nat), .int .i64 (a : Nat), .int .i64 (h : Nat), vl, vr]) := hb
  refine AC.by (n := 7) (rs := [.tmp 2]) tOK fn103 rfl rfl rfl rfl ?_
  have e0 : (PT.ofList .leaf 0 [AV.ptr b 0]).get 0 = some (.ptr b 0) := rfl
  refine zs4 @ld137 @fa139_4 @e0 @hb ?_
  exact fr1 ⟨rfl, rfl⟩
theorem right104 (N : Bd) (H : AH) {b : Nat} {n : Int} {k a h : Nat} {vl vr : AV} (hb : H.get b = some (.cells false (ndC n k a h vl vr))) : AC tC N 0 104 [.ptr b 0] H fun r K => r = vr ∧ K = H := by
  have hb : H.get b = some (.cells false [.int .i64 n, .int .i64 (k : Nat), .int .i64 (a : Nat), .int .i64 (h : Nat), vl, vr]) := hb
  refine AC.by (n := 7) (rs := [.tmp 2]) tOK fn104 rfl rfl rfl rfl ?_
  have e0 : (PT.ofList .leaf 0 [AV.ptr b 0]).get 0 = some (.ptr b 0) := rfl
  refine zs4 @ld137 @fa139_5 @e0 @hb ?_
  exact fr1 ⟨rfl, rfl⟩

/-- The end of a row, and of a bag. -/
def endN (left : Bool) (l : List (Int × Nat)) : Option (Int × Nat) := if left = true then l.head? else l.getLast?
def endM (left : Bool) (l : List (Int × Nat)) (c : Nat) : (Int × Bool) × Bool :=
  if 0 < c then ((0, true), true) else match endN left l with
    | none => ((0, false), false)
    | some p => ((p.1, false), true)
theorem endN_leaf {left : Bool} {b : Nat} {n : Int} {k a h : Nat} {l r : Tr} (hs : (if left = true then l else r) = .leaf) : endN left (Tr.node b n k a h l r).ino = some (n, k) := by
  cases left with
  | true => have hl : l = .leaf := hs; subst hl; rfl
  | false =>
    have hr : r = .leaf := hs; subst hr
    show (l.ino ++ [(n, k)]).getLast? = _
    simp
theorem ino_ne {b : Nat} {n : Int} {k a h : Nat} {l r : Tr} : (Tr.node b n k a h l r).ino ≠ [] := by simp [Tr.ino]
theorem endN_node {left : Bool} {b : Nat} {n : Int} {k a h : Nat} {l r : Tr} (hs : (if left = true then l else r).ino ≠ []) : endN left (Tr.node b n k a h l r).ino = endN left (if left = true then l else r).ino := by
  cases left with
  | true =>
    have hl : l.ino ≠ [] := hs
    show (l.ino ++ (n, k) :: r.ino).head? = l.ino.head?
    cases e : l.ino with
    | nil => exact absurd e hl
    | cons x y => rfl
  | false =>
    have hr : r.ino ≠ [] := hs
    show (l.ino ++ (n, k) :: r.ino).getLast? = r.ino.getLast?
    cases e : r.ino with
    | nil => exact absurd e hr
    | cons x y => rw [List.getLast?_append, List.getLast?_cons_cons, List.getLast?_cons]; rfl

set_option maxHeartbeats 8000000 in
theorem end102 (N : Bd) (H : AH) {p : Nat} {t : Tr} {c : Nat} (hb : BagAt H p t c) (hN : sumT t.ino ≤ 100000000) (hc : c ≤ 100000000) (left : Bool) {f : Nat} {g : Func} (hf : tC.fn f = some g) (hg : fnOk g = true)
    (hs : ∀ (K : AH) (b : Nat) (n : Int) (k a h : Nat) (vl vr : AV), K.get b = some (.cells false (ndC n k a h vl vr)) → AC tC N 0 f [.ptr b 0] K fun r K' => r = (if left = true then vl else vr) ∧ K' = K) :
    AC tC N 0 102 [.ptr p 0, .func f [] []] H fun r K => r = .tuple [.agg [.int .i64 (endM left t.ino c).1.1, .bool (endM left t.ino c).1.2], .bool (endM left t.ino c).2] ∧ ∀ b o, H.get b = some o → K.get b = some o := by
  refine AC.wf0 fun wfH => ?_
  refine AC.by (n := 40) (rs := [.cell 4 31, .tmp 5]) tOK fn102 rfl rfl rfl rfl ?_
  have e0 : (PT.ofList .leaf 0 [AV.ptr p 0, AV.func f [] []]).get 0 = some (.ptr p 0) := rfl
  have e1 : (PT.ofList .leaf 0 [AV.ptr p 0, AV.func f [] []]).get 1 = some (.func f [] []) := rfl
  obtain ⟨v, hp, ht⟩ := hb.here
  have pN := wfH _ _ hp
  have hcn := Tr.cnt_ino hb.ok
  generalize hK1 : H.alloc (.cells false [.int .i64 0, .bool false]) = K1
  obtain ⟨sK1, wfK1, nK1, gK1⟩ := laid wfH hK1
  have hp := sK1 _ _ hp
  have hb1 := hb.keep (K := K1) fun b _ y hy => sK1 _ _ hy
  refine zs3 @e0 @all31 @hK1 ?_
  refine AOs.cq tOK fn108 ok108 (right108 N K1 hb1) ?_
  rintro r K1 ⟨rfl, rfl⟩
  refine zs1 @e0 ?_
  refine AOs.cq tOK fn138 ok138 (len138 N K1 hb1 hN hc) ?_
  rintro r K1 ⟨rfl, rfl⟩
  have fin : ∀ K3 : AH, (∀ k z, k ≠ H.next → K1.get k = some z → K3.get k = some z) → ∀ b o, H.get b = some o → K3.get b = some o := fun K3 h k z hz => h _ _ (by have := wfH _ _ hz; omega) (sK1 _ _ hz)
  have q0 := store_whole (cs := [.int .i64 0, .bool false]) ti31 gK1 rfl rfl rfl
  by_cases c0 : 0 < c
  · have d1 : decide (((c + t.cnt : Nat) : Int) = 0) = false := decide_eq_false (by omega)
    have d2 : decide ((0 : Int) < ((c : Nat) : Int)) = true := decide_eq_true (by omega)
    have q1 := store_whole (cs := [.int .i64 0, .bool true]) ti31 gK1 rfl rfl rfl
    have bb : abuild tC 31 [(1, .bool true)] = some (.agg [.int .i64 0, .bool true]) := bd31o
    generalize hK2 : K1.set H.next (.cells false [.int .i64 0, .bool true]) = K2
    obtain ⟨sK2, nK2, wfK2, gK2⟩ := puts wfK1 hK2
    refine zs8 @ld3 @fa147_2 @e0 @d1 @d2 @hp @q1 (And.intro @bb @hK2) ?_
    have hm : endM left t.ino c = ((0, true), true) := if_pos c0
    rw [hm]
    exact fnPost_retCT gt1 (by rw [ld31, load_whole (n := 2) gK2 rfl]) gt1 ⟨rfl, fin K2 sK2⟩
  have c00 : c = 0 := by omega
  subst c00
  have d2 : decide ((0 : Int) < ((0 : Nat) : Int)) = false := decide_eq_false (by omega)
  cases t with
  | leaf =>
    have d1 : decide (((0 + Tr.leaf.cnt : Nat) : Int) = 0) = true := decide_eq_true (by simp [Tr.cnt])
    have d1b : decide (((Tr.leaf.cnt : Nat) : Int) = 0) = true := decide_eq_true (by simp [Tr.cnt])
    have bb : abuild tC 31 [] = some (.agg [.int .i64 0, .bool false]) := by kernel_rfl
    generalize hK2 : K1.set H.next (.cells false [.int .i64 0, .bool false]) = K2
    obtain ⟨sK2, nK2, wfK2, gK2⟩ := puts wfK1 hK2
    refine zs4 @d1b @q0 @bb @hK2 ?_
    have hm : endM left Tr.leaf.ino 0 = ((0, false), false) := by cases left <;> rfl
    rw [hm]
    exact fnPost_retCT gt1 (by rw [ld31, load_whole (n := 2) gK2 rfl]) gt1 ⟨rfl, fin K2 sK2⟩
  | node b0 n0 k0 a0 h0 l0 r0 =>
    have hpos : 1 ≤ (Tr.node b0 n0 k0 a0 h0 l0 r0).cnt := by have := hb.ok; have h1 := this.1; have h2 := this.2.1; show 1 ≤ a0; omega
    have d1 : decide (((0 + (Tr.node b0 n0 k0 a0 h0 l0 r0).cnt : Nat) : Int) = 0) = false := decide_eq_false (by omega)
    have d1b : decide ((((Tr.node b0 n0 k0 a0 h0 l0 r0).cnt : Nat) : Int) = 0) = false := decide_eq_false (by omega)
    refine zs7 @ld3 @ld137 @fa147_1 @fa147_2 @e0 @d1b @hp ?_
    have ht1 : TrAt K1 v (Tr.node b0 n0 k0 a0 h0 l0 r0) := ht.keep fun b _ y hy => sK1 _ _ hy
    obtain ⟨v2, hp2, ht2⟩ := hb1.here
    refine AW.mono (Q := fun e T K => e = .exit 1 ∧ K = K1 ∧ T.get 4 = some (.ptr H.next 0) ∧ ∃ (b : Nat) (n : Int) (k a h : Nat) (vl vr : AV), T.get 6 = some (.ptr b 0) ∧ K1.get b = some (.cells false [.int .i64 n, .int .i64 (k : Nat), .int .i64 (a : Nat), .int .i64 (h : Nat), vl, vr]) ∧ endN left (Tr.node b0 n0 k0 a0 h0 l0 r0).ino = some (n, k)) ?_ ?_
    · skip
      refine AW.loop (fun m T K => K = K1 ∧ T.get 1 = some (.func f [] []) ∧ T.get 4 = some (.ptr H.next 0) ∧ ∃ (x : AV) (b : Nat) (n : Int) (k a h : Nat) (l r : Tr), m = (Tr.node b n k a h l r).blks.length ∧ T.get 6 = some x ∧ TrAt K1 x (Tr.node b n k a h l r) ∧ endN left (Tr.node b0 n0 k0 a0 h0 l0 r0).ino = endN left (Tr.node b n k a h l r).ino) ?_ (Tr.node b0 n0 k0 a0 h0 l0 r0).blks.length
        ⟨rfl, by simp [PT.get_set, e1], by simp [PT.get_set], v, b0, n0, k0, a0, h0, l0, r0, rfl, by simp [PT.get_set], ht1, rfl⟩
      rintro m T K ⟨rfl, g1, g4, x, b, n, k, a, h, l, r, rfl, g6, hx, hen⟩
      obtain ⟨rfl, vl, vr, hbk, hl, hr⟩ := hx
      have hbk' : K.get b = some (.cells false [.int .i64 n, .int .i64 (k : Nat), .int .i64 (a : Nat), .int .i64 (h : Nat), vl, vr]) := hbk
      refine zs2 @g1 @g6 ?_
      refine AOs.callQ tOK (fs := []) (cs := []) (by simp only [aeval, PT.get_set, Nat.reduceEqDiff, reduceIte]) hf hg rfl ar1 (hs K b n k a h vl vr hbk) ?_
      rintro r1 K ⟨rfl, rfl⟩
      have hside : TrAt K (if left = true then vl else vr) (if left = true then l else r) := by cases left <;> first | exact hr | exact hl
      cases hsd : (if left = true then l else r) with
      | leaf =>
        rw [hsd] at hside
        have hside : (if left = true then vl else vr) = .nilp := hside
        rw [hside]
        refine zs2 @ne137b @ne137b ?_
        exact ⟨rfl, rfl, by simp [PT.get_set, g4], b, n, k, a, h, vl, vr, by simp [PT.get_set, g6], hbk', hen.trans (endN_leaf hsd)⟩
      | node b2 n2 k2 a2 h2 l2 r2 =>
        rw [hsd] at hside
        have hside' := hside
        obtain ⟨hsv, _⟩ := hside'
        rw [hsv]
        refine zs4 @ne137a @ne137a @g1 @g6 ?_
        refine AOs.callQ tOK (fs := []) (cs := []) (by simp only [aeval, PT.get_set, Nat.reduceEqDiff, reduceIte]) hf hg rfl ar1 (hs K b n k a h vl vr hbk) ?_
        rintro r1 K ⟨rfl, rfl⟩
        rw [hsv]
        refine zs0 ?_
        refine ⟨_, ?_, rfl, by simp [PT.get_set, g1], by simp [PT.get_set, g4], _, b2, n2, k2, a2, h2, l2, r2, rfl, by simp [PT.get_set], hsv ▸ hside, ?_⟩
        · have hle : (Tr.node b2 n2 k2 a2 h2 l2 r2).blks.length ≤ l.blks.length + r.blks.length := by
            rw [← hsd]; cases left
            · exact Nat.le_add_left _ _
            · exact Nat.le_add_right _ _
          simp only [Tr.blks, List.length_cons, List.length_append] at hle ⊢
          omega
        · rw [hen, endN_node (by rw [hsd]; exact ino_ne), hsd]
    · rintro e T K ⟨rfl, rfl, g4, b, n, k, a, h, vl, vr, g6, hbk, hen⟩
      have q2 := fun (n : Int) => store_whole (cs := [.int .i64 n, .bool false]) ti31 gK1 rfl rfl rfl
      refine zs4 @ld2 @fa139_0 @g6 @hbk ?_
      refine AOs.cq tOK fn77 ok77 (of77 N K n) ?_
      rintro r K1 ⟨rfl, rfl⟩
      generalize hK2 : K1.set H.next (.cells false [.int .i64 n, .bool false]) = K2
      obtain ⟨sK2, nK2, wfK2, gK2⟩ := puts wfK1 hK2
      refine zs3 @g4 @q2 @hK2 ?_
      have hm : endM left (Tr.node b0 n0 k0 a0 h0 l0 r0).ino 0 = ((n, false), true) := by unfold endM; rw [if_neg (by omega), hen]
      rw [hm]
      exact fnPost_retCT (by simp only [PT.get_set, Nat.reduceEqDiff, reduceIte]; exact g4) (by rw [ld31, load_whole (n := 2) gK2 rfl]) gt1 ⟨rfl, fin K2 sK2⟩

theorem least78 (N : Bd) (H : AH) {p : Nat} {t : Tr} {c : Nat} (hb : BagAt H p t c) (hN : sumT t.ino ≤ 100000000) (hc : c ≤ 100000000) :
    AC tC N 0 78 [.ptr p 0] H fun r K => r = .tuple [.agg [.int .i64 (endM true t.ino c).1.1, .bool (endM true t.ino c).1.2], .bool (endM true t.ino c).2] ∧ ∀ b o, H.get b = some o → K.get b = some o := by
  refine AC.wf0 fun wfH => ?_
  refine AC.by (n := 8) (rs := [.cell 2 31, .tmp 3]) tOK fn78 rfl rfl rfl rfl ?_
  have e0 : (PT.ofList .leaf 0 [AV.ptr p 0]).get 0 = some (.ptr p 0) := rfl
  generalize hK1 : H.alloc (.cells false [.int .i64 0, .bool false]) = K1
  obtain ⟨sK1, wfK1, nK1, gK1⟩ := laid wfH hK1
  have hb1 := hb.keep (K := K1) fun b _ y hy => sK1 _ _ hy
  refine zs3 @e0 @all31 @hK1 ?_
  refine AOs.cq tOK fn102 ok102 (AC.wf (end102 N K1 hb1 hN hc true fn103 ok103 fun K b n k a h vl vr hb => left103 N K hb)) ?_
  rintro r K2 ⟨⟨rfl, sK2⟩, wfK2⟩
  have gg2 := sK2 _ _ gK1
  have bN : H.next < K2.next := wfK2 _ _ gg2
  have q1 := store_whole (cs := [.int .i64 (endM true t.ino c).1.1, .bool (endM true t.ino c).1.2]) ti31 gg2 rfl rfl rfl
  generalize hK3 : K2.set H.next (.cells false [.int .i64 (endM true t.ino c).1.1, .bool (endM true t.ino c).1.2]) = K3
  obtain ⟨sK3, nK3, wfK3, gK3⟩ := puts wfK2 hK3
  refine zs2 @q1 @hK3 ?_
  exact fnPost_retCT gt1 (by rw [ld31, load_whole (n := 2) gK3 rfl]) gt1 ⟨rfl, fun k z hz => sK3 _ _ (by have := wfH _ _ hz; omega) (sK2 _ _ (sK1 _ _ hz))⟩

theorem most79 (N : Bd) (H : AH) {p : Nat} {t : Tr} {c : Nat} (hb : BagAt H p t c) (hN : sumT t.ino ≤ 100000000) (hc : c ≤ 100000000) :
    AC tC N 0 79 [.ptr p 0] H fun r K => r = .tuple [.agg [.int .i64 (endM false t.ino c).1.1, .bool (endM false t.ino c).1.2], .bool (endM false t.ino c).2] ∧ ∀ b o, H.get b = some o → K.get b = some o := by
  refine AC.wf0 fun wfH => ?_
  refine AC.by (n := 8) (rs := [.cell 2 31, .tmp 3]) tOK fn79 rfl rfl rfl rfl ?_
  have e0 : (PT.ofList .leaf 0 [AV.ptr p 0]).get 0 = some (.ptr p 0) := rfl
  generalize hK1 : H.alloc (.cells false [.int .i64 0, .bool false]) = K1
  obtain ⟨sK1, wfK1, nK1, gK1⟩ := laid wfH hK1
  have hb1 := hb.keep (K := K1) fun b _ y hy => sK1 _ _ hy
  refine zs3 @e0 @all31 @hK1 ?_
  refine AOs.cq tOK fn102 ok102 (AC.wf (end102 N K1 hb1 hN hc false fn104 ok104 fun K b n k a h vl vr hb => right104 N K hb)) ?_
  rintro r K2 ⟨⟨rfl, sK2⟩, wfK2⟩
  have gg2 := sK2 _ _ gK1
  have bN : H.next < K2.next := wfK2 _ _ gg2
  have q1 := store_whole (cs := [.int .i64 (endM false t.ino c).1.1, .bool (endM false t.ino c).1.2]) ti31 gg2 rfl rfl rfl
  generalize hK3 : K2.set H.next (.cells false [.int .i64 (endM false t.ino c).1.1, .bool (endM false t.ino c).1.2]) = K3
  obtain ⟨sK3, nK3, wfK3, gK3⟩ := puts wfK2 hK3
  refine zs2 @q1 @hK3 ?_
  exact fnPost_retCT gt1 (by rw [ld31, load_whole (n := 2) gK3 rfl]) gt1 ⟨rfl, fun k z hz => sK3 _ _ (by have := wfH _ _ hz; omega) (sK2 _ _ (sK1 _ _ hz))⟩

/-- A cell of a group in a heap: labels, the great sum of its numbers and how many were over, how many, its bag. -/
def cellC (vl : AV) (S c : Int) (n : Nat) (q : Nat) : List AV := [vl, .int .i64 (hiI S), .int .u64 (loN S : Nat), .int .u64 (loN c : Nat), .int .i64 (n : Nat), .ptr q 0]
/-- What a cell answers. -/
def valM (f : Int) (S c : Int) (n : Nat) (l : List (Int × Nat)) (k : Nat) : Int × Bool :=
  if f = 1 then grtV S c else if f = 2 then ((n : Nat), false) else if f = 3 then (endM true l k).1 else (endM false l k).1

set_option maxHeartbeats 4000000 in
theorem value49 (N : Bd) (H : AH) {b q : Nat} {vl : AV} {S c : Int} {n : Nat} {t : Tr} {k : Nat} {f : Int} (hc : H.get b = some (.cells false (cellC vl S c n q))) (hb : BagAt H q t k) (hN : sumT t.ino ≤ 100000000) (hk : k ≤ 100000000) :
    AC tC N 0 49 [.ptr b 0, .int .i64 f] H fun r K => r = .agg [.int .i64 (valM f S c n t.ino k).1, .bool (valM f S c n t.ino k).2] ∧ K = H := by
  refine AC.quiet rfl ?_
  refine AC.wf0 fun wfH => ?_
  refine AC.by (n := 44) (rs := [.cell 4 31]) tOK fn49 rfl rfl rfl rfl ?_
  have e0 : (PT.ofList .leaf 0 [AV.ptr b 0, AV.int .i64 f]).get 0 = some (.ptr b 0) := rfl
  have e1 : (PT.ofList .leaf 0 [AV.ptr b 0, AV.int .i64 f]).get 1 = some (.int .i64 f) := rfl
  have hcl : H.get b = some (.cells false [vl, .int .i64 (hiI S), .int .u64 (loN S : Nat), .int .u64 (loN c : Nat), .int .i64 (n : Nat), .ptr q 0]) := hc
  generalize hK1 : H.alloc (.cells false [.int .i64 0, .bool false]) = K1
  obtain ⟨sK1, wfK1, nK1, gK1⟩ := laid wfH hK1
  have hcl := sK1 _ _ hcl
  have hb1 := hb.keep (K := K1) fun b _ y hy => sK1 _ _ hy
  have fin : ∀ K3 : AH, (∀ k z, k ≠ H.next → K1.get k = some z → K3.get k = some z) → ∀ b o, H.get b = some o → K3.get b = some o := fun K3 h k z hz => h _ _ (by have := wfH _ _ hz; omega) (sK1 _ _ hz)
  have tk : List.take 3 (List.drop 1 [vl, .int .i64 (hiI S), .int .u64 (loN S : Nat), .int .u64 (loN c : Nat), .int .i64 (n : Nat), .ptr q 0]) = [.int .i64 (hiI S), .int .u64 (loN S : Nat), .int .u64 (loN c : Nat)] := rfl
  unfold valM
  by_cases c1 : f = 1
  · have d1 : decide (f = 1) = true := decide_eq_true c1
    rw [if_pos c1]
    refine zs8 @ld96 @fa99_1 @e0 @e1 @all31 @hK1 @d1 (And.intro @hcl @tk) ?_
    refine AOs.cq tOK fn76 ok76 (value76 N K1 S c) ?_
    rintro r K1 ⟨rfl, rfl⟩
    have q1 := store_whole (cs := [.int .i64 (grtV S c).1, .bool (grtV S c).2]) ti31 gK1 rfl rfl rfl
    generalize hK2 : K1.set H.next (.cells false [.int .i64 (grtV S c).1, .bool (grtV S c).2]) = K2
    obtain ⟨sK2, nK2, wfK2, gK2⟩ := puts wfK1 hK2
    refine zs2 @q1 @hK2 ?_
    exact fnPost_retC gt1 (by rw [ld31, load_whole (n := 2) gK2 rfl]) ⟨rfl, fin K2 sK2⟩
  have d1 : decide (f = 1) = false := decide_eq_false c1
  rw [if_neg c1]
  by_cases c2 : f = 2
  · have d2 : decide (f = 2) = true := decide_eq_true c2
    rw [if_pos c2]
    refine zs8 @ld3 @fa99_2 @e0 @e1 @all31 @hK1 @d1 (And.intro @d2 @hcl) ?_
    refine AOs.cq tOK fn77 ok77 (of77 N K1 _) ?_
    rintro r K1 ⟨rfl, rfl⟩
    have q1 := store_whole (cs := [.int .i64 (n : Nat), .bool false]) ti31 gK1 rfl rfl rfl
    generalize hK2 : K1.set H.next (.cells false [.int .i64 (n : Nat), .bool false]) = K2
    obtain ⟨sK2, nK2, wfK2, gK2⟩ := puts wfK1 hK2
    refine zs2 @q1 @hK2 ?_
    exact fnPost_retC gt1 (by rw [ld31, load_whole (n := 2) gK2 rfl]) ⟨rfl, fin K2 sK2⟩
  have d2 : decide (f = 2) = false := decide_eq_false c2
  rw [if_neg c2]
  have gN : H.next < K1.next := wfK1 _ _ gK1
  by_cases c3 : f = 3
  · have d3 : decide (f = 3) = true := decide_eq_true c3
    rw [if_pos c3]
    refine zs8 @ld97 @fa99_3 @e0 @e1 @all31 @hK1 @d1 (And.intro @d2 (And.intro @d3 @hcl)) ?_
    refine AOs.cq tOK fn78 ok78 (AC.wf (least78 N K1 hb1 hN hk)) ?_
    rintro r K2 ⟨⟨rfl, sK2⟩, wfK2⟩
    have gg2 := sK2 _ _ gK1
    have bN : H.next < K2.next := wfK2 _ _ gg2
    generalize hK3 : K2.alloc (.cells false [.int .i64 0, .bool false]) = K3
    obtain ⟨sK3, wfK3, nK3, gK3⟩ := laid wfK2 hK3
    have gg2 := sK3 _ _ gg2
    have q1 := store_whole (cs := [.int .i64 (endM true t.ino k).1.1, .bool (endM true t.ino k).1.2]) ti31 gK3 rfl rfl rfl
    generalize hK4 : K3.set K2.next (.cells false [.int .i64 (endM true t.ino k).1.1, .bool (endM true t.ino k).1.2]) = K4
    obtain ⟨sK4, nK4, wfK4, gK4⟩ := puts wfK3 hK4
    have gg2 := sK4 _ _ (by omega) gg2
    have q2 := store_whole (cs := [.int .i64 (endM true t.ino k).1.1, .bool (endM true t.ino k).1.2]) ti31 gg2 rfl rfl rfl
    generalize hK5 : K4.set H.next (.cells false [.int .i64 (endM true t.ino k).1.1, .bool (endM true t.ino k).1.2]) = K5
    obtain ⟨sK5, nK5, wfK5, gK5⟩ := puts wfK4 hK5
    refine zs8 @ld31 @all31 @hK3 @q1 @hK4 @gK4 @tk2 (And.intro @q2 @hK5) ?_
    exact fnPost_retC gt1 (by rw [ld31, load_whole (n := 2) gK5 rfl]) ⟨rfl, fin K5 fun j z hj hz => sK5 _ _ hj (sK4 _ _ (by have := wfK1 _ _ hz; have := wfK2 _ _ (sK2 _ _ hz); omega) (sK3 _ _ (sK2 _ _ hz)))⟩
  have d3 : decide (f = 3) = false := decide_eq_false c3
  rw [if_neg c3]
  refine zs8 @ld97 @fa99_3 @e0 @e1 @all31 @hK1 @d1 (And.intro @d2 (And.intro @d3 @hcl)) ?_
  refine AOs.cq tOK fn79 ok79 (AC.wf (most79 N K1 hb1 hN hk)) ?_
  rintro r K2 ⟨⟨rfl, sK2⟩, wfK2⟩
  have gg2 := sK2 _ _ gK1
  have bN : H.next < K2.next := wfK2 _ _ gg2
  generalize hK3 : K2.alloc (.cells false [.int .i64 0, .bool false]) = K3
  obtain ⟨sK3, wfK3, nK3, gK3⟩ := laid wfK2 hK3
  have gg2 := sK3 _ _ gg2
  have q1 := store_whole (cs := [.int .i64 (endM false t.ino k).1.1, .bool (endM false t.ino k).1.2]) ti31 gK3 rfl rfl rfl
  generalize hK4 : K3.set K2.next (.cells false [.int .i64 (endM false t.ino k).1.1, .bool (endM false t.ino k).1.2]) = K4
  obtain ⟨sK4, nK4, wfK4, gK4⟩ := puts wfK3 hK4
  have gg2 := sK4 _ _ (by omega) gg2
  have q2 := store_whole (cs := [.int .i64 (endM false t.ino k).1.1, .bool (endM false t.ino k).1.2]) ti31 gg2 rfl rfl rfl
  generalize hK5 : K4.set H.next (.cells false [.int .i64 (endM false t.ino k).1.1, .bool (endM false t.ino k).1.2]) = K5
  obtain ⟨sK5, nK5, wfK5, gK5⟩ := puts wfK4 hK5
  refine zs8 @ld31 @all31 @hK3 @q1 @hK4 @gK4 @tk2 (And.intro @q2 @hK5) ?_
  exact fnPost_retC gt1 (by rw [ld31, load_whole (n := 2) gK5 rfl]) ⟨rfl, fin K5 fun j z hj hz => sK5 _ _ hj (sK4 _ _ (by have := wfK1 _ _ hz; have := wfK2 _ _ (sK2 _ _ hz); omega) (sK3 _ _ (sK2 _ _ hz)))⟩
end Go.Proofs.YtapokkpdgfpokaaGreat
