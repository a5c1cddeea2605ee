/- Group: a result put to its cell, taken from it; a new group; labels noted; no condition. -/
import Derived.Test.YtapokkpdgfpokaaGreatMg3
set_option linter.unusedSimpArgs false
set_option linter.unusedVariables false
set_option maxRecDepth 100000
open Go Go.AB Go.Proofs
namespace Go.Proofs.YtapokkpdgfpokaaGreat
set_option maxRecDepth 100000

/-- What was done to a group's cells leaves the rest alone. -/
structure GTr (H K : AH) (m : Nat) (cs cs' : List GCell) : Prop where
  keep : ∀ k y, k ∉ m :: fpsC cs → H.get k = some y → K.get k = some y
  old : ∀ b ∈ fpsC cs', b ∈ fpsC cs ∨ H.next ≤ b
  next : H.next ≤ K.next
theorem GTr.kd {H K : AH} {m : Nat} {ns : List Nm} {M : List Rs} {cs cs' : List GCell} (h : GTr H K m cs cs') (hc : CellsH H m ns M cs) : KD H K := KD.keep h.keep hc.work h.next
theorem selM_le (ns : List Nm) (x : Ls) (M : List Rs) : (selM ns x M).length ≤ M.length := List.length_filter_le _ _
theorem bd99 {v : AV} (hv : v.one = true) (b : Nat) : abuild tC 99 [(0, v), (3, .ptr b 0)] = some (.agg [v, .int .i64 0, .int .u64 0, .int .u64 0, .int .i64 0, .ptr b 0]) := by
  obtain ⟨h1, h2⟩ := cells_of_one hv
  simp only [abuild, ti99]
  have p1 : (AV.ptr b 0).cells = [.ptr b 0] := rfl
  have p2 : notJunk (.ptr b 0) = true := rfl
  have a1 : ∀ cs, (AV.agg cs).cells = cs := fun _ => rfl
  have a2 : ∀ cs, notJunk (AV.agg cs) = true := fun _ => rfl
  simp [afill, h1, h2, p1, p2, a1, a2, splice, ti29, ti97, ti96, ti3, nbeq, nble]
theorem st96 {K : AH} {b : Nat} {v x1 x2 x3 n p : AV} {S c : Int} (hb : K.get b = some (.cells false [v, x1, x2, x3, n, p])) : astore tC K 96 (.ptr b 1) (.agg (grt S c)) = some (K.set b (.cells false [v, .int .i64 (hiI S), .int .u64 (loN S : Nat), .int .u64 (loN c : Nat), n, p])) := by
  rw [astore_agg (cs := grt S c) (o := 1) ti96 hb rfl rfl (by simp [grt])]; rfl

theorem AW.joinSeq2 {C : Ctx} {N : Bd} {G n : Nat} {T : PT AV} {H : AH} {x y z : Code} {Q : AEx → PT AV → AH → Prop} (P : PT AV → AH → Prop) (h1 : AW C N G n x T H fun e T H => e = .normal ∧ AW C N G n y T H fun e T H => e = .normal ∧ P T H) (h2 : ∀ T H, P T H → AW C N G n z T H Q) : AW C N G n (.seq x (.seq y z)) T H Q :=
  AW.seq (h1.mono fun e T' H' ⟨he, hp⟩ => by
    subst he
    show AW C N G n (.seq y z) T' H' Q
    exact AW.seq (hp.mono fun e T' H' ⟨he, hp⟩ => by subst he; exact h2 T' H' hp))

theorem ex_mid {A B : List GCell} {c c' : GCell} (h : c'.x = c.x) (x : Ls) : (∃ d ∈ A ++ c' :: B, d.x = x) ↔ ∃ d ∈ A ++ c :: B, d.x = x := by
  have : ∀ {c c' : GCell}, c'.x = c.x → (∃ d ∈ A ++ c' :: B, d.x = x) → ∃ d ∈ A ++ c :: B, d.x = x := fun {c c'} h ⟨d, hd, e⟩ => by
    simp only [List.mem_append, List.mem_cons] at hd ⊢
    rcases hd with hd | rfl | hd
    · exact ⟨d, .inl hd, e⟩
    · exact ⟨c, .inr (.inl rfl), by rw [← h]; exact e⟩
    · exact ⟨d, .inr (.inr hd), e⟩
  exact ⟨this h, this h.symm⟩
def HasC (cs : List GCell) (ns : List Nm) (M : List Rs) : Prop := ∀ x, (∃ c ∈ cs, c.x = x) ↔ ∃ r ∈ M, onlyM ns r.1 = x
/-- What the tail of put needs. -/
def PutP (H : AH) (m p : Nat) (ns : List Nm) (M : List Rs) (cs : List GCell) (u : AV) (r : Rs) (T : PT AV) (K : AH) : Prop :=
  T.get 3 = some (.ptr p 0) ∧ K.get p = some (.cells false [u, .int .i64 r.2.1, .bool r.2.2]) ∧ WF K ∧ ∃ A B c, T.get 6 = some (.ptr c.cb 0) ∧ CellsH K m ns M (A ++ c :: B) ∧ c.x = onlyM ns r.1 ∧ p ∉ c.fp ∧ GTr H K m cs (A ++ c :: B) ∧
    ∀ x, (∃ d ∈ A ++ c :: B, d.x = x) ↔ (∃ d ∈ cs, d.x = x) ∨ x = onlyM ns r.1

set_option maxHeartbeats 8000000 in
theorem put52 (N : Bd) (H : AH) {g m : Nat} {f : Int} {un ui u : AV} {ns : List Nm} {M : List Rs} {cs : List GCell} {r : Rs} (hg : H.get g = some (.cells false [.int .i64 f, un, ui, .map m])) (hgm : g ∉ m :: fpsC cs) (hun : NamesAt H un ns) (hns : ns.length ≤ 1000000)
    (hc : CellsH H m ns M cs) (hu : LabelsAt H u r.1) (hr : numM r.2.1 r.2.2 = 0) (h64 : I64 r.2.1) (hM : M.length ≤ 1000000) (hhas : HasC cs ns M) :
    AC tC N 0 52 [.ptr g 0, .agg (rsC u r)] H fun _ K => ∃ cs', CellsH K m ns (r :: M) cs' ∧ GTr H K m cs cs' ∧ HasC cs' ns (r :: M) := by
  refine AC.wf0 fun wfH => ?_
  refine AC.by (n := 58) (rs := []) tOK fn52 rfl rfl rfl rfl ?_
  have e0 : (PT.ofList .leaf 0 [AV.ptr g 0, AV.agg (rsC u r)]).get 0 = some (.ptr g 0) := rfl
  have e1 : (PT.ofList .leaf 0 [AV.ptr g 0, AV.agg (rsC u r)]).get 1 = some (.agg [u, .int .i64 r.2.1, .bool r.2.2]) := rfl
  obtain ⟨ver, hmap⟩ := hc.map
  have hlt := hc.lt wfH
  generalize hK1 : H.alloc (.cells false [u, .int .i64 r.2.1, .bool r.2.2]) = K1
  obtain ⟨sK1, wfK1, nK1, gK1⟩ := laid wfH hK1
  have hg := sK1 _ _ hg
  have hmap := sK1 _ _ hmap
  refine zs2 @e1 @hK1 ?_
  refine AW.drawN tOK (Qs := []) [0, 1, 2, 3, 4, 5, 6, 7] (by kernel_rfl) pk1 ?_
  with_reducible repeat' first | (refine zd ?_; refine zr7 @ld29 @ld40 @fa58_0 @fa76_1 @e0 @gK1 @hg ?_; refine Same.mk ?_) | (refine DN.actE tOK (by kernel_rfl) wu wu ?_; refine zq4 @e0 @e1 @gK1 @hg ?_) | fail
  refine DN.call tOK (fs := []) (cs := []) rfl fn47 ok47 rfl ar1 (AC.wf (only47 N K1 (hu.keep (KS.of sK1 (by omega))) (hun.keep (KS.of sK1 (by omega))) hns)) wu ?_
  rintro x K2 ⟨⟨hx, sK2, nK2⟩, wfK2⟩
  with_reducible repeat' first | refine za ?_ | refine DN.nil tOK ?_ | (refine DN.fl1E wu wu ?_; refine zr0 ?_; refine Same.mk ?_) | (refine AOs.o1 tOK ?_; refine zr0 ?_) | fail
  with_reducible repeat' first | (refine AOs.o1 tOK ?_; refine zq1 @e0 ?_) | fail
  refine AOs.cq tOK fn48 ok48 (key48 N K2 hx) ?_
  rintro r' K2 ⟨rfl, rfl⟩
  have hg2 := sK2 _ _ hg
  have hm2 := sK2 _ _ hmap
  have gp2 := sK2 _ _ gK1
  have k12 : ∀ b z, H.get b = some z → K2.get b = some z := fun b z hz => sK2 _ _ (sK1 _ _ hz)
  have hc2 : CellsH K2 m ns M cs := hc.keep (fun b _ y hy => k12 _ _ hy) (KS.of k12 (by omega))
  have hx0 := onlyM_ok ns r.1
  have g2 : GTr H K2 m cs cs := ⟨fun k y _ hy => k12 _ _ hy, fun b hb => .inl hb, by omega⟩
  with_reducible repeat' first | refine zb ?_ | (refine AOs.o1 tOK ?_; refine zr0 ?_) | fail
  refine AW.joinSeq2 (PutP H m H.next ns M cs u r) ?_ ?_
  · by_cases hex : ∃ c ∈ cs, c.x = onlyM ns r.1
    · obtain ⟨c, hcm, hcx⟩ := hex
      obtain ⟨A, B, rfl⟩ := List.append_of_mem hcm
      have hgn := getN_some hc.ok (xs_mid hc.xs).2
      rw [hcx] at hgn
      with_reducible repeat' first | refine zb ?_ | (refine AOs.o1 tOK ?_; refine Step.mk (by simp only [evc, evr, aeval, Nat.reduceEqDiff, reduceIte, cellAt, lookAt, eq_self, ld74, lk74, fa76_3, e0, hg2, hm2, mget_ents, hgn, Option.getD_some]; rfl) ?_) | fail
      refine ⟨rfl, ?_⟩
      refine zs1 @eq82a ?_
      refine ⟨rfl, gt1, gp2, wfK2, A, B, c, gt1, hc2, hcx, fun hp => ?_, g2, fun x => ⟨.inl, fun h => h.elim id fun e => ⟨c, hcm, by rw [hcx, e]⟩⟩⟩
      have := hlt _ (List.mem_cons_of_mem _ (CellsH.mem_fps hcm hp)); omega
    · have hne : ∀ d ∈ cs, d.x ≠ onlyM ns r.1 := fun d hd e => hex ⟨d, hd, e⟩
      have hgn := getN_none hc.ok hx0 hne
      with_reducible repeat' first | refine zb ?_ | (refine AOs.o1 tOK ?_; refine Step.mk (by simp only [evc, evr, aeval, Nat.reduceEqDiff, reduceIte, cellAt, lookAt, eq_self, ld74, lk74, fa76_3, e0, hg2, hm2, mget_ents, hgn, Option.getD_none]; rfl) ?_) | fail
      refine ⟨rfl, ?_⟩
      refine zs1 @eq82b ?_
      refine AOs.callQ tOK (fs := []) (cs := []) rfl fn84 ok84 rfl (by simp only [List.map_nil, List.append_nil] <;> rfl) (AC.wf (new84 N K2)) ?_
      rintro r' K3 ⟨⟨q, rfl, hq, hbag, sK3, nK3⟩, wfK3⟩
      have hx3 : LabelsAt K3 x (onlyM ns r.1) := hx.keep (KS.of sK3 nK3)
      have hg3 := sK3 _ _ hg2
      have hm3 := sK3 _ _ hm2
      have gp3 := sK3 _ _ gp2
      obtain ⟨bv, hbg, _⟩ := hbag.here
      have hqN := wfK3 _ _ hbg
      generalize hK4 : K3.alloc (.cells false [x, .int .i64 0, .int .u64 0, .int .u64 0, .int .i64 0, .ptr q 0]) = K4
      obtain ⟨sK4, wfK4, nK4, gK4⟩ := laid wfK3 hK4
      have hg3 := sK4 _ _ hg3
      have hm3 := sK4 _ _ hm3
      have gp3 := sK4 _ _ gp3
      have hxo := hx3.one
      have hse : ents (setN (entC cs) (keyM (onlyM ns r.1)) K3.next) = ents (entC (cs ++ [⟨onlyM ns r.1, K3.next, q, x, .leaf⟩])) := by rw [setN_none hgn]; simp [entC]
      have bdx := bd99 hxo q
      generalize hK5 : (⟨K4.t.set m (.map (ents (entC (cs ++ [⟨onlyM ns r.1, K3.next, q, x, .leaf⟩]))) K4.next), K4.next + 1⟩ : AH) = K5
      have g5 : ∀ k, K5.get k = if k = m then some (.map (ents (entC (cs ++ [⟨onlyM ns r.1, K3.next, q, x, .leaf⟩]))) K4.next) else K4.get k := fun k => by rw [← hK5]; exact PT.get_set _ _ _ _
      have n5 : K5.next = K4.next + 1 := by rw [← hK5]
      have mN := hlt m (List.mem_cons_self)
      have k5 : ∀ k y, k ≠ m → K4.get k = some y → K5.get k = some y := fun k y hk hy => by rw [g5, if_neg hk]; exact hy
      have wfK5 : WF K5 := fun b y hy => by
        rw [g5] at hy
        split at hy
        · have := wfK4 _ _ hm3; omega
        · have := wfK4 _ _ hy; omega
      with_reducible repeat' first | refine zb ?_ | (refine zo ?_; refine zq8 @e0 @bdx @hK4 @hg3 @hm3 @mset_ents @hse @hK5 ?_) | fail
      refine ⟨rfl, gt1, k5 _ _ (by omega) gp3, wfK5, cs, [], ⟨onlyM ns r.1, K3.next, q, x, .leaf⟩, gt1, ?_, rfl, ?_, ?_, ?_⟩
      · have ks5 : KS K2 K5 := (KS.of (fun b y hy => sK4 _ _ (sK3 _ _ hy)) (by omega)).trans ⟨fun b ro vs h1 h2 h3 => k5 b _ (fun e => by subst e; rw [hm3] at h1; cases h1) h1, by omega⟩
        have hsel : selM ns (onlyM ns r.1) M = [] := by
          by_cases h : selM ns (onlyM ns r.1) M = []
          · exact h
          · exact absurd ((hhas _).2 (selM_ne.1 h)) hex
        refine hc2.add wfK2 ⟨_, by rw [g5, if_pos rfl], by omega⟩ ?_ hx0 hne ?_ ?_ (fun k y hk hy => k5 k y hk (sK4 _ _ (sK3 _ _ hy))) ks5
        · rw [hsel]
          refine ⟨hx.keep ks5, k5 _ _ (by show K3.next ≠ m; have := wfK3 _ _ (sK3 _ _ hm2); omega) gK4, hbag.keep fun b hb y hy => k5 b y (fun e => ?_) (sK4 _ _ hy), rfl⟩
          simp [Tr.blks] at hb; omega
        · intro b hb
          simp [GCell.fp, Tr.blks] at hb
          rcases hb with rfl | rfl <;> omega
        · simp [GCell.fp, Tr.blks]; omega
      · simp [GCell.fp, Tr.blks]; omega
      · refine ⟨fun k y hk hy => k5 k y (fun e => hk (by simp [e])) (sK4 _ _ (sK3 _ _ (k12 _ _ hy))), fun b hb => ?_, by omega⟩
        rw [fpsC_mid] at hb
        rcases hb with hb | hb
        · simp [GCell.fp, Tr.blks] at hb
          rcases hb with rfl | rfl <;> (right; omega)
        · left; simpa using hb
      · intro x'
        simp only [List.mem_append, List.mem_singleton]
        constructor
        · rintro ⟨d, hd | hd, e⟩
          · exact .inl ⟨d, hd, e⟩
          · subst hd; exact .inr e.symm
        · rintro (⟨d, hd, e⟩ | e)
          · exact ⟨d, .inl hd, e⟩
          · exact ⟨_, .inr rfl, e.symm⟩
  · rintro T K ⟨g3, gp, wfK, A, B, c, g6, hcK, hcx, hpc, tr, hxs⟩
    obtain ⟨S0, hL⟩ : ∃ L, selM ns c.x M = L := ⟨_, rfl⟩
    have hcl := hcK.cell c (by simp)
    rw [hL] at hcl
    have hLle : S0.length ≤ M.length := by rw [← hL]; exact selM_le _ _ _
    have hbs := bagV_sum S0
    have hcl0 := hcl
    obtain ⟨hlab, hhere, hbag, hino⟩ := hcl
    have hh : K.get c.cb = some (.cells false [c.vl, .int .i64 (hiI (sumV S0)), .int .u64 (loN (sumV S0) : Nat), .int .u64 (loN (ovV S0 : Nat) : Nat), .int .i64 (S0.length : Nat), .ptr c.q 0]) := hhere
    have tk : List.take 3 (List.drop 1 [c.vl, .int .i64 (hiI (sumV S0)), .int .u64 (loN (sumV S0) : Nat), .int .u64 (loN (ovV S0 : Nat) : Nat), .int .i64 (S0.length : Nat), .ptr c.q 0]) = [.int .i64 (hiI (sumV S0)), .int .u64 (loN (sumV S0) : Nat), .int .u64 (loN (ovV S0 : Nat) : Nat)] := rfl
    have tkp : List.take 2 (List.drop 1 [u, .int .i64 r.2.1, .bool r.2.2]) = [.int .i64 r.2.1, .bool r.2.2] := rfl
    have l3 : List.length [AV.int .i64 (hiI (sumV S0)), .int .u64 (loN (sumV S0) : Nat), .int .u64 (loN (ovV S0 : Nat) : Nat)] = 3 := rfl
    have l2 : List.length [AV.int .i64 r.2.1, .bool r.2.2] = 2 := rfl
    have hcbp : c.cb ≠ H.next := fun e => hpc (e ▸ List.mem_cons_self)
    have hcN := hcl0.lt wfK c.cb (List.mem_cons_self)
    refine zs0 ?_
    refine AW.drawN tOK (Qs := [7]) [0, 1, 2, 3, 4, 5, 6, 7, 8, 9, 10] (by kernel_rfl) pk1 ?_
    with_reducible repeat' first | (refine zd ?_; refine zq8 @g3 @g6 @hh @tk @gp @tkp @l3 @l2 ?_; refine Same.mk ?_) | fail
    refine DN.callQ (fs := []) (cs := []) rfl fn85 ok85 rfl ar1 (put85 N K (sumV S0) (ovV S0 : Nat) r.2.1 r.2.2 h64) ?_
    have hst := st96 (S := sumV S0 + valS r.2.1 r.2.2) (c := (ovV S0 : Nat) + valO r.2.2) hh
    generalize hK1 : K.set c.cb (.cells false [c.vl, .int .i64 (hiI (sumV S0 + valS r.2.1 r.2.2)), .int .u64 (loN (sumV S0 + valS r.2.1 r.2.2) : Nat), .int .u64 (loN ((ovV S0 : Nat) + valO r.2.2) : Nat), .int .i64 (S0.length : Nat), .ptr c.q 0]) = K1
    obtain ⟨sK1, nK1, wfK1, gK1⟩ := puts wfK hK1
    have gp := sK1 _ _ (by omega) gp
    have w1 : IntKind.i64.wrap (((S0.length : Nat) : Int) + 1) = ((S0.length + 1 : Nat) : Int) := wrap64_succ (by omega)
    generalize hK2 : K1.set c.cb (.cells false [c.vl, .int .i64 (hiI (sumV S0 + valS r.2.1 r.2.2)), .int .u64 (loN (sumV S0 + valS r.2.1 r.2.2) : Nat), .int .u64 (loN ((ovV S0 : Nat) + valO r.2.2) : Nat), .int .i64 (S0.length + 1 : Nat), .ptr c.q 0]) = K2
    obtain ⟨sK2, nK2, wfK2, gK2⟩ := puts wfK1 hK2
    have gp := sK2 _ _ (by omega) gp
    with_reducible repeat' first | refine za ?_ | refine DN.nil tOK ?_ | (refine DN.fl1E wu wu ?_; refine zr1 @fa99_1 ?_; refine Same.mk ?_) | ((first | refine AOs.o1 tOK ?_ | refine DN.act0E tOK (by kernel_rfl) wu ?_); refine zr5 @ld3 @fa99_2 @g6 @hst @hK1 ?_) | fail
    with_reducible repeat' first | refine zb ?_ | (refine zo ?_; refine zq3 @gK1 @w1 @hK2 ?_) | fail
    have hq2 : c.cb ∉ c.q :: c.t.blks := by
      have := (nd_mid hcK.nd).2.1
      simp only [GCell.fp, List.nodup_cons] at this
      exact this.1
    have hbag2 : BagAt K2 c.q c.t (ovV S0) := hbag.keep fun b hb y hy => sK2 _ _ (fun e => hq2 (e ▸ hb)) (sK1 _ _ (fun e => hq2 (e ▸ hb)) hy)
    refine AW.drawN tOK (Qs := []) [0, 1, 2, 3, 4, 5, 6] (by kernel_rfl) pk1 ?_
    with_reducible repeat' first | (refine zd ?_; refine zq6 @g3 @g6 @gK2 @gp @tkp @l2 ?_; refine Same.mk ?_) | (refine DN.actE tOK (by kernel_rfl) wu wu ?_; refine zq6 @g3 @g6 @gK2 @gp @tkp @l2 ?_) | fail
    refine DN.call tOK (fs := []) (cs := []) rfl fn86 ok86 rfl ar1 (AC.wf (bput86 N K2 hbag2 hr (by rw [hino]; omega) (by omega))) wu ?_
    rintro r' K3 ⟨⟨t', hb3, bt, ino'⟩, wfK3⟩
    with_reducible repeat' first | refine DN.nil tOK ?_ | fail
    have hcbf : c.cb ∉ c.t.blks := fun h => hq2 (List.mem_cons_of_mem _ h)
    have hcq : c.cb ≠ c.q := fun h => hq2 (h ▸ List.mem_cons_self)
    have gK3 := bt.keep _ _ hcq hcbf gK2
    have hcK3 : c.cb < K2.next := wfK2 _ _ gK2
    have ct : CT K K3 c ⟨c.x, c.cb, c.q, c.vl, t'⟩ := by
      refine ⟨rfl, rfl, fun b hb => ?_, ?_, fun k y hk hy => ?_, by have := bt.next; omega⟩
      · simp only [GCell.fp, List.mem_cons] at hb ⊢
        rcases hb with rfl | rfl | hb
        · exact .inl (.inl rfl)
        · exact .inl (.inr (.inl rfl))
        · rcases bt.old b hb with h | h
          · exact .inl (.inr (.inr h))
          · exact .inr (by omega)
      · simp only [GCell.fp, List.nodup_cons, List.mem_cons, not_or]
        refine ⟨⟨hcq, fun h => ?_⟩, hb3.apart, hb3.nd⟩
        rcases bt.old _ h with h | h
        · exact hcbf h
        · omega
      · simp only [GCell.fp, List.mem_cons, not_or] at hk
        exact bt.keep k y hk.2.1 hk.2.2 (sK2 _ _ hk.1 (sK1 _ _ hk.1 hy))
    have hsel : selM ns c.x (r :: M) = r :: S0 := by rw [selM_cons, if_pos hcx.symm, hL]
    have hks := (ct.ks hcl0).ks
    have hcl' : CellL K3 (selM ns c.x (r :: M)) ⟨c.x, c.cb, c.q, c.vl, t'⟩ := by
      rw [hsel]
      refine ⟨hlab.keep hks, ?_, ?_, ?_⟩
      · show K3.get c.cb = _
        rw [gK3]
        have e1 : ((ovV (r :: S0) : Nat) : Int) = ((ovV S0 : Nat) : Int) + valO r.2.2 := by
          rw [ovV]; unfold valO; split <;> simp
        simp only [cellC, sumV, e1, List.length_cons]
      · have e1 : ovV (r :: S0) = if r.2.2 = true then ovV S0 + 1 else ovV S0 := by rw [ovV]; split <;> simp
        rw [e1]; exact hb3
      · show t'.ino = bagV (r :: S0)
        rw [ino', bagV, hino]
    have hfin := hcK.swap wfK ct hcl' fun x hx => by rw [selM_cons, if_neg (fun e => hx (by rw [hcx, e]))]
    refine fnPost_normal0 ⟨A ++ ⟨c.x, c.cb, c.q, c.vl, t'⟩ :: B, hfin, ⟨fun k y hk hy => ?_, fun b hb => ?_, by have := tr.next; have := bt.next; omega⟩, fun x => ?_⟩
    · refine ct.keep k y (fun h => ?_) (tr.keep k y hk hy)
      rcases tr.old k ((fpsC_mid A B c k).2 (.inl h)) with h | h
      · exact hk (List.mem_cons_of_mem _ h)
      · have := wfH _ _ hy; omega
    · rcases (fpsC_mid A B _ b).1 hb with h | h
      · rcases ct.old b h with h | h
        · exact tr.old b ((fpsC_mid A B c b).2 (.inl h))
        · exact .inr (Nat.le_trans tr.next h)
      · exact tr.old b ((fpsC_mid A B c b).2 (.inr h))
    · have e1 : (∃ d ∈ A ++ (⟨c.x, c.cb, c.q, c.vl, t'⟩ : GCell) :: B, d.x = x) ↔ ∃ d ∈ A ++ c :: B, d.x = x := ex_mid ct.x x
      rw [e1, hxs x, hhas x]
      constructor
      · rintro (⟨s, hs, e⟩ | e)
        · exact ⟨s, List.mem_cons_of_mem _ hs, e⟩
        · exact ⟨r, List.mem_cons_self, e.symm⟩
      · rintro ⟨s, hs, e⟩
        rcases List.mem_cons.1 hs with rfl | hs
        · exact .inr e.symm
        · exact .inl ⟨s, hs, e⟩

theorem hasC_erase {cs' A B : List GCell} {c : GCell} {ns : List Nm} {M : List Rs} {r : Rs} (h : HasC (A ++ c :: B) ns M) (hx : ∀ d ∈ A ++ B, d.x ≠ c.x) (hcx : c.x = onlyM ns r.1)
    (he : ∀ x, (∃ d ∈ cs', d.x = x) ↔ (∃ d ∈ A ++ B, d.x = x) ∨ (x = c.x ∧ selM ns c.x (M.erase r) ≠ [])) : HasC cs' ns (M.erase r) := fun x => by
  rw [he x, ← selM_ne]
  have hx0 := h x
  rw [← selM_ne] at hx0
  by_cases e : x = c.x
  · subst e
    constructor
    · rintro (⟨d, hd, e⟩ | ⟨_, h⟩)
      · exact absurd e (hx d hd)
      · exact h
    · exact fun h => .inr ⟨rfl, h⟩
  · have e1 : selM ns x (M.erase r) = selM ns x M := selM_erase_ne fun h => e (by rw [hcx, h])
    rw [e1, ← hx0]
    constructor
    · rintro (⟨d, hd, e2⟩ | ⟨h, _⟩)
      · refine ⟨d, ?_, e2⟩
        rcases List.mem_append.1 hd with hd | hd <;> simp [hd]
      · exact absurd h e
    · rintro ⟨d, hd, e2⟩
      refine .inl ⟨d, ?_, e2⟩
      simp only [List.mem_append, List.mem_cons] at hd ⊢
      rcases hd with hd | rfl | hd
      · exact .inl hd
      · exact absurd e2.symm e
      · exact .inr hd

set_option maxHeartbeats 8000000 in
theorem take51 (N : Bd) (H : AH) {g m : Nat} {f : Int} {un ui u : AV} {ns : List Nm} {M : List Rs} {cs : List GCell} {r : Rs} (hg : H.get g = some (.cells false [.int .i64 f, un, ui, .map m])) (hgm : g ∉ m :: fpsC cs) (hun : NamesAt H un ns) (hns : ns.length ≤ 1000000)
    (hc : CellsH H m ns M cs) (hu : LabelsAt H u r.1) (hr : numM r.2.1 r.2.2 = 0) (h64 : I64 r.2.1) (hM : M.length ≤ 1000000) (hhas : HasC cs ns M) (hrM : r ∈ M) :
    AC tC N 0 51 [.ptr g 0, .agg (rsC u r)] H fun _ K => ∃ cs', CellsH K m ns (M.erase r) cs' ∧ GTr H K m cs cs' ∧ HasC cs' ns (M.erase r) := by
  refine AC.wf0 fun wfH => ?_
  refine AC.by (n := 54) (rs := []) tOK fn51 rfl rfl rfl rfl ?_
  have e0 : (PT.ofList .leaf 0 [AV.ptr g 0, AV.agg (rsC u r)]).get 0 = some (.ptr g 0) := rfl
  have e1 : (PT.ofList .leaf 0 [AV.ptr g 0, AV.agg (rsC u r)]).get 1 = some (.agg [u, .int .i64 r.2.1, .bool r.2.2]) := rfl
  obtain ⟨ver, hmap⟩ := hc.map
  have hlt := hc.lt wfH
  obtain ⟨c, hcm, hcx⟩ := (hhas (onlyM ns r.1)).2 ⟨r, hrM, rfl⟩
  obtain ⟨A, B, rfl⟩ := List.append_of_mem hcm
  have hgn := getN_some hc.ok (xs_mid hc.xs).2
  rw [hcx] at hgn
  have hpc : H.next ∉ c.fp := fun h => by have := hlt _ (List.mem_cons_of_mem _ (CellsH.mem_fps hcm h)); omega
  generalize hK1 : H.alloc (.cells false [u, .int .i64 r.2.1, .bool r.2.2]) = K1
  obtain ⟨sK1, wfK1, nK1, gK1⟩ := laid wfH hK1
  have hg := sK1 _ _ hg
  have hmap := sK1 _ _ hmap
  refine zs2 @e1 @hK1 ?_
  refine AW.drawN tOK (Qs := [7]) [0, 1, 2, 3, 4, 5, 6, 7, 8] (by kernel_rfl) pk1 ?_
  with_reducible repeat' first | (refine zd ?_; refine zr7 @ld29 @ld40 @fa58_0 @fa76_1 @e0 @gK1 @hg ?_; refine Same.mk ?_) | (refine DN.actE tOK (by kernel_rfl) wu wu ?_; refine zq4 @e0 @e1 @gK1 @hg ?_) | fail
  refine DN.call tOK (fs := []) (cs := []) rfl fn47 ok47 rfl ar1 (AC.wf (only47 N K1 (hu.keep (KS.of sK1 (by omega))) (hun.keep (KS.of sK1 (by omega))) hns)) wu ?_
  rintro x K ⟨⟨hx, sK2, nK2⟩, wfK⟩
  with_reducible repeat' first | (refine DN.rd1E (by kernel_rfl) wu ?_; refine zq1 @e0 ?_; refine Same.mk ?_) | fail
  refine DN.callQ (fs := []) (cs := []) rfl fn48 ok48 rfl ar1 (key48 N K hx) ?_
  with_reducible repeat' first | refine za ?_ | refine DN.nil tOK ?_ | (refine DN.fl1E wu wu ?_; refine zr0 ?_; refine Same.mk ?_) | (refine AOs.o1 tOK ?_; refine zr3 @ld74 @fa76_3 @e0 ?_) | fail
  have hg2 := sK2 _ _ hg
  have hm2 := sK2 _ _ hmap
  have gp := sK2 _ _ gK1
  have k12 : ∀ b z, H.get b = some z → K.get b = some z := fun b z hz => sK2 _ _ (sK1 _ _ hz)
  have hcK : CellsH K m ns M (A ++ c :: B) := hc.keep (fun b _ y hy => k12 _ _ hy) (KS.of k12 (by omega))
  have tr : GTr H K m (A ++ c :: B) (A ++ c :: B) := ⟨fun k y _ hy => k12 _ _ hy, fun b hb => .inl hb, by omega⟩
  obtain ⟨S0, hL⟩ : ∃ L, selM ns c.x M = L := ⟨_, rfl⟩
  have hrS : r ∈ S0 := by rw [← hL]; exact selM_mem.2 ⟨hrM, hcx.symm⟩
  have hcl := hcK.cell c (by simp)
  rw [hL] at hcl
  have hLle : S0.length ≤ M.length := by rw [← hL]; exact selM_le _ _ _
  have hbs := bagV_sum S0
  have hcl0 := hcl
  obtain ⟨hlab, hhere, hbag, hino⟩ := hcl
  have hh : K.get c.cb = some (.cells false [c.vl, .int .i64 (hiI (sumV S0)), .int .u64 (loN (sumV S0) : Nat), .int .u64 (loN (ovV S0 : Nat) : Nat), .int .i64 (S0.length : Nat), .ptr c.q 0]) := hhere
  have tk : List.take 3 (List.drop 1 [c.vl, .int .i64 (hiI (sumV S0)), .int .u64 (loN (sumV S0) : Nat), .int .u64 (loN (ovV S0 : Nat) : Nat), .int .i64 (S0.length : Nat), .ptr c.q 0]) = [.int .i64 (hiI (sumV S0)), .int .u64 (loN (sumV S0) : Nat), .int .u64 (loN (ovV S0 : Nat) : Nat)] := rfl
  have tkp : List.take 2 (List.drop 1 [u, .int .i64 r.2.1, .bool r.2.2]) = [.int .i64 r.2.1, .bool r.2.2] := rfl
  have l3 : List.length [AV.int .i64 (hiI (sumV S0)), .int .u64 (loN (sumV S0) : Nat), .int .u64 (loN (ovV S0 : Nat) : Nat)] = 3 := rfl
  have l2 : List.length [AV.int .i64 r.2.1, .bool r.2.2] = 2 := rfl
  have hcbp : c.cb ≠ H.next := fun e => hpc (e ▸ List.mem_cons_self)
  have hcN := hcl0.lt wfK c.cb (List.mem_cons_self)
  with_reducible repeat' first | refine za ?_ | (refine AOs.o1 tOK ?_; refine Step.mk (by simp only [evc, evr, aeval, Nat.reduceEqDiff, reduceIte, cellAt, lookAt, eq_self, ld74, lk74, hg2, hm2, mget_ents, hgn, Option.getD_some]; rfl) ?_) | fail
  refine AW.drawN tOK (Qs := [7]) [0, 1, 2, 3, 4, 5, 6, 7, 8, 9, 10] (by kernel_rfl) pk1 ?_
  with_reducible repeat' first | (refine zd ?_; refine zq6 @hh @tk @gp @tkp @l3 @l2 ?_; refine Same.mk ?_) | fail
  refine DN.callQ (fs := []) (cs := []) rfl fn82 ok82 rfl ar1 (take82 N K (sumV S0) (ovV S0 : Nat) r.2.1 r.2.2 h64) ?_
  have hst := st96 (S := sumV S0 + -valS r.2.1 r.2.2) (c := (ovV S0 : Nat) + -valO r.2.2) hh
  generalize hK2 : K.set c.cb (.cells false [c.vl, .int .i64 (hiI (sumV S0 + -valS r.2.1 r.2.2)), .int .u64 (loN (sumV S0 + -valS r.2.1 r.2.2) : Nat), .int .u64 (loN ((ovV S0 : Nat) + -valO r.2.2) : Nat), .int .i64 (S0.length : Nat), .ptr c.q 0]) = K2
  obtain ⟨sK2, nK2, wfK2, gK2⟩ := puts wfK hK2
  have gp := sK2 _ _ (by omega) gp
  with_reducible repeat' first | refine za ?_ | refine DN.nil tOK ?_ | (refine DN.fl1E wu wu ?_; refine zr1 @fa99_1 ?_; refine Same.mk ?_) | (refine DN.act0E tOK (by kernel_rfl) wu ?_; refine zr2 @hst @hK2 ?_) | fail
  have hq2 : c.cb ∉ c.q :: c.t.blks := by
    have := (nd_mid hcK.nd).2.1
    simp only [GCell.fp, List.nodup_cons] at this
    exact this.1
  have hbag2 : BagAt K2 c.q c.t (ovV S0) := hbag.keep fun b hb y hy => sK2 _ _ (fun e => hq2 (e ▸ hb)) hy
  have hthere : 0 < cntM c.t (ovV S0) r.2.1 r.2.2 := by
    unfold cntM
    split
    · exact ov_there hrS (by assumption)
    · rw [hino]; exact cnt_there hrS (by simpa using (by assumption : ¬ r.2.2 = true))
  skip
  refine AW.drawN tOK (Qs := []) [0, 1, 2, 3, 4, 5, 6] (by kernel_rfl) pk1 ?_
  with_reducible repeat' first | (refine zd ?_; refine zr8 @ld31 @fa58_1 @ld97 @fa99_3 @gK2 @gp @tkp @l2 ?_; refine Same.mk ?_) | (refine DN.actE tOK (by kernel_rfl) wu wu ?_; refine zq5 @e0 @gK2 @gp @tkp @l2 ?_) | fail
  refine DN.call tOK (fs := []) (cs := []) rfl fn83 ok83 rfl ar1 (AC.wf (btake83 N K2 hbag2 hr (by rw [hino]; omega) (by omega) hthere)) wu ?_
  rintro r' K3 ⟨⟨t', hb3, bt, ino'⟩, wfK3⟩
  with_reducible repeat' first | refine za ?_ | refine DN.nil tOK ?_ | (refine AOs.o1 tOK ?_; refine zr2 @ld3 @fa99_2 ?_) | fail
  have hcbf : c.cb ∉ c.t.blks := fun h => hq2 (List.mem_cons_of_mem _ h)
  have hcq : c.cb ≠ c.q := fun h => hq2 (h ▸ List.mem_cons_self)
  have gK3 := bt.keep _ _ hcq hcbf gK2
  have hcK3 : c.cb < K2.next := wfK2 _ _ gK2
  have nK3 := bt.next
  have hpos : 1 ≤ S0.length := List.length_pos_of_mem hrS
  have w1 : IntKind.i64.wrap (((S0.length : Nat) : Int) - 1) = ((S0.length - 1 : Nat) : Int) := by rw [wrap64 (by omega) (by omega)]; omega
  generalize hK4 : K3.set c.cb (.cells false [c.vl, .int .i64 (hiI (sumV S0 + -valS r.2.1 r.2.2)), .int .u64 (loN (sumV S0 + -valS r.2.1 r.2.2) : Nat), .int .u64 (loN ((ovV S0 : Nat) + -valO r.2.2) : Nat), .int .i64 (S0.length - 1 : Nat), .ptr c.q 0]) = K4
  obtain ⟨sK4, nK4, wfK4, gK4⟩ := puts wfK3 hK4
  have hcb' : c.cb ∉ t'.blks := fun h => by
    rcases bt.old _ h with h | h
    · exact hcbf h
    · omega
  have ct : CT K K4 c ⟨c.x, c.cb, c.q, c.vl, t'⟩ := by
    refine ⟨rfl, rfl, fun b hb => ?_, ?_, fun k y hk hy => ?_, by omega⟩
    · simp only [GCell.fp, List.mem_cons] at hb ⊢
      rcases hb with rfl | rfl | hb
      · exact .inl (.inl rfl)
      · exact .inl (.inr (.inl rfl))
      · rcases bt.old b hb with h | h
        · exact .inl (.inr (.inr h))
        · exact .inr (by omega)
    · simp only [GCell.fp, List.nodup_cons, List.mem_cons, not_or]
      exact ⟨⟨hcq, hcb'⟩, hb3.apart, hb3.nd⟩
    · simp only [GCell.fp, List.mem_cons, not_or] at hk
      exact sK4 _ _ hk.1 (bt.keep k y hk.2.1 hk.2.2 (sK2 _ _ hk.1 hy))
  have hsel : selM ns c.x (M.erase r) = S0.erase r := by rw [selM_erase, hL]
  have hlen := List.length_erase_of_mem hrS
  have hks := (ct.ks hcl0).ks
  have hcl' : CellL K4 (selM ns c.x (M.erase r)) ⟨c.x, c.cb, c.q, c.vl, t'⟩ := by
    rw [hsel]
    refine ⟨hlab.keep hks, ?_, ?_, ?_⟩
    · show K4.get c.cb = _
      rw [gK4]
      have e1 := sumV_erase hrS
      have e2 := ovV_erase hrS
      have e3 : ((ovV (S0.erase r) : Nat) : Int) = ((ovV S0 : Nat) : Int) + -valO r.2.2 := by
        rw [e2]; unfold valO; split <;> simp <;> omega
      have e4 : sumV (S0.erase r) = sumV S0 + -valS r.2.1 r.2.2 := by omega
      simp only [cellC, e3, e4, hlen]
    · have e1 : ovV (S0.erase r) = if r.2.2 = true then ovV S0 - 1 else ovV S0 := by
        rw [ovV_erase hrS]; split <;> simp
      rw [e1]
      exact hb3.keep fun b hb y hy => sK4 _ _ (fun e => by
        subst e
        rcases List.mem_cons.1 hb with h | h
        · exact hcq h
        · exact hcb' h) hy
    · show t'.ino = bagV (S0.erase r)
      rw [ino', hino]
      split
      · exact (bagV_over hrS (by assumption)).symm
      · exact (bagV_erase hrS (by simpa using (by assumption : ¬ r.2.2 = true))).symm
  have hfin := hcK.swap wfK ct hcl' fun x hx => selM_erase_ne fun e => hx (by rw [hcx, e])
  have xm := xs_mid hc.xs
  have trK : ∀ k y, k ∉ m :: fpsC (A ++ c :: B) → H.get k = some y → K4.get k = some y := fun k y hk hy =>
    ct.keep k y (fun h => hk (List.mem_cons_of_mem _ ((fpsC_mid A B c k).2 (.inl h)))) (k12 _ _ hy)
  have trO : ∀ b ∈ fpsC (A ++ (⟨c.x, c.cb, c.q, c.vl, t'⟩ : GCell) :: B), b ∈ fpsC (A ++ c :: B) ∨ H.next ≤ b := fun b hb => by
    rcases (fpsC_mid A B _ b).1 hb with h | h
    · rcases ct.old b h with h | h
      · exact .inl ((fpsC_mid A B c b).2 (.inl h))
      · exact .inr (by omega)
    · exact .inl ((fpsC_mid A B c b).2 (.inr h))
  have hg4 : K4.get g = some (.cells false [.int .i64 f, un, ui, .map m]) := ct.keep _ _ (fun h => hgm (List.mem_cons_of_mem _ ((fpsC_mid A B c g).2 (.inl h)))) hg2
  by_cases h0 : S0.length = 1
  · have d1 : decide (((S0.length - 1 : Nat) : Int) = 0) = true := decide_eq_true (by omega)
    obtain ⟨ver4, hm4⟩ := hfin.map
    have hdl := delN_mid hfin.ok (fun d hd => by exact xm.2 d hd)
    have hdl : delN (entC (A ++ (⟨c.x, c.cb, c.q, c.vl, t'⟩ : GCell) :: B)) (keyM (onlyM ns r.1)) = entC (A ++ B) := by rw [← hcx]; exact hdl
    generalize hK5 : (⟨K4.t.set m (.map (ents (entC (A ++ B))) K4.next), K4.next + 1⟩ : AH) = K5
    have g5 : ∀ k, K5.get k = if k = m then some (.map (ents (entC (A ++ B))) K4.next) else K4.get k := fun k => by rw [← hK5]; exact PT.get_set _ _ _ _
    have n5 : K5.next = K4.next + 1 := by rw [← hK5]
    have k5 : ∀ k y, k ≠ m → K4.get k = some y → K5.get k = some y := fun k y hk hy => by rw [g5, if_neg hk]; exact hy
    have ks5 : KS K4 K5 := ⟨fun b ro vs h1 h2 h3 => k5 b _ (fun e => by subst e; rw [hm4] at h1; cases h1) h1, by omega⟩
    refine zp8 @e0 @gK3 @w1 @hK4 @gK4 @d1 @hg4 (And.intro @hm4 (And.intro @mdel_ents (And.intro @hdl @hK5))) ?_
    have hnil : S0.erase r = [] := List.eq_nil_of_length_eq_zero (by omega)
    have hfin5 := hfin.del (K := K5) ⟨_, by rw [g5, if_pos rfl], by omega⟩ k5 ks5
    refine fnPost_normal0 ⟨A ++ B, hfin5, ⟨fun k y hk hy => k5 k y (fun e => hk (by simp [e])) (trK k y hk hy), fun b hb => .inl ((fpsC_mid A B c b).2 (.inr hb)), by omega⟩, ?_⟩
    exact hasC_erase hhas xm.2 hcx fun x => ⟨.inl, fun h => h.elim id fun h => absurd (by rw [hsel, hnil]) h.2⟩
  · have d1 : decide (((S0.length - 1 : Nat) : Int) = 0) = false := decide_eq_false (by omega)
    refine zp5 @gK3 @w1 @hK4 @gK4 @d1 ?_
    have hnil : S0.erase r ≠ [] := fun e => by rw [e] at hlen; simp at hlen; omega
    refine fnPost_normal0 ⟨_, hfin, ⟨trK, trO, by omega⟩, ?_⟩
    refine hasC_erase hhas xm.2 hcx fun x => ?_
    rw [hsel]
    constructor
    · rintro ⟨d, hd, e⟩
      simp only [List.mem_append, List.mem_cons] at hd
      rcases hd with hd | rfl | hd
      · exact .inl ⟨d, List.mem_append.2 (.inl hd), e⟩
      · exact .inr ⟨e.symm, hnil⟩
      · exact .inl ⟨d, List.mem_append.2 (.inr hd), e⟩
    · rintro (⟨d, hd, e⟩ | ⟨e, _⟩)
      · refine ⟨d, ?_, e⟩
        rcases List.mem_append.1 hd with hd | hd <;> simp [hd]
      · exact ⟨⟨c.x, c.cb, c.q, c.vl, t'⟩, by simp, e.symm⟩

theorem names_cells {vs : List AV} {o : Nat} : ∀ {l : List Nm}, (∀ (i : Nat) s, l[i]? = some s → vs[o + i * 1]? = some (.str s)) → (vs.drop o).take l.length = l.map .str := fun {l} h => by
  refine List.ext_getElem? fun i => ?_
  by_cases hi : i < l.length
  · obtain ⟨s, hs⟩ : ∃ s, l[i]? = some s := ⟨_, List.getElem?_eq_getElem hi⟩
    rw [List.getElem?_take_of_lt hi, List.getElem?_drop, List.getElem?_map, hs]
    have := h i s hs
    rw [Nat.mul_one] at this
    exact this
  · rw [List.getElem?_eq_none (by rw [List.length_take]; omega), List.getElem?_eq_none (by rw [List.length_map]; omega)]
theorem strs_one : ∀ l : List Nm, allOne (l.map AV.str) = true
  | [] => rfl
  | s :: l => by rw [List.map_cons, allOne, strs_one l]; rfl
theorem strs_str (l : List Nm) : (l.map AV.str).all isStr = true := by
  rw [List.all_eq_true]; intro x hx; obtain ⟨s, _, rfl⟩ := List.mem_map.1 hx; rfl
theorem names_append {H : AH} {b : Nat} {u : AV} {l : List Nm} (hw : WF H) (h : NamesAt H u l) (hN : l.length ≤ 1000000) :
    ∃ v' H', aappend tC H [40, 40] [.slice b 0 0 (.ex 0) 1, u] = some (v', H') ∧ NamesAt H' v' l ∧ H.next ≤ H'.next ∧ (∀ b y, H.get b = some y → H'.get b = some y) ∧ WF H' := by
  rcases h with ⟨rfl, h1, h2⟩ | ⟨ub, uo, uc, ro, vs, rfl, hb, hs, hne, hl⟩
  · have hx : aappended tC H ⟨.string, 1, 16, (some (.str [])), true⟩ 40 u = some (0, []) := by
      simp only [aappended, ti40]
      cases u <;> simp [lenOfAV, AV.one] at h1 h2
      all_goals first
        | (subst h1; simp [acells, lenOfAV, nbeq])
        | simp [acells, lenOfAV, nbeq]
    have := append_ex0 (C := tC) (b := b) ti40 rfl ti9 rfl rfl rfl (by decide) hx rfl rfl (by omega)
    rw [if_pos rfl] at this
    exact ⟨_, _, this, .inl ⟨rfl, rfl, rfl⟩, Nat.le_refl _, fun b y hy => hy, hw⟩
  · have hl0 : l.length ≠ 0 := fun e => hne (List.eq_nil_of_length_eq_zero e)
    have hx := aappended_z (C := tC) (H := H) (j := ⟨.string, 1, 16, (some (.str [])), true⟩) (xt := 40) (cs := l.map .str) (n := l.length) (z' := 1) (c := uc) ti40 rfl hb (by rw [show l.length * (⟨.string, 1, 16, (some (.str [])), true⟩ : TI).size = l.length from Nat.mul_one _]; exact names_cells hl) (by simp)
    have := append_ex0 (C := tC) (b := b) ti40 rfl ti9 rfl rfl rfl (by decide) hx (by simp) (strs_one l) (by omega)
    rw [if_neg hl0] at this
    have this : aappend tC H [40, 40] [.slice b 0 0 (.ex 0) 1, .slice ub uo l.length uc 1] = some (.slice H.next 0 l.length (.lo l.length) 1, H.alloc (.cells false (l.map .str))) := this
    refine ⟨_, _, this, .inr ⟨H.next, 0, .lo l.length, false, _, rfl, by rw [AH.get_alloc, if_pos rfl], .inr (strs_str l), hne, fun i s hi => ?_⟩, by rw [AH.next_alloc]; omega, fun b y hy => stay_alloc hw _ b y hy, wf_alloc hw _⟩
    rw [Nat.zero_add, Nat.mul_one, List.getElem?_map, hi]; rfl

theorem clone44 (N : Bd) (H : AH) {u : AV} {l : List Nm} (hu : NamesAt H u l) (hl : l.length ≤ 1000000) : AC tC N 0 44 [u] H fun r K => NamesAt K r l ∧ H.next ≤ K.next ∧ ∀ b y, H.get b = some y → K.get b = some y := by
  refine AC.wf0 fun hwf => ?_
  refine AC.by (n := 8) (rs := [.tmp 2]) tOK fn44 rfl rfl rfl rfl ?_
  have e0 : (PT.ofList .leaf 0 [u]).get 0 = some u := rfl
  have hw1 := wf_alloc hwf (.cells false [])
  have hs := hu.keep (KS.of (stay_alloc hwf (.cells false [])) (by rw [AH.next_alloc]; omega))
  obtain ⟨v', H', ha, hl', hn, hst, _⟩ := names_append (b := H.next) hw1 hs hl
  have fin : NamesAt H' v' l ∧ H.next ≤ H'.next ∧ ∀ b y, H.get b = some y → H'.get b = some y := ⟨hl', Nat.le_trans (by rw [AH.next_alloc]; omega) hn, fun b y hy => hst b y (stay_alloc hwf _ b y hy)⟩
  cases u with
  | nils =>
    refine zs2 @eq40b @e0 ?_
    exact fr1 ⟨hu, Nat.le_refl _, fun _ _ h => h⟩
  | slice b o n c z =>
    refine zs4 @bs40 @eq40a @e0 @ha ?_
    exact fr1 fin
  | empty b =>
    refine zs4 @bs40 @eq40c @e0 @ha ?_
    exact fr1 fin
  | _ => have := hu.len; cases this

def namesOK : Nm → List Nm → Bool
  | _, [] => true
  | last, s :: ss => nameB s && decide (last < s) && namesOK s ss
def rightNs (ns : List Nm) : Bool := namesOK [] ns && decide (ns.length ≤ 8)

set_option maxHeartbeats 2000000 in
theorem right43 (N : Bd) (H : AH) {v : AV} {ns : List Nm} (hv : NamesAt H v ns) (hl : ns.length ≤ 1000000) : AC tC N 0 43 [v] H fun r K => r = .bool (rightNs ns) ∧ K = H := by
  refine AC.by (n := 25) (rs := [.tmp 2]) tOK fn43 rfl rfl rfl rfl ?_
  have e0 : (PT.ofList .leaf 0 [v]).get 0 = some v := rfl
  have hlen := hv.len
  refine zs3 @al40 @e0 @hlen ?_
  refine AW.loop (fun m T L => L = H ∧ T.get 0 = some v ∧ T.get 6 = some v ∧ T.get 7 = some (.int .i64 (ns.length : Nat)) ∧ ∃ (i : Nat) (last : Nm), i ≤ ns.length ∧ m = ns.length - i ∧ T.get 8 = some (.int .i64 (i : Nat)) ∧ T.get 3 = some (.str last) ∧ namesOK [] ns = namesOK last (ns.drop i)) ?_ (ns.length - 0)
    ⟨rfl, by simp [PT.get_set, e0], by simp [PT.get_set, e0], by simp [PT.get_set], 0, [], by omega, rfl, by simp [PT.get_set], by simp [PT.get_set], by simp⟩
  rintro m T L ⟨rfl, g0, g6, g7, i, last, hi, rfl, g8, g3, hok⟩
  by_cases hil : i < ns.length
  · have hd := lt_int hil
    obtain ⟨s, hs⟩ : ∃ s, ns[i]? = some s := ⟨_, List.getElem?_eq_getElem hil⟩
    obtain ⟨b, o, c, ro, vs, rfl, hb, hc⟩ := hv.at hs
    have wi : IntKind.i64.wrap (((i : Nat) : Int) + 1) = ((i + 1 : Nat) : Int) := wrap64_succ (by omega)
    rw [drop_cons hs, namesOK] at hok
    refine zs8 @ld9 @ix40 @g6 @g7 @g8 @hd @hil (And.intro @hb @hc) ?_
    refine AOs.cq tOK fn63 ok63 (name63 N L s) ?_
    rintro r L2 ⟨rfl, rfl⟩
    unfold rightNs
    by_cases hn : nameB s = true
    · rw [hn, Bool.true_and] at hok
      by_cases hlt : last < s
      · have d1 : decide (last < s) = true := decide_eq_true hlt
        rw [d1, Bool.true_and] at hok
        with_reducible repeat' first | refine zb ?_ | refine AOs.guardT wu (by simp only [PT.get_set, Nat.reduceEqDiff, reduceIte, hn]; rfl) (by first | rfl | decide | assumption) ?_ | refine AW.condF (by simp only [aeval, PT.get_set, Nat.reduceEqDiff, reduceIte, hn]; rfl) (by first | rfl | decide | assumption) ?_ | (refine AOs.o1 tOK ?_; refine zr6 @g3 @g8 @hn @leqS @d1 @wi ?_) | fail
        exact ⟨ns.length - (i + 1), by omega, rfl, by simp [PT.get_set, g0], by simp [PT.get_set, g6], by simp [PT.get_set, g7], i + 1, s, by omega, rfl, gt1, gt1, hok⟩
      · have d1 : decide (last < s) = false := decide_eq_false hlt
        rw [d1, Bool.false_and] at hok
        with_reducible repeat' first | refine za ?_ | refine AOs.guardT wu (by simp only [PT.get_set, Nat.reduceEqDiff, reduceIte, hn]; rfl) (by first | rfl | decide | assumption) ?_ | refine AW.condT (by simp only [aeval, PT.get_set, Nat.reduceEqDiff, reduceIte, hn]; rfl) (by first | rfl | decide | assumption) ?_ | (refine AOs.o1 tOK ?_; refine zr4 @g3 @hn @leqS @d1 ?_) | fail
        exact fnPost_ret1 gt1 ⟨by rw [hok, Bool.false_and], rfl⟩
    · have hn : nameB s = false := by simpa using hn
      rw [hn, Bool.false_and, Bool.false_and] at hok
      with_reducible repeat' first | refine za ?_ | refine AOs.guardF wu (by simp only [PT.get_set, Nat.reduceEqDiff, reduceIte, hn]; rfl) (by first | rfl | decide | assumption) wu ?_ | refine AW.condT (by simp only [aeval, PT.get_set, Nat.reduceEqDiff, reduceIte, hn]; rfl) (by first | rfl | decide | assumption) ?_ | (refine AOs.o1 tOK ?_; refine zr1 @hn ?_) | fail
      exact fnPost_ret1 gt1 ⟨by rw [hok, Bool.false_and], rfl⟩
  · have hd := nlt_int hil
    obtain rfl : i = ns.length := by omega
    rw [List.drop_length, namesOK] at hok
    unfold rightNs
    rw [hok, Bool.true_and]
    by_cases h8 : ns.length ≤ 8
    · have d2 : decide (((ns.length : Nat) : Int) ≤ 8) = true := decide_eq_true (by omega)
      rw [decide_eq_true h8]
      refine zs7 @al40 @g0 @g7 @g8 @hd @hlen @d2 ?_
      exact fr1 ⟨rfl, rfl⟩
    · have d2 : decide (((ns.length : Nat) : Int) ≤ 8) = false := decide_eq_false (by omega)
      rw [decide_eq_false h8]
      refine zs7 @al40 @g0 @g7 @g8 @hd @hlen @d2 ?_
      exact fr1 ⟨rfl, rfl⟩

/-- May a group be of these? -/
def newOK (f : Int) (ns : List Nm) : Bool := decide (1 ≤ f) && decide (f ≤ 4) && rightNs ns
theorem bd76 {f : Int} {v : AV} (hv : v.one = true) (m : Nat) : abuild tC 76 [(0, .int .i64 f), (1, v), (3, .map m)] = some (.agg [.int .i64 f, v, .nils, .map m]) := by
  obtain ⟨h1, h2⟩ := cells_of_one hv
  simp only [abuild, ti76]
  have p0 : (AV.int .i64 f).cells = [.int .i64 f] := rfl
  have q0 : notJunk (.int .i64 f) = true := rfl
  have p1 : (AV.map m).cells = [.map m] := rfl
  have p2 : notJunk (.map m) = true := rfl
  have a1 : ∀ cs, (AV.agg cs).cells = cs := fun _ => rfl
  have a2 : ∀ cs, notJunk (AV.agg cs) = true := fun _ => rfl
  simp [afill, h1, h2, p0, q0, p1, p2, a1, a2, splice, ti3, ti40, ti22, ti74, nbeq, nble]

set_option maxHeartbeats 4000000 in
theorem cmp80 (N : Bd) (H : AH) {u t : AV} {r : Rs} {l : Ls} (hu : LabelsAt H u r.1) (ht : LabelsAt H t l) : AC tC N 0 80 [.agg (rsC u r), t] H fun x K => x = .int .i64 (compM r.1 l) ∧ K = H := by
  refine AC.quiet rfl ?_
  refine AC.wf0 fun hwf => ?_
  refine AC.by (n := 9) (rs := [.tmp 4]) tOK fn80 rfl rfl rfl rfl ?_
  have e0 : (PT.ofList .leaf 0 [AV.agg (rsC u r), t]).get 0 = some (.agg [u, .int .i64 r.2.1, .bool r.2.2]) := rfl
  have e1 : (PT.ofList .leaf 0 [AV.agg (rsC u r), t]).get 1 = some t := rfl
  generalize hK1 : H.alloc (.cells false [u, .int .i64 r.2.1, .bool r.2.2]) = K1
  have s1 : ∀ b z, H.get b = some z → K1.get b = some z := fun b z hb => by rw [← hK1]; exact stay_alloc hwf _ b z hb
  have p0 : K1.get H.next = some (.cells false [u, .int .i64 r.2.1, .bool r.2.2]) := by rw [← hK1, AH.get_alloc, if_pos rfl]
  have n1 : K1.next = H.next + 1 := by rw [← hK1]; rfl
  refine zs6 @ld29 @fa58_0 @e0 @e1 @hK1 @p0 ?_
  refine AOs.cq tOK fn40 ok40 (compare40 N K1 (hu.keep (KS.of s1 (by omega))) (ht.keep (KS.of s1 (by omega)))) ?_
  rintro x K2 ⟨rfl, rfl⟩
  refine zs0 ?_
  exact fr1 ⟨rfl, s1⟩

set_option maxHeartbeats 8000000 in
theorem search66b (N : Bd) (H : AH) {v t : AV} {l : List Rs} {q : Ls} (hv : VecAt H v l) (ht : LabelsAt H t q) (hr : ∀ r ∈ l, rightM r = true) (hs : Rise l) (hq : checkM q = 0) (hn : l.length ≤ 1000000) :
    AC tC N 0 66 [v, t, .func 80 [] []] H fun x K => x = .tuple [.int .i64 (posM l q : Nat), .bool (thereM l q)] ∧ K = H := by
  refine AC.by (n := 49) (rs := [.tmp 6, .tmp 7]) tOK fn66 rfl rfl rfl rfl ?_
  have e0 : (PT.ofList .leaf 0 [v, t, AV.func 80 [] []]).get 0 = some v := rfl
  have e1 : (PT.ofList .leaf 0 [v, t, AV.func 80 [] []]).get 1 = some t := rfl
  have e2 : (PT.ofList .leaf 0 [v, t, AV.func 80 [] []]).get 2 = some (.func 80 [] []) := rfl
  have lv := hv.len
  refine zs3 @al22 @e0 @lv ?_
  refine AW.loop (fun m T K => K = H ∧ T.get 0 = some v ∧ T.get 1 = some t ∧ T.get 2 = some (.func 80 [] []) ∧ T.get 8 = some (.int .i64 (l.length : Nat)) ∧ ∃ i j : Nat, i ≤ j ∧ j ≤ l.length ∧ m = j - i ∧ T.get 9 = some (.int .i64 (i : Nat)) ∧ T.get 10 = some (.int .i64 (j : Nat)) ∧ (∀ p r, p < i → l[p]? = some r → orderM r.1 q < 0) ∧ (∀ p r, j ≤ p → l[p]? = some r → ¬ orderM r.1 q < 0)) ?_ (l.length - 0)
    ⟨rfl, by simp [PT.get_set, e0], by simp [PT.get_set, e1], by simp [PT.get_set, e2], by simp [PT.get_set], 0, l.length, by omega, by omega, rfl, by simp [PT.get_set], by simp [PT.get_set], fun p r hp => by omega, fun p r hp h => by have := (List.getElem?_eq_some_iff.1 h).1; omega⟩
  rintro m T K ⟨rfl, g0, g1, g2, g8, i, j, hij, hj, rfl, g9, g10, hlo, hhi⟩
  by_cases hlt : i < j
  · have hd := lt_int hlt
    have w1 : IntKind.i64.wrap (((i : Nat) : Int) + ((j : Nat) : Int)) = ((i + j : Nat) : Int) := by rw [wrap64 (by omega) (by omega)]; omega
    have w2 : IntKind.u64.wrap ((i + j : Nat) : Int) = ((i + j : Nat) : Int) := wrapU64 (by omega)
    have w3 : IntKind.i64.wrap (((i + j) / 2 : Nat) : Int) = (((i + j) / 2 : Nat) : Int) := wrap64 (by omega) (by omega)
    have hhl : (i + j) / 2 < l.length := by omega
    obtain ⟨x, hx⟩ : ∃ x, l[(i + j) / 2]? = some x := ⟨_, List.getElem?_eq_getElem hhl⟩
    obtain ⟨ab, ao, ac, aro, avs, u, rfl, ag, hu, ax, _, _⟩ := hv.at hx
    have t3l : (rsC u x).length = 3 := rfl
    refine zp8 @g0 @g1 @g2 @g9 @g10 @hd @w1 (And.intro @w2 (And.intro @shr1 (And.intro @w3 (And.intro @hhl (And.intro @ag (And.intro @ax @t3l)))))) ?_
    refine AOs.callQ tOK (fs := []) (cs := []) (by simp only [aeval, PT.get_set, Nat.reduceEqDiff, reduceIte]) fn80 ok80 rfl ar1 (cmp80 N K hu ht) ?_
    rintro y K2 ⟨rfl, rfl⟩
    have hcm := compM_ok (hr x (List.mem_of_getElem? hx)) hq
    rw [hcm]
    by_cases ho : orderM x.1 q < 0
    · have d1 : decide (orderM x.1 q < 0) = true := decide_eq_true ho
      have w4 : IntKind.i64.wrap ((((i + j) / 2 : Nat) : Int) + 1) = (((i + j) / 2 + 1 : Nat) : Int) := wrap64_succ (by omega)
      refine zs2 @d1 @w4 ?_
      refine ⟨j - ((i + j) / 2 + 1), by omega, rfl, by simp only [PT.get_set, Nat.reduceEqDiff, reduceIte, g0], by simp only [PT.get_set, Nat.reduceEqDiff, reduceIte, g1], by simp only [PT.get_set, Nat.reduceEqDiff, reduceIte, g2], by simp only [PT.get_set, Nat.reduceEqDiff, reduceIte, g8], (i + j) / 2 + 1, j, by omega, hj, rfl, gt1, by simp only [PT.get_set, Nat.reduceEqDiff, reduceIte, g10], fun p r hp hpr => ?_, hhi⟩
      by_cases hph : p = (i + j) / 2
      · subst hph; rw [hx] at hpr; cases hpr; exact ho
      · exact orderM_trans (hs p ((i + j) / 2) r x (by omega) hpr hx) ho
    · have d1 : decide (orderM x.1 q < 0) = false := decide_eq_false ho
      refine zs1 @d1 ?_
      refine ⟨(i + j) / 2 - i, by omega, rfl, by simp only [PT.get_set, Nat.reduceEqDiff, reduceIte, g0], by simp only [PT.get_set, Nat.reduceEqDiff, reduceIte, g1], by simp only [PT.get_set, Nat.reduceEqDiff, reduceIte, g2], by simp only [PT.get_set, Nat.reduceEqDiff, reduceIte, g8], i, (i + j) / 2, by omega, by omega, rfl, by simp only [PT.get_set, Nat.reduceEqDiff, reduceIte, g9], gt1, hlo, fun p r hp hpr hlt2 => ?_⟩
      by_cases hph : p = (i + j) / 2
      · subst hph; rw [hx] at hpr; cases hpr; exact ho hlt2
      · exact ho (orderM_trans (hs ((i + j) / 2) p x r (by omega) hx hpr) hlt2)
  · have hd := nlt_int hlt
    obtain rfl : i = j := by omega
    have hpos : i = posM l q := posM_unique hj hlo (fun r hr => hhi i r (Nat.le_refl _) hr)
    unfold thereM
    rw [← hpos]
    by_cases hil : i < l.length
    · have d2 := lt_int hil
      obtain ⟨x, hx⟩ : ∃ x, l[i]? = some x := ⟨_, List.getElem?_eq_getElem hil⟩
      obtain ⟨ab, ao, ac, aro, avs, u, rfl, ag, hu, ax, _, _⟩ := hv.at hx
      have t3l : (rsC u x).length = 3 := rfl
      rw [hx]
      refine zs8 @ix22 @ld58 @g0 @g1 @g2 @g8 @g9 (And.intro @g10 (And.intro @hd (And.intro @d2 (And.intro @hil (And.intro @ag (And.intro @ax @t3l)))))) ?_
      refine AOs.callQ tOK (fs := []) (cs := []) (by simp only [aeval, PT.get_set, Nat.reduceEqDiff, reduceIte]) fn80 ok80 rfl ar1 (cmp80 N K hu ht) ?_
      rintro y K2 ⟨rfl, rfl⟩
      have hcm := compM_ok (hr x (List.mem_of_getElem? hx)) hq
      rw [hcm]
      refine zs0 ?_
      exact fnPost_ret2 gt1 gt1 ⟨rfl, rfl⟩
    · have d2 := nlt_int hil
      rw [List.getElem?_eq_none (by omega)]
      refine zs5 @g8 @g9 @g10 @hd @d2 ?_
      exact fnPost_ret2 gt1 gt1 ⟨rfl, rfl⟩

set_option maxHeartbeats 4000000 in
/-- A result found by its labels. -/
theorem find50 (N : Bd) (H : AH) {v t : AV} {l : List Rs} {q : Ls} (hv : VecAt H v l) (ht : LabelsAt H t q) (hvm : vecM l = 0) (hq : checkM q = 0) :
    AC tC N 0 50 [v, t] H fun x K => (if thereM l q = true then ∃ r, l[posM l q]? = some r ∧ r.1 = q ∧ x = .tuple [.agg [.int .i64 r.2.1, .bool r.2.2], .bool true] else x = .tuple [.agg [.int .i64 0, .bool false], .bool false]) ∧ ∀ b y, H.get b = some y → K.get b = some y := by
  refine AC.wf0 fun wfH => ?_
  refine AC.by (n := 49) (rs := [.cell 4 31, .tmp 5]) tOK fn50 rfl rfl rfl rfl ?_
  have e0 : (PT.ofList .leaf 0 [v, t]).get 0 = some v := rfl
  have e1 : (PT.ofList .leaf 0 [v, t]).get 1 = some t := rfl
  obtain ⟨hl, hok⟩ := vecM_zero hvm
  have hri := (okVec_rise hok).1
  have hall := okVec_all hok
  generalize hK1 : H.alloc (.cells false [.int .i64 0, .bool false]) = K1
  obtain ⟨sK1, wfK1, nK1, gK1⟩ := laid wfH hK1
  have hv1 := hv.keep sK1 (by omega)
  have ht1 := ht.keep (KS.of sK1 (by omega))
  have d1 : decide (vecM l = 0) = true := decide_eq_true hvm
  have d2 : decide (checkM q = 0) = true := decide_eq_true hq
  refine zs3 @e0 @all31 @hK1 ?_
  refine AOs.cq tOK fn33 ok33 (vector33 N K1 hv1) ?_
  rintro r K1 ⟨rfl, rfl⟩
  refine zs2 @e1 @d1 ?_
  refine AOs.cq tOK fn29 ok29 (check29 N K1 ht1) ?_
  rintro r K1 ⟨rfl, rfl⟩
  refine zs3 @e0 @e1 @d2 ?_
  refine AOs.cq tOK fn66 ok66 (search66b N K1 hv1 ht1 hall hri hq (by omega)) ?_
  rintro r K1 ⟨rfl, rfl⟩
  by_cases hth : thereM l q = true
  · obtain ⟨r, hr, hrq⟩ := there_at hth
    have hil := (List.getElem?_eq_some_iff.1 hr).1
    obtain ⟨ab, ao, ac, aro, avs, u, rfl, ag, hu, ax, au, ar⟩ := hv1.at hr
    have l2 : List.length [AV.int .i64 r.2.1, .bool r.2.2] = 2 := rfl
    have q1 := store_whole (cs := [.int .i64 r.2.1, .bool r.2.2]) ti31 gK1 rfl rfl rfl
    generalize hK2 : K1.set H.next (.cells false [.int .i64 r.2.1, .bool r.2.2]) = K2
    obtain ⟨sK2, nK2, wfK2, gK2⟩ := puts wfK1 hK2
    with_reducible repeat' first | refine za ?_ | refine AW.condF (by simp only [aeval, PT.get_set, Nat.reduceEqDiff, reduceIte, hth]; rfl) (by first | rfl | decide | assumption) ?_ | (refine zo ?_; refine zr8 @ix22 @ld31 @fa58_1 @e0 @hth @hil @ag (And.intro @ar (And.intro @l2 (And.intro @q1 @hK2))) ?_) | fail
    refine fnPost_retCT gt1 (by rw [ld31, load_whole (n := 2) gK2 rfl]) gt1 ⟨?_, fun k z hz => sK2 _ _ (by have := wfH _ _ hz; omega) (sK1 _ _ hz)⟩
    rw [if_pos hth]; exact ⟨r, hr, hrq, rfl⟩
  · have hth' : thereM l q = false := by simpa using hth
    have q1 := store_whole (cs := [.int .i64 0, .bool false]) ti31 gK1 rfl rfl rfl
    generalize hK2 : K1.set H.next (.cells false [.int .i64 0, .bool false]) = K2
    obtain ⟨sK2, nK2, wfK2, gK2⟩ := puts wfK1 hK2
    with_reducible repeat' first | refine za ?_ | refine AW.condT (by simp only [aeval, PT.get_set, Nat.reduceEqDiff, reduceIte, hth']; rfl) (by first | rfl | decide | assumption) ?_ | (refine zo ?_; refine zr4 @hth' @bd31 @q1 @hK2 ?_) | fail
    refine fnPost_retCT gt1 (by rw [ld31, load_whole (n := 2) gK2 rfl]) gt1 ⟨?_, fun k z hz => sK2 _ _ (by have := wfH _ _ hz; omega) (sK1 _ _ hz)⟩
    rw [if_neg hth]

theorem made45 (N : Bd) (H : AH) {g m : Nat} {a b c : AV} (hg : H.get g = some (.cells false [a, b, c, .map m])) : AC tC N 0 45 [.ptr g 0] H fun r K => r = .bool true ∧ K = H := by
  refine AC.by (n := 12) (rs := [.tmp 2]) tOK fn45 rfl rfl rfl rfl ?_
  have e0 : (PT.ofList .leaf 0 [AV.ptr g 0]).get 0 = some (.ptr g 0) := rfl
  refine zs6 @ne44a @ld74 @ne74a @fa76_3 @e0 @hg ?_
  exact fr1 ⟨rfl, rfl⟩

/-- Entries by keys of labels. -/
def kE {β : Type} (f : β → AV) (l : List (Ls × β)) : List (List UInt8 × AV) := l.map fun p => (keyM p.1, f p.2)
theorem mget_kE_none {β : Type} {f : β → AV} : ∀ {l : List (Ls × β)} {x : Ls}, (∀ p ∈ l, checkM p.1 = 0) → checkM x = 0 → (∀ p ∈ l, p.1 ≠ x) → mget (kE f l) (keyM x) = none
  | [], _, _, _, _ => rfl
  | p :: ps, x, h1, h2, h3 => by
    have hne : keyM x ≠ keyM p.1 := fun e => h3 p (List.mem_cons_self) (keyM_inj h2 (h1 p (List.mem_cons_self)) e).symm
    show mget ((keyM p.1, f p.2) :: kE f ps) (keyM x) = none
    rw [mget, beqL_eq, decide_eq_false hne, cond_false]
    exact mget_kE_none (fun q hq => h1 q (List.mem_cons_of_mem _ hq)) h2 fun q hq => h3 q (List.mem_cons_of_mem _ hq)
theorem mget_kE_some {β : Type} {f : β → AV} : ∀ {l : List (Ls × β)} {p : Ls × β}, (∀ p ∈ l, checkM p.1 = 0) → (l.map (·.1)).Nodup → p ∈ l → mget (kE f l) (keyM p.1) = some (f p.2)
  | q :: qs, p, h1, h2, hp => by
    show mget ((keyM q.1, f q.2) :: kE f qs) (keyM p.1) = some (f p.2)
    rw [mget, beqL_eq]
    rw [List.map_cons, List.nodup_cons] at h2
    rcases List.mem_cons.1 hp with rfl | hp
    · rw [decide_eq_true rfl, cond_true]
    · have hne : keyM p.1 ≠ keyM q.1 := fun e => h2.1 (List.mem_map.2 ⟨p, hp, keyM_inj (h1 p (List.mem_cons_of_mem _ hp)) (h1 q (List.mem_cons_self)) e⟩)
      rw [decide_eq_false hne, cond_false]
      exact mget_kE_some (fun q hq => h1 q (List.mem_cons_of_mem _ hq)) h2.2 hp
theorem mset_none : ∀ {l : List (List UInt8 × AV)} {k : List UInt8} {v : AV}, mget l k = none → mset l k v = l ++ [(k, v)]
  | [], _, _, _ => rfl
  | p :: ps, k, v, h => by
    rw [mget] at h
    rw [mset]
    cases hb : beqL k p.1 with
    | true => rw [hb, cond_true] at h; cases h
    | false =>
      rw [hb, cond_false] at h
      rw [cond_false, mset_none h]; rfl
theorem kE_app {β : Type} {f : β → AV} (a b : List (Ls × β)) : kE f (a ++ b) = kE f a ++ kE f b := List.map_append
theorem alookup_ok {t kt et : TypeId} {i j : TI} {z : AV} (ht : tC.ti t = some i) (hd : i.d = .map kt et) (hk : isStrKey tC kt = true) (he : tC.ti et = some j) (hz : j.zero = some z) {H : AH} {m : Nat} {k : List UInt8} {ps : List (List UInt8 × AV)} {ver : Nat} (hm : H.get m = some (.map ps ver)) :
    alookup tC H t (.map m) (.str k) true = some (match mget ps k with | some a => .tuple [a, .bool true] | none => .tuple [z, .bool false]) := by
  simp only [alookup, ht, hd, hk, cond_true, mapOf, hm, he, hz]
  cases mget ps k <;> rfl
theorem lo78 {H : AH} {m : Nat} {k : List UInt8} {ps : List (List UInt8 × AV)} {ver : Nat} {a : AV} (hm : H.get m = some (.map ps ver)) (hg : mget ps k = some a) : alookup tC H 78 (.map m) (.str k) true = some (.tuple [a, .bool true]) := by
  rw [alookup_ok ti78 rfl sk78 ti29 rfl hm, hg]
theorem ln78 {H : AH} {m : Nat} {k : List UInt8} {ps : List (List UInt8 × AV)} {ver : Nat} (hm : H.get m = some (.map ps ver)) (hg : mget ps k = none) : alookup tC H 78 (.map m) (.str k) true = some (.tuple [.nils, .bool false]) := by
  rw [alookup_ok ti78 rfl sk78 ti29 rfl hm, hg]
theorem lo77 {H : AH} {m : Nat} {k : List UInt8} {ps : List (List UInt8 × AV)} {ver : Nat} {a : AV} (hm : H.get m = some (.map ps ver)) (hg : mget ps k = some a) : alookup tC H 77 (.map m) (.str k) true = some (.tuple [a, .bool true]) := by
  rw [alookup_ok ti77 rfl sk77 ti31 rfl hm, hg]
theorem ln77 {H : AH} {m : Nat} {k : List UInt8} {ps : List (List UInt8 × AV)} {ver : Nat} (hm : H.get m = some (.map ps ver)) (hg : mget ps k = none) : alookup tC H 77 (.map m) (.str k) true = some (.tuple [.agg [.int .i64 0, .bool false], .bool false]) := by
  rw [alookup_ok ti77 rfl sk77 ti31 rfl hm, hg]; rfl

def valA (v : Int × Bool) : AV := .agg [.int .i64 v.1, .bool v.2]
/-- What is noted: labels, and what was told of them. -/
structure NotedAt (H : AH) (wm tm : Nat) (ws : List (Ls × AV)) (td : List (Ls × (Int × Bool))) : Prop where
  was : ∃ ver, H.get wm = some (.map (kE id ws) ver)
  told : ∃ ver, H.get tm = some (.map (kE valA td) ver)
  labs : ∀ p ∈ ws, LabelsAt H p.2 p.1 ∧ checkM p.1 = 0
  wsn : (ws.map (·.1)).Nodup
  tdn : (td.map (·.1)).Nodup
  tdw : ∀ p ∈ td, ∃ q ∈ ws, q.1 = p.1
theorem NotedAt.keep {H K : AH} {wm tm : Nat} {ws : List (Ls × AV)} {td : List (Ls × (Int × Bool))} (h : NotedAt H wm tm ws td) (h1 : ∀ y, H.get wm = some y → K.get wm = some y) (h2 : ∀ y, H.get tm = some y → K.get tm = some y) (hs : KS H K) : NotedAt K wm tm ws td :=
  ⟨let ⟨ver, hv⟩ := h.was; ⟨ver, h1 _ hv⟩, let ⟨ver, hv⟩ := h.told; ⟨ver, h2 _ hv⟩, fun p hp => ⟨(h.labs p hp).1.keep hs, (h.labs p hp).2⟩, h.wsn, h.tdn, h.tdw⟩
theorem NotedAt.tdok {H : AH} {wm tm : Nat} {ws : List (Ls × AV)} {td : List (Ls × (Int × Bool))} (h : NotedAt H wm tm ws td) : ∀ p ∈ td, checkM p.1 = 0 := fun p hp => by
  obtain ⟨q, hq, e⟩ := h.tdw p hp
  rw [← e]; exact (h.labs q hq).2
theorem CellL.value (N : Bd) {H : AH} {L : List Rs} {c : GCell} {f : Int} (h : CellL H L c) (hL : L.length ≤ 1000000) : AC tC N 0 49 [.ptr c.cb 0, .int .i64 f] H fun r K => r = valA (valG f L) ∧ K = H := by
  have hb := bagV_sum L
  have := value49 N H (f := f) h.here h.bag (by rw [h.ino]; omega) (by omega)
  rw [h.ino] at this
  exact this

set_option maxHeartbeats 8000000 in
/-- Labels are noted, once. -/
theorem note46 (N : Bd) (H : AH) {g m gb wb tb wm tm : Nat} {f : Int} {un ui u : AV} {ns : List Nm} {M : List Rs} {cs : List GCell} {l : Ls} {ws : List (Ls × AV)} {td : List (Ls × (Int × Bool))} (hg : H.get g = some (.cells false [.int .i64 f, un, ui, .map m])) (hun : NamesAt H un ns) (hns : ns.length ≤ 1000000)
    (hc : CellsH H m ns M cs) (hhas : HasC cs ns M) (hM : M.length ≤ 1000000) (hu : LabelsAt H u l) (hgb : H.get gb = some (.cells false [.ptr g 0])) (hwb : H.get wb = some (.cells false [.map wm])) (htb : H.get tb = some (.cells false [.map tm])) (hwt : wm ≠ tm) (hw0 : wm ∉ m :: fpsC cs) (hn : NotedAt H wm tm ws td) :
    AC tC N 0 46 [u, .ptr gb 0, .ptr wb 0, .ptr tb 0] H fun _ K => (∀ b y, b ≠ wm → b ≠ tm → H.get b = some y → K.get b = some y) ∧ H.next ≤ K.next ∧
      ((∃ q ∈ ws, q.1 = onlyM ns l) ∧ NotedAt K wm tm ws td ∨ (∀ q ∈ ws, q.1 ≠ onlyM ns l) ∧ ∃ x, NotedAt K wm tm (ws ++ [(onlyM ns l, x)]) (if selM ns (onlyM ns l) M = [] then td else td ++ [(onlyM ns l, valG f (selM ns (onlyM ns l) M))])) := by
  refine AC.wf0 fun wfH => ?_
  refine AC.by (n := 44) (rs := []) tOK fn46 rfl rfl rfl rfl ?_
  have e0 : (PT.ofList .leaf 0 [u, AV.ptr gb 0, AV.ptr wb 0, AV.ptr tb 0]).get 0 = some u := rfl
  have e1 : (PT.ofList .leaf 0 [u, AV.ptr gb 0, AV.ptr wb 0, AV.ptr tb 0]).get 1 = some (.ptr gb 0) := rfl
  have e2 : (PT.ofList .leaf 0 [u, AV.ptr gb 0, AV.ptr wb 0, AV.ptr tb 0]).get 2 = some (.ptr wb 0) := rfl
  have e3 : (PT.ofList .leaf 0 [u, AV.ptr gb 0, AV.ptr wb 0, AV.ptr tb 0]).get 3 = some (.ptr tb 0) := rfl
  have hx0 := onlyM_ok ns l
  refine zs7 @ld40 @ld44 @fa76_1 @e0 @e1 @hgb @hg ?_
  refine AOs.cq tOK fn47 ok47 (AC.wf (only47 N H hu hun hns)) ?_
  rintro x K ⟨⟨hx, sK, nK⟩, wfK⟩
  refine zs0 ?_
  refine AOs.cq tOK fn48 ok48 (key48 N K hx) ?_
  rintro r K ⟨rfl, rfl⟩
  have hgK := sK _ _ hg
  have hgbK := sK _ _ hgb
  have hwbK := sK _ _ hwb
  have htbK := sK _ _ htb
  have hnK := hn.keep (fun y h => sK _ _ h) (fun y h => sK _ _ h) (KS.of sK nK)
  have hcK := hc.keep (fun b _ y h => sK _ _ h) (KS.of sK nK)
  obtain ⟨wv, hwm⟩ := hnK.was
  obtain ⟨tv, htm⟩ := hnK.told
  by_cases hex : ∃ q ∈ ws, q.1 = onlyM ns l
  · obtain ⟨q, hq, hqx⟩ := hex
    have hmg := mget_kE_some (f := id) (fun p hp => (hn.labs p hp).2) hn.wsn hq
    rw [hqx] at hmg
    have hlo := lo78 hwm hmg
    refine zp3 @e2 @hwbK @hlo ?_
    exact fnPost_ret0 ⟨fun b y _ _ hy => sK _ _ hy, nK, .inl ⟨⟨q, hq, hqx⟩, hnK⟩⟩
  · have hne : ∀ q ∈ ws, q.1 ≠ onlyM ns l := fun q hq e => hex ⟨q, hq, e⟩
    have hmg := mget_kE_none (f := id) (fun p hp => (hn.labs p hp).2) hx0 hne
    have hlo := ln78 hwm hmg
    have hms := mset_none (v := x) hmg
    have hms2 : mset (kE id ws) (keyM (onlyM ns l)) x = kE id (ws ++ [(onlyM ns l, x)]) := by rw [hms, kE_app]; rfl
    have hxo := hx.one
    generalize hK1 : (⟨K.t.set wm (.map (kE id (ws ++ [(onlyM ns l, x)])) K.next), K.next + 1⟩ : AH) = K1
    have g1 : ∀ k, K1.get k = if k = wm then some (.map (kE id (ws ++ [(onlyM ns l, x)])) K.next) else K.get k := fun k => by rw [← hK1]; exact PT.get_set _ _ _ _
    have n1 : K1.next = K.next + 1 := by rw [← hK1]
    have k1 : ∀ k y, k ≠ wm → K.get k = some y → K1.get k = some y := fun k y hk hy => by rw [g1, if_neg hk]; exact hy
    have c1 : ∀ {k ro vs}, K.get k = some (.cells ro vs) → K1.get k = some (.cells ro vs) := fun {k ro vs} h => k1 k _ (fun e => by subst e; rw [hwm] at h; cases h) h
    have ks1 : KS K K1 := ⟨fun b ro vs h1 h2 h3 => c1 h1, by omega⟩
    have hgb1 := c1 hgbK
    have hg1 := c1 hgK
    have hwb1 := c1 hwbK
    have htb1 := c1 htbK
    obtain ⟨mv, hmm⟩ := hcK.map
    have htm1 := k1 tm _ (fun e => hwt e.symm) htm
    have hn1 : NotedAt K1 wm tm (ws ++ [(onlyM ns l, x)]) td := by
      refine ⟨⟨_, by rw [g1, if_pos rfl]⟩, ⟨tv, htm1⟩, fun p hp => ?_, ?_, hn.tdn, fun p hp => ?_⟩
      · rcases List.mem_append.1 hp with hp | hp
        · exact ⟨(hnK.labs p hp).1.keep ks1, (hnK.labs p hp).2⟩
        · simp at hp; subst hp; exact ⟨hx.keep ks1, hx0⟩
      · rw [List.map_append, List.nodup_append]
        refine ⟨hn.wsn, by simp, fun a ha b hb => ?_⟩
        simp at hb
        obtain ⟨q, hq, rfl⟩ := List.mem_map.1 ha
        rw [hb]; exact hne q hq
      · obtain ⟨q, hq, e⟩ := hn.tdw p hp
        exact ⟨q, List.mem_append.2 (.inl hq), e⟩
    have hmw : m ≠ wm := fun e => hw0 (e ▸ List.mem_cons_self)
    have hmm1 := k1 m _ hmw hmm
    by_cases hcx : ∃ c ∈ cs, c.x = onlyM ns l
    · obtain ⟨c, hcm, hcx⟩ := hcx
      obtain ⟨A, B, rfl⟩ := List.append_of_mem hcm
      have hgn := getN_some hc.ok (xs_mid hc.xs).2
      rw [hcx] at hgn
      have hcl := hcK.cell c (by simp)
      rw [hcx] at hcl
      have hnot : ∀ b ∈ c.fp, b ≠ wm := fun b hb e => hw0 (e ▸ List.mem_cons_of_mem _ (CellsH.mem_fps hcm hb))
      have hcl1 : CellL K1 (selM ns (onlyM ns l) M) c := hcl.keep (fun b hb y hy => k1 b y (hnot b hb) hy) ks1
      have hLl := selM_le ns (onlyM ns l) M
      with_reducible repeat' first | refine za ?_ | (refine zo ?_; refine Step.mk (by simp only [evc, evr, tyC, tyE, aeval, ofVal, Nat.reduceEqDiff, reduceIte, cellAt, lookAt, mapSetAt, eq_self, e1, e2, hwbK, hlo, hms2, hK1, hwm, hgb1, hg1, hmm1, mget_ents, hgn, Option.getD_some]; rfl) ?_) | fail
      refine AW.drawN tOK (Qs := [7]) [0, 1, 2, 3, 4, 5, 6, 7, 8] (by kernel_rfl) pk1 ?_
      with_reducible repeat' first | (refine zd ?_; refine zq5 @e1 @e3 @htb1 @hgb1 @hg1 ?_; refine Same.mk ?_) | fail
      refine DN.callQ (fs := []) (cs := []) rfl fn49 ok49 rfl ar1 (hcl1.value N (by omega)) ?_
      have hmt := mget_kE_none (f := valA) hn.tdok hx0 (fun p hp e => by obtain ⟨q, hq, e2⟩ := hn.tdw p hp; exact hne q hq (e2.trans e))
      have hmt2 : mset (kE valA td) (keyM (onlyM ns l)) (valA (valG f (selM ns (onlyM ns l) M))) = kE valA (td ++ [(onlyM ns l, valG f (selM ns (onlyM ns l) M))]) := by rw [mset_none hmt, kE_app]; rfl
      generalize hK2 : (⟨K1.t.set tm (.map (kE valA (td ++ [(onlyM ns l, valG f (selM ns (onlyM ns l) M))])) K1.next), K1.next + 1⟩ : AH) = K2
      have g2 : ∀ k, K2.get k = if k = tm then some (.map (kE valA (td ++ [(onlyM ns l, valG f (selM ns (onlyM ns l) M))])) K1.next) else K1.get k := fun k => by rw [← hK2]; exact PT.get_set _ _ _ _
      have n2 : K2.next = K1.next + 1 := by rw [← hK2]
      have k2 : ∀ k y, k ≠ tm → K1.get k = some y → K2.get k = some y := fun k y hk hy => by rw [g2, if_neg hk]; exact hy
      have ks2 : KS K1 K2 := ⟨fun b ro vs h1 h2 h3 => k2 b _ (fun e => by subst e; rw [htm1] at h1; cases h1) h1, by omega⟩
      with_reducible repeat' first | refine DN.nil tOK ?_ | (refine DN.act0E tOK (by kernel_rfl) wu ?_; refine zq3 @htm1 @hmt2 @hK2 ?_) | fail
      have hsel : selM ns (onlyM ns l) M ≠ [] := selM_ne.2 ((hhas _).1 ⟨c, hcm, hcx⟩)
      refine fnPost_normal0 ⟨fun b y h1 h2 hy => k2 b y h2 (k1 b y h1 (sK _ _ hy)), by omega, .inr ⟨hne, x, ?_⟩⟩
      rw [if_neg hsel]
      refine ⟨?_, ⟨_, by rw [g2, if_pos rfl]⟩, fun p hp => ⟨(hn1.labs p hp).1.keep ks2, (hn1.labs p hp).2⟩, hn1.wsn, ?_, fun p hp => ?_⟩
      · obtain ⟨v, hv⟩ := hn1.was
        exact ⟨v, k2 _ _ hwt hv⟩
      · rw [List.map_append, List.nodup_append]
        refine ⟨hn.tdn, by simp, fun a ha b hb => ?_⟩
        simp at hb
        obtain ⟨p, hp, rfl⟩ := List.mem_map.1 ha
        obtain ⟨q, hq, e⟩ := hn.tdw p hp
        rw [hb, ← e]; exact hne q hq
      · rcases List.mem_append.1 hp with hp | hp
        · exact hn1.tdw p hp
        · simp at hp; subst hp
          exact ⟨(onlyM ns l, x), by simp, rfl⟩
    · have hgn := getN_none hc.ok hx0 fun d hd e => hcx ⟨d, hd, e⟩
      with_reducible repeat' first | refine za ?_ | (refine zo ?_; refine Step.mk (by simp only [evc, evr, tyC, tyE, aeval, ofVal, Nat.reduceEqDiff, reduceIte, cellAt, lookAt, mapSetAt, eq_self, e1, e2, hwbK, hlo, hms2, hK1, hwm, hgb1, hg1, hmm1, mget_ents, hgn, Option.getD_none]; rfl) ?_) | fail
      have hsel : selM ns (onlyM ns l) M = [] := by
        by_cases h : selM ns (onlyM ns l) M = []
        · exact h
        · exact absurd ((hhas _).2 (selM_ne.1 h)) hcx
      refine fnPost_normal0 ⟨fun b y h1 h2 hy => k1 b y h1 (sK _ _ hy), by omega, .inr ⟨hne, x, ?_⟩⟩
      rw [if_pos hsel]; exact hn1
end Go.Proofs.YtapokkpdgfpokaaGreat
