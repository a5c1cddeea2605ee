/- Group: Set; no condition. -/
import Derived.Test.YtapokkpdgfpokaaGreatMg6
import Derived.Test.YtapokkpdgfpokaaGreatCh6
set_option linter.unusedSimpArgs false
set_option linter.unusedVariables false
set_option maxRecDepth 100000
open Go Go.AB Go.Proofs
namespace Go.Proofs.YtapokkpdgfpokaaGreat
set_option maxRecDepth 100000

set_option maxHeartbeats 16000000 in
theorem set20 (N : Bd) (hd : N.d = 0) (H : AH) {g m : Nat} {f : Int} {ns : List Nm} {V : List Rs} {cs : List GCell} {l : List Ch} {v : AV} (hG : GroupAt H g m f ns V cs) (hv : ChsAt H v l) (hsl : ∀ c ∈ l, Short c.1) (hl : l.length ≤ 2000) (hok : applyE V l = 0) (hi : ∀ c ∈ l, I64 c.2.1) (hVl : V.length ≤ 2000) :
    AC tC N 0 20 [.ptr g 0, v] H fun r K => ∃ w out cs', r = .tuple [w, .int .i64 0] ∧ GroupAt K g m f ns (foldM V l) cs' ∧ ChsAt K w out ∧ (out.map (·.1)).Nodup ∧ (∀ c, c ∈ out ↔ ∃ x, (∃ d ∈ changesM V (foldM V l), onlyM ns d.1 = x) ∧ c ∈ outC f ns V (foldM V l) x) ∧ out.length ≤ 10000 ∧
      (∀ k y, k ∉ g :: m :: fpsC cs → H.get k = some y → K.get k = some y) ∧ (∀ b ∈ fpsC cs', b ∈ fpsC cs ∨ H.next ≤ b) ∧ H.next ≤ K.next ∧ ∃ un ui, K.get g = some (.cells false [.int .i64 f, un, ui, .map m]) ∧ FrV H.next ui := by
  refine AC.wf0 fun wfH => ?_
  refine AC.by (n := 153) (rs := [.tmp 4, .tmp 5]) tOK fn20 rfl rfl rfl rfl ?_
  have e0 : (PT.ofList .leaf 0 [AV.ptr g 0, v]).get 0 = some (.ptr g 0) := rfl
  have e1 : (PT.ofList .leaf 0 [AV.ptr g 0, v]).get 1 = some v := rfl
  obtain ⟨un, ui, hg, hun, hui, hcu⟩ := hG.here
  obtain ⟨hvV, hfl, hlen', hap⟩ := applyE_zero hok
  obtain ⟨riV, rightV, _⟩ := vecM_rise hvV
  obtain ⟨V', hV'⟩ : ∃ V', foldM V l = V' := ⟨_, rfl⟩
  have riV' : Rise V' := hV' ▸ foldM_rise riV
  have hfo := foldM_ok (l := l) rightV riV (firstM_zero hfl) l.length
  rw [List.take_length, hV'] at hfo
  obtain ⟨rightV', _, hlV'⟩ := hfo
  have hvV' : vecM V' = 0 := vecM_of riV' rightV' (by rw [← hV']; exact hlen')
  have i64V' : ∀ r ∈ V', I64 r.2.1 := fun r hr => by
    rw [← hV'] at hr
    rcases fold_from riV r hr with h | ⟨c, hc, rfl⟩
    · exact hG.i64 r h
    · exact hi c hc
  obtain ⟨mver, hmap⟩ := hG.cells.map
  have gN := wfH _ _ hg
  have mN := wfH _ _ hmap
  rw [hV']
  generalize hH1 : H.alloc (.cells false [.ptr g 0]) = H1
  obtain ⟨sH1, wfH1, nH1, gH1⟩ := laid wfH hH1
  have hg := sH1 _ _ hg
  have hmap := sH1 _ _ hmap
  refine zp3 @e0 @hH1 @gH1 ?_
  refine AOs.cq tOK fn45 ok45 (made45 N H1 hg) ?_
  rintro r H1 ⟨rfl, rfl⟩
  refine zs6 @ld22 @ld44 @fa76_2 @e1 @gH1 @hg ?_
  refine AOs.cq tOK fn11 ok11 (AC.wf (apply11c N H1 (hui.keep sH1 (by omega)) (hv.keep sH1 (by omega)) hsl (by omega))) ?_
  rintro r H2 ⟨⟨nx, rfl, hnx, cnx, frx, n2, k2⟩, wfH2⟩
  rw [hap, hV'] at hnx
  have d0 : decide (applyE V l = 0) = true := decide_eq_true hok
  have h02 : ∀ b y, H.get b = some y → H2.get b = some y := fun b y hy => k2 _ _ (sH1 _ _ hy)
  have gb2 := k2 _ _ gH1
  have hg2 := k2 _ _ hg
  -- the maps
  generalize hH3 : H2.alloc (.map [] 0) = H3
  obtain ⟨sH3, wfH3, nH3, gH3⟩ := laid wfH2 hH3
  generalize hH4 : H3.alloc (.cells false [.nilm]) = H4
  obtain ⟨sH4, wfH4, nH4, gH4⟩ := laid wfH3 hH4
  have gH3 := sH4 _ _ gH3
  generalize hH5 : H4.set H3.next (.cells false [.map H2.next]) = H5
  obtain ⟨sH5, nH5, wfH5, gH5⟩ := puts wfH4 hH5
  have gH3 := sH5 _ _ (by omega) gH3
  generalize hH6 : H5.alloc (.map [] 0) = H6
  obtain ⟨sH6, wfH6, nH6, gH6⟩ := laid wfH5 hH6
  have gH5' := sH6 _ _ gH5
  have gH3' := sH6 _ _ gH3
  generalize hH7 : H6.alloc (.cells false [.nilm]) = H7
  obtain ⟨sH7, wfH7, nH7, gH7⟩ := laid wfH6 hH7
  have gH6 := sH7 _ _ gH6
  have gH5' := sH7 _ _ gH5'
  have gH3' := sH7 _ _ gH3'
  generalize hH8 : H7.set H6.next (.cells false [.map H5.next]) = H8
  obtain ⟨sH8, nH8, wfH8, gH8⟩ := puts wfH7 hH8
  have gH6 := sH8 _ _ (by omega) gH6
  have gH5' := sH8 _ _ (by omega) gH5'
  have gH3' := sH8 _ _ (by omega) gH3'
  have a77 : ∀ (K : AH) (ev : Operand → AV) (d : Nat) (ty : TypeId) (pos : String) (after : Array Edge), evOp tC F0 K ev { dst := some d, op := .alloc 77, type := ty, pos, after, guard := none } = some (.ptr K.next 0, K.alloc (.cells false [.nilm])) := fun K ev d ty pos after => evOp_alloc ti77 rfl rfl
  have a78 : ∀ (K : AH) (ev : Operand → AV) (d : Nat) (ty : TypeId) (pos : String) (after : Array Edge), evOp tC F0 K ev { dst := some d, op := .alloc 78, type := ty, pos, after, guard := none } = some (.ptr K.next 0, K.alloc (.cells false [.nilm])) := fun K ev d ty pos after => evOp_alloc ti78 rfl rfl
  have h28 : ∀ b y, b ≠ H3.next → b ≠ H6.next → H2.get b = some y → H8.get b = some y := fun b y h1 h2 hy => sH8 _ _ h2 (sH7 _ _ (sH6 _ _ (sH5 _ _ h1 (sH4 _ _ (sH3 _ _ hy)))))
  have h28' : ∀ b y, H2.get b = some y → H8.get b = some y := fun b y hy => h28 b y (by have := wfH2 _ _ hy; omega) (by have := wfH2 _ _ hy; omega) hy
  have gb8 := h28' _ _ gb2
  have hg8 := h28' _ _ hg2
  refine zp8 @d0 @hH3 @a77 @hH4 @gH4 @hH5 @hH6 (And.intro @a78 (And.intro @hH7 (And.intro @gH7 (And.intro @hH8 (And.intro @gb8 @hg8))))) ?_
  have hui8 : VecAt H8 ui V := hui.keep (fun b y hy => h28' _ _ (h02 _ _ hy)) (by omega)
  have hnx8 : VecAt H8 nx V' := hnx.keep h28' (by omega)
  have hshort : ∀ r, r ∈ V ∨ r ∈ V' → Short r.1 ∧ r.1.length ≤ 1000000 := fun r hr => by
    have hc : checkM r.1 = 0 := by
      have := hr.elim (rightV r) (rightV' r)
      unfold rightM at this
      simp only [Bool.and_eq_true, decide_eq_true_eq] at this
      exact this.1
    obtain ⟨c1, c2⟩ := checkM_zero hc
    exact ⟨fun x hx => by have := labB_lens (okFrom_mem c2 x hx); omega, by omega⟩
  refine AOs.cq tOK fn14 ok14 (AC.wf (changes14 N H8 hui8 hnx8 hcu cnx hshort)) ?_
  rintro dv K0 ⟨⟨hdv, n9, k9⟩, wfK0⟩
  obtain ⟨D, hD⟩ : ∃ D, changesM V V' = D := ⟨_, rfl⟩
  rw [diffM, if_neg (by omega), hD] at hdv
  have hDn : (D.map (·.1)).Nodup := hD ▸ changesM_nodup riV riV'
  have hDm : ∀ c ∈ D, InChg V V' c := fun c hc => (mem_changesM V V' riV riV' c).1 (hD ▸ hc)
  have hDl : D.length ≤ 8000 := by have := (changesM_len V V').1; rw [hD] at this; omega
  have hDf : foldM V D = V' := hD ▸ diff_apply riV riV'
  have hdl := hdv.len
  have h0K : ∀ b y, H.get b = some y → K0.get b = some y := fun b y hy => k9 _ _ (h28' _ _ (h02 _ _ hy))
  have hgK := h0K _ _ (by assumption : H.get g = some (.cells false [.int .i64 f, un, ui, .map m]))
  have hcK : CellsH K0 m ns V cs := hG.cells.keep (fun b _ y hy => h0K _ _ hy) (KS.of h0K (by omega))
  have hunK : NamesAt K0 un ns := hun.keep (KS.of h0K (by omega))
  have huiK : VecAt K0 ui V := hui8.keep k9 n9
  have hnxK : VecAt K0 nx V' := hnx8.keep k9 n9
  obtain ⟨wm, hwm⟩ : ∃ b, b = H5.next := ⟨_, rfl⟩
  obtain ⟨tm, htm⟩ : ∃ b, b = H2.next := ⟨_, rfl⟩
  obtain ⟨wb, hwb⟩ : ∃ b, b = H6.next := ⟨_, rfl⟩
  obtain ⟨tb, htb⟩ : ∃ b, b = H3.next := ⟨_, rfl⟩
  obtain ⟨gb, hgb⟩ : ∃ b, b = H.next := ⟨_, rfl⟩
  have gbK : K0.get gb = some (.cells false [.ptr g 0]) := hgb ▸ k9 _ _ gb8
  have wbK : K0.get wb = some (.cells false [.map wm]) := hwb ▸ hwm ▸ k9 _ _ gH8
  have tbK : K0.get tb = some (.cells false [.map tm]) := htb ▸ htm ▸ k9 _ _ gH5'
  have wmK : K0.get wm = some (.map [] 0) := hwm ▸ k9 _ _ gH6
  have tmK : K0.get tm = some (.map [] 0) := htm ▸ k9 _ _ gH3'
  have hlt := hG.cells.lt wfH
  have fresh : ∀ b, H.next ≤ b → b ∉ m :: fpsC cs := fun b hb hm => by have := hlt b hm; omega
  have gbw : g < gb ∧ H.next ≤ gb ∧ gb < tm ∧ tm < tb ∧ tb < wm ∧ wm < wb ∧ wb < K0.next := by omega
  have nK0 : H.next ≤ K0.next := by omega
  have kK0 : ∀ b y, H.get b = some y → K0.get b = some y := h0K
  with_reducible repeat' first | refine zb ?_ | (refine AOs.o1 tOK ?_; refine zr2 @al23 @hdl ?_) | fail
  have hwm0 : wm ∉ m :: fpsC cs := fresh wm (by omega)
  have htm0 : tm ∉ m :: fpsC cs := fresh tm (by omega)
  have ft : ∀ {L : AH} {csi : List GCell} {M : List Rs} {ws : List (Ls × AV)} {td : List (Ls × (Int × Bool))} {xs : Ls → Prop}, S1 K0 L m wm tm f ns V cs csi M ws td xs → L.get gb = some (.cells false [.ptr g 0]) ∧ L.get g = some (.cells false [.int .i64 f, un, ui, .map m]) ∧ L.get wb = some (.cells false [.map wm]) ∧ L.get tb = some (.cells false [.map tm]) ∧ KD K0 L := fun hS =>
    ⟨hS.keep _ _ (fresh gb (by omega)) (by omega) (by omega) gbK, hS.keep _ _ hG.gm (by omega) (by omega) hgK, hS.keep _ _ (fresh wb (by omega)) (by omega) (by omega) wbK, hS.keep _ _ (fresh tb (by omega)) (by omega) (by omega) tbK, hS.kd hcK ⟨_, _, wmK⟩ ⟨_, _, tmK⟩⟩
  clear hH1 sH1 wfH1 hH3 sH3 wfH3 hH4 sH4 wfH4 hH5 sH5 wfH5 hH6 sH6 wfH6 hH7 sH7 wfH7 hH8 sH8 wfH8 h28 h28'
  refine AW.loop (fun mm T L => T.get 2 = some (.ptr gb 0) ∧ T.get 6 = some nx ∧ T.get 8 = some (.ptr tb 0) ∧ T.get 9 = some (.ptr wb 0) ∧ T.get 10 = some (.func 46 [] [.ptr gb 0, .ptr wb 0, .ptr tb 0]) ∧ T.get 44 = some dv ∧ T.get 45 = some (.int .i64 (D.length : Nat)) ∧
    ∃ i : Nat, i ≤ D.length ∧ mm = D.length - i ∧ T.get 46 = some (.int .i64 (i : Nat)) ∧ ∃ csi M ws td, S1 K0 L m wm tm f ns V cs csi M ws td (fun x => ∃ d ∈ D.take i, onlyM ns d.1 = x) ∧ M.Perm (foldM V (D.take i)) ∧ WF L) ?_ (D.length - 0)
    ⟨by simp [PT.get_set, hgb], by simp [PT.get_set], by simp [PT.get_set, htb], by simp [PT.get_set, hwb], by simp [PT.get_set, hgb, hwb, htb], by simp [PT.get_set], by simp [PT.get_set], 0, by omega, rfl, by simp [PT.get_set], cs, V, [], [], ?_, List.Perm.refl _, wfK0⟩
  · rintro mm T L ⟨g2, g6, g8, g9, g10, g44, g45, i, hi, rfl, g46, csi, M, ws, td, hS, hperm, wfL⟩
    obtain ⟨lgb, lg, lwb, ltb, kdL⟩ := ft hS
    by_cases hil : i < D.length
    · have hd1 := lt_int hil
      obtain ⟨c, hc⟩ : ∃ c, D[i]? = some c := ⟨_, List.getElem?_eq_getElem hil⟩
      have hcD := List.mem_of_getElem? hc
      obtain ⟨ab, ao, ac, aro, avs, xu, rfl, ag, hxu, ax, _⟩ := (hdv.keepD kdL).at hc
      generalize hL1 : (L.alloc (.cells false [.nils, .int .i64 0, .bool false, .bool false])).set L.next (.cells false (chC xu c)) = L1
      have hst : astore tC (L.alloc (.cells false [.nils, .int .i64 0, .bool false, .bool false])) 33 (.ptr L.next 0) (.agg (chC xu c)) = some L1 := by
        rw [← hL1]; exact stA33 (x := .nils) (y := .int .i64 0) (z := .bool false) (w := .bool false) (by rw [AH.get_alloc, if_pos rfl]) hxu.one c
      have m1 : L1.next = L.next + 1 := by rw [← hL1]; rfl
      have l1 : ∀ b x, L.get b = some x → L1.get b = some x := fun b z hz => by
        have := wfL b z hz
        rw [← hL1, AH.get_set, if_neg (by omega), AH.get_alloc, if_neg (by omega)]; exact hz
      have q1 : L1.get L.next = some (.cells false (chC xu c)) := by rw [← hL1, AH.get_set, if_pos rfl]
      have q1' : L1.get L.next = some (.cells false [xu, .int .i64 c.2.1, .bool c.2.2.1, .bool c.2.2.2]) := q1
      have t4 : List.take 4 (List.drop 0 (chC xu c)) = chC xu c := rfl
      have t4l : (chC xu c).length = 4 := rfl
      have hS1 := hS.more l1 (by omega)
      have nL := hS.next
      have lgb1 := l1 _ _ lgb
      have lg1 := l1 _ _ lg
      have lwb1 := l1 _ _ lwb
      have ltb1 := l1 _ _ ltb
      have kd1 := kdL.trans (KD.of l1 (by omega))
      have hxu1 := hxu.keep (KS.of l1 (by omega))
      refine zp8 @g10 @g44 @g45 @g46 @hd1 @hil @ag (And.intro @ax (And.intro @t4l (And.intro @al33 (And.intro @hst @q1')))) ?_
      refine AOs.callQ tOK (fs := []) (cs := [.ptr gb 0, .ptr wb 0, .ptr tb 0]) (by simp only [aeval, PT.get_set, Nat.reduceEqDiff, reduceIte]) fn46 ok46 rfl (by simp only [List.map_cons, List.map_nil, List.nil_append, List.cons_append, aeval, PT.get_set, Nat.reduceEqDiff, reduceIte] <;> rfl) (AC.wf (note46 N L1 lg1 (hunK.keep kd1.ks) hG.nsl hS1.cells hS1.has (by have := hS1.len; omega) hxu1 lgb1 lwb1 ltb1 (by omega) (hS1.notin hwm0 (by omega)) hS1.noted)) ?_
      rintro r L2 ⟨⟨hk2, n2, hnt⟩, wfL2⟩
      obtain ⟨ws', td', hS2⟩ := hS1.note hk2 n2 wfK0 hwm0 htm0 (by omega) (by omega) hnt
      rw [← take_or hc] at hS2
      obtain ⟨lgb2, lg2, lwb2, ltb2, kd2⟩ := ft hS2
      have q2 := hk2 _ _ (by omega) (by omega) q1'
      have hxu2 : LabelsAt L2 xu c.1 := by
        have hks : KS L1 L2 := by
          obtain ⟨v1, hv1⟩ := hS1.noted.was
          obtain ⟨v2, hv2⟩ := hS1.noted.told
          exact ⟨fun b ro vs h1 _ _ => hk2 b _ (fun e => by subst e; rw [hv1] at h1; cases h1) (fun e => by subst e; rw [hv2] at h1; cases h1) h1, n2⟩
        exact hxu1.keep hks
      have hcc : chgM c = 0 := chgM_right (hDm c hcD) rightV rightV'
      have hcl := (chgM_zero hcc).1
      have hin := find_in riV hDn hc hperm
      have hsp := step_perm riV hDn hc hperm
      have hM2 : ∀ r ∈ outM V M c.1, r ∈ M := fun r hr => by
        unfold outM at hr
        split at hr
        · exact List.mem_of_mem_erase hr
        · exact hr
      with_reducible repeat' first | refine zb ?_ | fail
      refine AW.joinSeq (fun T K => T.get 2 = some (.ptr gb 0) ∧ T.get 6 = some nx ∧ T.get 8 = some (.ptr tb 0) ∧ T.get 9 = some (.ptr wb 0) ∧ T.get 10 = some (.func 46 [] [.ptr gb 0, .ptr wb 0, .ptr tb 0]) ∧ T.get 12 = some (.ptr L.next 0) ∧ T.get 44 = some (.slice ab ao D.length ac 4) ∧ T.get 45 = some (.int .i64 (D.length : Nat)) ∧ T.get 46 = some (.int .i64 (i : Nat)) ∧
        K.get L.next = some (.cells false [xu, .int .i64 c.2.1, .bool c.2.2.1, .bool c.2.2.2]) ∧ LabelsAt K xu c.1 ∧ WF K ∧ ∃ cs1, S1 K0 K m wm tm f ns V cs cs1 (outM V M c.1) ws' td' (fun x => ∃ d ∈ D.take (i + 1), onlyM ns d.1 = x)) ?_ ?_
      · refine AW.seq ?_
        refine AW.drawN tOK (Qs := [6]) [0, 1, 2, 3, 4, 5, 6, 7, 8, 9, 10, 11, 12] (by kernel_rfl) pk1 ?_
        with_reducible repeat' first | (refine zd ?_; refine zq4 @g2 @lgb2 @lg2 @q2 ?_; refine Same.mk ?_) | fail
        refine DN.callQ (fs := []) (cs := []) rfl fn50 ok50 rfl ar1 (find50q N L2 (huiK.keepD kd2) hxu2 hvV hcl) ?_
        with_reducible repeat' first | (refine zd ?_; refine zr0 ?_; refine Same.mk ?_) | fail
        generalize hL3 : L2.alloc (.cells false [.int .i64 0, .bool false]) = L3
        obtain ⟨sL3, wfL3, nL3, gL3⟩ := laid wfL2 hL3
        have lgb2 := sL3 _ _ lgb2
        have lg2 := sL3 _ _ lg2
        have q2 := sL3 _ _ q2
        have k23 : ∀ b y, L2.get b = some y → L3.get b = some y := sL3
        refine DN.actP tOK (by kernel_rfl) (by simp only [all31, hL3]; rfl) rfl ?_ ?_
        · repeat' (first | exact good_nil | with_reducible refine good_cons ?_ ?_ | (with_reducible refine good_ofN ?_ ?_ 1; rotate_left; (simp only [evc, evr, tyC, tyE, rangeMapAt, storeAt, aeval, ofVal, Nat.reduceEqDiff, reduceIte, cellAt, cellsAt, mapLenAt, lookAt, mapSetAt, mapDelAt, TI.agg, Nat.reduceLeDiff, Nat.reduceLT, Nat.reduceMul, Nat.reduceAdd, Nat.reduceSub, eq_self, Int.reduceEq, Int.reduceLT, Int.reduceLE, Int.reduceNeg, g2, lgb2, lg2, q2] <;> rfl); kernel_rfl) | (with_reducible refine good_ofG wu (by simp only [g2, lgb2, lg2, q2, PT.get_set, Nat.reduceEqDiff, reduceIte] <;> rfl) ?_ ?_ ?_ 1; rotate_left 2; (simp only [evc, evr, tyC, tyE, rangeMapAt, storeAt, aeval, ofVal, Nat.reduceEqDiff, reduceIte, cellAt, cellsAt, mapLenAt, lookAt, mapSetAt, mapDelAt, TI.agg, Nat.reduceLeDiff, Nat.reduceLT, Nat.reduceMul, Nat.reduceAdd, Nat.reduceSub, eq_self, Int.reduceEq, Int.reduceLT, Int.reduceLE, Int.reduceNeg, g2, lgb2, lg2, q2] <;> rfl); (first | rfl | decide | assumption); kernel_rfl) | fail "stop")
          exact good_callQ (fs := []) (cs := []) rfl fn50 ok50 ar1 (find50q N L3 (huiK.keepD (kd2.trans (KD.of k23 (by omega)))) (hxu2.keep (KS.of k23 (by omega))) hvV hcl) 1
        have q3 := store_whole (cs := [.int .i64 (findV V c.1).1, .bool (findV V c.1).2]) ti31 gL3 rfl rfl rfl
        generalize hL4 : L3.set L2.next (.cells false [.int .i64 (findV V c.1).1, .bool (findV V c.1).2]) = L4
        obtain ⟨sL4, nL4, wfL4, gL4⟩ := puts wfL3 hL4
        have lgb2 := sL4 _ _ (by omega) lgb2
        have lg2 := sL4 _ _ (by omega) lg2
        have q2 := sL4 _ _ (by omega) q2
        have tk2 : List.take 2 (List.drop 0 [AV.int .i64 (findV V c.1).1, .bool (findV V c.1).2]) = [.int .i64 (findV V c.1).1, .bool (findV V c.1).2] := rfl
        have l2 : List.length [AV.int .i64 (findV V c.1).1, .bool (findV V c.1).2] = 2 := rfl
        have k24 : ∀ b y, L2.get b = some y → L4.get b = some y := fun b y hy => sL4 _ _ (by have := wfL2 _ _ hy; omega) (sL3 _ _ hy)
        have hS4 := hS2.more k24 (by omega)
        have hxu4 := hxu2.keep (KS.of k24 (by omega))
        with_reducible repeat' first | refine za ?_ | refine DN.nil tOK ?_ | (refine DN.fl1E wu wu ?_; refine zr0 ?_; refine Same.mk ?_) | ((first | refine AOs.o1 tOK ?_ | refine DN.act0E tOK (by kernel_rfl) wu ?_); refine zr2 @q3 @hL4 ?_) | fail
        by_cases hth : thereM V c.1 = true
        · have hrM := hin hth
          have hbd := bd58h hxu4.one (findV V c.1).1 (findV V c.1).2
          with_reducible repeat' first | refine zb ?_ | refine AW.condT (by simp only [aeval, PT.get_set, Nat.reduceEqDiff, reduceIte, hth]; rfl) (by first | rfl | decide | assumption) ?_ | (refine AOs.o1 tOK ?_; refine zq8 @g2 @lgb2 @q2 @hth @gL4 @tk2 @l2 @hbd ?_) | fail
          refine AOs.cq tOK fn51 ok51 (AC.wf (take51 N L4 (r := (c.1, findV V c.1)) lg2 (hS4.notin hG.gm (by omega)) (hunK.keep (kd2.trans (KD.of k24 (by omega))).ks) hG.nsl hS4.cells hxu4 (hS4.i64 _ hrM).2 (hS4.i64 _ hrM).1 (by have := hS4.len; omega) hS4.has hrM)) ?_
          rintro r L5 ⟨⟨cs1, c5, tr5, h5⟩, wfL5⟩
          have hS5 := hS4.turn wfK0 hwm0 htm0 (by omega) (by omega) c5 h5 tr5 (fun x hx => selM_erase_ne fun e => hx ⟨c, by rw [List.take_add_one, hc]; simp, e⟩) (fun r hr => hS4.i64 r (List.mem_of_mem_erase hr)) (by have := hS4.len; have := List.length_erase_le (a := (c.1, findV V c.1)) (l := M); omega)
          have hom : outM V M c.1 = M.erase (c.1, findV V c.1) := by unfold outM; rw [if_pos hth]
          rw [hom]
          have hLn : L.next ∉ m :: fpsC csi := fun h => by
            have := hS.cells.lt wfL _ h; omega
          have hks5 : KS L4 L5 := (tr5.kd hS4.cells).ks
          with_reducible repeat' first | refine zb ?_ | fail
          exact ⟨rfl, gt2, gt2, gt2, gt2, gt2, gt2, gt2, gt2, gt2, tr5.keep _ _ hLn q2, hxu4.keep hks5, wfL5, cs1, hS5⟩
        · have hth' : thereM V c.1 = false := by simpa using hth
          have hom : outM V M c.1 = M := by unfold outM; rw [if_neg hth]
          rw [hom]
          with_reducible repeat' first | refine zb ?_ | refine AW.condF (by simp only [aeval, PT.get_set, Nat.reduceEqDiff, reduceIte, hth']; rfl) (by first | rfl | decide | assumption) ?_ | fail
          exact ⟨rfl, gt2, gt2, gt2, gt2, gt2, gt2, gt2, gt2, gt2, q2, hxu4, wfL4, csi, hS4⟩
      · rintro T K ⟨g2, g6, g8, g9, g10, g12, g44, g45, g46, q3, hxu3, wfK, cs1, hS3⟩
        obtain ⟨kgb, kg, kwb, ktb, kd3⟩ := ft hS3
        by_cases hgn : c.2.2.2 = true
        · rw [if_pos hgn] at hsp
          refine zs6 @ld4 @fa33_2 @g12 @q3 @hgn @g46 ?_
          refine ⟨D.length - (i + 1), ?_, gt2, gt2, gt2, gt2, gt2, gt2, gt2, i + 1, hil, rfl, ?_, cs1, outM V M c.1, ws', td', hS3, hsp, wfK⟩
          · omega
          · simp only [PT.get_set, Nat.reduceEqDiff, reduceIte, wrap64_succ (show i < 9223372036854775807 by omega)]
        · have hgn' : c.2.2.2 = false := by simpa using hgn
          rw [if_neg hgn] at hsp
          obtain ⟨s, hs, rfl⟩ : ∃ s ∈ V', c = hereC s := by
            rcases hDm c hcD with ⟨r, _, rfl, _⟩ | ⟨s, hs, rfl, _⟩
            · exact absurd rfl hgn
            · exact ⟨s, hs, rfl⟩
          have hsr := rightV' s hs
          have hs0 : numM s.2.1 s.2.2 = 0 := by
            unfold rightM at hsr
            simp only [Bool.and_eq_true, decide_eq_true_eq] at hsr
            exact hsr.2
          have hbd := bd58h hxu3.one s.2.1 s.2.2
          have q3' : K.get L.next = some (.cells false [xu, .int .i64 s.2.1, .bool s.2.2, .bool false]) := q3
          have tk2 : List.take 2 (List.drop 1 [xu, AV.int .i64 s.2.1, .bool s.2.2, .bool false]) = [.int .i64 s.2.1, .bool s.2.2] := rfl
          have l2 : List.length [AV.int .i64 s.2.1, .bool s.2.2] = 2 := rfl
          refine zp7 @g2 @g12 @q3' @kgb @tk2 @l2 @hbd ?_
          refine AOs.cq tOK fn52 ok52 (AC.wf (put52 N K (r := s) kg (hS3.notin hG.gm (by omega)) (hunK.keep kd3.ks) hG.nsl hS3.cells hxu3 hs0 (i64V' s hs) (by have := hS3.len; omega) hS3.has)) ?_
          rintro r K5 ⟨⟨cs2, c5, tr5, h5⟩, wfK5⟩
          have hlM : M.length ≤ 90000 := by
            have := hperm.length_eq
            have h1 := foldM_ok (l := D) rightV riV (fun d hd => chgM_right (hDm d hd) rightV rightV') i
            omega
          have hS5 := hS3.turn wfK0 hwm0 htm0 (by omega) (by omega) c5 h5 tr5 (fun x hx => by rw [selM_cons, if_neg (show ¬ onlyM ns s.1 = x from fun e => hx ⟨hereC s, by rw [List.take_add_one, hc]; simp, e⟩)]) (fun r hr => by
            rcases List.mem_cons.1 hr with rfl | hr
            · exact ⟨i64V' _ hs, hs0⟩
            · exact hS3.i64 r hr) (by have := hsp.length_eq; simp at this ⊢; have h1 := foldM_ok (l := D) rightV riV (fun d hd => chgM_right (hDm d hd) rightV rightV') (i + 1); omega)
          with_reducible repeat' first | refine zb ?_ | (refine AOs.o1 tOK ?_; refine zr1 @g46 ?_) | fail
          refine ⟨D.length - (i + 1), ?_, gt2, gt2, gt2, gt2, gt2, gt2, gt2, i + 1, hil, rfl, ?_, cs2, s :: outM V M s.1, ws', td', hS5, hsp, wfK5⟩
          · omega
          · simp only [PT.get_set, Nat.reduceEqDiff, reduceIte, wrap64_succ (show i < 9223372036854775807 by omega)]
    · have hd1 := nlt_int hil
      obtain rfl : i = D.length := by omega
      rw [List.take_length, hDf] at hperm
      rw [List.take_length] at hS
      have hcL : CellsH L m ns V' csi := hS.cells.perm hperm
      have hhL : HasC csi ns V' := fun x => (hS.has x).trans ⟨fun ⟨r, hr, e⟩ => ⟨r, hperm.mem_iff.1 hr, e⟩, fun ⟨r, hr, e⟩ => ⟨r, hperm.mem_iff.2 hr, e⟩⟩
      have hsub : ∀ x ∈ ws.map (·.1), x ∈ D.map fun d => onlyM ns d.1 := fun x hx => by
        obtain ⟨q, hq, rfl⟩ := List.mem_map.1 hx
        obtain ⟨d, hd, e⟩ := (hS.wsx _).1 ⟨q, hq, rfl⟩
        exact List.mem_map.2 ⟨d, hd, e⟩
      have hwl : ws.length ≤ 8000 := by
        have := nodup_le hS.noted.wsn hsub
        simp at this; omega
      have hnxL := hnxK.keepD kdL
      have nxo : nx.one = true := hnxL.one
      have hgL : g < L.next := wfL _ _ lg
      have hmg : m ≠ g := fun e => hG.gm (by rw [e]; exact List.mem_cons_self)
      obtain ⟨wv, lwm⟩ := hS.noted.was
      obtain ⟨tv, ltm⟩ := hS.noted.told
      obtain ⟨mv, lmm⟩ := hcL.map
      have lgb0 := lgb
      generalize hL1 : L.set g (.cells false [.int .i64 f, un, nx, .map m]) = L1
      obtain ⟨sL1, nL1, wfL1, gL1⟩ := puts wfL hL1
      have lgb := sL1 _ _ (by omega) lgb
      have lwb := sL1 _ _ (by omega) lwb
      have ltb := sL1 _ _ (by omega) ltb
      have lwm := sL1 _ _ (by omega) lwm
      have ltm := sL1 _ _ (by omega) ltm
      refine zp8 @g2 @g6 @g9 @g45 @g46 @hd1 @lgb0 (And.intro @lg (And.intro @nxo (And.intro @hL1 @lwb))) ?_
      refine AOs.cq tOK fn54 ok54 (keys54 N L1) ?_
      rintro r L2 ⟨rfl, rfl⟩
      generalize hL2 : L1.alloc (.cells false [.map wm]) = L2
      obtain ⟨sL2, wfL2, nL2, gL2⟩ := laid wfL1 hL2
      have lgb := sL2 _ _ lgb
      have lwb := sL2 _ _ lwb
      have ltb := sL2 _ _ ltb
      have lwm := sL2 _ _ lwm
      have ltm := sL2 _ _ ltm
      have gL1 := sL2 _ _ gL1
      with_reducible repeat' first | (refine AOs.o1 tOK ?_; refine zq1 @g2 ?_) | fail
      have ekE : (kE id ws).map (·.1) = (ws.map (·.1)).map keyM := by unfold kE; rw [List.map_map, List.map_map]; rfl
      refine AOs.cq tOK fn53 ok53 (AC.wf (sorted53 N hd L2 gL2 lwm (fun p hp => by
        obtain ⟨q, _, rfl⟩ := List.mem_map.1 hp
        have := keyM_le q.1
        show (keyM q.1).length ≤ 1000000; omega) (by unfold kE; rw [List.length_map]; omega) wfL2)) ?_
      rintro kv L3 ⟨⟨ks, hks, hkv, n3, k3⟩, wfL3⟩
      rw [ekE] at hks
      obtain ⟨xs, hxp, rfl⟩ := perm_map_inv hks
      have hxn : xs.Nodup := hxp.nodup_iff.2 hS.noted.wsn
      have hxl : xs.length ≤ 8000 := by have := hxp.length_eq; simp at this; omega
      have hxx : ∀ x, x ∈ xs ↔ ∃ d ∈ D, onlyM ns d.1 = x := fun x => by
        rw [hxp.mem_iff, ← hS.wsx x, List.mem_map]
      have hkl3 := hkv.len
      rw [List.length_map] at hkl3
      have kdg : KD L L1 := KD.keep (S := [g]) (fun k y hk hy => sL1 _ _ (by simpa using hk) hy) (fun b hb => by
        have hb : b = g := by simpa using hb
        subst hb
        intro ro vs hx
        rw [lg] at hx; cases hx
        exact ⟨rfl, by simp [dataV, isStr, VecAt.notB huiK, show isB (.map m) = false from rfl]⟩) (by omega)
      have k13 : ∀ b y, L1.get b = some y → L3.get b = some y := fun b y hy => k3 _ _ (sL2 _ _ hy)
      have kdL3 : KD K0 L3 := (kdL.trans kdg).trans (KD.of k13 (by omega))
      have hgf : ∀ b ∈ m :: fpsC csi, b ≠ g := fun b hb e => hS.notin hG.gm (by omega) (e ▸ hb)
      have hcL3 : CellsH L3 m ns V' csi := hcL.keep (fun b hb y hy => k13 _ _ (sL1 _ _ (hgf b hb) hy)) (kdg.trans (KD.of k13 (by omega))).ks
      have hn3 := hS.noted.keep (fun y hy => k13 _ _ (sL1 _ _ (by omega) hy)) (fun y hy => k13 _ _ (sL1 _ _ (by omega) hy)) (kdg.trans (KD.of k13 (by omega))).ks
      obtain ⟨mv3, lmm3⟩ := hcL3.map
      have lgb3 := k3 _ _ lgb
      have lwb3 := k3 _ _ lwb
      have ltb3 := k3 _ _ ltb
      have lwm3 := k3 _ _ lwm
      have ltm3 := k3 _ _ ltm
      have lg3 := k3 _ _ gL1
      have fin : ∀ (K : AH) (w : AV) (out : List Ch), (∀ b y, b < L3.next → L3.get b = some y → K.get b = some y) → L3.next ≤ K.next → out.Perm (outsC f ns V V' xs) → ChsAt K w out →
          ∃ w' out' cs', AV.tuple [w, .int .i64 0] = .tuple [w', .int .i64 0] ∧ GroupAt K g m f ns V' cs' ∧ ChsAt K w' out' ∧ (out'.map (·.1)).Nodup ∧ (∀ c, c ∈ out' ↔ ∃ x, (∃ d ∈ changesM V V', onlyM ns d.1 = x) ∧ c ∈ outC f ns V V' x) ∧ out'.length ≤ 10000 ∧
            (∀ k y, k ∉ g :: m :: fpsC cs → H.get k = some y → K.get k = some y) ∧ (∀ b ∈ fpsC cs', b ∈ fpsC cs ∨ H.next ≤ b) ∧ H.next ≤ K.next ∧ ∃ un ui, K.get g = some (.cells false [.int .i64 f, un, ui, .map m]) ∧ FrV H.next ui := fun K w out hk hn hp hco => by
        have kdK : KD K0 K := kdL3.trans (KD.of (fun b y hy => hk b y (wfL3 _ _ hy) hy) hn)
        refine ⟨w, out, csi, rfl, ⟨⟨un, nx, hk _ _ (wfL3 _ _ lg3) lg3, hunK.keep kdK.ks, hnxK.keepD kdK, cnx⟩, hcL3.keep (fun b _ y hy => hk _ _ (wfL3 _ _ hy) hy) (KS.of (fun b y hy => hk b y (wfL3 _ _ hy) hy) hn), hhL, fun h => hgf g h rfl, hvV', i64V', hG.nsl⟩, hco, ?_, fun c => ?_, ?_, fun k y hkn hy => ?_, fun b hb => ?_, ?_, un, nx, hk _ _ (wfL3 _ _ lg3) lg3, fun b o n c z e => by have := frx b o n c z e; omega⟩
        · exact ((hp.map _).nodup_iff).2 (outsC_nodup f ns V V' hxn)
        · rw [hp.mem_iff, hD]
          unfold outsC
          rw [List.mem_flatMap]
          constructor
          · rintro ⟨x, hx, h⟩; exact ⟨x, (hxx x).1 hx, h⟩
          · rintro ⟨x, hx, h⟩; exact ⟨x, (hxx x).2 hx, h⟩
        · rw [hp.length_eq]
          have := outsC_le f ns V V' xs; omega
        · simp only [List.mem_cons, not_or] at hkn
          have hkN := wfH _ _ hy
          have h1 := hS.keep k y (by simp only [List.mem_cons, not_or]; exact hkn.2) (by omega) (by omega) (kK0 _ _ hy)
          have h3 := k13 _ _ (sL1 _ _ hkn.1 h1)
          exact hk _ _ (wfL3 _ _ h3) h3
        · rcases hS.old b hb with h | h
          · exact .inl h
          · exact .inr (by omega)
        · have := kdK.2; omega
      with_reducible repeat' first | refine zb ?_ | (refine AOs.o1 tOK ?_; refine zr2 @al40 @hkl3 ?_) | fail
      refine AW.loop (fun mm T K => (∀ b y, L3.get b = some y → K.get b = some y) ∧ L3.next ≤ K.next ∧ T.get 2 = some (.ptr gb 0) ∧ T.get 8 = some (.ptr tb 0) ∧ T.get 9 = some (.ptr wb 0) ∧ T.get 88 = some kv ∧ T.get 89 = some (.int .i64 (xs.length : Nat)) ∧
        ∃ j w, j ≤ xs.length ∧ mm = xs.length - j ∧ T.get 90 = some (.int .i64 (j : Nat)) ∧ T.get 15 = some w ∧ AccC L3.next K w (outsC f ns V V' (xs.take j))) ?_ (xs.length - 0)
        ⟨fun _ _ h => h, Nat.le_refl _, gt2, gt2, gt2, gt2, gt2, 0, .nils, by omega, rfl, gt2, gt2, .inl ⟨rfl, rfl⟩⟩
      rintro mm T K ⟨hk, hn, g2, g8, g9, g88, g89, j, w, hj, rfl, g90, g15, hacc⟩
      refine AW.wf0 fun wfK => ?_
      by_cases hjl : j < xs.length
      case neg =>
        have hd2 := nlt_int hjl
        obtain rfl : j = xs.length := by omega
        rw [List.take_length] at hacc
        refine zs4 @g89 @g90 @g15 @hd2 ?_
        rcases hacc with ⟨rfl, hnil⟩ | ⟨b, vs, rfl, h1, h2, h3, h4, h5⟩
        · refine AOs.cq tOK fn55 ok55 (nil55 N hd K) ?_
          rintro r K ⟨rfl, rfl⟩
          refine zs1 @g15 ?_
          exact fnPost_ret2 gt1 gt1 (fin K _ [] (fun b y _ hy => hk b y hy) hn (by rw [hnil]) (.inl ⟨rfl, rfl, rfl⟩))
        · obtain ⟨X, e1, e2, e3⟩ := chunks4 h3
          subst e1
          have hol := outsC_le f ns V V' xs
          refine AOs.cq tOK fn55 ok55 (sort55 N K h2 e2 (fun i r hi => ?_) (fun c hc => ?_) h4 (by omega) wfK) ?_
          · obtain ⟨u, h6, h7⟩ := h5 i r hi
            exact ⟨u, by rw [e3 i (List.getElem?_eq_some_iff.1 hi).1, h6], h7⟩
          · obtain ⟨x, hx, hc⟩ := List.mem_flatMap.1 hc
            obtain ⟨d, _, rfl⟩ := (hxx x).1 hx
            rw [outC_lab hc]; exact onlyM_ok _ _
          rintro r K2 ⟨l', X', hp, hs, q1, q2, q3, q4, q5⟩
          refine zs1 @g15 ?_
          have hlen := hp.length_eq
          have h40 : ∀ x ∈ X', x.length = 4 := fun x hx => by
            obtain ⟨i, hi, rfl⟩ := List.getElem_of_mem hx
            obtain ⟨c, hc⟩ : ∃ c, l'[i]? = some c := ⟨_, List.getElem?_eq_getElem (by omega)⟩
            obtain ⟨u, h6, _⟩ := q3 i c hc
            rw [List.getElem?_eq_getElem hi] at h6
            rw [Option.some.inj h6]; rfl
          refine fnPost_ret2 gt1 gt1 (fin K2 _ l' (fun k y hkl hy => q4 k y (by omega) (hk _ _ hy)) (by omega) hp (.inr ⟨b, 0, _, false, X'.flatten, by rw [hlen], q1, fun e => h4 (by rw [e] at hlen; exact List.eq_nil_of_length_eq_zero hlen.symm), fun i s hi => ?_⟩))
          obtain ⟨u, h6, h7⟩ := q3 i s hi
          refine ⟨u, ?_, h7⟩
          rw [Nat.zero_add]
          refine List.ext_getElem? fun j => ?_
          by_cases hj : j < 4
          · rw [List.getElem?_take_of_lt hj, List.getElem?_drop, flatten_uni h40 i j hj, h6]; rfl
          · rw [List.getElem?_eq_none (by rw [List.length_take]; omega), List.getElem?_eq_none (by show (chC u s).length ≤ j; simp [chC]; omega)]
      have hd2 := lt_int hjl
      obtain ⟨x, hx⟩ : ∃ x, xs[j]? = some x := ⟨_, List.getElem?_eq_getElem hjl⟩
      have hxm := List.mem_of_getElem? hx
      have hxD := (hxx x).1 hxm
      have hx0 : checkM x = 0 := by obtain ⟨d, _, rfl⟩ := hxD; exact onlyM_ok _ _
      obtain ⟨q, hq, hqx⟩ : ∃ q ∈ ws, q.1 = x := (hS.wsx x).2 hxD
      obtain ⟨kb, ko, kc, kro, kvs, rfl, kg1, kg2⟩ := hkv.at (i := j) (s := keyM x) (by rw [List.getElem?_map, hx]; rfl)
      have kgK := hk _ _ kg1
      have kgb := hk _ _ lgb3
      have kwb := hk _ _ lwb3
      have ktb := hk _ _ ltb3
      have kwm := hk _ _ lwm3
      have ktm := hk _ _ ltm3
      have kg := hk _ _ lg3
      have kmm := hk _ _ lmm3
      have hnK := hn3.keep (fun y hy => hk _ _ hy) (fun y hy => hk _ _ hy) (KS.of hk hn)
      have hlu := (hnK.labs q hq).1
      rw [hqx] at hlu
      have hmw := mget_kE_some (f := id) (fun p hp => (hnK.labs p hp).2) hnK.wsn hq
      rw [hqx] at hmw
      have hmw : mget (kE id ws) (keyM x) = some q.2 := hmw
      have hol := outsC_le f ns V V' (xs.take j)
      have holx : (outsC f ns V V' (xs.take j)).length ≤ 8000 := by rw [List.length_take] at hol; omega
      have l2 : ∀ n o, List.length [AV.int .i64 n, .bool o] = 2 := fun _ _ => rfl
      have tk2 : ∀ n o, List.take 2 (List.drop 0 [AV.int .i64 n, .bool o]) = [.int .i64 n, .bool o] := fun _ _ => rfl
      have step : ∀ (T' : PT AV) (K' : AH) (w' : AV), (∀ b y, K.get b = some y → b < L3.next → K'.get b = some y) → K.next ≤ K'.next → AccC L3.next K' w' (outsC f ns V V' (xs.take (j + 1))) → T'.get 2 = some (.ptr gb 0) → T'.get 8 = some (.ptr tb 0) → T'.get 9 = some (.ptr wb 0) → T'.get 88 = some (.slice kb ko (xs.map keyM).length kc 1) → T'.get 89 = some (.int .i64 (xs.length : Nat)) → T'.get 90 = some (.int .i64 (IntKind.i64.wrap ((j : Nat) + 1))) → T'.get 15 = some w' → ∃ m', m' < xs.length - j ∧
          (∀ b y, L3.get b = some y → K'.get b = some y) ∧ L3.next ≤ K'.next ∧ T'.get 2 = some (.ptr gb 0) ∧ T'.get 8 = some (.ptr tb 0) ∧ T'.get 9 = some (.ptr wb 0) ∧ T'.get 88 = some (.slice kb ko (xs.map keyM).length kc 1) ∧ T'.get 89 = some (.int .i64 (xs.length : Nat)) ∧
        ∃ j w, j ≤ xs.length ∧ m' = xs.length - j ∧ T'.get 90 = some (.int .i64 (j : Nat)) ∧ T'.get 15 = some w ∧ AccC L3.next K' w (outsC f ns V V' (xs.take j)) := fun T' K' w' h1 h2 h3 a1 a2 a3 a4 a5 a6 a7 =>
        ⟨xs.length - (j + 1), by omega, fun b y hy => h1 b y (hk b y hy) (wfL3 _ _ hy), by omega, a1, a2, a3, a4, a5, j + 1, w', hjl, rfl, by rw [a6, wrap64_succ (show j < 9223372036854775807 by omega)], a7, h3⟩
      have hot := outsC_take (f := f) (ns := ns) (V := V) (V' := V') hx
      have hgnc : selM ns x V' = [] → getN (entC csi) (keyM x) = none := fun h => getN_none hcL.ok hx0 fun d hd e => by
        obtain ⟨r, hr, e2⟩ := (hhL x).1 ⟨d, hd, e⟩
        have : r ∈ selM ns x V' := selM_mem.2 ⟨hr, e2⟩
        rw [h] at this; cases this
      have hmtn : selM ns x V = [] → mget (kE valA td) (keyM x) = none := fun h => mget_kE_none hnK.tdok hx0 fun p hp e => by
        obtain ⟨_, h2, _⟩ := (hS.tdx p.1 p.2).1 hp
        rw [e] at h2; exact h2 h
      have hmts : selM ns x V ≠ [] → mget (kE valA td) (keyM x) = some (valA (valG f (selM ns x V))) := fun h => mget_kE_some (p := (x, valG f (selM ns x V))) hnK.tdok hnK.tdn ((hS.tdx _ _).2 ⟨hxD, h, rfl⟩)
      have hjl' : j < (xs.map keyM).length := by rw [List.length_map]; exact hjl
      have b1 := wfK _ _ kgb
      have b2 := wfK _ _ kwb
      have b3 := wfK _ _ kwm
      have b4 := wfK _ _ kg
      have b5 := wfK _ _ kmm
      have hVl' : V'.length ≤ 4096 := (vecM_rise hvV').2.2
      obtain ⟨o1, o2, ho⟩ : ∃ a b, valG f (selM ns x V) = (a, b) := ⟨_, _, rfl⟩
      obtain ⟨a1, a2, ha⟩ : ∃ a b, valG f (selM ns x V') = (a, b) := ⟨_, _, rfl⟩
      have hcell : selM ns x V' ≠ [] → ∃ c ∈ csi, c.x = x ∧ getN (entC csi) (keyM x) = some c.cb := fun h => by
        obtain ⟨c, hcm, hcx⟩ := (hhL x).2 (selM_ne.1 h)
        obtain ⟨A, B, hAB⟩ := List.append_of_mem hcm
        refine ⟨c, hcm, hcx, ?_⟩
        rw [hAB, ← hcx]; exact getN_some (by rw [← hAB]; exact hcL.ok) (xs_mid (by rw [← hAB]; exact hcL.xs)).2
      by_cases hv0 : selM ns x V' = []
      · have hgn := hgnc hv0
        by_cases hu0 : selM ns x V = []
        · have hlo := ln77 ktm (hmtn hu0)
          generalize hK1 : K.alloc (.cells false [.int .i64 0, .bool false]) = K1
          obtain ⟨sK1, wfK1, nK1, gK1⟩ := laid wfK hK1
          have kgb := sK1 _ _ kgb
          have kwb := sK1 _ _ kwb
          have kwm := sK1 _ _ kwm
          have kg := sK1 _ _ kg
          have kmm := sK1 _ _ kmm
          have q3 := store_whole (cs := [.int .i64 0, .bool false]) ti31 gK1 rfl rfl rfl
          generalize hK2 : K1.set K.next (.cells false [.int .i64 0, .bool false]) = K2
          obtain ⟨sK2, nK2, wfK2, gK2⟩ := puts wfK1 hK2
          have kgb := sK2 _ _ (by omega) kgb
          have kwb := sK2 _ _ (by omega) kwb
          have kwm := sK2 _ _ (by omega) kwm
          have kg := sK2 _ _ (by omega) kg
          have kmm := sK2 _ _ (by omega) kmm
          have k2 : ∀ b y, K.get b = some y → K2.get b = some y := fun b y hy => sK2 _ _ (by have := wfK _ _ hy; omega) (sK1 _ _ hy)
          have hacc2 := hacc.keep k2 (by omega)
          have hlu2 := hlu.keep (KS.of k2 (by omega))
          with_reducible repeat' first | refine za ?_ | (refine zo ?_; refine Step.mk (by simp only [evc, evr, tyC, tyE, aeval, ofVal, Nat.reduceEqDiff, reduceIte, cellAt, lookAt, eq_self, g2, g8, g88, g89, g90, hd2, hjl', kgK, kg2, ktb, hlo, all31, hK1, q3, hK2, kgb, kg, kmm, mget_ents, hgn, Option.getD_none]; rfl) ?_) | fail
          refine AW.drawN tOK (Qs := [11]) [0, 1, 2, 3, 4, 5, 6, 7, 8, 9, 10, 11, 12, 13, 14, 15, 16] (by kernel_rfl) pk1 ?_
          with_reducible repeat' first | refine zb ?_ | refine DN.nil tOK ?_ | refine DN.guardUA wu (by simp only [PT.get_set, Nat.reduceEqDiff, reduceIte]; rfl) wu wu ?_ | refine DN.guardFA wu (by simp only [PT.get_set, Nat.reduceEqDiff, reduceIte]; rfl) (by first | rfl | decide | assumption) wu ?_ | (refine DN.fl1E wu wu ?_; refine zr1 @ne82b ?_; refine Same.mk ?_) | (refine AOs.o1 tOK ?_; refine zr1 @g90 ?_) | fail
          refine step _ K2 w (fun b y hy _ => k2 b y hy) (by omega) ?_ gt2 gt2 gt2 gt2 gt2 gt2 gt2
          rw [hot, show outC f ns V V' x = [] from by unfold outC; rw [if_pos hv0, if_pos hu0], List.append_nil]
          exact hacc2
        · have hlo := lo77 ktm (hmts hu0)
          rw [ho] at hlo
          have hlo : alookup tC K 77 (.map tm) (.str (keyM x)) true = some (.tuple [.agg [.int .i64 o1, .bool o2], .bool true]) := hlo
          generalize hK1 : K.alloc (.cells false [.int .i64 0, .bool false]) = K1
          obtain ⟨sK1, wfK1, nK1, gK1⟩ := laid wfK hK1
          have kgb := sK1 _ _ kgb
          have kwb := sK1 _ _ kwb
          have kwm := sK1 _ _ kwm
          have kg := sK1 _ _ kg
          have kmm := sK1 _ _ kmm
          have q3 := store_whole (cs := [.int .i64 o1, .bool o2]) ti31 gK1 rfl rfl rfl
          generalize hK2 : K1.set K.next (.cells false [.int .i64 o1, .bool o2]) = K2
          obtain ⟨sK2, nK2, wfK2, gK2⟩ := puts wfK1 hK2
          have kgb := sK2 _ _ (by omega) kgb
          have kwb := sK2 _ _ (by omega) kwb
          have kwm := sK2 _ _ (by omega) kwm
          have kg := sK2 _ _ (by omega) kg
          have kmm := sK2 _ _ (by omega) kmm
          have k2 : ∀ b y, K.get b = some y → K2.get b = some y := fun b y hy => sK2 _ _ (by have := wfK _ _ hy; omega) (sK1 _ _ hy)
          have hacc2 := hacc.keep k2 (by omega)
          have hlu2 := hlu.keep (KS.of k2 (by omega))
          have hbd := bd33g hlu2.one
          have bsf := fun dst ty pos after guard x (ev : Operand → AV) hx => bs23_1 F0 K2 ev dst ty pos after guard x q.2 (.int .i64 0) (.bool false) (.bool true) hx
          generalize hK3 : K2.alloc (.cells false [q.2, .int .i64 0, .bool false, .bool true]) = K3
          obtain ⟨sK3, wfK3, nK3, gK3⟩ := laid wfK2 hK3
          rw [hK3] at bsf
          have hacc3 := hacc2.keep (K := K3) sK3 (by omega)
          obtain ⟨w', K4, happ, hacc4, n4, k4⟩ := accC_append (c := (x, 0, false, true)) (u := q.2) wfK3 (by omega) hacc3 (hlu2.keep (KS.of sK3 (by omega))) gK3 (by omega)
          have fin4 : ∀ b y, K.get b = some y → b < L3.next → K4.get b = some y := fun b y hy hb => k4 b y hb (sK3 _ _ (k2 _ _ hy))
          with_reducible repeat' first | refine za ?_ | (refine zo ?_; refine Step.mk (by simp only [evc, evr, tyC, tyE, aeval, ofVal, Nat.reduceEqDiff, reduceIte, cellAt, lookAt, eq_self, g2, g8, g9, g88, g89, g90, g15, hd2, hjl', kgK, kg2, ktb, hlo, all31, hK1, q3, hK2, kgb, kg, kmm, mget_ents, hgn, Option.getD_none, kwb, kwm, hmw, Option.getD_some, hbd, bsf, happ]; rfl) ?_) | fail
          refine step _ K4 w' fin4 (by omega) ?_ gt2 gt2 gt2 gt2 gt2 gt2 gt2
          rw [hot, show outC f ns V V' x = [(x, 0, false, true)] from by unfold outC; rw [if_pos hv0, if_neg hu0]]
          exact hacc4
      · by_cases hu0 : selM ns x V = []
        · have hlo := ln77 ktm (hmtn hu0)
          generalize hK1 : K.alloc (.cells false [.int .i64 0, .bool false]) = K1
          obtain ⟨sK1, wfK1, nK1, gK1⟩ := laid wfK hK1
          have kgb := sK1 _ _ kgb
          have kwb := sK1 _ _ kwb
          have kwm := sK1 _ _ kwm
          have kg := sK1 _ _ kg
          have kmm := sK1 _ _ kmm
          have q3 := store_whole (cs := [.int .i64 0, .bool false]) ti31 gK1 rfl rfl rfl
          generalize hK2 : K1.set K.next (.cells false [.int .i64 0, .bool false]) = K2
          obtain ⟨sK2, nK2, wfK2, gK2⟩ := puts wfK1 hK2
          have kgb := sK2 _ _ (by omega) kgb
          have kwb := sK2 _ _ (by omega) kwb
          have kwm := sK2 _ _ (by omega) kwm
          have kg := sK2 _ _ (by omega) kg
          have kmm := sK2 _ _ (by omega) kmm
          have k2 : ∀ b y, K.get b = some y → K2.get b = some y := fun b y hy => sK2 _ _ (by have := wfK _ _ hy; omega) (sK1 _ _ hy)
          have hacc2 := hacc.keep k2 (by omega)
          have hlu2 := hlu.keep (KS.of k2 (by omega))
          obtain ⟨c, hcm, hcx, hgn⟩ := hcell hv0
          have hcl2 := (hcL3.cell c hcm).keep (K := K2) (fun b _ y hy => k2 _ _ (hk _ _ hy)) (KS.of (fun b y hy => k2 _ _ (hk _ _ hy)) (by omega))
          rw [hcx] at hcl2
          have hsl := selM_le ns x V'
          have hval : AC tC N 0 49 [.ptr c.cb 0, .int .i64 f] K2 fun r K => r = .agg [.int .i64 a1, .bool a2] ∧ K = K2 := by
            have := hcl2.value N (f := f) (by omega)
            rw [ha] at this; exact this
          have hbd := bd33h hlu2.one a1 a2
          have bsf := fun dst ty pos after guard x (ev : Operand → AV) hx => bs23_1 F0 K2 ev dst ty pos after guard x q.2 (.int .i64 a1) (.bool a2) (.bool false) hx
          generalize hK3 : K2.alloc (.cells false [q.2, .int .i64 a1, .bool a2, .bool false]) = K3
          obtain ⟨sK3, wfK3, nK3, gK3⟩ := laid wfK2 hK3
          rw [hK3] at bsf
          have hacc3 := hacc2.keep (K := K3) sK3 (by omega)
          obtain ⟨w', K4, happ, hacc4, n4, k4⟩ := accC_append (c := (x, a1, a2, false)) (u := q.2) wfK3 (by omega) hacc3 (hlu2.keep (KS.of sK3 (by omega))) gK3 (by omega)
          have fin4 : ∀ b y, K.get b = some y → b < L3.next → K4.get b = some y := fun b y hy hb => k4 b y hb (sK3 _ _ (k2 _ _ hy))
          with_reducible repeat' first | refine za ?_ | (refine zo ?_; refine Step.mk (by simp only [evc, evr, tyC, tyE, aeval, ofVal, Nat.reduceEqDiff, reduceIte, cellAt, lookAt, eq_self, g2, g8, g88, g89, g90, hd2, hjl', kgK, kg2, ktb, hlo, all31, hK1, q3, hK2, kgb, kg, kmm, mget_ents, hgn, Option.getD_some]; rfl) ?_) | fail
          refine AW.drawN tOK (Qs := [11]) [0, 1, 2, 3, 4, 5, 6, 7, 8, 9, 10, 11, 12, 13, 14, 15, 16] (by kernel_rfl) pk1 ?_
          with_reducible repeat' first | refine zb ?_ | refine DN.nil tOK ?_ | refine DN.guardFA wu (by simp only [PT.get_set, Nat.reduceEqDiff, reduceIte]; rfl) (by first | rfl | decide | assumption) wu ?_ | ((first | refine DN.fl1E wu wu ?_ | refine DN.flTE wu (by simp only [PT.get_set, Nat.reduceEqDiff, reduceIte]; rfl) (by first | rfl | decide | assumption) wu wu ?_); refine zr1 @ne82a ?_; refine Same.mk ?_) | fail
          refine AW.drawN tOK (Qs := [9]) [0, 1, 2, 3, 4, 5, 6, 7, 8, 9, 10, 11, 12, 13] (by kernel_rfl) pk1 ?_
          with_reducible repeat' first | (refine zd ?_; refine Step.mk (by simp only [evc, evr, aeval, Nat.reduceEqDiff, reduceIte, cellAt, lookAt, eq_self, ld3, ld44, fa76_0, ld78, lk78, g2, g9, g15, kgb, kwb, kwm, kg, hmw, Option.getD_some]; rfl) ?_; refine Same.mk ?_) | fail
          refine DN.callQ (fs := []) (cs := []) rfl fn49 ok49 rfl ar1 hval ?_
          with_reducible repeat' first | refine zb ?_ | refine DN.nil tOK ?_ | (refine zd ?_; refine zr3 @hbd @bsf @happ ?_; refine Same.mk ?_) | ((first | refine AOs.o1 tOK ?_ | refine DN.actE tOK (by kernel_rfl) wu wu ?_); refine zr3 @g90 @bsf @happ ?_) | fail
          refine step _ K4 w' fin4 (by omega) ?_ gt2 gt2 gt2 gt2 gt2 gt2 gt2
          rw [hot, show outC f ns V V' x = [(x, a1, a2, false)] from by unfold outC; rw [if_neg hv0, if_pos (.inl hu0), ha]]
          exact hacc4
        · have hlo := lo77 ktm (hmts hu0)
          rw [ho] at hlo
          have hlo : alookup tC K 77 (.map tm) (.str (keyM x)) true = some (.tuple [.agg [.int .i64 o1, .bool o2], .bool true]) := hlo
          generalize hK1 : K.alloc (.cells false [.int .i64 0, .bool false]) = K1
          obtain ⟨sK1, wfK1, nK1, gK1⟩ := laid wfK hK1
          have kgb := sK1 _ _ kgb
          have kwb := sK1 _ _ kwb
          have kwm := sK1 _ _ kwm
          have kg := sK1 _ _ kg
          have kmm := sK1 _ _ kmm
          have q3 := store_whole (cs := [.int .i64 o1, .bool o2]) ti31 gK1 rfl rfl rfl
          generalize hK2 : K1.set K.next (.cells false [.int .i64 o1, .bool o2]) = K2
          obtain ⟨sK2, nK2, wfK2, gK2⟩ := puts wfK1 hK2
          have kgb := sK2 _ _ (by omega) kgb
          have kwb := sK2 _ _ (by omega) kwb
          have kwm := sK2 _ _ (by omega) kwm
          have kg := sK2 _ _ (by omega) kg
          have kmm := sK2 _ _ (by omega) kmm
          have k2 : ∀ b y, K.get b = some y → K2.get b = some y := fun b y hy => sK2 _ _ (by have := wfK _ _ hy; omega) (sK1 _ _ hy)
          have hacc2 := hacc.keep k2 (by omega)
          have hlu2 := hlu.keep (KS.of k2 (by omega))
          obtain ⟨c, hcm, hcx, hgn⟩ := hcell hv0
          have hcl2 := (hcL3.cell c hcm).keep (K := K2) (fun b _ y hy => k2 _ _ (hk _ _ hy)) (KS.of (fun b y hy => k2 _ _ (hk _ _ hy)) (by omega))
          rw [hcx] at hcl2
          have hsl := selM_le ns x V'
          have hval : AC tC N 0 49 [.ptr c.cb 0, .int .i64 f] K2 fun r K => r = .agg [.int .i64 a1, .bool a2] ∧ K = K2 := by
            have := hcl2.value N (f := f) (by omega)
            rw [ha] at this; exact this
          have hbd := bd33h hlu2.one a1 a2
          with_reducible repeat' first | refine za ?_ | (refine zo ?_; refine Step.mk (by simp only [evc, evr, tyC, tyE, aeval, ofVal, Nat.reduceEqDiff, reduceIte, cellAt, lookAt, eq_self, g2, g8, g88, g89, g90, hd2, hjl', kgK, kg2, ktb, hlo, all31, hK1, q3, hK2, kgb, kg, kmm, mget_ents, hgn, Option.getD_some]; rfl) ?_) | fail
          refine AW.drawN tOK (Qs := [11]) [0, 1, 2, 3, 4, 5, 6, 7, 8, 9, 10, 11, 12, 13, 14, 15, 16] (by kernel_rfl) pk1 ?_
          with_reducible repeat' first | ((first | refine DN.fl1E wu wu ?_ | refine DN.flTE wu (by simp only [PT.get_set, Nat.reduceEqDiff, reduceIte]; rfl) (by first | rfl | decide | assumption) wu wu ?_ | refine DN.rdTE wu (by simp only [PT.get_set, Nat.reduceEqDiff, reduceIte]; rfl) (by first | rfl | decide | assumption) (by kernel_rfl) wu ?_); refine zr7 @ld3 @ld44 @fa76_0 @ne82a @g2 @kgb @kg ?_; refine Same.mk ?_) | fail
          refine DN.callQG wu gt1 rfl (fs := []) (cs := []) rfl fn49 ok49 rfl ar1 hval ?_
          have tk2' := tk2 o1 o2
          by_cases heq : (a1, a2) = (o1, o2)
          · have dd : ((a1 == o1) && (a2 == o2)) = true := by cases heq; simp
            with_reducible repeat' first | refine zb ?_ | refine DN.nil tOK ?_ | ((first | refine DN.fl1E wu wu ?_ | refine DN.flTE wu (by simp only [PT.get_set, Nat.reduceEqDiff, reduceIte]; rfl) (by first | rfl | decide | assumption) wu wu ?_ | refine DN.rdTE wu (by simp only [PT.get_set, Nat.reduceEqDiff, reduceIte]; rfl) (by first | rfl | decide | assumption) (by kernel_rfl) wu ?_); refine zr6 @ld31 @gK2 @l2 @tk2' @neV @dd ?_; refine Same.mk ?_) | (refine AOs.o1 tOK ?_; refine zr1 @g90 ?_) | fail
            refine step _ K2 w (fun b y hy _ => k2 b y hy) (by omega) ?_ gt2 gt2 gt2 gt2 gt2 gt2 gt2
            rw [hot, show outC f ns V V' x = [] from by unfold outC; rw [if_neg hv0, if_neg (by rw [ha, ho]; exact fun h => h.elim hu0 fun h => h heq)], List.append_nil]
            exact hacc2
          · have dd : ((a1 == o1) && (a2 == o2)) = false := by
              cases h : ((a1 == o1) && (a2 == o2)) with
              | false => rfl
              | true => simp at h; exact absurd (by rw [h.1, h.2]) heq
            have bsf := fun dst ty pos after guard x (ev : Operand → AV) hx => bs23_1 F0 K2 ev dst ty pos after guard x q.2 (.int .i64 a1) (.bool a2) (.bool false) hx
            generalize hK3 : K2.alloc (.cells false [q.2, .int .i64 a1, .bool a2, .bool false]) = K3
            obtain ⟨sK3, wfK3, nK3, gK3⟩ := laid wfK2 hK3
            rw [hK3] at bsf
            have hacc3 := hacc2.keep (K := K3) sK3 (by omega)
            obtain ⟨w', K4, happ, hacc4, n4, k4⟩ := accC_append (c := (x, a1, a2, false)) (u := q.2) wfK3 (by omega) hacc3 (hlu2.keep (KS.of sK3 (by omega))) gK3 (by omega)
            have fin4 : ∀ b y, K.get b = some y → b < L3.next → K4.get b = some y := fun b y hy hb => k4 b y hb (sK3 _ _ (k2 _ _ hy))
            with_reducible repeat' first | refine zb ?_ | refine DN.nil tOK ?_ | ((first | refine DN.fl1E wu wu ?_ | refine DN.flTE wu (by simp only [PT.get_set, Nat.reduceEqDiff, reduceIte]; rfl) (by first | rfl | decide | assumption) wu wu ?_ | refine DN.rdTE wu (by simp only [PT.get_set, Nat.reduceEqDiff, reduceIte]; rfl) (by first | rfl | decide | assumption) (by kernel_rfl) wu ?_); refine zr6 @ld31 @gK2 @l2 @tk2' @neV @dd ?_; refine Same.mk ?_) | fail
            refine AW.drawN tOK (Qs := [9]) [0, 1, 2, 3, 4, 5, 6, 7, 8, 9, 10, 11, 12, 13] (by kernel_rfl) pk1 ?_
            with_reducible repeat' first | (refine zd ?_; refine Step.mk (by simp only [evc, evr, aeval, Nat.reduceEqDiff, reduceIte, cellAt, lookAt, eq_self, ld3, ld44, fa76_0, ld78, lk78, g2, g9, g15, kgb, kwb, kwm, kg, hmw, Option.getD_some]; rfl) ?_; refine Same.mk ?_) | fail
            refine DN.callQ (fs := []) (cs := []) rfl fn49 ok49 rfl ar1 hval ?_
            with_reducible repeat' first | refine zb ?_ | refine DN.nil tOK ?_ | (refine zd ?_; refine zr3 @hbd @bsf @happ ?_; refine Same.mk ?_) | ((first | refine AOs.o1 tOK ?_ | refine DN.actE tOK (by kernel_rfl) wu wu ?_); refine zr3 @g90 @bsf @happ ?_) | fail
            refine step _ K4 w' fin4 (by omega) ?_ gt2 gt2 gt2 gt2 gt2 gt2 gt2
            rw [hot, show outC f ns V V' x = [(x, a1, a2, false)] from by unfold outC; rw [if_neg hv0, if_pos (.inr (by rw [ha, ho]; exact heq)), ha]]
            exact hacc4
  · refine ⟨fun k y _ _ _ hy => hy, Nat.le_refl _, hcK, hG.has, fun b hb => .inl hb, ⟨⟨0, wmK⟩, ⟨0, tmK⟩, fun p hp => (by cases hp), List.nodup_nil, List.nodup_nil, fun p hp => (by cases hp)⟩, fun x => by simp, fun x _ => rfl, fun x v => by simp, fun r hr => ⟨hG.i64 r hr, ?_⟩, by omega⟩
    have := rightV r hr
    unfold rightM at this
    simp only [Bool.and_eq_true, decide_eq_true_eq] at this
    exact this.2

/-- Lists of changes in a heap. -/
def LlsAt (H : AH) (v : AV) (L : List (List Ch)) : Prop :=
  lenOfAV v = some L.length ∧ ∀ (i : Nat) l, L[i]? = some l → ∃ b o c ro vs sv, v = .slice b o L.length c 1 ∧ H.get b = some (.cells ro vs) ∧ vs[o + i * 1]? = some sv ∧ ChsAt H sv l
set_option maxHeartbeats 2000000 in
theorem light17 (N : Bd) (H : AH) {v : AV} {L : List (List Ch)} (hv : LlsAt H v L) : AC tC N 0 17 [v] H fun r K => (∃ x, r = .bool x ∧ (x = true → L.length ≤ 40 ∧ ∀ l ∈ L, l.length ≤ 40 ∧ ∀ p ∈ l, Light p.1)) ∧ K = H := by
  have hlen := hv.1
  refine AC.by (n := 23) (rs := [.tmp 2]) tOK fn17 rfl rfl rfl rfl ?_
  have e0 : (PT.ofList .leaf 0 [v]).get 0 = some v := rfl
  refine zs0 ?_
  refine AW.loop (fun m T K => K = H ∧ T.get 0 = some v ∧ ∃ i : Nat, i ≤ L.length ∧ m = L.length - i ∧ i ≤ 41 ∧ T.get 3 = some (.int .i64 i) ∧ ∀ l ∈ L.take i, l.length ≤ 40 ∧ ∀ p ∈ l, Light p.1) ?_ (L.length - 0) ⟨rfl, by simp [PT.get_set, e0], 0, by omega, rfl, by omega, by simp [PT.get_set], by simp⟩
  rintro m T K ⟨rfl, h0, i, hi, rfl, hi41, h3, hall⟩
  have fin : ∀ (hlt : ¬ (i < L.length ∧ i ≤ 40)), (decide (((L.length : Nat) : Int) ≤ 40) = true → L.length ≤ 40 ∧ ∀ l ∈ L, l.length ≤ 40 ∧ ∀ p ∈ l, Light p.1) := fun hlt hd => by
    have h40 : L.length ≤ 40 := by have := of_decide_eq_true hd; omega
    refine ⟨h40, fun p hp => hall p ?_⟩
    rw [List.take_of_length_le (by omega)]; exact hp
  by_cases hlt : i < L.length
  · have hd := lt_int hlt
    obtain ⟨l, hl⟩ : ∃ l, L[i]? = some l := ⟨_, List.getElem?_eq_getElem hlt⟩
    obtain ⟨b, o, c, ro, vs, u, rfl, hb, hs1, hu⟩ := hv.2 i l hl
    by_cases h40 : i ≤ 40
    · have d40 : decide (((i : Nat) : Int) ≤ 40) = true := decide_eq_true (by omega)
      refine zs8 @ld23 @al41 @ix41 @h0 @h3 @hd @d40 (And.intro @hlt (And.intro @hb @hs1)) ?_
      refine AOs.cq tOK fn8 ok8 (light8 N K hu) ?_
      rintro r K1 ⟨⟨x, rfl, hx⟩, rfl⟩
      cases x
      · refine zs0 ?_
        exact fnPost_ret1 gt1 ⟨⟨_, rfl, fun h => by cases h⟩, rfl⟩
      · refine zs1 @h3 ?_
        refine ⟨L.length - (i + 1), by omega, rfl, by simp only [PT.get_set, Nat.reduceEqDiff, reduceIte, h0], i + 1, by omega, rfl, by omega, ?_, fun y hy => ?_⟩
        · simp only [PT.get_set, Nat.reduceEqDiff, reduceIte, wrap64_succ (show i < 9223372036854775807 by omega)]
        · rcases mem_take_succ hl hy with h | rfl
          · exact hall y h
          · exact hx rfl
    · have d40 : decide (((i : Nat) : Int) ≤ 40) = false := decide_eq_false (by omega)
      refine zs6 @al41 @h0 @h3 @hd @d40 @hlen ?_
      exact fnPost_ret1 gt1 ⟨⟨_, rfl, fin (by omega)⟩, rfl⟩
  · have hd := nlt_int hlt
    refine zs5 @al41 @h0 @h3 @hd @hlen ?_
    exact fnPost_ret1 gt1 ⟨⟨_, rfl, fin (by omega)⟩, rfl⟩

set_option maxHeartbeats 2000000 in
theorem lightTexts18 (N : Bd) (H : AH) {v : AV} {ns : List Nm} (hv : NamesAt H v ns) : AC tC N 0 18 [v, .int .i64 30] H fun r K => (∃ x, r = .bool x ∧ (x = true → ns.length ≤ 30 ∧ ∀ s ∈ ns, s.length ≤ 300)) ∧ K = H := by
  have hlen := hv.len
  refine AC.by (n := 27) (rs := [.tmp 4]) tOK fn18 rfl rfl rfl rfl ?_
  have e0 : (PT.ofList .leaf 0 [v, AV.int .i64 30]).get 0 = some v := rfl
  have e1 : (PT.ofList .leaf 0 [v, AV.int .i64 30]).get 1 = some (.int .i64 30) := rfl
  refine zs0 ?_
  refine AW.loop (fun m T K => K = H ∧ T.get 0 = some v ∧ T.get 1 = some (.int .i64 30) ∧ ∃ i : Nat, i ≤ ns.length ∧ m = ns.length - i ∧ i ≤ 31 ∧ T.get 5 = some (.int .i64 i) ∧ ∀ s ∈ ns.take i, s.length ≤ 300) ?_ (ns.length - 0) ⟨rfl, by simp [PT.get_set, e0], by simp [PT.get_set, e1], 0, by omega, rfl, by omega, by simp [PT.get_set], by simp⟩
  rintro m T K ⟨rfl, h0, h1, i, hi, rfl, hi41, h5, hall⟩
  have fin : ∀ (hlt : ¬ (i < ns.length ∧ i ≤ 30)), (decide (((ns.length : Nat) : Int) ≤ 30) = true → ns.length ≤ 30 ∧ ∀ s ∈ ns, s.length ≤ 300) := fun hlt hd => by
    have h40 : ns.length ≤ 30 := by have := of_decide_eq_true hd; omega
    refine ⟨h40, fun p hp => hall p ?_⟩
    rw [List.take_of_length_le (by omega)]; exact hp
  by_cases hlt : i < ns.length
  · have hd := lt_int hlt
    obtain ⟨s, hs⟩ : ∃ s, ns[i]? = some s := ⟨_, List.getElem?_eq_getElem hlt⟩
    obtain ⟨b, o, c, ro, vs, rfl, hb, hs1⟩ := hv.at hs
    by_cases h40 : i ≤ 30
    · have d40 : decide (((i : Nat) : Int) ≤ 30) = true := decide_eq_true (by omega)
      by_cases hn : 300 < s.length
      · have d1 : decide ((300 : Int) < ((s.length : Nat) : Int)) = true := decide_eq_true (by omega)
        refine zp8 @h0 @h1 @h5 @hd @d40 @d1 @hlt (And.intro @hb @hs1) ?_
        exact fnPost_ret1 gt1 ⟨⟨_, rfl, fun h => by cases h⟩, rfl⟩
      · have d1 : decide ((300 : Int) < ((s.length : Nat) : Int)) = false := decide_eq_false (by omega)
        refine zp8 @h0 @h1 @h5 @hd @d40 @d1 @hlt (And.intro @hb @hs1) ?_
        refine ⟨ns.length - (i + 1), by omega, rfl, by simp only [PT.get_set, Nat.reduceEqDiff, reduceIte, h0], by simp only [PT.get_set, Nat.reduceEqDiff, reduceIte, h1], i + 1, by omega, rfl, by omega, ?_, fun y hy => ?_⟩
        · simp only [PT.get_set, Nat.reduceEqDiff, reduceIte, wrap64_succ (show i < 9223372036854775807 by omega)]
        · rcases mem_take_succ hs hy with h | rfl
          · exact hall y h
          · omega
    · have d40 : decide (((i : Nat) : Int) ≤ 30) = false := decide_eq_false (by omega)
      refine zs7 @al40 @h0 @h1 @h5 @hd @d40 @hlen ?_
      exact fnPost_ret1 gt1 ⟨⟨_, rfl, fin (by omega)⟩, rfl⟩
  · have hd := nlt_int hlt
    refine zs6 @al40 @h0 @h1 @h5 @hd @hlen ?_
    exact fnPost_ret1 gt1 ⟨⟨_, rfl, fin (by omega)⟩, rfl⟩

theorem u40 : Tryz.prog.underlying 40 = some (.slice 9) := by kernel_rfl
theorem u41 : Tryz.prog.underlying 41 = some (.slice 23) := by kernel_rfl
theorem u3 : Tryz.prog.underlying 3 = some (.int .i64) := by kernel_rfl
theorem c23 : Tryz.prog.cellsOf 23 = 1 := by kernel_rfl
theorem wf64 {m : Int} (h : (Lit.int .i64 m).wf = true) : I64 m := by
  have h2 : (decide (IntKind.min .i64 ≤ m) && decide (m ≤ IntKind.max .i64)) = true := h
  have e1 : IntKind.min .i64 = -9223372036854775808 := by kernel_rfl
  have e2 : IntKind.max .i64 = 9223372036854775807 := by kernel_rfl
  rw [e1, e2] at h2
  simp only [Bool.and_eq_true, decide_eq_true_eq] at h2
  exact ⟨h2.1, by omega⟩

section
variable {X : Type} {H : AH}
theorem has_value64 {k : Nat} {y : DataW X} {b c : AV} (h1 : Has Tryz.prog H (k + 2) 31 y [b, c]) : ∃ n o, b = .int .i64 n ∧ c = .bool o ∧ I64 n := by
  obtain ⟨g0, g1, hu1, s0, p0, s1, p1⟩ := u31
  unfold Has at h1
  rw [hu1] at h1
  obtain ⟨ds1, _, hl1, hd1, hf1⟩ := h1
  match ds1, hd1 with
  | [y0, y1], _ =>
    have q0 := hf1 0 g0 y0 (by simp) (by simp)
    have q1 := hf1 1 g1 y1 (by simp) (by simp)
    rw [s0, p0, c2] at q0
    rw [s1, p1, c4] at q1
    unfold Has at q0 q1
    rw [u2] at q0
    rw [u4] at q1
    obtain ⟨m, _, mw, m0⟩ := q0
    obtain ⟨o, _, m1⟩ := q1
    simp at m0 m1
    exact ⟨m, o, m0, m1, wf64 mw⟩
theorem has_change64 {k : Nat} {d : DataW X} {xs : List AV} (h : Has Tryz.prog H (k + 4) 33 d xs) : ∃ u c, xs = chC u c ∧ LabelsAt H u c.1 ∧ I64 c.2.1 := by
  obtain ⟨f0, f1, f2, hu, t0, o0, t1, o1, t2, o2⟩ := u33
  unfold Has at h
  rw [hu] at h
  obtain ⟨ds, _, hl, hd, hf⟩ := h
  rw [c33] at hl
  match xs, hl, ds, hd with
  | [a, b, c, e], _, [x, y, z], _ =>
    have h0 := hf 0 f0 x (by simp) (by simp)
    have h1 := hf 1 f1 y (by simp) (by simp)
    have h2 := hf 2 f2 z (by simp) (by simp)
    rw [t0, o0, c29] at h0
    rw [t1, o1, c31] at h1
    rw [t2, o2, c4] at h2
    obtain ⟨v, l, e0, hl⟩ := has_labels h0
    obtain ⟨n, o, e1, e1', hn⟩ := has_value64 (b := b) (c := c) h1
    unfold Has at h2
    rw [u4] at h2
    obtain ⟨g, _, e2⟩ := h2
    simp at e0 e2
    exact ⟨v, (l, n, o, g), by rw [e0, e1, e1', e2]; rfl, hl, hn⟩
theorem has_changes64 {k : Nat} {d : DataW X} {v : AV} (h : Has Tryz.prog H (k + 5) 23 d [v]) : ∃ l, ChsAt H v l ∧ ∀ c ∈ l, I64 c.2.1 := by
  unfold Has at h
  rw [u23] at h
  rcases h with ⟨_, e⟩ | ⟨_, e⟩ | ⟨b, es, sp, vs, rfl, _, e, hb, hl, hx⟩
  · cases e; exact ⟨[], .inl ⟨rfl, rfl, rfl⟩, fun c hc => by cases hc⟩
  · cases e; exact ⟨[], .inl ⟨rfl, rfl, rfl⟩, fun c hc => by cases hc⟩
  · cases e
    rw [c33] at hl hx
    obtain ⟨l, l1, l2⟩ := build_list (α := Ch) (P := fun i c => ∃ u, (vs.drop (i * 4)).take 4 = chC u c ∧ LabelsAt H u c.1 ∧ I64 c.2.1) es.length fun i hi => by
      obtain ⟨x, hxi⟩ : ∃ x, (es ++ sp)[i]? = some x := ⟨_, List.getElem?_eq_getElem (by rw [List.length_append]; omega)⟩
      obtain ⟨u, c, e1, e2, e3⟩ := has_change64 (hx i x hxi)
      exact ⟨c, u, e1, e2, e3⟩
    refine ⟨l, ?_, fun c hc => ?_⟩
    · by_cases h0 : l = []
      · subst h0
        exact .inl ⟨rfl, by rw [← l1]; rfl, rfl⟩
      · exact .inr ⟨b, 0, _, true, vs, by rw [c33, l1], hb, h0, fun i r hi => by rw [Nat.zero_add]; obtain ⟨u, h1, h2, _⟩ := l2 i r hi; exact ⟨u, h1, h2⟩⟩
    · obtain ⟨i, hi, rfl⟩ := List.getElem_of_mem hc
      obtain ⟨_, _, _, h3⟩ := l2 i _ (List.getElem?_eq_getElem hi)
      exact h3
theorem take1 {vs : List AV} {i : Nat} {x : AV} (h : (vs.drop (i * 1)).take 1 = [x]) : vs[0 + i * 1]? = some x := by
  have : ((vs.drop (i * 1)).take 1)[0]? = some x := by rw [h]; rfl
  rw [List.getElem?_take_of_lt (by omega), List.getElem?_drop] at this
  rw [Nat.zero_add]; simpa using this
theorem has_names {k : Nat} {d : DataW X} {v : AV} (h : Has Tryz.prog H (k + 2) 40 d [v]) : ∃ l, NamesAt H v l := by
  unfold Has at h
  rw [u40] at h
  rcases h with ⟨_, e⟩ | ⟨_, e⟩ | ⟨b, es, sp, vs, rfl, _, e, hb, hl, hx⟩
  · cases e; exact ⟨[], .inl ⟨rfl, rfl, rfl⟩⟩
  · cases e; exact ⟨[], .inl ⟨rfl, rfl, rfl⟩⟩
  · cases e
    rw [c9] at hl hx
    obtain ⟨l, l1, l2⟩ := build_list (α := Nm) (P := fun i s => (vs.drop (i * 1)).take 1 = [.str s]) es.length fun i hi => by
      obtain ⟨x, hxi⟩ : ∃ x, (es ++ sp)[i]? = some x := ⟨_, List.getElem?_eq_getElem (by rw [List.length_append]; omega)⟩
      have h1 := hx i x hxi
      unfold Has at h1
      rw [u9] at h1
      obtain ⟨s, _, _, e0⟩ := h1
      exact ⟨s, e0⟩
    refine ⟨l, ?_⟩
    by_cases h0 : l = []
    · subst h0
      exact .inl ⟨rfl, by rw [← l1]; rfl, rfl⟩
    · exact .inr ⟨b, 0, _, true, vs, by rw [c9, l1], hb, .inl rfl, h0, fun i s hi => take1 (l2 i s hi)⟩
theorem has_lists {k : Nat} {d : DataW X} {v : AV} (h : Has Tryz.prog H (k + 6) 41 d [v]) : ∃ L, LlsAt H v L ∧ ∀ l ∈ L, ∀ c ∈ l, I64 c.2.1 := by
  unfold Has at h
  rw [u41] at h
  rcases h with ⟨_, e⟩ | ⟨_, e⟩ | ⟨b, es, sp, vs, rfl, _, e, hb, hl, hx⟩
  · cases e; exact ⟨[], ⟨rfl, fun i l h => by simp at h⟩, fun c hc => by cases hc⟩
  · cases e; exact ⟨[], ⟨rfl, fun i l h => by simp at h⟩, fun c hc => by cases hc⟩
  · cases e
    rw [c23] at hl hx
    obtain ⟨L, l1, l2⟩ := build_list (α := List Ch) (P := fun i l => ∃ sv, (vs.drop (i * 1)).take 1 = [sv] ∧ ChsAt H sv l ∧ ∀ c ∈ l, I64 c.2.1) es.length fun i hi => by
      obtain ⟨x, hxi⟩ : ∃ x, (es ++ sp)[i]? = some x := ⟨_, List.getElem?_eq_getElem (by rw [List.length_append]; omega)⟩
      have h1 := hx i x hxi
      have hlen : ((vs.drop (i * 1)).take 1).length = 1 := by rw [List.length_take, List.length_drop]; omega
      match hm : (vs.drop (i * 1)).take 1, hlen with
      | [sv], _ =>
        rw [hm] at h1
        obtain ⟨l, q1, q2⟩ := has_changes64 h1
        exact ⟨l, sv, rfl, q1, q2⟩
    refine ⟨L, ⟨?_, fun i l hi => ?_⟩, fun l hl2 => ?_⟩
    · rw [c23]; show some es.length = _; rw [l1]
    · obtain ⟨sv, q1, q2, _⟩ := l2 i l hi
      exact ⟨b, 0, _, true, vs, sv, by rw [c23, l1], hb, take1 q1, q2⟩
    · obtain ⟨i, hi, rfl⟩ := List.getElem_of_mem hl2
      obtain ⟨_, _, _, h3⟩ := l2 i _ (List.getElem?_eq_getElem hi)
      exact h3
end
end Go.Proofs.YtapokkpdgfpokaaGreat
