/- Log: numbers as texts and back, where the listed variables lie as the program lays them; no other condition. -/
import Derived.Test.YtgihociajfgohaaGreatDoorPureNames
import Derived.Test.YtgihociajfgohaaGreatDoorKeys2
import Derived.Lib.AppendIntMem
import Derived.Lib.AtoiErrMem
set_option linter.unusedSimpArgs false
set_option linter.unusedVariables false
open Go Go.AB Go.Proofs
namespace Go.Proofs.YtgihociajfgohaaGreatDoor
set_option maxRecDepth 100000

/-! What holds where no variable is known holds where some are. -/
theorem _root_.Go.AB.R.down {N G : Nat} {ρ : Names} {H : AH} {w : World} (h : R N G ρ H w) : R N 0 ρ H w := { h with glob := fun g hg => absurd hg (by omega), gn := Nat.zero_le _ }
theorem _root_.Go.AB.R.lift {N G : Nat} {ρ ρ' : Names} {H H' : AH} {w w' : World} (h : R N G ρ H w) (hF : Fr ρ H w ρ' H' w') (h' : R N 0 ρ' H' w') : R N G ρ' H' w' :=
  { h' with glob := fun g hg => by rw [hF.same g (Nat.lt_of_lt_of_le hg h.gn)]; exact h.glob g hg, gn := Nat.le_trans h.gn hF.next }
theorem _root_.Go.AB.AC.up {C : Ctx} {N G : Nat} {f : FuncId} {args : List AV} {H : AH} {Q : AV → AH → Prop} (h : AC C N 0 f args H Q) : AC C N G f args H Q := fun ρ w vs hR hv =>
  (h ρ w vs hR.down hv).mono fun e w' ⟨v, ρ', r, H', q, he, h1, h2, h3⟩ => ⟨v, ρ', r, H', q, he, h1, hR.lift h3 h2, h3⟩

/-- The variables of the library: two errors, the powers of ten. -/
structure Gl (H : AH) : Prop where
  e0 : ∃ t, H.get 0 = some (.full [.iface t .junk])
  e1 : ∃ t, H.get 1 = some (.full [.iface t .junk])
  tab : H.get 2 = some (.full (Lib.pow10Tab.map fun z => .int .u64 z))
theorem Gl.keep {H K : AH} (h : Gl H) (hk : ∀ b x, H.get b = some x → K.get b = some x) : Gl K :=
  ⟨let ⟨t, ht⟩ := h.e0; ⟨t, hk _ _ ht⟩, let ⟨t, ht⟩ := h.e1; ⟨t, hk _ _ ht⟩, hk _ _ h.tab⟩

theorem glob_block {N : Nat} {ρ : Names} {H : AH} {w : World} (hR : R N 5 ρ H w) {g : Nat} (hg : g < 5) {vs : List AV} (h : H.get g = some (.full vs)) : ∃ c e fr, w.heap[g]? = some (.cells c e fr) ∧ c.size = vs.length ∧ CellsR ρ vs c 0 := by
  obtain ⟨s, h1, h2, h3, c, e, fr, h4, h5, h6⟩ := hR.obj g _ h
  obtain ⟨room, h7⟩ := hR.glob g hg
  rw [h7] at h1; cases h1
  exact ⟨c, e, fr, h4, h5, h6⟩
theorem glob_err {N : Nat} {ρ : Names} {H : AH} {w : World} (hR : R N 5 ρ H w) {g : Nat} (hg : g < 5) {t : TypeId} (h : H.get g = some (.full [.iface t .junk])) : ∃ y, w.cell? ⟨g, 0, none⟩ = some (.iface t y) := by
  obtain ⟨c, e, fr, h1, h2, h3⟩ := glob_block hR hg h
  obtain ⟨v, hv, hr⟩ := h3 0 _ rfl
  simp only [VR] at hr
  obtain ⟨y, rfl, _⟩ := hr
  exact ⟨y, by simp only [World.cell?, h1]; simpa using hv⟩
theorem glob_tab {N : Nat} {ρ : Names} {H : AH} {w : World} (hR : R N 5 ρ H w) (h : Gl H) : Lib.TabIs Tryz.prog w "internal/strconv.uint64pow10" .u64 Lib.pow10Tab := by
  obtain ⟨c, e, fr, h1, h2, h3⟩ := glob_block hR (show 2 < 5 by omega) h.tab
  have hg : Tryz.prog.globalNamed "internal/strconv.uint64pow10" = some 2 := by kernel_rfl
  unfold Lib.TabIs World.var?
  rw [hg]
  simp only [Option.bind_some, h1]
  congr 1
  apply Array.ext'
  apply List.ext_getElem?
  intro i
  rw [List.length_map] at h2
  by_cases hi : i < Lib.pow10Tab.length
  · obtain ⟨v, hv, hr⟩ := h3 i (.int .u64 Lib.pow10Tab[i]) (by rw [List.getElem?_map, List.getElem?_eq_getElem hi]; rfl)
    simp only [VR] at hr
    subst hr
    rw [List.getElem?_map, List.getElem?_eq_getElem hi, Array.getElem?_toList]
    simpa using hv
  · rw [List.getElem?_eq_none (by simp; omega), List.getElem?_eq_none (by simp; omega)]

theorem vrs_one {ρ : Names} {a : AV} {vs : List Value} (h : VRs ρ [a] vs) : ∃ v, vs = [v] ∧ VR ρ a v := by
  simp only [VRs] at h
  obtain ⟨v, vs', rfl, h1, rfl⟩ := h
  exact ⟨v, rfl, h1⟩

theorem itoa36 (N : Nat) (H : AH) (hG : Gl H) {n : Nat} (hn : n < 1000000000) : AC tC N 5 36 [.int .i64 (n : Int)] H fun r K => r = .str (Lib.decDigits n) ∧ K = H := fun ρ w vs hR hv => by
  obtain ⟨v, rfl, hx⟩ := vrs_one hv
  obtain rfl : v = _ := hx
  have h := Any.strconv_Itoa Tryz.itoa36 (n : Int) (by omega) (by omega) w (glob_tab hR hG)
  rw [Lib.itoa_nonneg] at h
  refine (show Calls tC.P 36 ⟨[.int .i64 (n : Int)]⟩ w _ from h).mono ?_
  rintro e w' ⟨rfl, k, os, rfl⟩
  obtain ⟨r1, r2⟩ := hR.below (Lib.below_grow w.heap.size w (Nat.le_refl _) k os)
  exact ⟨_, ρ, .str (Lib.decDigits n), H, ⟨rfl, rfl⟩, rfl, by simp only [VR], r1, r2⟩

theorem atoi34 (N : Nat) (H : AH) (hG : Gl H) {s : Nm} (hs : s.length ≤ 1000000) : AC tC N 5 34 [.str s] H fun r K => ((∃ v, Lib.atoiAll s = .ok v ∧ r = .tuple [.int .i64 v, .nili]) ∨ ((∀ v, Lib.atoiAll s ≠ .ok v) ∧ ∃ (k : Int) (t : TypeId), r = .tuple [.int .i64 k, .iface t .junk])) ∧ K = H := fun ρ w vs hR hv => by
  obtain ⟨v, rfl, hx⟩ := vrs_one hv
  obtain rfl : v = _ := hx
  have hsz : (ByteArray.mk s.toArray).size = s.length := by simp [ByteArray.size]
  have hd : (ByteArray.mk s.toArray).data.toList = s := by simp
  rcases ha : Lib.atoiAll s with v | _ | _
  · have h := Any.strconv_Atoi_ok Tryz.atoi34 ⟨s.toArray⟩ (by rw [hsz]; omega) v (by rw [hd]; exact ha) w
    refine (show Calls tC.P 34 ⟨[.string ⟨s.toArray⟩]⟩ w _ from h).mono ?_
    rintro e w' ⟨rfl, hw⟩
    have hb : RowKit.Below w.heap.size w w' := by
      rcases hw with rfl | ⟨t, rfl⟩
      · exact RowKit.Below.refl _ _
      · exact Lib.bytesWorld_below _ _ _
    obtain ⟨r1, r2⟩ := hR.below hb
    exact ⟨_, ρ, _, H, ⟨.inl ⟨v, rfl, rfl⟩, rfl⟩, rfl, by simp only [VR]; exact ⟨_, rfl, VRs.cons (by simp only [VR]) (VRs.cons (by simp only [VR]) VRs.nil)⟩, r1, r2⟩
  · obtain ⟨t, ht⟩ := hG.e0
    obtain ⟨y, hy⟩ := glob_err hR (show 0 < 5 by omega) ht
    have h := Any.strconv_Atoi_syntax Tryz.atoi34 ⟨s.toArray⟩ (by rw [hsz]; omega) (by rw [hd]; exact ha) _ w hy (.inr ⟨_, _, rfl⟩)
    refine (show Calls tC.P 34 ⟨[.string ⟨s.toArray⟩]⟩ w _ from h).mono ?_
    rintro e w' ⟨b, rfl, _, _, hb⟩
    obtain ⟨r1, r2⟩ := hR.below hb
    exact ⟨_, ρ, .tuple [.int .i64 0, .iface (Tryz.atoi34_ren.t 168) .junk], H, ⟨.inr ⟨(fun v e => by cases e), _, _, rfl⟩, rfl⟩, rfl, by simp only [VR]; exact ⟨_, rfl, VRs.cons (by simp only [VR]) (VRs.cons (by simp only [VR]; exact ⟨_, rfl, trivial⟩) VRs.nil)⟩, r1, r2⟩
  · obtain ⟨t, ht⟩ := hG.e1
    obtain ⟨y, hy⟩ := glob_err hR (show 1 < 5 by omega) ht
    have h := Any.strconv_Atoi_range Tryz.atoi34 ⟨s.toArray⟩ (by rw [hsz]; omega) (by rw [hd]; exact ha) _ w hy (.inr ⟨_, _, rfl⟩)
    refine (show Calls tC.P 34 ⟨[.string ⟨s.toArray⟩]⟩ w _ from h).mono ?_
    rintro e w' ⟨b, rfl, _, _, hb⟩
    obtain ⟨r1, r2⟩ := hR.below hb
    exact ⟨_, ρ, .tuple [.int .i64 (Lib.atoiSat s), .iface (Tryz.atoi34_ren.t 168) .junk], H, ⟨.inr ⟨(fun v e => by cases e), _, _, rfl⟩, rfl⟩, rfl, by simp only [VR]; exact ⟨_, rfl, VRs.cons (by simp only [VR]) (VRs.cons (by simp only [VR]; exact ⟨_, rfl, trivial⟩) VRs.nil)⟩, r1, r2⟩

set_option maxHeartbeats 1000000 in
theorem file9g (N : Nat) (H : AH) (hG : Gl H) (s : Nm) (n : Int) (hs : s.length ≤ 1000000) : AC tC N 5 9 [.str s, .int .i64 n] H fun r K => r = .tuple [.str (fileM s n).1, .int .i64 (fileM s n).2] ∧ K = H := by
  refine AC.by (n := 22) (rs := [.tmp 4, .tmp 5]) tOK fn9 rfl rfl rfl rfl ?_
  have e0 : (PT.ofList .leaf 0 [AV.str s, AV.int .i64 n]).get 0 = some (.str s) := rfl
  have e1 : (PT.ofList .leaf 0 [AV.str s, AV.int .i64 n]).get 1 = some (.int .i64 n) := rfl
  with_reducible repeat' (first
    | refine AW.seq ?_
    | refine AW.region ?_
    | refine AOs.nil ?_
    | refine andThen_normal ?_
    | ((first
        | refine AOs.op1E tOK (by with_unfolding_all rfl) ?_
        ); refine Step.mk (by simp only [evOp_move, evOp_assign, aeval, ofVal, PT.get_set, Nat.reduceEqDiff, reduceIte, e0]; rfl) ?_)
    | fail "stop")
  refine AOs.callQ tOK (fs := []) (cs := []) rfl fn35 ok35 rfl (by simp only [List.map_cons, List.map_nil, List.nil_append, List.append_nil, aeval, PT.get_set, Nat.reduceEqDiff, reduceIte] <;> rfl) (AC.up (right35a N H s)) ?_
  rintro r K ⟨rfl, rfl⟩
  cases hr : rightB s with
  | false =>
    have hf : fileM s n = ([], 2) := by rw [fileM, if_neg (by rw [hr]; simp)]
    rw [hf]
    with_reducible repeat' (first
      | refine AW.seq ?_
      | refine AW.region ?_
      | refine AOs.nil ?_
      | refine AW.ret ?_
      | refine andThen_normal ?_
      | refine andThen_ret ?_
      | refine AOs.guardF (by with_unfolding_all rfl) (by simp only [PT.get_set, Nat.reduceEqDiff, reduceIte]; rfl) (by first | rfl | decide | assumption) (by with_unfolding_all rfl) ?_
      | refine AW.condT (by simp only [aeval, PT.get_set, Nat.reduceEqDiff, reduceIte]; rfl) (by first | rfl | decide | assumption) ?_
      | ((first
          | refine AOs.op1E tOK (by with_unfolding_all rfl) ?_
          ); refine Step.mk (by simp only [evOp_move, evOp_assign, evOp_pick, evOp_not, aeval, ofVal, PT.get_set, Nat.reduceEqDiff, reduceIte, cond_true, Bool.not_false, eq_self]; rfl) ?_)
      | fail "stop")
    exact fnPost_ret2 (by first | (simp only [PT.get_set, Nat.reduceEqDiff, reduceIte]; rfl) | simp only [PT.get_set, Nat.reduceEqDiff, reduceIte]) (by first | (simp only [PT.get_set, Nat.reduceEqDiff, reduceIte]; rfl) | simp only [PT.get_set, Nat.reduceEqDiff, reduceIte]) ⟨rfl, rfl⟩
  | true =>
    by_cases h1 : n < 1
    · have d1 : decide (n < 1) = true := decide_eq_true h1
      have hf : fileM s n = ([], 2) := by rw [fileM, if_neg (by omega)]
      rw [hf]
      with_reducible repeat' (first
        | refine AW.seq ?_
        | refine AW.region ?_
        | refine AOs.nil ?_
        | refine AW.ret ?_
        | refine andThen_normal ?_
        | refine andThen_ret ?_
        | refine AOs.guardT (by with_unfolding_all rfl) (by simp only [PT.get_set, Nat.reduceEqDiff, reduceIte]; rfl) (by first | rfl | decide | assumption) ?_
        | refine AOs.guardF (by with_unfolding_all rfl) (by simp only [PT.get_set, Nat.reduceEqDiff, reduceIte]; rfl) (by first | rfl | decide | assumption) (by with_unfolding_all rfl) ?_
        | refine AW.condT (by simp only [aeval, PT.get_set, Nat.reduceEqDiff, reduceIte]; rfl) (by first | rfl | decide | assumption) ?_
        | ((first
            | refine AOs.op1E tOK (by with_unfolding_all rfl) ?_
            ); refine Step.mk (by simp only [evOp_move, evOp_assign, evOp_pick, evOp_binOp, evOp_not, aeval, ofVal, PT.get_set, Nat.reduceEqDiff, reduceIte, Option.map_some, abin_lss, cond_true, cond_false, Bool.not_true, eq_self, e1, d1]; rfl) ?_)
        | fail "stop")
      exact fnPost_ret2 (by first | (simp only [PT.get_set, Nat.reduceEqDiff, reduceIte]; rfl) | simp only [PT.get_set, Nat.reduceEqDiff, reduceIte]) (by first | (simp only [PT.get_set, Nat.reduceEqDiff, reduceIte]; rfl) | simp only [PT.get_set, Nat.reduceEqDiff, reduceIte]) ⟨rfl, rfl⟩
    · have d1 : decide (n < 1) = false := decide_eq_false h1
      by_cases h2 : 999999 < n
      · have d2 : decide (999999 < n) = true := decide_eq_true h2
        have hf : fileM s n = ([], 2) := by rw [fileM, if_neg (by omega)]
        rw [hf]
        with_reducible repeat' (first
          | refine AW.seq ?_
          | refine AW.region ?_
          | refine AOs.nil ?_
          | refine AW.ret ?_
          | refine andThen_normal ?_
          | refine andThen_ret ?_
          | refine AOs.guardT (by with_unfolding_all rfl) (by simp only [PT.get_set, Nat.reduceEqDiff, reduceIte]; rfl) (by first | rfl | decide | assumption) ?_
          | refine AW.condT (by simp only [aeval, PT.get_set, Nat.reduceEqDiff, reduceIte]; rfl) (by first | rfl | decide | assumption) ?_
          | ((first
              | refine AOs.op1E tOK (by with_unfolding_all rfl) ?_
              ); refine Step.mk (by simp only [evOp_move, evOp_assign, evOp_pick, evOp_binOp, evOp_not, aeval, ofVal, PT.get_set, Nat.reduceEqDiff, reduceIte, Option.map_some, abin_lss, abin_gtr, cond_false, Bool.not_true, eq_self, e1, d1, d2]; rfl) ?_)
          | fail "stop")
        exact fnPost_ret2 (by first | (simp only [PT.get_set, Nat.reduceEqDiff, reduceIte]; rfl) | simp only [PT.get_set, Nat.reduceEqDiff, reduceIte]) (by first | (simp only [PT.get_set, Nat.reduceEqDiff, reduceIte]; rfl) | simp only [PT.get_set, Nat.reduceEqDiff, reduceIte]) ⟨rfl, rfl⟩
      · have d2 : decide (999999 < n) = false := decide_eq_false h2
        have hf : fileM s n = (s ++ ([45] ++ Lib.decDigits n.toNat), 0) := by rw [fileM, if_pos ⟨hr, by omega, by omega⟩]
        rw [hf]
        obtain ⟨m, rfl⟩ : ∃ m : Nat, n = (m : Int) := ⟨n.toNat, by omega⟩
        have hlen := (decDigits_len m (by omega)).1
        have ha1 : ∀ t cst, abin tC .add t cst (.str s) (.str [45]) = some (.str (s ++ [45])) := fun t cst => add9 (by simp; omega)
        have ha2 : ∀ t cst, abin tC .add t cst (.str (s ++ [45])) (.str (Lib.decDigits m)) = some (.str (s ++ [45] ++ Lib.decDigits m)) := fun t cst => add9 (by simp; omega)
        with_reducible repeat' (first
          | refine AW.seq ?_
          | refine AW.region ?_
          | refine AOs.nil ?_
          | refine AW.skip ?_
          | refine andThen_normal ?_
          | refine AOs.guardT (by with_unfolding_all rfl) (by simp only [PT.get_set, Nat.reduceEqDiff, reduceIte]; rfl) (by first | rfl | decide | assumption) ?_
          | refine AW.condF (by simp only [aeval, PT.get_set, Nat.reduceEqDiff, reduceIte]; rfl) (by first | rfl | decide | assumption) ?_
          | ((first
              | refine AOs.op1E tOK (by with_unfolding_all rfl) ?_
              ); refine Step.mk (by simp only [evOp_move, evOp_pick, evOp_binOp, evOp_not, aeval, ofVal, PT.get_set, Nat.reduceEqDiff, reduceIte, Option.map_some, abin_lss, abin_gtr, cond_false, Bool.not_true, eq_self, e0, e1, d1, d2, ha1]; rfl) ?_)
          | fail "stop")
        refine AOs.callQ tOK (fs := []) (cs := []) rfl fn36 ok36 rfl (by simp only [List.map_cons, List.map_nil, List.nil_append, List.append_nil, aeval, PT.get_set, Nat.reduceEqDiff, reduceIte] <;> rfl) (itoa36 N K hG (by omega)) ?_
        rintro r K ⟨rfl, rfl⟩
        with_reducible repeat' (first
          | refine AOs.nil ?_
          | refine AW.ret ?_
          | refine andThen_normal ?_
          | ((first
              | refine AOs.op1E tOK (by with_unfolding_all rfl) ?_
              ); refine Step.mk (by simp only [evOp_assign, evOp_binOp, aeval, ofVal, PT.get_set, Nat.reduceEqDiff, reduceIte, Option.map_some, eq_self, ha2]; rfl) ?_)
          | fail "stop")
        exact fnPost_ret2 (by first | (simp only [PT.get_set, Nat.reduceEqDiff, reduceIte]; rfl) | simp only [PT.get_set, Nat.reduceEqDiff, reduceIte]) (by first | (simp only [PT.get_set, Nat.reduceEqDiff, reduceIte]; rfl) | simp only [PT.get_set, Nat.reduceEqDiff, reduceIte]) ⟨by rw [List.append_assoc, Int.toNat_natCast], rfl⟩

theorem fileM_cases (s : Nm) (n : Int) : (fileM s n = ([], 2) ∧ ¬ (rightB s = true ∧ 1 ≤ n ∧ n ≤ 999999)) ∨ ∃ m : Nat, n = (m : Int) ∧ rightB s = true ∧ 1 ≤ m ∧ m ≤ 999999 ∧ fileM s n = (s ++ ([45] ++ Lib.decDigits m), 0) := by
  by_cases h : rightB s = true ∧ 1 ≤ n ∧ n ≤ 999999
  · exact .inr ⟨n.toNat, by omega, h.1, by omega, by omega, by rw [fileM, if_pos h]⟩
  · exact .inl ⟨by rw [fileM, if_neg h], h⟩

set_option maxHeartbeats 2000000 in
theorem of8g (N : Nat) (H : AH) (hG : Gl H) (s file : Nm) (hs : s.length ≤ 900000) (hf : file.length ≤ 1000000) : AC tC N 5 8 [.str s, .str file] H fun r K => r = .tuple [.int .i64 (ofM s file).1, .bool (ofM s file).2] ∧ K = H := by
  refine AC.by (n := 44) (rs := [.tmp 4, .tmp 5]) tOK fn8 rfl rfl rfl rfl ?_
  have e0 : (PT.ofList .leaf 0 [AV.str s, AV.str file]).get 0 = some (.str s) := rfl
  have e1 : (PT.ofList .leaf 0 [AV.str s, AV.str file]).get 1 = some (.str file) := rfl
  have ha1 : ∀ t cst, abin tC .add t cst (.str s) (.str [45]) = some (.str (s ++ [45])) := fun t cst => add9 (by simp; omega)
  with_reducible repeat' (first
    | refine AW.seq ?_
    | refine AW.region ?_
    | refine AOs.nil ?_
    | refine andThen_normal ?_
    | ((first
        | refine AOs.op1E tOK (by with_unfolding_all rfl) ?_
        ); refine Step.mk (by simp only [evOp_move, evOp_assign, evOp_binOp, aeval, ofVal, PT.get_set, Nat.reduceEqDiff, reduceIte, Option.map_some, eq_self, e0, e1, ha1]; rfl) ?_)
    | fail "stop")
  refine AOs.callQ tOK (fs := []) (cs := []) rfl fn33 ok33 rfl (by simp only [List.map_cons, List.map_nil, List.nil_append, List.append_nil, aeval, PT.get_set, Nat.reduceEqDiff, reduceIte] <;> rfl) (AC.up (cut33 N H file (s ++ [45]))) ?_
  rintro r K ⟨rfl, rfl⟩
  by_cases hp : (s ++ [45]) <+: file
  case neg =>
    rw [if_neg hp, ofM_no (fun h => hp h.2.1)]
    with_reducible repeat' (first
      | refine AW.seq ?_
      | refine AW.region ?_
      | refine AOs.nil ?_
      | refine AW.ret ?_
      | refine andThen_normal ?_
      | refine andThen_ret ?_
      | refine AW.condT (by simp only [aeval, PT.get_set, Nat.reduceEqDiff, reduceIte]; rfl) (by first | rfl | decide | assumption) ?_
      | ((first
          | refine AOs.op1E tOK (by with_unfolding_all rfl) ?_
          ); refine Step.mk (by simp only [evOp_move, evOp_assign, evOp_not, evOp_extract, aeval, ofVal, PT.get_set, Nat.reduceEqDiff, reduceIte, Option.map_some, Bool.not_false, List.getElem?_cons_zero, List.getElem?_cons_succ, eq_self]; rfl) ?_)
      | fail "stop")
    exact fnPost_ret2 (by first | (simp only [PT.get_set, Nat.reduceEqDiff, reduceIte]; rfl) | simp only [PT.get_set, Nat.reduceEqDiff, reduceIte]) (by first | (simp only [PT.get_set, Nat.reduceEqDiff, reduceIte]; rfl) | simp only [PT.get_set, Nat.reduceEqDiff, reduceIte]) ⟨rfl, rfl⟩
  rw [if_pos hp, show (s ++ [45] : Nm).length = s.length + 1 from by simp]
  obtain ⟨t, ht⟩ : ∃ t, t = file.drop (s.length + 1) := ⟨_, rfl⟩
  rw [← ht]
  have hfile : file = s ++ ([45] ++ t) := by rw [ht]; exact behind hp
  have htl : t.length ≤ 1000000 := by rw [ht, List.length_drop]; omega
  have hno : (∀ v : Nat, 1 ≤ v → v ≤ 999999 → Lib.decDigits v ≠ t) → ofM s file = (0, false) := fun h => ofM_no fun ⟨_, _, h1, h2, h3⟩ => h _ h1 h2 (by rw [h3, ht])
  with_reducible repeat' (first
    | refine AW.seq ?_
    | refine AW.region ?_
    | refine AOs.nil ?_
    | refine AW.skip ?_
    | refine andThen_normal ?_
    | refine AW.condF (by simp only [aeval, PT.get_set, Nat.reduceEqDiff, reduceIte]; rfl) (by first | rfl | decide | assumption) ?_
    | ((first
        | refine AOs.op1E tOK (by with_unfolding_all rfl) ?_
        ); refine Step.mk (by simp only [evOp_move, evOp_assign, evOp_not, evOp_extract, aeval, PT.get_set, Nat.reduceEqDiff, reduceIte, Option.map_some, Bool.not_true, List.getElem?_cons_zero, List.getElem?_cons_succ, eq_self]; rfl) ?_)
    | fail "stop")
  refine AOs.callQ tOK (fs := []) (cs := []) rfl fn34 ok34 rfl (by simp only [List.map_cons, List.map_nil, List.nil_append, List.append_nil, aeval, PT.get_set, Nat.reduceEqDiff, reduceIte] <;> rfl) (atoi34 N K hG htl) ?_
  rintro r K ⟨hr, rfl⟩
  have hsc : ∀ t, (isC (Operand.tmp t) || isC (Operand.const Value.nilIface)) = true := fun _ => rfl
  rcases hr with ⟨v, hv, rfl⟩ | ⟨hv, k, ty, rfl⟩
  · with_reducible repeat' (first
      | refine AW.seq ?_
      | refine AW.region ?_
      | refine AOs.nil ?_
      | refine andThen_normal ?_
      | ((first
          | refine AOs.op1E tOK (by with_unfolding_all rfl) ?_
          ); refine Step.mk (by simp only [evOp_move, evOp_assign, evOp_extract, aeval, PT.get_set, Nat.reduceEqDiff, reduceIte, Option.map_some, List.getElem?_cons_zero, List.getElem?_cons_succ, eq_self, e0]; rfl) ?_)
      | fail "stop")
    refine AOs.callQ tOK (fs := []) (cs := []) rfl fn9 ok9 rfl (by simp only [List.map_cons, List.map_nil, List.nil_append, List.append_nil, aeval, PT.get_set, Nat.reduceEqDiff, reduceIte] <;> rfl) (file9g N K hG s v (by omega)) ?_
    rintro r K ⟨rfl, rfl⟩
    have hq0 : abin tC .neq 57 true .nili .nili = some (.bool false) := by simp only [abin, eqRes, aeq, ti57, Option.map_some, cond_true, Bool.not_true]
    rcases fileM_cases s v with ⟨hfm, hbad⟩ | ⟨m, rfl, hri, h1, h2, hfm⟩
    · rw [hfm, ofM_no (fun ⟨hri, _, h1, h2, h3⟩ => by
        have := atoi_dec (n := valN (file.drop (s.length + 1))) (by omega)
        rw [h3, ← ht, hv] at this
        have hu : v = ((valN t : Nat) : Int) := by injection this
        rw [← ht] at h1 h2
        exact hbad ⟨hri, by omega, by omega⟩)]
      with_reducible repeat' (first
        | refine AW.seq ?_
        | refine AW.region ?_
        | refine AOs.nil ?_
        | refine AW.ret ?_
        | refine andThen_normal ?_
        | refine andThen_ret ?_
        | refine AOs.guardT (by with_unfolding_all rfl) (by simp only [PT.get_set, Nat.reduceEqDiff, reduceIte]; rfl) (by first | rfl | decide | assumption) ?_
        | refine AOs.guardF (by with_unfolding_all rfl) (by simp only [PT.get_set, Nat.reduceEqDiff, reduceIte]; rfl) (by first | rfl | decide | assumption) (by with_unfolding_all rfl) ?_
        | refine AW.condT (by simp only [aeval, PT.get_set, Nat.reduceEqDiff, reduceIte]; rfl) (by first | rfl | decide | assumption) ?_
        | ((first
            | refine AOs.op1E tOK (by with_unfolding_all rfl) ?_
            ); refine Step.mk (by simp only [evOp_move, evOp_assign, evOp_pick, evOp_binOp, evOp_extract, aeval, ofVal, PT.get_set, Nat.reduceEqDiff, reduceIte, Option.map_some, abin_neq, cond_true, cond_false, decide_false, Bool.not_false, List.getElem?_cons_zero, List.getElem?_cons_succ, eq_self, Int.reduceEq, hsc, hq0]; rfl) ?_)
        | fail "stop")
      exact fnPost_ret2 (by first | (simp only [PT.get_set, Nat.reduceEqDiff, reduceIte]; rfl) | simp only [PT.get_set, Nat.reduceEqDiff, reduceIte]) (by first | (simp only [PT.get_set, Nat.reduceEqDiff, reduceIte]; rfl) | simp only [PT.get_set, Nat.reduceEqDiff, reduceIte]) ⟨rfl, rfl⟩
    · rw [hfm]
      by_cases hq : s ++ ([45] ++ Lib.decDigits m) = file
      · have q1 : decide (s ++ ([45] ++ Lib.decDigits m) = file) = true := decide_eq_true hq
        have hdd : Lib.decDigits m = t := by rw [hfile] at hq; simpa using hq
        have hom : ofM s file = ((m : Int), true) := by
          unfold ofM
          rw [← ht, ← hdd, dec_val, if_pos ⟨hri, hp, h1, h2, rfl⟩]
        rw [hom]
        with_reducible repeat' (first
          | refine AW.seq ?_
          | refine AW.region ?_
          | refine AOs.nil ?_
          | refine AW.skip ?_
          | refine AW.ret ?_
          | refine andThen_normal ?_
          | refine AOs.guardT (by with_unfolding_all rfl) (by simp only [PT.get_set, Nat.reduceEqDiff, reduceIte]; rfl) (by first | rfl | decide | assumption) ?_
          | refine AW.condF (by simp only [aeval, PT.get_set, Nat.reduceEqDiff, reduceIte]; rfl) (by first | rfl | decide | assumption) ?_
          | ((first
              | refine AOs.op1E tOK (by with_unfolding_all rfl) ?_
              ); refine Step.mk (by simp only [evOp_move, evOp_assign, evOp_pick, evOp_binOp, evOp_extract, aeval, ofVal, PT.get_set, Nat.reduceEqDiff, reduceIte, Option.map_some, abin_neq, abin_neqS, cond_false, decide_true, Bool.not_true, List.getElem?_cons_zero, List.getElem?_cons_succ, eq_self, e1, hsc, hq0, q1]; rfl) ?_)
          | fail "stop")
        exact fnPost_ret2 (by first | (simp only [PT.get_set, Nat.reduceEqDiff, reduceIte]; rfl) | simp only [PT.get_set, Nat.reduceEqDiff, reduceIte]) (by first | (simp only [PT.get_set, Nat.reduceEqDiff, reduceIte]; rfl) | simp only [PT.get_set, Nat.reduceEqDiff, reduceIte]) ⟨rfl, rfl⟩
      · have q1 : decide (s ++ ([45] ++ Lib.decDigits m) = file) = false := decide_eq_false hq
        rw [hno (fun u g1 g2 e => by
          have := atoi_dec (n := u) (by omega)
          rw [e, hv] at this
          have hu : m = u := by injection this with this; omega
          subst hu
          exact hq (by rw [e, hfile]))]
        with_reducible repeat' (first
          | refine AW.seq ?_
          | refine AW.region ?_
          | refine AOs.nil ?_
          | refine AW.ret ?_
          | refine andThen_normal ?_
          | refine andThen_ret ?_
          | refine AOs.guardT (by with_unfolding_all rfl) (by simp only [PT.get_set, Nat.reduceEqDiff, reduceIte]; rfl) (by first | rfl | decide | assumption) ?_
          | refine AW.condT (by simp only [aeval, PT.get_set, Nat.reduceEqDiff, reduceIte]; rfl) (by first | rfl | decide | assumption) ?_
          | ((first
              | refine AOs.op1E tOK (by with_unfolding_all rfl) ?_
              ); refine Step.mk (by simp only [evOp_move, evOp_assign, evOp_pick, evOp_binOp, evOp_extract, aeval, ofVal, PT.get_set, Nat.reduceEqDiff, reduceIte, Option.map_some, abin_neq, abin_neqS, cond_false, decide_true, Bool.not_true, Bool.not_false, List.getElem?_cons_zero, List.getElem?_cons_succ, eq_self, e1, hsc, hq0, q1]; rfl) ?_)
          | fail "stop")
        exact fnPost_ret2 (by first | (simp only [PT.get_set, Nat.reduceEqDiff, reduceIte]; rfl) | simp only [PT.get_set, Nat.reduceEqDiff, reduceIte]) (by first | (simp only [PT.get_set, Nat.reduceEqDiff, reduceIte]; rfl) | simp only [PT.get_set, Nat.reduceEqDiff, reduceIte]) ⟨rfl, rfl⟩
  · with_reducible repeat' (first
      | refine AW.seq ?_
      | refine AW.region ?_
      | refine AOs.nil ?_
      | refine andThen_normal ?_
      | ((first
          | refine AOs.op1E tOK (by with_unfolding_all rfl) ?_
          ); refine Step.mk (by simp only [evOp_move, evOp_assign, evOp_extract, aeval, PT.get_set, Nat.reduceEqDiff, reduceIte, Option.map_some, List.getElem?_cons_zero, List.getElem?_cons_succ, eq_self, e0]; rfl) ?_)
      | fail "stop")
    refine AOs.callQ tOK (fs := []) (cs := []) rfl fn9 ok9 rfl (by simp only [List.map_cons, List.map_nil, List.nil_append, List.append_nil, aeval, PT.get_set, Nat.reduceEqDiff, reduceIte] <;> rfl) (file9g N K hG s k (by omega)) ?_
    rintro r K ⟨rfl, rfl⟩
    have hq0 : abin tC .neq 57 true (.iface ty .junk) .nili = some (.bool true) := by simp only [abin, eqRes, aeq, ti57, Option.map_some, Bool.not_false]
    rw [hno (fun u h1 h2 e => hv u (by rw [← e]; exact atoi_dec (by omega)))]
    with_reducible repeat' (first
      | refine AW.seq ?_
      | refine AW.region ?_
      | refine AOs.nil ?_
      | refine AW.ret ?_
      | refine andThen_normal ?_
      | refine andThen_ret ?_
      | refine AOs.guardF (by with_unfolding_all rfl) (by simp only [PT.get_set, Nat.reduceEqDiff, reduceIte]; rfl) (by first | rfl | decide | assumption) (by with_unfolding_all rfl) ?_
      | refine AW.condT (by simp only [aeval, PT.get_set, Nat.reduceEqDiff, reduceIte]; rfl) (by first | rfl | decide | assumption) ?_
      | ((first
          | refine AOs.op1E tOK (by with_unfolding_all rfl) ?_
          ); refine Step.mk (by simp only [evOp_move, evOp_assign, evOp_pick, evOp_binOp, evOp_extract, aeval, ofVal, PT.get_set, Nat.reduceEqDiff, reduceIte, Option.map_some, cond_true, List.getElem?_cons_zero, List.getElem?_cons_succ, eq_self, hsc, hq0]; rfl) ?_)
      | fail "stop")
    exact fnPost_ret2 (by first | (simp only [PT.get_set, Nat.reduceEqDiff, reduceIte]; rfl) | simp only [PT.get_set, Nat.reduceEqDiff, reduceIte]) (by first | (simp only [PT.get_set, Nat.reduceEqDiff, reduceIte]; rfl) | simp only [PT.get_set, Nat.reduceEqDiff, reduceIte]) ⟨rfl, rfl⟩
end Go.Proofs.YtgihociajfgohaaGreatDoor
