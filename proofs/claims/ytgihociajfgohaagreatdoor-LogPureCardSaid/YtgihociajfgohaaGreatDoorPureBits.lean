/- Log: the document sums bytes bit by bit; its frames; no condition. -/
import Derived.Test.YtgihociajfgohaaGreatDoorDisk1
import Derived.Test.YtgihociajfgohaaGreatDoorLog3
set_option linter.unusedSimpArgs false
set_option linter.unusedVariables false
open Go Go.AB Go.Proofs
namespace Go.Proofs.YtgihociajfgohaaGreatDoor
theorem fn4 : tC.fn 4 = some Tryz.f4 := by kernel_rfl
theorem ok4 : fnOk Tryz.f4 = true := by kernel_rfl
theorem fn12 : tC.fn 12 = some Tryz.f12 := by kernel_rfl
theorem ok12 : fnOk Tryz.f12 = true := by kernel_rfl
theorem fn13 : tC.fn 13 = some Tryz.f13 := by kernel_rfl
theorem ok13 : fnOk Tryz.f13 = true := by kernel_rfl
theorem fn16 : tC.fn 16 = some Tryz.f16 := by kernel_rfl
theorem ok16 : fnOk Tryz.f16 = true := by kernel_rfl
theorem fn41 : tC.fn 41 = some Tryz.f41 := by kernel_rfl
theorem ok41 : fnOk Tryz.f41 = true := by kernel_rfl
theorem fn42 : tC.fn 42 = some Tryz.f42 := by kernel_rfl
theorem ok42 : fnOk Tryz.f42 = true := by kernel_rfl
theorem fn44 : tC.fn 44 = some Tryz.f44 := by kernel_rfl
theorem ok44 : fnOk Tryz.f44 = true := by kernel_rfl
theorem fn75 : tC.fn 75 = some Tryz.f75 := by kernel_rfl
theorem ok75 : fnOk Tryz.f75 = true := by kernel_rfl
theorem fn76 : tC.fn 76 = some Tryz.f76 := by kernel_rfl
theorem ok76 : fnOk Tryz.f76 = true := by kernel_rfl
theorem fn59 : tC.fn 59 = some Tryz.f59 := by kernel_rfl
theorem ok59 : fnOk Tryz.f59 = true := by kernel_rfl
theorem fn91 : tC.fn 91 = some Tryz.f91 := by kernel_rfl
theorem ok91 : fnOk Tryz.f91 = true := by kernel_rfl
theorem fn108 : tC.fn 108 = some Tryz.f108 := by kernel_rfl
theorem ok108 : fnOk Tryz.f108 = true := by kernel_rfl
theorem fn33 : tC.fn 33 = some Tryz.f33 := by kernel_rfl
theorem ok33 : fnOk Tryz.f33 = true := by kernel_rfl
theorem fn56 : tC.fn 56 = some Tryz.f56 := by kernel_rfl
theorem ok56 : fnOk Tryz.f56 = true := by kernel_rfl
theorem fn85 : tC.fn 85 = some Tryz.f85 := by kernel_rfl
theorem ok85 : fnOk Tryz.f85 = true := by kernel_rfl
theorem fn34 : tC.fn 34 = some Tryz.f34 := by kernel_rfl
theorem ok34 : fnOk Tryz.f34 = true := by kernel_rfl
theorem ti99 : tC.ti 99 = some ⟨.int Go.IntKind.u64, 1, 8, (some (.int Go.IntKind.u64 (.ofNat 0))), true⟩ := by kernel_rfl
theorem ld99 (H : AH) (b k : Nat) : aload tC H 99 (.ptr b k) = cellAt H b k := aload_one ti99 rfl
theorem st99 (H : AH) (b o : Nat) (v : AV) (hv : v.one = true) : astore tC H 99 (.ptr b o) v = storeAt H b o v := astore_one ti99 rfl H b o v hv
theorem cv5_3 (H : AH) (k' : IntKind) (n : Int) : convOp tC H 5 3 (.int k' n) = some (.int Go.IntKind.i64 (IntKind.wrap Go.IntKind.i64 n), H) := conv_int ti5 ti3 rfl H k' n
theorem cv3_5 (H : AH) (k' : IntKind) (n : Int) : convOp tC H 3 5 (.int k' n) = some (.int Go.IntKind.u8 (IntKind.wrap Go.IntKind.u8 n), H) := conv_int ti3 ti5 rfl H k' n
theorem cv3_99 (H : AH) (k' : IntKind) (n : Int) : convOp tC H 3 99 (.int k' n) = some (.int Go.IntKind.u64 (IntKind.wrap Go.IntKind.u64 n), H) := conv_int ti3 ti99 rfl H k' n
theorem cv96_99 (H : AH) (k' : IntKind) (n : Int) : convOp tC H 96 99 (.int k' n) = some (.int Go.IntKind.u64 (IntKind.wrap Go.IntKind.u64 n), H) := conv_int ti96 ti99 rfl H k' n

end Go.Proofs.YtgihociajfgohaaGreatDoor

open Go Go.AB Go.Proofs
namespace Go.Proofs.YtgihociajfgohaaGreatDoor
set_option maxRecDepth 100000

/-! Eight steps of a sum are one of the table's. -/
theorem st_xor (a b : Nat) : st (a ^^^ b) = st a ^^^ st b := by
  have hm : (a ^^^ b) % 2 = a % 2 ^^^ b % 2 := Nat.xor_mod_two_pow (n := 1)
  have hd : (a ^^^ b) / 2 = a / 2 ^^^ b / 2 := Nat.xor_div_two
  unfold st
  rw [hm, hd]
  rcases Nat.mod_two_eq_zero_or_one a with ha | ha <;> rcases Nat.mod_two_eq_zero_or_one b with hb | hb <;> rw [ha, hb]
  · rfl
  · simp only [show (0 ^^^ 1 : Nat) = 1 from rfl, if_true, show ¬ (0 : Nat) = 1 from by decide, if_false, Nat.xor_assoc]
  · simp only [show (1 ^^^ 0 : Nat) = 1 from rfl, if_true, show ¬ (0 : Nat) = 1 from by decide, if_false]
    rw [Nat.xor_assoc, Nat.xor_assoc, Nat.xor_comm 2197175160]
  · simp only [show (1 ^^^ 1 : Nat) = 0 from rfl, if_true, show ¬ (0 : Nat) = 1 from by decide, if_false]
    rw [Nat.xor_assoc, Nat.xor_comm 2197175160 (b / 2 ^^^ 2197175160), Nat.xor_assoc, Nat.xor_self, Nat.xor_zero]
theorem stN_xor : ∀ (j a b : Nat), stN j (a ^^^ b) = stN j a ^^^ stN j b
  | 0, _, _ => rfl
  | j + 1, a, b => by simp only [stN, stN_xor j a b, st_xor]
theorem st_even (m : Nat) : st (2 * m) = m := by
  unfold st
  rw [if_neg (by omega)]; omega
theorem stN_hi (k : Nat) : stN 8 (k * 256) = k := by
  have h : k * 256 = 2 * (2 * (2 * (2 * (2 * (2 * (2 * (2 * k))))))) := by omega
  rw [h]
  simp only [stN, st_even]
theorem hi_lo (y : Nat) : y = y / 256 * 256 ^^^ y % 256 := by
  apply Nat.eq_of_testBit_eq
  intro i
  rw [Nat.testBit_xor, show (256 : Nat) = 2 ^ 8 from rfl, Nat.testBit_mul_two_pow, Nat.testBit_mod_two_pow, Nat.testBit_div_two_pow]
  by_cases h : i < 8
  · simp [h, show ¬ 8 ≤ i by omega]
  · simp [h, show 8 ≤ i by omega, show i - 8 + 8 = i by omega]
theorem crcStep_bits (x : Nat) (c : UInt8) : stN 8 (x ^^^ c.toNat) = crcStep x c := by
  have h1 : (x ^^^ c.toNat) / 256 = x / 256 := by
    have := Nat.xor_div_two_pow (a := x) (b := c.toNat) (n := 8)
    rw [show (2 : Nat) ^ 8 = 256 from rfl, Nat.div_eq_of_lt c.toNat_lt, Nat.xor_zero] at this
    exact this
  have h2 : (x ^^^ c.toNat) % 256 = x % 256 ^^^ c.toNat := by
    have := Nat.xor_mod_two_pow (a := x) (b := c.toNat) (n := 8)
    rw [show (2 : Nat) ^ 8 = 256 from rfl, Nat.mod_eq_of_lt c.toNat_lt] at this
    exact this
  rw [hi_lo (x ^^^ c.toNat), stN_xor, stN_hi, h1, h2]; rfl

theorem rem32 (cst : Bool) (t : TypeId) (x : Nat) : abin tC .rem t cst (.int .u32 (x : Int)) (.int .u32 2) = some (.int .u32 ((x % 2 : Nat) : Int)) := by
  rw [abin_rem (by decide), show ((2 : Int)) = ((2 : Nat) : Int) from rfl, ← Int.ofNat_tmod]
theorem quo32 (cst : Bool) (t : TypeId) {x : Nat} (h : x < 4294967296) : abin tC .quo t cst (.int .u32 (x : Int)) (.int .u32 2) = some (.int .u32 ((x / 2 : Nat) : Int)) := by
  rw [abin_quo (by decide), show ((2 : Int)) = ((2 : Nat) : Int) from rfl, ← Int.ofNat_tdiv, wrapU32 (by omega)]

set_option maxHeartbeats 4000000 in
theorem sum76 (N : Nat) (H : AH) {v : AV} {ls : List (List UInt8)} (h : RowsAt H v ls) (hl : ls.length ≤ 1000000) (hb : ∀ l ∈ ls, l.length ≤ 1000000000000) : AC tC N 0 76 [v] H fun r K => r = .int .u32 (crcM ls.flatten : Nat) ∧ K = H := by
  refine AC.by (n := 47) (rs := [.tmp 2]) tOK fn76 rfl rfl rfl rfl ?_
  have e0 : (PT.ofList .leaf 0 [v]).get 0 = some v := rfl
  have hlt := h.len
  with_reducible repeat' (first
    | refine AW.seq ?_
    | refine AW.region ?_
    | refine AW.block ?_
    | refine AOs.nil ?_
    | refine andThen_normal ?_
    | ((first
        | refine AOs.op1E tOK (by with_unfolding_all rfl) ?_
        ); refine Step.mk (by simp only [evOp_assign, aeval, ofVal]; rfl) ?_)
    | fail "stop")
  refine AW.loop (fun m T L => L = H ∧ T.get 0 = some v ∧ ∃ i : Nat, i ≤ ls.length ∧ m = ls.length - i ∧ T.get 4 = some (.int .i64 (i : Nat)) ∧ T.get 3 = some (.int .u32 ((crcFold (ls.take i).flatten 4294967295 : Nat) : Int))) ?_ (ls.length - 0)
    ⟨rfl, by simp [PT.get_set, e0], 0, by omega, rfl, by simp [PT.get_set], by simp [PT.get_set, crcFold]⟩
  rintro m T L ⟨rfl, g0, i, hi, rfl, g4, g3⟩
  have hx0 := crcFold_lt (ls.take i).flatten (x := 4294967295) (by omega)
  by_cases hil : i < ls.length
  · have hd := lt_int hil
    obtain ⟨l, hli⟩ : ∃ l, ls[i]? = some l := ⟨_, List.getElem?_eq_getElem hil⟩
    have hlb := hb l (List.mem_of_getElem? hli)
    rcases h with ⟨_, h1⟩ | ⟨b, o, c, ro, ws, rfl, hbg, hw⟩
    · rw [h1] at hil; simp at hil
    obtain ⟨u, hu, hB⟩ := hw i l hli
    have hul := hB.len
    with_reducible repeat' (first
      | refine AW.seq ?_
      | refine AW.region ?_
      | refine AW.block ?_
      | refine AOs.nil ?_
      | refine AW.skip ?_
      | refine andThen_normal ?_
      | refine AW.condT (by simp only [aeval, PT.get_set, Nat.reduceEqDiff, reduceIte]; rfl) (by first | rfl | decide | assumption) ?_
      | ((first
          | refine AOs.op1E tOK (by with_unfolding_all rfl) ?_
          ); refine Step.mk (by simp only [evOp_move, evOp_assign, evOp_binOp, evOp_len, aeval, ofVal, PT.get_set, Nat.reduceEqDiff, reduceIte, Option.map_some, abin_lss, eq_self, al28, g0, g4, hlt, hd]; rfl) ?_)
      | fail "stop")
    refine AW.loop (fun m T M => M = L ∧ T.get 0 = some (.slice b o ls.length c 1) ∧ T.get 4 = some (.int .i64 (i : Nat)) ∧ ∃ j : Nat, j ≤ l.length ∧ m = l.length - j ∧ T.get 5 = some (.int .i64 (j : Nat)) ∧ T.get 3 = some (.int .u32 ((crcFold (l.take j) (crcFold (ls.take i).flatten 4294967295) : Nat) : Int))) ?_ (l.length - 0)
      ⟨rfl, by simp [PT.get_set, g0], by simp [PT.get_set, g4], 0, by omega, rfl, by simp [PT.get_set], by simp [PT.get_set, g3, crcFold]⟩
    rintro m T M ⟨rfl, g0, g4, j, hj, rfl, g5, g3⟩
    obtain ⟨x, hx⟩ : ∃ x, x = crcFold (l.take j) (crcFold (ls.take i).flatten 4294967295) := ⟨_, rfl⟩
    rw [← hx] at g3
    have hxl : x < 4294967296 := by rw [hx]; exact crcFold_lt _ hx0
    by_cases hjl : j < l.length
    · have hd2 := lt_int hjl
      obtain ⟨cc, hcc⟩ : ∃ cc, l[j]? = some cc := ⟨_, List.getElem?_eq_getElem hjl⟩
      obtain ⟨ub, uo, ucp, uro, uvs, rfl, hug, hua⟩ := BytesAt.at hB hcc
      have hw0 := wrapU32 (n := cc.toNat) (by have := cc.toNat_lt; omega)
      have hx32 : ∀ t cst, abin tC .xor t cst (.int .u32 (x : Int)) (.int .u32 ((cc.toNat : Nat) : Int)) = some (.int .u32 ((x ^^^ cc.toNat : Nat) : Int)) := fun t cst => abin_xor32 hxl (by have := cc.toNat_lt; omega)
      have hyl : x ^^^ cc.toNat < 4294967296 := Nat.xor_lt_two_pow (n := 32) hxl (by have := cc.toNat_lt; omega)
      with_reducible repeat' (first
        | refine AW.seq ?_
        | refine AW.region ?_
        | refine AW.block ?_
        | refine AOs.nil ?_
        | refine AW.skip ?_
        | refine andThen_normal ?_
        | refine AW.condT (by simp only [aeval, PT.get_set, Nat.reduceEqDiff, reduceIte]; rfl) (by first | rfl | decide | assumption) ?_
        | ((first
            | refine AOs.op1E tOK (by with_unfolding_all rfl) ?_
            ); refine Step.mk (by simp only [evOp_move, evOp_assign, evOp_binOp, evOp_indexAddr, evOp_load, evOp_len, evOp_convert, aeval, ofVal, PT.get_set, Nat.reduceEqDiff, reduceIte, cellAt, Option.map_some, abin_lss, eq_self, ld5, ix28, al32, ix32, ld32, cv5_96, g0, g3, g4, g5, hil, hbg, hu, hul, hd2, hjl, hug, hua, cv5_96, hw0, hx32]; rfl) ?_)
        | fail "stop")
      refine AW.loop (fun m T' K' => K' = M ∧ T'.get 0 = some (.slice b o ls.length c 1) ∧ T'.get 4 = some (.int .i64 (i : Nat)) ∧ T'.get 5 = some (.int .i64 (j : Nat)) ∧ ∃ k : Nat, k ≤ 8 ∧ m = 8 - k ∧ T'.get 6 = some (.int .i64 (k : Nat)) ∧ T'.get 3 = some (.int .u32 ((stN k (x ^^^ cc.toNat) : Nat) : Int))) ?_ (8 - 0)
        ⟨rfl, by simp [PT.get_set, g0], by simp [PT.get_set, g4], by simp [PT.get_set, g5], 0, by omega, rfl, by simp [PT.get_set], by simp [PT.get_set, stN]⟩
      rintro m T K' ⟨rfl, g0, g4, g5, k, hk, rfl, g6, g3⟩
      have hs := stN_lt k hyl
      have hs2 : stN k (x ^^^ cc.toNat) / 2 < 4294967296 := by omega
      have hrm : ∀ cst t, abin tC .rem t cst (.int .u32 ((stN k (x ^^^ cc.toNat) : Nat) : Int)) (.int .u32 2) = some (.int .u32 ((stN k (x ^^^ cc.toNat) % 2 : Nat) : Int)) := fun cst t => rem32 cst t _
      have hqu : ∀ cst t, abin tC .quo t cst (.int .u32 ((stN k (x ^^^ cc.toNat) : Nat) : Int)) (.int .u32 2) = some (.int .u32 ((stN k (x ^^^ cc.toNat) / 2 : Nat) : Int)) := fun cst t => quo32 cst t hs
      have hxor : ∀ t cst, abin tC .xor t cst (.int .u32 ((stN k (x ^^^ cc.toNat) / 2 : Nat) : Int)) (.int .u32 2197175160) = some (.int .u32 ((stN k (x ^^^ cc.toNat) / 2 ^^^ 2197175160 : Nat) : Int)) := fun t cst =>
        abin_xor32 (C := tC) (t := t) (cst := cst) (m := 2197175160) hs2 (by decide)
      by_cases hkl : k < 8
      · have hkd : decide ((k : Int) < 8) = true := by simp; omega
        by_cases ho : stN k (x ^^^ cc.toNat) % 2 = 1
        · have hod : decide (((stN k (x ^^^ cc.toNat) % 2 : Nat) : Int) = 1) = true := by rw [ho]; rfl
          with_reducible repeat' (first
            | refine AW.seq ?_
            | refine AW.region ?_
            | refine AW.block ?_
            | refine AOs.nil ?_
            | refine AW.skip ?_
            | refine andThen_normal ?_
            | refine inBlock_normal ?_
            | refine AW.condT (by simp only [aeval, PT.get_set, Nat.reduceEqDiff, reduceIte]; rfl) (by first | rfl | decide | assumption) ?_
            | ((first
                | refine AOs.op1E tOK (by with_unfolding_all rfl) ?_
                ); refine Step.mk (by simp only [evOp_move, evOp_assign, evOp_binOp, aeval, ofVal, PT.get_set, Nat.reduceEqDiff, reduceIte, Option.map_some, abin_add, abin_lss, abin_eql, eq_self, g3, g6, hkd, hrm, hqu, hxor, hod]; rfl) ?_)
            | fail "stop")
          refine ⟨8 - (k + 1), by omega, rfl, by simp [PT.get_set, g0], by simp [PT.get_set, g4], by simp [PT.get_set, g5], k + 1, by omega, rfl, ?_, ?_⟩
          · simp only [PT.get_set, Nat.reduceEqDiff, reduceIte, wrap64_succ (show k < 9223372036854775807 by omega)]
          · simp only [PT.get_set, Nat.reduceEqDiff, reduceIte, stN, st, ho]
        · have hod : decide (((stN k (x ^^^ cc.toNat) % 2 : Nat) : Int) = 1) = false := by simp; omega
          with_reducible repeat' (first
            | refine AW.seq ?_
            | refine AW.region ?_
            | refine AW.block ?_
            | refine AOs.nil ?_
            | refine AW.skip ?_
            | refine andThen_normal ?_
            | refine inBlock_normal ?_
            | refine AW.condT (by simp only [aeval, PT.get_set, Nat.reduceEqDiff, reduceIte]; rfl) (by first | rfl | decide | assumption) ?_
            | refine AW.condF (by simp only [aeval, PT.get_set, Nat.reduceEqDiff, reduceIte]; rfl) (by first | rfl | decide | assumption) ?_
            | ((first
                | refine AOs.op1E tOK (by with_unfolding_all rfl) ?_
                ); refine Step.mk (by simp only [evOp_move, evOp_assign, evOp_binOp, aeval, ofVal, PT.get_set, Nat.reduceEqDiff, reduceIte, Option.map_some, abin_add, abin_lss, abin_eql, eq_self, g3, g6, hkd, hrm, hqu, hod]; rfl) ?_)
            | fail "stop")
          refine ⟨8 - (k + 1), by omega, rfl, by simp [PT.get_set, g0], by simp [PT.get_set, g4], by simp [PT.get_set, g5], k + 1, by omega, rfl, ?_, ?_⟩
          · simp only [PT.get_set, Nat.reduceEqDiff, reduceIte, wrap64_succ (show k < 9223372036854775807 by omega)]
          · simp only [PT.get_set, Nat.reduceEqDiff, reduceIte, stN, st, ho]
      · have hkd : decide ((k : Int) < 8) = false := by simp; omega
        obtain rfl : k = 8 := by omega
        with_reducible repeat' (first
          | refine AW.seq ?_
          | refine AW.region ?_
          | refine AOs.nil ?_
          | refine AW.exit ?_
          | refine andThen_normal ?_
          | refine andThen_exit ?_
          | refine inBlock_normal ?_
          | refine inBlock_hit ?_
          | refine AW.condF (by simp only [aeval, PT.get_set, Nat.reduceEqDiff, reduceIte]; rfl) (by first | rfl | decide | assumption) ?_
          | ((first
              | refine AOs.op1E tOK (by with_unfolding_all rfl) ?_
              ); refine Step.mk (by simp only [evOp_move, evOp_assign, evOp_binOp, aeval, ofVal, PT.get_set, Nat.reduceEqDiff, reduceIte, Option.map_some, abin_add, abin_lss, decide_false, eq_self, Int.cast_ofNat_Int, Int.reduceLT, g5, g6]; rfl) ?_)
          | fail "stop")
        refine ⟨l.length - (j + 1), by omega, rfl, by simp [PT.get_set, g0], by simp [PT.get_set, g4], j + 1, by omega, rfl, ?_, ?_⟩
        · simp only [PT.get_set, Nat.reduceEqDiff, reduceIte, wrap64_succ (show j < 9223372036854775807 by omega)]
        · rw [crcFold_take hcc, ← hx, ← crcStep_bits]; simp only [PT.get_set, Nat.reduceEqDiff, reduceIte, g3]
    · have hd2 := nlt_int hjl
      obtain rfl : j = l.length := by omega
      with_reducible repeat' (first
        | refine AW.seq ?_
        | refine AW.region ?_
        | refine AOs.nil ?_
        | refine AW.exit ?_
        | refine andThen_normal ?_
        | refine andThen_exit ?_
        | refine inBlock_normal ?_
        | refine inBlock_hit ?_
        | refine AW.condF (by simp only [aeval, PT.get_set, Nat.reduceEqDiff, reduceIte]; rfl) (by first | rfl | decide | assumption) ?_
        | ((first
            | refine AOs.op1E tOK (by with_unfolding_all rfl) ?_
            ); refine Step.mk (by simp only [evOp_move, evOp_assign, evOp_binOp, evOp_indexAddr, evOp_load, evOp_len, aeval, ofVal, PT.get_set, Nat.reduceEqDiff, reduceIte, cellAt, Option.map_some, abin_add, abin_lss, eq_self, ix28, al32, ld32, g0, g4, g5, hil, hbg, hu, hul, hd2]; rfl) ?_)
        | fail "stop")
      refine ⟨ls.length - (i + 1), by omega, rfl, by simp [PT.get_set, g0], i + 1, by omega, rfl, ?_, ?_⟩
      · simp only [PT.get_set, Nat.reduceEqDiff, reduceIte, wrap64_succ (show i < 9223372036854775807 by omega)]
      · have e : (some l).toList.flatten = l := by simp
        rw [List.take_length] at hx
        rw [List.take_add_one, hli, List.flatten_append, crcFold_app, e, ← hx]
        simp only [PT.get_set, Nat.reduceEqDiff, reduceIte, g3]
  · have hd := nlt_int hil
    obtain rfl : i = ls.length := by omega
    have hcp := compl32_int hx0
    with_reducible repeat' (first
      | refine AW.seq ?_
      | refine AW.region ?_
      | refine AOs.nil ?_
      | refine AW.exit ?_
      | refine AW.ret ?_
      | refine andThen_normal ?_
      | refine andThen_exit ?_
      | refine inBlock_hit ?_
      | refine AW.condF (by simp only [aeval, PT.get_set, Nat.reduceEqDiff, reduceIte]; rfl) (by first | rfl | decide | assumption) ?_
      | ((first
          | refine AOs.op1E tOK (by with_unfolding_all rfl) ?_
          ); refine Step.mk (by simp only [evOp_move, evOp_assign, evOp_binOp, evOp_len, aeval, PT.get_set, Nat.reduceEqDiff, reduceIte, Option.map_some, abin_lss, eq_self, al28, g0, g3, g4, hlt, hd, evOp_compl, hcp, Option.isSome_some]; rfl) ?_)
      | fail "stop")
    rw [List.take_length]
    exact fnPost_ret1 (by first | (simp only [PT.get_set, Nat.reduceEqDiff, reduceIte]; rfl) | simp only [PT.get_set, Nat.reduceEqDiff, reduceIte]) ⟨rfl, rfl⟩

set_option maxHeartbeats 4000000 in
theorem told75 (N : Nat) (H : AH) {v : AV} {l : List UInt8} (h : BytesAt H v l) (h4 : 4 ≤ l.length) : AC tC N 0 75 [v] H fun r K => r = .int .u32 (toldM l : Nat) ∧ K = H := by
  refine AC.by (n := 25) (rs := [.tmp 2]) tOK fn75 rfl rfl rfl rfl ?_
  have e0 : (PT.ofList .leaf 0 [v]).get 0 = some v := rfl
  have hg : ∀ j, j < 4 → l[j]? = some (l.getD j 0) := fun j hj => by rw [List.getD_eq_getElem?_getD, List.getElem?_eq_getElem (by omega)]; rfl
  obtain ⟨b, o, cp, ro, vs, rfl, hb, v0⟩ := BytesAt.at h (hg 0 (by omega))
  have key : ∀ j, j < 4 → vs[o + j]? = some (.int .u8 ((l.getD j 0).toNat : Nat)) := fun j hj => by
    obtain ⟨b', o', cp', ro', vs', e, hb', v1⟩ := BytesAt.at h (hg j hj)
    cases e
    rw [hb] at hb'; cases hb'
    rwa [Nat.mul_one] at v1
  have k0 := key 0 (by omega)
  have k1 := key 1 (by omega)
  have k2 := key 2 (by omega)
  have k3 := key 3 (by omega)
  have x0 : ∀ k, aindexAddr tC 32 (.slice b o l.length cp 1) (.int k 0) = some (.ptr b (o + 0)) := fun k => by simpa using ix32 b o l.length 1 0 cp k (by omega)
  have x1 : ∀ k, aindexAddr tC 32 (.slice b o l.length cp 1) (.int k 1) = some (.ptr b (o + 1)) := fun k => by simpa using ix32 b o l.length 1 1 cp k (by omega)
  have x2 : ∀ k, aindexAddr tC 32 (.slice b o l.length cp 1) (.int k 2) = some (.ptr b (o + 2)) := fun k => by simpa using ix32 b o l.length 1 2 cp k (by omega)
  have x3 : ∀ k, aindexAddr tC 32 (.slice b o l.length cp 1) (.int k 3) = some (.ptr b (o + 3)) := fun k => by simpa using ix32 b o l.length 1 3 cp k (by omega)
  have b0 := (l.getD 0 0).toNat_lt
  have b1 := (l.getD 1 0).toNat_lt
  have b2 := (l.getD 2 0).toNat_lt
  have b3 := (l.getD 3 0).toNat_lt
  rw [toldM_eq]
  generalize (l.getD 0 0).toNat = c0 at *
  generalize (l.getD 1 0).toNat = c1 at *
  generalize (l.getD 2 0).toNat = c2 at *
  generalize (l.getD 3 0).toNat = c3 at *
  have w0 := wrapU32 (n := c0) (by omega)
  have w1 := wrapU32 (n := c1) (by omega)
  have w2 := wrapU32 (n := c2) (by omega)
  have w3 := wrapU32 (n := c3) (by omega)
  have s1 : ∀ cst k', abin tC .shl 96 cst (.int .u32 (c1 : Int)) (.int k' 8) = some (.int .u32 ((c1 * 256 : Nat) : Int)) := fun cst k' => abin_shl32 (m := 8) (by omega) (by omega)
  have s2 : ∀ cst k', abin tC .shl 96 cst (.int .u32 (c2 : Int)) (.int k' 16) = some (.int .u32 ((c2 * 65536 : Nat) : Int)) := fun cst k' => abin_shl32 (m := 16) (by omega) (by omega)
  have s3 : ∀ cst k', abin tC .shl 96 cst (.int .u32 (c3 : Int)) (.int k' 24) = some (.int .u32 ((c3 * 16777216 : Nat) : Int)) := fun cst k' => abin_shl32 (m := 24) (by omega) (by omega)
  have a1 : IntKind.wrap .u32 ((c0 : Int) + ((c1 * 256 : Nat) : Int)) = ((c0 + c1 * 256 : Nat) : Int) := by rw [show ((c0 : Int) + ((c1 * 256 : Nat) : Int)) = ((c0 + c1 * 256 : Nat) : Int) by omega]; exact wrapU32 (by omega)
  have a2 : IntKind.wrap .u32 (((c0 + c1 * 256 : Nat) : Int) + ((c2 * 65536 : Nat) : Int)) = ((c0 + c1 * 256 + c2 * 65536 : Nat) : Int) := by rw [show (((c0 + c1 * 256 : Nat) : Int) + ((c2 * 65536 : Nat) : Int)) = ((c0 + c1 * 256 + c2 * 65536 : Nat) : Int) by omega]; exact wrapU32 (by omega)
  have a3 : IntKind.wrap .u32 (((c0 + c1 * 256 + c2 * 65536 : Nat) : Int) + ((c3 * 16777216 : Nat) : Int)) = ((c0 + c1 * 256 + c2 * 65536 + c3 * 16777216 : Nat) : Int) := by rw [show (((c0 + c1 * 256 + c2 * 65536 : Nat) : Int) + ((c3 * 16777216 : Nat) : Int)) = ((c0 + c1 * 256 + c2 * 65536 + c3 * 16777216 : Nat) : Int) by omega]; exact wrapU32 (by omega)
  rw [Nat.add_zero] at k0
  with_reducible repeat' (first
    | refine AW.seq ?_
    | refine AW.region ?_
    | refine AOs.nil ?_
    | refine AW.ret ?_
    | refine andThen_normal ?_
    | refine AW.drawT tOK (by with_unfolding_all rfl) (by simp only [pickAll, Nat.reduceAdd]; rfl) ?_
    | refine DN.nil tOK ?_
    | ((first
        | refine DN.fl1E (by with_unfolding_all rfl) (by with_unfolding_all rfl) ?_
        | refine DN.rd1E (by kernel_rfl) (by with_unfolding_all rfl) ?_
        ); refine Step.mk (by simp only [evOp_move, evOp_assign, evOp_binOp, evOp_indexAddr, evOp_load, evOp_convert, aeval, ofVal, PT.get_set, Nat.reduceEqDiff, reduceIte, cellAt, Option.map_some, abin_add, Nat.add_zero, eq_self, ld5, cv5_96, e0, x0, x1, x2, x3, hb, k0, k1, k2, k3, cv5_96, w0, w1, w2, w3, s1, s2, s3, a1, a2, a3]; rfl) ?_; refine Same.mk ?_)
    | ((first
        | refine AOs.op1E tOK (by with_unfolding_all rfl) ?_
        ); refine Step.mk (by simp only [evOp_assign, aeval, ofVal]; rfl) ?_)
    | fail "stop")
  exact fnPost_ret1 (by first | (simp only [PT.get_set, Nat.reduceEqDiff, reduceIte]; rfl) | simp only [PT.get_set, Nat.reduceEqDiff, reduceIte]) ⟨rfl, rfl⟩
end Go.Proofs.YtgihociajfgohaaGreatDoor

open Go Go.AB Go.Proofs
namespace Go.Proofs.YtgihociajfgohaaGreatDoor
set_option maxRecDepth 100000

theorem wrapU64 {n : Nat} (h : n < 18446744073709551616) : IntKind.wrap .u64 (n : Int) = (n : Int) := by
  unfold IntKind.wrap
  simp [IntKind.signed, IntKind.bits, BitVec.toNat_ofInt]
  omega

set_option maxHeartbeats 4000000 in
theorem unframe44 (N : Nat) (H : AH) {v : AV} {b : List UInt8} (h : BE H v b) (hl : b.length ≤ 100000000) :
    AC tC N 0 44 [v] H fun r K => ∃ p, r = .tuple [p, .int .i64 ((unframeM b).2.1 : Nat), .int .i64 (unframeM b).2.2] ∧ BytesAt K p (unframeM b).1 ∧ p.one = true ∧ (∀ b x, H.get b = some x → K.get b = some x) ∧ H.next ≤ K.next ∧ ∀ b o n c z, p = .slice b o n c z → H.next ≤ b := by
  refine AC.wf0 fun hwf => ?_
  refine AC.by (n := 48) (rs := [.tmp 2, .tmp 3, .tmp 4]) tOK fn44 rfl rfl rfl rfl ?_
  have e0 : (PT.ofList .leaf 0 [v]).get 0 = some v := rfl
  have hlen := h.bytes.len
  by_cases h4 : b.length < 4
  · have hd : decide ((4 : Int) ≤ (b.length : Nat)) = false := decide_eq_false (by omega)
    have hd2 : decide (((b.length : Nat) : Int) < 8) = true := decide_eq_true (by omega)
    have he : unframeM b = ([], 0, 5) := by rw [unframeM, if_pos h4]
    rw [he]
    with_reducible repeat' (first
      | refine AW.seq ?_
      | refine AW.region ?_
      | refine AOs.nil ?_
      | refine AW.skip ?_
      | refine AW.ret ?_
      | refine andThen_normal ?_
      | refine andThen_ret ?_
      | refine AOs.guardF (by with_unfolding_all rfl) (by simp only [PT.get_set, Nat.reduceEqDiff, reduceIte]; rfl) (by first | rfl | decide | assumption) (by with_unfolding_all rfl) ?_
      | refine AW.condT (by simp only [aeval, PT.get_set, Nat.reduceEqDiff, reduceIte]; rfl) (by first | rfl | decide | assumption) ?_
      | refine AW.condF (by simp only [aeval, PT.get_set, Nat.reduceEqDiff, reduceIte]; rfl) (by first | rfl | decide | assumption) ?_
      | ((first
          | refine AOs.op1E tOK (by with_unfolding_all rfl) ?_
          ); refine Step.mk (by simp only [evOp_move, evOp_assign, evOp_pick, evOp_binOp, evOp_len, aeval, ofVal, PT.get_set, Nat.reduceEqDiff, reduceIte, Option.map_some, abin_lss, abin_geq, cond_true, cond_false, eq_self, al32, e0, hlen, hd, hd2]; rfl) ?_)
      | fail "stop")
    exact fnPost_ret3 (by first | (simp only [PT.get_set, Nat.reduceEqDiff, reduceIte]; rfl) | simp only [PT.get_set, Nat.reduceEqDiff, reduceIte]) (by first | (simp only [PT.get_set, Nat.reduceEqDiff, reduceIte]; rfl) | simp only [PT.get_set, Nat.reduceEqDiff, reduceIte]) (by first | (simp only [PT.get_set, Nat.reduceEqDiff, reduceIte]; rfl) | simp only [PT.get_set, Nat.reduceEqDiff, reduceIte]) ⟨_, rfl, .inl ⟨.inl rfl, rfl⟩, rfl, fun _ _ h => h, Nat.le_refl _, fun _ _ _ _ _ e => by cases e⟩
  have hF : FB H v b := h.fb fun e => by rw [e] at h4; simp at h4
  have hd : decide ((4 : Int) ≤ (b.length : Nat)) = true := decide_eq_true (by omega)
  obtain ⟨sz, hsz⟩ : ∃ sz, sz = toldM b := ⟨_, rfl⟩
  have hszl : sz < 4294967296 := by rw [hsz]; exact toldM_lt b
  with_reducible repeat' (first
    | refine AW.seq ?_
    | refine AW.region ?_
    | refine AOs.nil ?_
    | refine andThen_normal ?_
    | refine AOs.guardT (by with_unfolding_all rfl) (by simp only [PT.get_set, Nat.reduceEqDiff, reduceIte]; rfl) (by first | rfl | decide | assumption) ?_
    | ((first
        | refine AOs.op1E tOK (by with_unfolding_all rfl) ?_
        ); refine Step.mk (by simp only [evOp_move, evOp_assign, evOp_binOp, evOp_len, aeval, ofVal, PT.get_set, Nat.reduceEqDiff, reduceIte, Option.map_some, abin_geq, eq_self, al32, e0, hlen, hd]; rfl) ?_)
    | fail "stop")
  refine AOs.callQ tOK (fs := []) (cs := []) rfl fn75 ok75 rfl (by simp only [List.map_cons, List.map_nil, List.nil_append, List.append_nil, aeval, PT.get_set, Nat.reduceEqDiff, reduceIte] <;> rfl) (told75 N H hF.bytes (by omega)) ?_
  rintro r K ⟨rfl, rfl⟩
  rw [← hsz]
  by_cases h5 : 4194304 < sz
  · have hd2 : decide ((4194304 : Int) < (sz : Nat)) = true := decide_eq_true (by omega)
    have he : unframeM b = ([], 0, 4) := by rw [unframeM, if_neg h4, ← hsz, if_pos h5]
    rw [he]
    with_reducible repeat' (first
      | refine AW.seq ?_
      | refine AW.region ?_
      | refine AOs.nil ?_
      | refine AW.ret ?_
      | refine andThen_normal ?_
      | refine andThen_ret ?_
      | refine AOs.guardT (by with_unfolding_all rfl) (by simp only [PT.get_set, Nat.reduceEqDiff, reduceIte]; rfl) (by first | rfl | decide | assumption) ?_
      | refine AW.condT (by simp only [aeval, PT.get_set, Nat.reduceEqDiff, reduceIte]; rfl) (by first | rfl | decide | assumption) ?_
      | ((first
          | refine AOs.op1E tOK (by with_unfolding_all rfl) ?_
          ); refine Step.mk (by simp only [evOp_assign, evOp_pick, evOp_binOp, aeval, ofVal, PT.get_set, Nat.reduceEqDiff, reduceIte, Option.map_some, abin_gtr, cond_true, eq_self, hd2]; rfl) ?_)
      | fail "stop")
    exact fnPost_ret3 (by first | (simp only [PT.get_set, Nat.reduceEqDiff, reduceIte]; rfl) | simp only [PT.get_set, Nat.reduceEqDiff, reduceIte]) (by first | (simp only [PT.get_set, Nat.reduceEqDiff, reduceIte]; rfl) | simp only [PT.get_set, Nat.reduceEqDiff, reduceIte]) (by first | (simp only [PT.get_set, Nat.reduceEqDiff, reduceIte]; rfl) | simp only [PT.get_set, Nat.reduceEqDiff, reduceIte]) ⟨_, rfl, .inl ⟨.inl rfl, rfl⟩, rfl, fun _ _ h => h, Nat.le_refl _, fun _ _ _ _ _ e => by cases e⟩
  have hd2 : decide ((4194304 : Int) < (sz : Nat)) = false := decide_eq_false (by omega)
  by_cases h8 : b.length < 8
  · have hd3 : decide (((b.length : Nat) : Int) < 8) = true := decide_eq_true (by omega)
    have he : unframeM b = ([], 0, 5) := by rw [unframeM, if_neg h4, ← hsz, if_neg h5, if_pos (by omega)]
    rw [he]
    with_reducible repeat' (first
      | refine AW.seq ?_
      | refine AW.region ?_
      | refine AOs.nil ?_
      | refine AW.skip ?_
      | refine AW.ret ?_
      | refine andThen_normal ?_
      | refine andThen_ret ?_
      | refine AOs.guardT (by with_unfolding_all rfl) (by simp only [PT.get_set, Nat.reduceEqDiff, reduceIte]; rfl) (by first | rfl | decide | assumption) ?_
      | refine AOs.guardF (by with_unfolding_all rfl) (by simp only [PT.get_set, Nat.reduceEqDiff, reduceIte]; rfl) (by first | rfl | decide | assumption) (by with_unfolding_all rfl) ?_
      | refine AW.condT (by simp only [aeval, PT.get_set, Nat.reduceEqDiff, reduceIte]; rfl) (by first | rfl | decide | assumption) ?_
      | refine AW.condF (by simp only [aeval, PT.get_set, Nat.reduceEqDiff, reduceIte]; rfl) (by first | rfl | decide | assumption) ?_
      | ((first
          | refine AOs.op1E tOK (by with_unfolding_all rfl) ?_
          ); refine Step.mk (by simp only [evOp_move, evOp_assign, evOp_pick, evOp_binOp, evOp_len, aeval, ofVal, PT.get_set, Nat.reduceEqDiff, reduceIte, Option.map_some, abin_lss, abin_gtr, cond_true, eq_self, al32, e0, hlen, hd2, hd3]; rfl) ?_)
      | fail "stop")
    exact fnPost_ret3 (by first | (simp only [PT.get_set, Nat.reduceEqDiff, reduceIte]; rfl) | simp only [PT.get_set, Nat.reduceEqDiff, reduceIte]) (by first | (simp only [PT.get_set, Nat.reduceEqDiff, reduceIte]; rfl) | simp only [PT.get_set, Nat.reduceEqDiff, reduceIte]) (by first | (simp only [PT.get_set, Nat.reduceEqDiff, reduceIte]; rfl) | simp only [PT.get_set, Nat.reduceEqDiff, reduceIte]) ⟨_, rfl, .inl ⟨.inl rfl, rfl⟩, rfl, fun _ _ h => h, Nat.le_refl _, fun _ _ _ _ _ e => by cases e⟩
  have hd3 : decide (((b.length : Nat) : Int) < 8) = false := decide_eq_false (by omega)
  have hw0 : IntKind.i64.wrap (((b.length : Nat) : Int) - 8) = ((b.length - 8 : Nat) : Int) := by rw [wrap64 (by omega) (by omega)]; omega
  have hw1 := wrapU64 (n := b.length - 8) (by omega)
  have hw2 := wrapU64 (n := sz) (by omega)
  with_reducible repeat' (first
    | refine AW.seq ?_
    | refine AW.region ?_
    | refine AOs.nil ?_
    | refine AW.skip ?_
    | refine andThen_normal ?_
    | refine AOs.guardT (by with_unfolding_all rfl) (by simp only [PT.get_set, Nat.reduceEqDiff, reduceIte]; rfl) (by first | rfl | decide | assumption) ?_
    | refine AW.condF (by simp only [aeval, PT.get_set, Nat.reduceEqDiff, reduceIte]; rfl) (by first | rfl | decide | assumption) ?_
    | ((first
        | refine AOs.op1E tOK (by with_unfolding_all rfl) ?_
        ); refine Step.mk (by simp only [evOp_move, evOp_pick, evOp_binOp, evOp_len, evOp_convert, aeval, ofVal, PT.get_set, Nat.reduceEqDiff, reduceIte, Option.map_some, abin_sub, abin_lss, abin_gtr, cond_true, eq_self, al32, cv3_99, e0, hlen, hd2, hd3, hw0, hw1, cv3_99]; rfl) ?_)
    | fail "stop")
  refine AOs.callQ tOK (fs := []) (cs := []) rfl fn75 ok75 rfl (by simp only [List.map_cons, List.map_nil, List.nil_append, List.append_nil, aeval, PT.get_set, Nat.reduceEqDiff, reduceIte] <;> rfl) (told75 N K hF.bytes (by omega)) ?_
  rintro r K ⟨rfl, rfl⟩
  rw [← hsz]
  by_cases h6 : b.length < 8 + sz
  · have hd4 : decide (((b.length - 8 : Nat) : Int) < ((sz : Nat) : Int)) = true := decide_eq_true (by omega)
    have he : unframeM b = ([], 0, 5) := by rw [unframeM, if_neg h4, ← hsz, if_neg h5, if_pos h6]
    rw [he]
    with_reducible repeat' (first
      | refine AW.seq ?_
      | refine AW.region ?_
      | refine AOs.nil ?_
      | refine AW.ret ?_
      | refine andThen_normal ?_
      | refine andThen_ret ?_
      | refine AOs.guardT (by with_unfolding_all rfl) (by simp only [PT.get_set, Nat.reduceEqDiff, reduceIte]; rfl) (by first | rfl | decide | assumption) ?_
      | refine AW.condT (by simp only [aeval, PT.get_set, Nat.reduceEqDiff, reduceIte]; rfl) (by first | rfl | decide | assumption) ?_
      | ((first
          | refine AOs.op1E tOK (by with_unfolding_all rfl) ?_
          ); refine Step.mk (by simp only [evOp_assign, evOp_pick, evOp_binOp, evOp_convert, aeval, ofVal, PT.get_set, Nat.reduceEqDiff, reduceIte, Option.map_some, abin_lss, cond_false, eq_self, cv96_99, hw2, cv96_99, hd4]; rfl) ?_)
      | fail "stop")
    exact fnPost_ret3 (by first | (simp only [PT.get_set, Nat.reduceEqDiff, reduceIte]; rfl) | simp only [PT.get_set, Nat.reduceEqDiff, reduceIte]) (by first | (simp only [PT.get_set, Nat.reduceEqDiff, reduceIte]; rfl) | simp only [PT.get_set, Nat.reduceEqDiff, reduceIte]) (by first | (simp only [PT.get_set, Nat.reduceEqDiff, reduceIte]; rfl) | simp only [PT.get_set, Nat.reduceEqDiff, reduceIte]) ⟨_, rfl, .inl ⟨.inl rfl, rfl⟩, rfl, fun _ _ h => h, Nat.le_refl _, fun _ _ _ _ _ e => by cases e⟩
  have hd4 : decide (((b.length - 8 : Nat) : Int) < ((sz : Nat) : Int)) = false := decide_eq_false (by omega)
  with_reducible repeat' (first
    | refine AW.seq ?_
    | refine AW.region ?_
    | refine AOs.nil ?_
    | refine AW.skip ?_
    | refine andThen_normal ?_
    | refine AOs.guardT (by with_unfolding_all rfl) (by simp only [PT.get_set, Nat.reduceEqDiff, reduceIte]; rfl) (by first | rfl | decide | assumption) ?_
    | refine AW.condF (by simp only [aeval, PT.get_set, Nat.reduceEqDiff, reduceIte]; rfl) (by first | rfl | decide | assumption) ?_
    | ((first
        | refine AOs.op1E tOK (by with_unfolding_all rfl) ?_
        ); refine Step.mk (by simp only [evOp_move, evOp_pick, evOp_binOp, evOp_convert, aeval, ofVal, PT.get_set, Nat.reduceEqDiff, reduceIte, Option.map_some, abin_lss, cond_false, eq_self, cv96_99, e0, hw2, cv96_99, hd4]; rfl) ?_)
    | fail "stop")
  refine AOs.callQ tOK (fs := []) (cs := []) rfl fn75 ok75 rfl (by simp only [List.map_cons, List.map_nil, List.nil_append, List.append_nil, aeval, PT.get_set, Nat.reduceEqDiff, reduceIte] <;> rfl) (told75 N K hF.bytes (by omega)) ?_
  rintro r K ⟨rfl, rfl⟩
  rw [← hsz]
  have hw3 : IntKind.i64.wrap ((sz : Nat) : Int) = (sz : Nat) := wrap64 (by omega) (by omega)
  have hw4 : IntKind.i64.wrap (((sz : Nat) : Int) + 8) = ((8 + sz : Nat) : Int) := by rw [wrap64 (by omega) (by omega)]; omega
  obtain ⟨u4, hs4, hu4⟩ := hF.sub (lo := 4) (hi := b.length) (hi' := none) (by omega) (Nat.le_refl _) rfl
  have hu4' : BytesAt K u4 (b.drop 4) := by
    have := hu4.bytes
    rwa [List.take_of_length_le (by simp)] at this
  obtain ⟨u3, hs3, hu3⟩ := hF.head' (n := 4) (by omega)
  obtain ⟨u8, hs8, hu8⟩ := hF.sub (lo := 8) (hi := 8 + sz) (hi' := some (.int .i64 ((8 + sz : Nat) : Int))) (by omega) (by omega) rfl
  rw [show 8 + sz - 8 = sz by omega] at hu8
  have hs4' : aslice tC 32 v (some (.int .i64 4)) none none = some u4 := hs4
  have hs3' : aslice tC 32 v none (some (.int .i64 4)) none = some u3 := hs3
  have hs8' : aslice tC 32 v (some (.int .i64 8)) (some (.int .i64 ((8 + sz : Nat) : Int))) none = some u8 := hs8
  with_reducible repeat' (first
    | refine AW.seq ?_
    | refine AOs.nil ?_
    | refine andThen_normal ?_
    | ((first
        | refine AOs.op1E tOK (by with_unfolding_all rfl) ?_
        ); refine Step.mk (by simp only [evOp_assign, evOp_binOp, evOp_convert, aeval, ofVal, PT.get_set, Nat.reduceEqDiff, reduceIte, Option.map_some, abin_add, eq_self, cv96_3, cv96_3, hw3, hw4]; rfl) ?_)
    | fail "stop")
  refine AW.drawN tOK (Qs := [2]) [0, 1, 2, 3, 4, 5, 6, 7, 8, 9, 10] (by kernel_rfl) (by simp only [pickL, List.getElem?_cons_zero, List.getElem?_cons_succ]; rfl) ?_
  with_reducible repeat' (first
    | ((first
        | refine DN.fl1E (by with_unfolding_all rfl) (by with_unfolding_all rfl) ?_
        | refine DN.rd1E (by kernel_rfl) (by with_unfolding_all rfl) ?_
        ); refine Step.mk (by simp only [evOp_move, evOp_slice, aeval, ofVal, PT.get_set, Nat.reduceEqDiff, reduceIte, Option.map_some, Option.map_none, eq_self, e0, hs4']; rfl) ?_; refine Same.mk ?_)
    | fail "stop")
  have htold : ∀ L : AH, (∀ b x, K.get b = some x → L.get b = some x) → AC tC N 0 75 [u4] L fun r K => r = .int .u32 (toldM (b.drop 4) : Nat) ∧ K = L := fun L hL => told75 N L (hu4'.keep fun b o c _ x hx => hL b x hx) (by rw [List.length_drop]; omega)
  refine DN.callQ (fs := []) (cs := []) rfl fn75 ok75 rfl (by simp only [List.map_cons, List.map_nil, List.nil_append, List.append_nil, aeval, PT.get_set, Nat.reduceEqDiff, reduceIte] <;> rfl) (htold K fun _ _ h => h) ?_
  generalize hK1 : K.alloc (.cells false [u3, u8]) = K1
  have st1 : ∀ b x, K.get b = some x → K1.get b = some x := fun b x hb => by rw [← hK1]; exact stay_alloc hwf _ b x hb
  have wf1 : WF K1 := by rw [← hK1]; exact wf_alloc hwf _
  have g1 : K1.get K.next = some (.cells false [u3, u8]) := by rw [← hK1, AH.get_alloc, if_pos rfl]
  have n1 : K1.next = K.next + 1 := by rw [← hK1, AH.next_alloc]
  have o3 := hu3.bytes.one
  have o8 := hu8.bytes.one
  with_reducible repeat' (first
    | ((first
        | refine DN.fl1E (by with_unfolding_all rfl) (by with_unfolding_all rfl) ?_
        | refine DN.rd1E (by kernel_rfl) (by with_unfolding_all rfl) ?_
        ); refine Step.mk (by simp only [evOp_move, evOp_slice, aeval, ofVal, PT.get_set, Nat.reduceEqDiff, reduceIte, Option.map_some, Option.map_none, eq_self, e0, hs3', hs8']; rfl) ?_; refine Same.mk ?_)
    | fail "stop")
  refine DN.actP tOK (by kernel_rfl) (by simp only [aeval, PT.get_set, Nat.reduceEqDiff, reduceIte, eq_self, bs28_2, o3, o8, hK1]; rfl) rfl ?_ ?_
  · repeat' (first | exact good_nil | refine good_cons ?_ ?_ | exact good_of (by kernel_rfl) rfl (by simp only [evOp_slice, aeval, ofVal, PT.get_set, Nat.reduceEqDiff, reduceIte, Option.map_some, Option.map_none, eq_self, hs3', hs8', hs4'] <;> rfl) 1 | fail "stop")
    exact good_callQ (fs := []) (cs := []) rfl fn75 ok75 (by simp only [List.map_cons, List.map_nil, List.nil_append, List.append_nil, aeval, PT.get_set, Nat.reduceEqDiff, reduceIte] <;> rfl) (htold K1 st1) 1
  have r2 : RowsAt K1 (.slice K.next 0 2 (.ex 2) 1) [b.take 4, (b.drop 8).take sz] := rows_of (ls := [b.take 4, (b.drop 8).take sz]) g1 rfl fun i u l' hu hl' => by
    match i with
    | 0 => simp at hu hl'; subst hu hl'; exact hu3.bytes.keep fun b o c _ x hx => st1 b x hx
    | 1 => simp at hu hl'; subst hu hl'; exact hu8.bytes.keep fun b o c _ x hx => st1 b x hx
    | i + 2 => simp at hu
  refine DN.call tOK (fs := []) (cs := []) rfl fn76 ok76 rfl (by simp only [List.map_cons, List.map_nil, List.nil_append, List.append_nil, aeval, PT.get_set, Nat.reduceEqDiff, reduceIte] <;> rfl) (sum76 N K1 r2 (by simp) (fun l' hl' => by
    simp only [List.mem_cons, List.not_mem_nil, or_false] at hl'
    rcases hl' with rfl | rfl <;> (simp only [List.length_take, List.length_drop]; omega))) (by with_unfolding_all rfl) ?_
  rintro r K2 ⟨rfl, rfl⟩
  have efl : ([b.take 4, (b.drop 8).take sz] : List (List UInt8)).flatten = b.take 4 ++ (b.drop 8).take sz := by simp
  rw [efl]
  by_cases hs : toldM (b.drop 4) = crcM (b.take 4 ++ (b.drop 8).take sz)
  · have hd5 : decide (((toldM (b.drop 4) : Nat) : Int) = ((crcM (b.take 4 ++ (b.drop 8).take sz) : Nat) : Int)) = true := decide_eq_true (by rw [hs])
    have he : unframeM b = ((b.drop 8).take sz, 8 + sz, 0) := by rw [unframeM, if_neg h4, ← hsz, if_neg h5, if_neg h6, if_pos hs]
    rw [he]
    have ha := aappend_bytesEx (C := tC) (H := K2.alloc (.cells false [])) (st := 32) (b := K2.next) (v := u8) (l := (b.drop 8).take sz) ti32 rfl ti5 rfl rfl rfl rfl ((hu8.keep st1).keep fun b x hb => stay_alloc wf1 _ b x hb).bytes (by simp only [List.length_take, List.length_drop]; omega)
    by_cases h0 : (b.drop 8).take sz = []
    · rw [if_pos h0] at ha
      with_reducible repeat' (first
        | refine AW.seq ?_
        | refine AW.region ?_
        | refine AOs.nil ?_
        | refine AW.skip ?_
        | refine AW.ret ?_
        | refine andThen_normal ?_
        | refine AW.condF (by simp only [aeval, PT.get_set, Nat.reduceEqDiff, reduceIte]; rfl) (by first | rfl | decide | assumption) ?_
        | refine DN.nil tOK ?_
        | ((first
            | refine DN.fl1E (by with_unfolding_all rfl) (by with_unfolding_all rfl) ?_
            ); refine Step.mk (by simp only [evOp_binOp, aeval, PT.get_set, Nat.reduceEqDiff, reduceIte, Option.map_some, abin_neq, Bool.not_true, eq_self, hd5]; rfl) ?_; refine Same.mk ?_)
        | ((first
            | refine AOs.op1E tOK (by with_unfolding_all rfl) ?_
            ); refine Step.mk (by simp only [evOp_move, evOp_assign, evOp_append, evOp_slice, aeval, ofVal, PT.get_set, Nat.reduceEqDiff, reduceIte, List.map_cons, List.map_nil, Option.map_some, Option.map_none, eq_self, bs32, e0, hs8', ha]; rfl) ?_)
        | fail "stop")
      exact fnPost_ret3 (by first | (simp only [PT.get_set, Nat.reduceEqDiff, reduceIte]; rfl) | simp only [PT.get_set, Nat.reduceEqDiff, reduceIte]) (by first | (simp only [PT.get_set, Nat.reduceEqDiff, reduceIte]; rfl) | simp only [PT.get_set, Nat.reduceEqDiff, reduceIte]) (by first | (simp only [PT.get_set, Nat.reduceEqDiff, reduceIte]; rfl) | simp only [PT.get_set, Nat.reduceEqDiff, reduceIte]) ⟨_, rfl, by rw [h0]; exact .inr ⟨K2.next, 0, .ex 0, false, [], rfl, by rw [AH.get_alloc, if_pos rfl], rfl⟩, rfl, fun b x hb => stay_alloc wf1 _ b x (st1 b x hb), by rw [AH.next_alloc]; omega, fun b o n c z e => by cases e; omega⟩
    · rw [if_neg h0] at ha
      with_reducible repeat' (first
        | refine AW.seq ?_
        | refine AW.region ?_
        | refine AOs.nil ?_
        | refine AW.skip ?_
        | refine AW.ret ?_
        | refine andThen_normal ?_
        | refine AW.condF (by simp only [aeval, PT.get_set, Nat.reduceEqDiff, reduceIte]; rfl) (by first | rfl | decide | assumption) ?_
        | refine DN.nil tOK ?_
        | ((first
            | refine DN.fl1E (by with_unfolding_all rfl) (by with_unfolding_all rfl) ?_
            ); refine Step.mk (by simp only [evOp_binOp, aeval, PT.get_set, Nat.reduceEqDiff, reduceIte, Option.map_some, abin_neq, Bool.not_true, eq_self, hd5]; rfl) ?_; refine Same.mk ?_)
        | ((first
            | refine AOs.op1E tOK (by with_unfolding_all rfl) ?_
            ); refine Step.mk (by simp only [evOp_move, evOp_assign, evOp_append, evOp_slice, aeval, ofVal, PT.get_set, Nat.reduceEqDiff, reduceIte, List.map_cons, List.map_nil, Option.map_some, Option.map_none, eq_self, bs32, e0, hs8', ha]; rfl) ?_)
        | fail "stop")
      refine fnPost_ret3 (by first | (simp only [PT.get_set, Nat.reduceEqDiff, reduceIte]; rfl) | simp only [PT.get_set, Nat.reduceEqDiff, reduceIte]) (by first | (simp only [PT.get_set, Nat.reduceEqDiff, reduceIte]; rfl) | simp only [PT.get_set, Nat.reduceEqDiff, reduceIte]) (by first | (simp only [PT.get_set, Nat.reduceEqDiff, reduceIte]; rfl) | simp only [PT.get_set, Nat.reduceEqDiff, reduceIte]) ⟨_, rfl, .inr ⟨K2.next + 1, 0, _, false, bytesAV ((b.drop 8).take sz), rfl, by rw [AH.get_alloc, if_pos (by simp)], by rw [List.drop_zero, List.take_of_length_le (by rw [bytesAV_length]; exact Nat.le_refl _)]⟩, rfl, fun b x hb => stay_alloc (wf_alloc wf1 _) _ b x (stay_alloc wf1 _ b x (st1 b x hb)), by rw [AH.next_alloc, AH.next_alloc]; omega, fun b o n c z e => by cases e; omega⟩
  · have hd5 : decide (((toldM (b.drop 4) : Nat) : Int) = ((crcM (b.take 4 ++ (b.drop 8).take sz) : Nat) : Int)) = false := decide_eq_false (by omega)
    have he : unframeM b = ([], 0, 4) := by rw [unframeM, if_neg h4, ← hsz, if_neg h5, if_neg h6, if_neg hs]
    rw [he]
    with_reducible repeat' (first
      | refine AW.seq ?_
      | refine AW.region ?_
      | refine AOs.nil ?_
      | refine AW.ret ?_
      | refine andThen_normal ?_
      | refine andThen_ret ?_
      | refine AW.condT (by simp only [aeval, PT.get_set, Nat.reduceEqDiff, reduceIte]; rfl) (by first | rfl | decide | assumption) ?_
      | refine DN.nil tOK ?_
      | ((first
          | refine DN.fl1E (by with_unfolding_all rfl) (by with_unfolding_all rfl) ?_
          ); refine Step.mk (by simp only [evOp_binOp, aeval, PT.get_set, Nat.reduceEqDiff, reduceIte, Option.map_some, abin_neq, Bool.not_false, eq_self, hd5]; rfl) ?_; refine Same.mk ?_)
      | ((first
          | refine AOs.op1E tOK (by with_unfolding_all rfl) ?_
          ); refine Step.mk (by simp only [evOp_assign, aeval, ofVal]; rfl) ?_)
      | fail "stop")
    exact fnPost_ret3 (by first | (simp only [PT.get_set, Nat.reduceEqDiff, reduceIte]; rfl) | simp only [PT.get_set, Nat.reduceEqDiff, reduceIte]) (by first | (simp only [PT.get_set, Nat.reduceEqDiff, reduceIte]; rfl) | simp only [PT.get_set, Nat.reduceEqDiff, reduceIte]) (by first | (simp only [PT.get_set, Nat.reduceEqDiff, reduceIte]; rfl) | simp only [PT.get_set, Nat.reduceEqDiff, reduceIte]) ⟨_, rfl, .inl ⟨.inl rfl, rfl⟩, rfl, st1, by omega, fun _ _ _ _ _ e => by cases e⟩
end Go.Proofs.YtgihociajfgohaaGreatDoor

open Go Go.AB Go.Proofs
namespace Go.Proofs.YtgihociajfgohaaGreatDoor
set_option maxRecDepth 100000

theorem BE.slice {H : AH} {v : AV} {l : List UInt8} (h : BE H v l) {lo : Nat} (h1 : lo ≤ l.length) : ∃ u, aslice tC 32 v (some (.int .i64 (lo : Int))) none none = some u ∧ BE H u (l.drop lo) := by
  rcases h with ⟨k, rfl, rfl⟩ | h
  · obtain rfl : lo = 0 := by simpa using h1
    exact ⟨.empty k, by kernel_rfl, .inl ⟨k, rfl, by simp⟩⟩
  · obtain ⟨u, h2, h3⟩ := h.sub (lo := lo) (hi := l.length) (hi' := none) h1 (Nat.le_refl _) rfl
    rw [List.take_of_length_le (by simp)] at h3
    exact ⟨u, h2, h3⟩

set_option maxHeartbeats 4000000 in
theorem scan16 (N : Nat) (H : AH) {v : AV} {b : List UInt8} (h : BE H v b) (hl : b.length ≤ 100000000) :
    AC tC N 0 16 [v] H fun r K => ∃ s, r = .tuple [s, .int .i64 ((scanM (b.length + 1) b).2.1 : Nat), .int .i64 (scanM (b.length + 1) b).2.2] ∧ RowsAt K s (scanM (b.length + 1) b).1 ∧ s.one = true ∧ (∀ b x, H.get b = some x → K.get b = some x) ∧ H.next ≤ K.next := by
  refine AC.wf0 fun hwf => ?_
  refine AC.by (n := 34) (rs := [.tmp 2, .tmp 3, .tmp 4]) tOK fn16 rfl rfl rfl rfl ?_
  have e0 : (PT.ofList .leaf 0 [v]).get 0 = some v := rfl
  obtain ⟨tot, htt⟩ : ∃ tot, tot = scanM (b.length + 1) b := ⟨_, rfl⟩
  rw [← htt]
  with_reducible repeat' (first
    | refine AW.seq ?_
    | refine AW.region ?_
    | refine AW.block ?_
    | refine AOs.nil ?_
    | refine andThen_normal ?_
    | ((first
        | refine AOs.op1E tOK (by with_unfolding_all rfl) ?_
        ); refine Step.mk (by simp only [evOp_assign, aeval, ofVal]; rfl) ?_)
    | fail "stop")
  refine AW.loop (fun m T K => (∀ b x, H.get b = some x → K.get b = some x) ∧ H.next ≤ K.next ∧ T.get 0 = some v ∧ ∃ (w : Nat) (sv : AV) (us : List AV) (s : List (List UInt8)) (f : Nat), w ≤ b.length ∧ m = b.length - w ∧ T.get 6 = some (.int .i64 (w : Nat)) ∧ T.get 5 = some sv ∧ AccR K sv us s ∧ (∀ b o n c z, sv = .slice b o n c z → H.next ≤ b) ∧ 8 * s.length ≤ w ∧
      b.length - w < f ∧ tot = (s ++ (scanM f (b.drop w)).1, w + (scanM f (b.drop w)).2.1, (scanM f (b.drop w)).2.2)) ?_ (b.length - 0)
    ⟨fun b x h => h, Nat.le_refl _, by simp [PT.get_set, e0], 0, .nils, [], [], b.length + 1, by omega, rfl, by simp [PT.get_set], by simp [PT.get_set], AccR.nil _, (fun _ _ _ _ _ e => by cases e), by simp, by omega, by rw [htt]; simp⟩
  rintro m T K ⟨hst, hnx, g0, w, sv, us, s, f, hw, rfl, g3, g2, hacc, hsb, h8, hf, htot⟩
  refine AW.wf0 fun hwfK => ?_
  obtain ⟨f, rfl⟩ : ∃ f', f = f' + 1 := ⟨f - 1, by omega⟩
  have hone := hacc.acc.one
  obtain ⟨u, hsl, hu⟩ := h.slice (lo := w) hw
  have huF := hu.keep fun b x hb => hst b x hb
  with_reducible repeat' (first
    | refine AW.seq ?_
    | refine AW.region ?_
    | refine AW.block ?_
    | ((first
        | refine AOs.op1E tOK (by with_unfolding_all rfl) ?_
        ); refine Step.mk (by simp only [evOp_move, evOp_slice, aeval, PT.get_set, Nat.reduceEqDiff, reduceIte, Option.map_some, Option.map_none, eq_self, g0, g3, hsl]; rfl) ?_)
    | fail "stop")
  refine AOs.callQ tOK (fs := []) (cs := []) rfl fn44 ok44 rfl (by simp only [List.map_cons, List.map_nil, List.nil_append, List.append_nil, aeval, PT.get_set, Nat.reduceEqDiff, reduceIte] <;> rfl) (unframe44 N K huF (by rw [List.length_drop]; omega)).wf ?_
  rintro r K1 ⟨⟨p, rfl, hp, hp1, hk1, hn1, hf1⟩, hwf1⟩
  have hun := unframe_ok (b := b.drop w)
  have hus := unframe_cases (b.drop w)
  have hemp : b.drop w = [] → unframeM (b.drop w) = ([], 0, 5) := fun e => by rw [e]; rfl
  have hsc : scanM (f + 1) (b.drop w) = (if (unframeM (b.drop w)).2.2 = 5 then ([], 0, 0) else if (unframeM (b.drop w)).2.2 ≠ 0 then ([], 0, 4)
    else ((unframeM (b.drop w)).1 :: (scanM f ((b.drop w).drop (unframeM (b.drop w)).2.1)).1, (unframeM (b.drop w)).2.1 + (scanM f ((b.drop w).drop (unframeM (b.drop w)).2.1)).2.1, (scanM f ((b.drop w).drop (unframeM (b.drop w)).2.1)).2.2)) := by
    by_cases he : b.drop w = []
    · rw [hemp he, scanM, if_pos he]; rfl
    · rw [scanM, if_neg he]
  rw [hsc] at htot
  clear hsc hemp
  generalize hq : unframeM (b.drop w) = q at *
  obtain ⟨ql, qn, qe⟩ := q
  simp only at hun hus htot hp
  have hacc1 := hacc.keep hk1
  rcases hus with rfl | rfl | rfl
  · simp at htot
    rw [htot]
    with_reducible repeat' (first
      | refine AW.seq ?_
      | refine AW.region ?_
      | refine AOs.nil ?_
      | refine AW.ret ?_
      | refine andThen_normal ?_
      | refine andThen_ret ?_
      | refine inBlock_ret ?_
      | refine AW.condT (by simp only [aeval, PT.get_set, Nat.reduceEqDiff, reduceIte]; rfl) (by first | rfl | decide | assumption) ?_
      | ((first
          | refine AOs.op1E tOK (by with_unfolding_all rfl) ?_
          ); refine Step.mk (by simp only [evOp_move, evOp_assign, evOp_binOp, evOp_extract, aeval, ofVal, PT.get_set, Nat.reduceEqDiff, reduceIte, Option.map_some, abin_eql, decide_true, List.getElem?_cons_zero, List.getElem?_cons_succ, eq_self, g2, g3]; rfl) ?_)
      | fail "stop")
    refine fnPost_ret3 (by first | (simp only [PT.get_set, Nat.reduceEqDiff, reduceIte]; rfl) | simp only [PT.get_set, Nat.reduceEqDiff, reduceIte]) (by first | (simp only [PT.get_set, Nat.reduceEqDiff, reduceIte]; rfl) | simp only [PT.get_set, Nat.reduceEqDiff, reduceIte]) (by first | (simp only [PT.get_set, Nat.reduceEqDiff, reduceIte]; rfl) | simp only [PT.get_set, Nat.reduceEqDiff, reduceIte]) ⟨sv, by simp, by simpa using hacc1.rows, hone, fun b x hb => hk1 b x (hst b x hb), by omega⟩
  · simp at htot
    rw [htot]
    with_reducible repeat' (first
      | refine AW.seq ?_
      | refine AW.region ?_
      | refine AOs.nil ?_
      | refine AW.skip ?_
      | refine AW.ret ?_
      | refine andThen_normal ?_
      | refine andThen_ret ?_
      | refine inBlock_ret ?_
      | refine AW.condT (by simp only [aeval, PT.get_set, Nat.reduceEqDiff, reduceIte]; rfl) (by first | rfl | decide | assumption) ?_
      | refine AW.condF (by simp only [aeval, PT.get_set, Nat.reduceEqDiff, reduceIte]; rfl) (by first | rfl | decide | assumption) ?_
      | ((first
          | refine AOs.op1E tOK (by with_unfolding_all rfl) ?_
          ); refine Step.mk (by simp only [evOp_move, evOp_assign, evOp_binOp, evOp_extract, aeval, ofVal, PT.get_set, Nat.reduceEqDiff, reduceIte, Option.map_some, abin_eql, abin_neq, decide_false, Bool.not_false, List.getElem?_cons_zero, List.getElem?_cons_succ, eq_self, Int.reduceEq, g2, g3]; rfl) ?_)
      | fail "stop")
    refine fnPost_ret3 (by first | (simp only [PT.get_set, Nat.reduceEqDiff, reduceIte]; rfl) | simp only [PT.get_set, Nat.reduceEqDiff, reduceIte]) (by first | (simp only [PT.get_set, Nat.reduceEqDiff, reduceIte]; rfl) | simp only [PT.get_set, Nat.reduceEqDiff, reduceIte]) (by first | (simp only [PT.get_set, Nat.reduceEqDiff, reduceIte]; rfl) | simp only [PT.get_set, Nat.reduceEqDiff, reduceIte]) ⟨sv, by simp, hacc1.rows, hone, fun b x hb => hk1 b x (hst b x hb), by omega⟩
  · simp at htot
    obtain ⟨hn8, hnl⟩ := hun rfl
    rw [List.length_drop] at hnl
    generalize hK2 : K1.alloc (.cells false [p]) = K2
    have st2 : ∀ b x, K1.get b = some x → K2.get b = some x := fun b x hb => by rw [← hK2]; exact stay_alloc hwf1 _ b x hb
    have wf2 : WF K2 := by rw [← hK2]; exact wf_alloc hwf1 _
    have g2' : K2.get K1.next = some (.cells false [p]) := by rw [← hK2, AH.get_alloc, if_pos rfl]
    have n2 : K2.next = K1.next + 1 := by rw [← hK2, AH.next_alloc]
    have hacc2 := hacc1.keep st2
    have hap : aappended tC K2 ⟨.slice 5, 1, 24, some .nils, true⟩ 28 (.slice K1.next 0 1 (.ex 1) 1) = some ([p].length, [p]) := aappended_one ti28 rfl rfl g2' rfl
    obtain ⟨sv', K3, ha, hacc3, hn3, hk3, hb3⟩ := acc_append (C := tC) ti28 rfl ti32 rfl rfl rfl (by decide) wf2 hacc2.acc hap (by simp [allOne, hp1]) (by have := hacc.len; simp; omega)
    have hw1 : IntKind.i64.wrap (((w : Nat) : Int) + ((qn : Nat) : Int)) = ((w + qn : Nat) : Int) := by rw [wrap64 (by omega) (by omega)]; omega
    with_reducible repeat' (first
      | refine AW.seq ?_
      | refine AW.region ?_
      | refine AOs.nil ?_
      | refine AW.skip ?_
      | refine andThen_normal ?_
      | refine inBlock_normal ?_
      | refine AW.condF (by simp only [aeval, PT.get_set, Nat.reduceEqDiff, reduceIte]; rfl) (by first | rfl | decide | assumption) ?_
      | ((first
          | refine AOs.op1E tOK (by with_unfolding_all rfl) ?_
          ); refine Step.mk (by simp only [evOp_move, evOp_assign, evOp_binOp, evOp_extract, evOp_append, aeval, ofVal, PT.get_set, Nat.reduceEqDiff, reduceIte, List.map_cons, List.map_nil, Option.map_some, abin_add, abin_eql, abin_neq, decide_true, decide_false, Bool.not_true, List.getElem?_cons_zero, List.getElem?_cons_succ, eq_self, Int.reduceEq, g2, g3, bs28_1, hp1, hK2, ha, hw1]; rfl) ?_)
      | fail "stop")
    have hsv : ∀ b o n c z, sv' = .slice b o n c z → K2.next ≤ b := fun b o n c z e => by
      rcases hb3 b o n c z e with h | h
      · exfalso
        rcases hacc3 with ⟨h1, _⟩ | ⟨b1, h1, h2, _⟩
        · rw [h1] at e; cases e
        · rw [h1] at h
          rcases hacc2.acc with ⟨h4, _⟩ | ⟨b4, h4, _, _⟩
          · rw [h4] at h; cases h
          · rw [h4] at h
            have := congrArg (fun x => lenOfAV x) h
            simp [lenOfAV] at this
      · exact h
    have hne2 : ∀ b1 x, K2.get b1 = some x → (∀ o n c z, sv ≠ .slice b1 o n c z) → K3.get b1 = some x := hk3
    have hrow : AccR K3 sv' (us ++ [p]) (s ++ [ql]) := ⟨hacc3, by simp [hacc.len], fun i l hi => by
      by_cases hil : i < s.length
      · rw [List.getElem?_append_left hil] at hi
        obtain ⟨u1, q1, q2, q3⟩ := hacc2.row i l hi
        have hlt := (List.getElem?_eq_some_iff.1 q1).1
        refine ⟨u1, by rw [List.getElem?_append_left hlt]; exact q1, q2.keep fun b o c e x hx => hne2 b x hx fun o' n' c' z' => q3 b o _ c 1 e o' n' c' z', fun b o n c z e o' n' c' z' e' => ?_⟩
        have h1 := hsv _ _ _ _ _ e'
        rcases q2 with ⟨h2 | ⟨k, h2⟩, _⟩ | ⟨b5, o5, c5, ro5, vs5, h2, h3, _⟩
        · rw [h2] at e; cases e
        · rw [h2] at e; cases e
        · rw [h2] at e; cases e
          have := wf2 _ _ h3; omega
      · have hi2 : i < (s ++ [ql]).length := (List.getElem?_eq_some_iff.1 hi).1
        simp at hi2
        obtain rfl : i = s.length := by omega
        rw [List.getElem?_append_right (Nat.le_refl _)] at hi
        simp at hi; subst hi
        have hpk : BytesAt K2 p ql := hp.keep fun b o c _ x hx => st2 b x hx
        refine ⟨p, by rw [List.getElem?_append_right (by rw [hacc.len]; exact Nat.le_refl _), hacc.len]; simp, hpk.keep fun b o c e x hx => hne2 b x hx fun o' n' c' z' e' => ?_, fun b o n c z e o' n' c' z' e' => ?_⟩
        · have h1 := hf1 _ _ _ _ _ e
          rcases hacc.acc with ⟨h4, _⟩ | ⟨b4, h4, h5, _⟩
          · rw [h4] at e'; cases e'
          · rw [h4] at e'; cases e'
            have := hwfK _ _ h5; omega
        · have h1 := hsv _ _ _ _ _ e'
          rcases hpk with ⟨h2 | ⟨k, h2⟩, _⟩ | ⟨b5, o5, c5, ro5, vs5, h2, h3, _⟩
          · rw [h2] at e; cases e
          · rw [h2] at e; cases e
          · rw [h2] at e; cases e
            have := wf2 _ _ h3; omega⟩
    refine ⟨b.length - (w + qn), by omega, fun b x hb => hne2 b x (st2 b x (hk1 b x (hst b x hb))) fun o n c z e => by have := hsb _ _ _ _ _ e; have := hwf b x hb; omega, by omega, by simp [PT.get_set, g0], w + qn, sv', us ++ [p], s ++ [ql], f, by omega, rfl, by simp [PT.get_set], by simp [PT.get_set], hrow, fun b o n c z e => by have := hsv b o n c z e; omega, by simp; omega, by omega, ?_⟩
    rw [htot]
    simp [Nat.add_assoc]

/-- Bytes of one's own. -/
theorem own15 (N : Nat) (H : AH) {v : AV} {l : List UInt8} (h : BE H v l) (hl : l.length ≤ 1000000000000) :
    AC tC N 0 15 [v] H fun r K => FB K r l ∧ (∀ b x, H.get b = some x → K.get b = some x) ∧ H.next ≤ K.next := by
  refine AC.wf0 fun hwf => ?_
  refine AC.by (n := 6) (rs := [.tmp 2]) tOK fn15 rfl rfl rfl rfl ?_
  have e0 : (PT.ofList .leaf 0 [v]).get 0 = some v := rfl
  have ha := aappend_bytesEx (C := tC) (H := H.alloc (.cells false [])) (st := 32) (b := H.next) (v := v) (l := l) ti32 rfl ti5 rfl rfl rfl rfl (h.keep fun b x hb => stay_alloc hwf _ b x hb).bytes hl
  by_cases h0 : l = []
  · subst h0
    rw [if_pos rfl] at ha
    with_reducible repeat' (first
      | refine AW.seq ?_
      | refine AW.region ?_
      | refine AOs.nil ?_
      | refine AW.ret ?_
      | refine andThen_normal ?_
      | ((first
          | refine AOs.op1E tOK (by with_unfolding_all rfl) ?_
          ); refine Step.mk (by simp only [evOp_move, evOp_assign, evOp_append, aeval, ofVal, PT.get_set, Nat.reduceEqDiff, reduceIte, List.map_cons, List.map_nil, eq_self, bs32, e0, ha]; rfl) ?_)
      | fail "stop")
    exact fnPost_ret1 (by first | (simp only [PT.get_set, Nat.reduceEqDiff, reduceIte]; rfl) | simp only [PT.get_set, Nat.reduceEqDiff, reduceIte]) ⟨.inr ⟨H.next, 0, .ex 0, false, [], rfl, by rw [AH.get_alloc, if_pos rfl], rfl, rfl, Nat.le_refl _⟩, fun b x hb => stay_alloc hwf _ b x hb, by rw [AH.next_alloc]; omega⟩
  · rw [if_neg h0] at ha
    with_reducible repeat' (first
      | refine AW.seq ?_
      | refine AW.region ?_
      | refine AOs.nil ?_
      | refine AW.ret ?_
      | refine andThen_normal ?_
      | ((first
          | refine AOs.op1E tOK (by with_unfolding_all rfl) ?_
          ); refine Step.mk (by simp only [evOp_move, evOp_assign, evOp_append, aeval, ofVal, PT.get_set, Nat.reduceEqDiff, reduceIte, List.map_cons, List.map_nil, eq_self, bs32, e0, ha]; rfl) ?_)
      | fail "stop")
    refine fnPost_ret1 (by first | (simp only [PT.get_set, Nat.reduceEqDiff, reduceIte]; rfl) | simp only [PT.get_set, Nat.reduceEqDiff, reduceIte]) ⟨.inr ⟨H.next + 1, 0, _, false, bytesAV l, rfl, by rw [AH.get_alloc, if_pos (by simp)], by rw [List.drop_zero, List.take_of_length_le (by rw [bytesAV_length]; exact Nat.le_refl _)], kindV_bytes _ _, Nat.le_refl _⟩, fun b x hb => stay_alloc (wf_alloc hwf _) _ b x (stay_alloc hwf _ b x hb), by rw [AH.next_alloc, AH.next_alloc]; omega⟩
end Go.Proofs.YtgihociajfgohaaGreatDoor
