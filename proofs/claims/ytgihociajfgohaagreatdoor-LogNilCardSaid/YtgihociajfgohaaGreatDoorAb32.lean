/- Stores, arrays, bits at values that are not closed; a constant out of its triple. -/
import Derived.Test.YtgihociajfgohaaGreatDoorAb31
namespace Go.AB
set_option linter.unusedSimpArgs false
set_option linter.unusedVariables false

def storeAt (H : AH) (b o : Nat) (v : AV) : Option AH :=
  match H.get b with
  | some (.cells false vs) => if o < vs.length then some (H.set b (.cells false (vs.set o v))) else none
  | _ => none

theorem one_bool {b : Bool} : AV.one (.bool b) = true := id rfl
theorem one_int {k : IntKind} {n : Int} : AV.one (.int k n) = true := id rfl
theorem one_str {s : List UInt8} : AV.one (.str s) = true := id rfl
theorem one_nilp : AV.one .nilp = true := id rfl
theorem one_ptr {b o : Nat} : AV.one (.ptr b o) = true := id rfl
theorem one_nils : AV.one .nils = true := id rfl
theorem one_slice {b o l z : Nat} {c : ACap} : AV.one (.slice b o l c z) = true := id rfl
theorem one_empty {b : Nat} : AV.one (.empty b) = true := id rfl
theorem one_nilm : AV.one .nilm = true := id rfl
theorem one_map {b : Nat} : AV.one (.map b) = true := id rfl
theorem one_func {f : FuncId} {x y : List AV} : AV.one (.func f x y) = true := id rfl
theorem one_nilf : AV.one .nilf = true := id rfl
theorem one_iface {t : TypeId} {v : AV} : AV.one (.iface t v) = true := id rfl
theorem one_nili : AV.one .nili = true := id rfl

theorem cells_of_one {v : AV} (h : v.one = true) : v.cells = [v] ∧ notJunk v = true := by
  cases v <;> simp [AV.one, AV.cells, notJunk] at h ⊢

theorem splice_one (vs : List AV) (o : Nat) (v : AV) (h : o < vs.length) : splice vs o [v] = vs.set o v := by
  unfold splice
  rw [List.set_eq_take_append_cons_drop, if_pos h]
  simp

theorem astore_one {C : Ctx} {t : TypeId} {i : TI} (ht : C.ti t = some i) (hs : i.size = 1) (H : AH) (b o : Nat) (v : AV) (hv : v.one = true) : astore C H t (.ptr b o) v = storeAt H b o v := by
  obtain ⟨h1, h2⟩ := cells_of_one hv
  have key : ∀ x, H.get b = x → astore C H t (.ptr b o) v = storeAt H b o v := by
    intro x hx
    cases x with
    | none => simp only [astore, storeAt, hx, ht]
    | some ob =>
      cases ob with
      | cells ro vs =>
        cases ro with
        | true => simp only [astore, storeAt, hx, ht]
        | false =>
          simp only [astore, storeAt, hx, ht, h1, h2, hs, nbeq, nble, allOne, hv, List.length_cons, List.length_nil, Nat.zero_add, decide_true, Bool.and_true, Bool.true_and, forceList_eq]
          by_cases ho : o < vs.length
          · rw [if_pos ho, splice_one vs o v ho]
            simp [show o + 1 ≤ vs.length by omega]
          · rw [if_neg ho]
            simp [show ¬ o + 1 ≤ vs.length by omega]
      | _ => simp only [astore, storeAt, hx, ht]
  exact key _ rfl

theorem astore_agg {C : Ctx} {t : TypeId} {i : TI} {H : AH} {b o : Nat} {vs cs : List AV} (ht : C.ti t = some i) (hb : H.get b = some (.cells false vs)) (hl : cs.length = i.size) (ha : allOne cs = true) (ho : o + cs.length ≤ vs.length) :
    astore C H t (.ptr b o) (.agg cs) = some (H.set b (.cells false (splice vs o cs))) := by
  simp only [astore, hb, ht, AV.cells, notJunk, hl, nbeq, nble, ha, decide_true, Bool.and_true, Bool.true_and, forceList_eq]
  rw [← hl]
  simp [ho]

theorem aindexAddr_array {C : Ctx} {t e : TypeId} {i : TI} {j : TI} {b o n : Nat} {k : IntKind} {m : Nat} (ht : C.ti t = some i) (hd : i.d = .array n e) (he : C.ti e = some j) (hm : m < n) :
    aindexAddr C t (.ptr b o) (.int k (m : Int)) = some (.ptr b (o + m * j.size)) := by
  simp only [aindexAddr, ht, hd, he, inRange_lt hm]

/-! ### Conversions -/
def convOp (C : Ctx) (H : AH) (src dst : TypeId) (v : AV) : Option (AV × AH) :=
  evOp C F0 H (fun _ => v) { dst := none, op := .convert src dst (.tmp 0), type := 0, pos := "", after := #[], guard := none }

theorem evOp_convert {C : Ctx} {F : Fns} {H : AH} {ev : Operand → AV} {dst : Option Tmp} {ty : TypeId} {pos : String} {after : Array Edge} {guard : Option (Nat × Bool)} {s d x} :
    evOp C F H ev { dst, op := .convert s d x, type := ty, pos, after, guard } = convOp C H s d (ev x) := rfl

section
variable {C : Ctx} {src dst : TypeId} {i j : TI}
theorem conv_int {k : IntKind} (h1 : C.ti src = some i) (h2 : C.ti dst = some j) (hd : j.d = .int k) (H : AH) (k' : IntKind) (n : Int) : convOp C H src dst (.int k' n) = some (.int k (k.wrap n), H) := by
  simp only [convOp, evOp, pureOp, aconv, h1, h2, hd]
theorem conv_strBytes {e : TypeId} {l : TI} (h1 : C.ti src = some i) (h2 : C.ti dst = some j) (hs : i.d = .string) (hd : j.d = .slice e) (he : C.ti e = some l) (hl : l.d = .int .u8) (H : AH) (s : List UInt8) :
    convOp C H src dst (.str s) = some (.slice H.next 0 s.length (.lo s.length) 1, H.alloc (.cells false (s.map fun b => .int .u8 b.toNat))) := by
  simp only [convOp, evOp, pureOp, readOp, newOp, aconv, h1, h2, hs, hd, he, hl]
theorem conv_bytesStr {e : TypeId} {l : TI} (h1 : C.ti src = some i) (h2 : C.ti dst = some j) (hs : i.d = .slice e) (hd : j.d = .string) (he : C.ti e = some l) (hl : l.d = .int .u8) (H : AH) (v : AV) (hv : ∀ s, v ≠ .str s) :
    convOp C H src dst v = (aToString H v).map (·, H) := by
  have e1 : aconv C src dst v = none := by
    simp only [aconv, h1, h2, hd]
    cases v <;> first | rfl | (exact absurd rfl (hv _))
  simp only [convOp, evOp, pureOp, readOp, newOp, chainOp, e1, h1, h2, hs, hd, he, hl]
  cases aToString H v <;> rfl
end

/-! ### Bits of 32 -/
theorem wrapU32 {n : Nat} (h : n < 4294967296) : IntKind.wrap .u32 (n : Int) = (n : Int) := by
  unfold IntKind.wrap
  show (if (false && decide ((n : Int) % 4294967296 ≥ _)) = true then _ else (n : Int) % 4294967296) = n
  simp only [Bool.false_and, Bool.false_eq_true, if_false]
  omega

theorem ofInt32 (n : Nat) : BitVec.ofInt IntKind.u32.bits (n : Int) = BitVec.ofNat 32 n := by
  show BitVec.ofInt 32 (n : Int) = _
  exact BitVec.ofInt_natCast ..

section
variable {C : Ctx} {t : TypeId} {cst : Bool} {n m : Nat}
theorem abin_and32 (hn : n < 4294967296) (hm : m < 4294967296) : abin C .and t cst (.int .u32 (n : Int)) (.int .u32 (m : Int)) = some (.int .u32 ((n &&& m : Nat) : Int)) := by
  have e : abin C .and t cst (.int .u32 (n : Int)) (.int .u32 (m : Int)) = some (.int .u32 (IntKind.wrap .u32 (((BitVec.ofInt IntKind.u32.bits (n : Int) &&& BitVec.ofInt IntKind.u32.bits (m : Int)).toNat : Nat) : Int))) := by
    simp [abin, binOp, pur, Op.intBits, ofVal]; rfl
  rw [e, ofInt32, ofInt32]
  have : (BitVec.ofNat 32 n &&& BitVec.ofNat 32 m).toNat = n &&& m := by
    rw [BitVec.toNat_and, BitVec.toNat_ofNat, BitVec.toNat_ofNat, Nat.mod_eq_of_lt (by omega), Nat.mod_eq_of_lt (by omega)]
  have hlt : n &&& m < 4294967296 := Nat.lt_of_le_of_lt Nat.and_le_left hn
  show some (AV.int .u32 (IntKind.wrap .u32 (((BitVec.ofNat 32 n &&& BitVec.ofNat 32 m).toNat : Nat) : Int))) = _
  rw [this, wrapU32 hlt]
theorem abin_xor32 (hn : n < 4294967296) (hm : m < 4294967296) : abin C .xor t cst (.int .u32 (n : Int)) (.int .u32 (m : Int)) = some (.int .u32 ((n ^^^ m : Nat) : Int)) := by
  have e : abin C .xor t cst (.int .u32 (n : Int)) (.int .u32 (m : Int)) = some (.int .u32 (IntKind.wrap .u32 (((BitVec.ofInt IntKind.u32.bits (n : Int) ^^^ BitVec.ofInt IntKind.u32.bits (m : Int)).toNat : Nat) : Int))) := by
    simp [abin, binOp, pur, Op.intBits, ofVal]; rfl
  rw [e, ofInt32, ofInt32]
  have : (BitVec.ofNat 32 n ^^^ BitVec.ofNat 32 m).toNat = n ^^^ m := by
    rw [BitVec.toNat_xor, BitVec.toNat_ofNat, BitVec.toNat_ofNat, Nat.mod_eq_of_lt (by omega), Nat.mod_eq_of_lt (by omega)]
  have hlt : n ^^^ m < 4294967296 := Nat.xor_lt_two_pow (n := 32) hn hm
  show some (AV.int .u32 (IntKind.wrap .u32 (((BitVec.ofNat 32 n ^^^ BitVec.ofNat 32 m).toNat : Nat) : Int))) = _
  rw [this, wrapU32 hlt]
theorem abin_shr {k k' : IntKind} (hm : m ≤ k.bits) : abin C .shr t cst (.int k (n : Int)) (.int k' (m : Int)) = some (.int k ((n / 2 ^ m : Nat) : Int)) := by
  have e : abin C .shr t cst (.int k (n : Int)) (.int k' (m : Int)) = pur (Op.shift .shr k (n : Int) k' (m : Int)) := by
    simp [abin, binOp]
  rw [e]
  unfold Op.shift
  rw [if_neg (by omega)]
  simp only [pur, Int.toNat_natCast, Nat.min_eq_left hm]
  show some (ofVal (.int k (Int.fdiv (n : Int) (2 ^ m)))) = _
  simp only [ofVal]
  congr 2
  rw [Int.fdiv_eq_ediv_of_nonneg _ (by exact Int.le_of_lt (Int.pow_pos (by omega)))]
  simp
end

/-- A constant, out of its triple from the empty heap. -/
theorem const_of {C : Ctx} {f : FuncId} {r : AV} (hp : r.plainV = true) (h : ∀ N, AC C N 0 f [] H0 fun x _ => x = r) (N G : Nat) (H : AH) : AC C N G f [] H fun x K => x = r ∧ K = H := fun ρ w vs hR hv => by
  simp only [VRs] at hv
  subst hv
  refine (h w.heap.size _ w [] (R.start w) VRs.nil).mono ?_
  rintro e w' ⟨v, ρ', x, H', rfl, rfl, hv, _, hF⟩
  obtain ⟨r1, r2⟩ := hR.below hF.start
  exact ⟨v, ρ, x, H, ⟨rfl, rfl⟩, rfl, AV.plainV_ok x v hp hv, r1, r2⟩
end Go.AB
