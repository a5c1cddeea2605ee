/- The evaluator's steps at values that are not closed: for 'simp only'. -/
import Derived.Test.YtgihociajfgohaaGreatDoorAb29
namespace Go.AB
set_option linter.unusedSimpArgs false
set_option linter.unusedVariables false

section
variable {C : Ctx} {t : TypeId} {cst : Bool} {k : IntKind} {a b : Int}
theorem abin_add : abin C .add t cst (.int k a) (.int k b) = some (.int k (k.wrap (a + b))) := by simp [abin, binOp, pur, Op.intArith, ofVal]; rfl
theorem abin_sub : abin C .sub t cst (.int k a) (.int k b) = some (.int k (k.wrap (a - b))) := by simp [abin, binOp, pur, Op.intArith, ofVal]; rfl
theorem abin_mul : abin C .mul t cst (.int k a) (.int k b) = some (.int k (k.wrap (a * b))) := by simp [abin, binOp, pur, Op.intArith, ofVal]; rfl
theorem abin_lss : abin C .lss t cst (.int k a) (.int k b) = some (.bool (decide (a < b))) := by simp [abin, binOp, pur, Op.intCmp, ofVal]; rfl
theorem abin_leq : abin C .leq t cst (.int k a) (.int k b) = some (.bool (decide (a ≤ b))) := by simp [abin, binOp, pur, Op.intCmp, ofVal]; rfl
theorem abin_gtr : abin C .gtr t cst (.int k a) (.int k b) = some (.bool (decide (b < a))) := by simp [abin, binOp, pur, Op.intCmp, ofVal]; rfl
theorem abin_geq : abin C .geq t cst (.int k a) (.int k b) = some (.bool (decide (b ≤ a))) := by simp [abin, binOp, pur, Op.intCmp, ofVal]; rfl
theorem abin_eql : abin C .eql t cst (.int k a) (.int k b) = some (.bool (decide (a = b))) := by simp [abin, binOp, pur, Op.intCmp, ofVal]; rfl
theorem abin_neq : abin C .neq t cst (.int k a) (.int k b) = some (.bool (!decide (a = b))) := by simp [abin, binOp, pur, Op.intCmp, ofVal]; rfl
end

theorem nbeq (a b : Nat) : Nat.beq a b = decide (a = b) := by
  by_cases h : a = b
  · subst h; rw [Nat.beq_refl]; simp
  · rw [decide_eq_false h]
    cases h2 : Nat.beq a b
    · rfl
    · exact absurd (Nat.eq_of_beq_eq_true h2) h
theorem nble (a b : Nat) : Nat.ble a b = decide (a ≤ b) := by
  by_cases h : a ≤ b
  · rw [decide_eq_true h, Nat.ble_eq_true_of_le h]
  · rw [decide_eq_false h]
    cases h2 : Nat.ble a b
    · rfl
    · exact absurd (Nat.le_of_ble_eq_true h2) h
theorem nblt (a b : Nat) : Nat.blt a b = decide (a < b) := nble (a + 1) b
theorem lt_int {i n : Nat} (h : i < n) : decide ((i : Int) < (n : Int)) = true := by simp; omega
theorem nlt_int {i n : Nat} (h : ¬ i < n) : decide ((i : Int) < (n : Int)) = false := by simp; omega
theorem inRange_lt {i n : Nat} (h : i < n) : inRange (i : Int) n = some i := by
  show (bif Nat.blt i n then some i else none) = _
  rw [nblt, decide_eq_true h]; rfl

theorem wrap64 {n : Int} (h0 : -9223372036854775808 ≤ n) (h1 : n < 9223372036854775808) : IntKind.wrap .i64 n = n := by
  unfold IntKind.wrap
  show (if (true && decide (n % 18446744073709551616 ≥ (9223372036854775808 : Int))) = true then n % 18446744073709551616 - 18446744073709551616 else n % 18446744073709551616) = n
  simp only [Bool.true_and, decide_eq_true_eq]
  split <;> omega
theorem wrap64_succ {i : Nat} (h : i < 9223372036854775807) : IntKind.wrap .i64 ((i : Int) + 1) = ((i + 1 : Nat) : Int) := by
  rw [wrap64 (by omega) (by omega)]; simp

/-- Nothing is called. -/
def F0 : Fns := ⟨fun _ _ _ => none, fun _ _ _ => none⟩
theorem F0_ok (C : Ctx) (N G : Nat) : F0.OK C N G where
  call _ _ _ _ _ h := by cases h
  ext _ _ _ _ _ h := by cases h


/-! ### One operation: by its kind -/
section
variable {C : Ctx} {F : Fns} {H : AH} {ev : Operand → AV} {dst : Option Tmp} {ty : TypeId} {pos : String} {after : Array Edge} {guard : Option (Nat × Bool)}
theorem evOp_move {x} : evOp C F H ev { dst, op := .move x, type := ty, pos, after, guard } = some (ev x, H) := rfl
theorem evOp_assign {x} : evOp C F H ev { dst, op := .assign x, type := ty, pos, after, guard } = some (ev x, H) := rfl
theorem evOp_pick {c a b} : evOp C F H ev { dst, op := .pick c a b, type := ty, pos, after, guard } = (match ev c with
    | .bool t => some (bif t then ev a else ev b, H)
    | _ => none) := by
  simp only [evOp, pureOp, readOp, newOp, chainOp]
  cases ev c <;> rfl
theorem evOp_build {t parts} : evOp C F H ev { dst, op := .build t parts, type := ty, pos, after, guard } = (abuild C t (parts.toList.map fun p => (p.1, ev p.2))).map (·, H) := by
  simp only [evOp, pureOp, readOp, newOp, chainOp]; cases abuild C t (parts.toList.map fun p => (p.1, ev p.2)) <;> rfl
theorem evOp_nilCheck {x} : evOp C F H ev { dst, op := .nilCheck x, type := ty, pos, after, guard } = (match ev x with
    | .ptr b k => some (.ptr b k, H)
    | .func f fs cs => some (.func f fs cs, H)
    | _ => none) := by
  simp only [evOp, pureOp, readOp, newOp, chainOp]
  cases ev x <;> rfl
theorem evOp_binOp {op t x y yt} : evOp C F H ev { dst, op := .binOp op t x y yt, type := ty, pos, after, guard } = (abin C op t (isC x || isC y) (ev x) (ev y)).map (·, H) := by
  simp only [evOp, pureOp, readOp, newOp, chainOp]; cases abin C op t (isC x || isC y) (ev x) (ev y) <;> rfl
theorem evOp_not {t x} : evOp C F H ev { dst, op := .unOp .not t x, type := ty, pos, after, guard } = (match ev x with
    | .bool b => some (.bool (!b), H)
    | _ => none) := by
  simp only [evOp, pureOp, readOp, newOp, chainOp]
  cases ev x <;> rfl
theorem evOp_fieldAddr {t x f} : evOp C F H ev { dst, op := .fieldAddr t x f, type := ty, pos, after, guard } = (afieldAddr C t (ev x) f).map (·, H) := by
  simp only [evOp, pureOp, readOp, newOp, chainOp]; cases afieldAddr C t (ev x) f <;> rfl
theorem evOp_field {t x f} : evOp C F H ev { dst, op := .field t x f, type := ty, pos, after, guard } = (afield C t (ev x) f).map (·, H) := by
  simp only [evOp, pureOp, readOp, newOp, chainOp]; cases afield C t (ev x) f <;> rfl
theorem evOp_indexAddr {t x i} : evOp C F H ev { dst, op := .indexAddr t x i, type := ty, pos, after, guard } = (aindexAddr C t (ev x) (ev i)).map (·, H) := by
  simp only [evOp, pureOp, readOp, newOp, chainOp]; cases aindexAddr C t (ev x) (ev i) <;> rfl
theorem evOp_index {t x i} : evOp C F H ev { dst, op := .index t x i, type := ty, pos, after, guard } = (aindex C t (ev x) (ev i)).map (·, H) := by
  simp only [evOp, pureOp, readOp, newOp, chainOp]; cases aindex C t (ev x) (ev i) <;> rfl
theorem evOp_extract {t i} : evOp C F H ev { dst, op := .extract t i, type := ty, pos, after, guard } = (match ev t with
    | .tuple vs => (vs[i]?).map (·, H)
    | _ => none) := by
  simp only [evOp, pureOp, readOp, newOp, chainOp]
  cases ev t with
  | tuple vs => cases h : vs[i]? <;> simp [h]
  | _ => rfl
theorem evOp_makeFunc {f first cap} : evOp C F H ev { dst, op := .makeFunc (.func f) first cap, type := ty, pos, after, guard } = some (.func f (first.toList.map ev) (cap.toList.map ev), H) := rfl
theorem evOp_load {t x} : evOp C F H ev { dst, op := .load t x, type := ty, pos, after, guard } = (aload C H t (ev x)).map (·, H) := by
  simp only [evOp, pureOp, readOp, newOp, chainOp]; cases aload C H t (ev x) <;> rfl
theorem evOp_lookup {t x k ok} : evOp C F H ev { dst, op := .lookup t x k ok, type := ty, pos, after, guard } = (alookup C H t (ev x) (ev k) ok).map (·, H) := by
  simp only [evOp, pureOp, readOp, newOp, chainOp]; cases alookup C H t (ev x) (ev k) ok <;> rfl
theorem evOp_store {t x v} : evOp C F H ev { dst, op := .store t x v, type := ty, pos, after, guard } = (astore C H t (ev x) (ev v)).map fun H' => (.tuple [], H') := rfl
theorem evOp_mapUpdate {t m k x} : evOp C F H ev { dst, op := .mapUpdate t m k x, type := ty, pos, after, guard } = (amapUpdate C H t (ev m) (ev k) (ev x)).map fun H' => (.tuple [], H') := rfl
theorem evOp_insert {t m k x} : evOp C F H ev { dst, op := .insert t m k x, type := ty, pos, after, guard } = (amapUpdate C H t (ev m) (ev k) (ev x)).map fun H' => (.tuple [], H') := rfl
theorem evOp_range {t x} : evOp C F H ev { dst, op := .range t x, type := ty, pos, after, guard } = arange C H t (ev x) := rfl
theorem evOp_alloc {t i z} (h : C.ti t = some i) (hz : i.zero = some z) (hj : notJunk z = true) : evOp C F H ev { dst, op := .alloc t, type := ty, pos, after, guard } = some (.ptr H.next 0, H.alloc (.cells false z.cells)) := by
  simp only [evOp, pureOp, readOp, newOp, h, hz, hj, cond_true]
theorem evOp_box {t x} (hj : notJunk (ev x) = true) : evOp C F H ev { dst, op := .box t x, type := ty, pos, after, guard } = some (.ptr H.next 0, H.alloc (.cells false (ev x).cells)) := by
  simp only [evOp, pureOp, readOp, newOp, hj, cond_true]
theorem evOp_makeMap {t} : evOp C F H ev { dst, op := .makeMap t none, type := ty, pos, after, guard } = some (.map H.next, H.alloc (.map [] 0)) := rfl
theorem evOp_buildSlice0 {t e : TypeId} {i j : TI} (ht : C.ti t = some i) (hd : i.d = .slice e) (he : C.ti e = some j) : evOp C F H ev { dst, op := .buildSlice t 0 ⟨[]⟩, type := ty, pos, after, guard } = some (.slice H.next 0 0 (.ex 0) j.size, H.alloc (.cells false [])) := by
  simp only [evOp, pureOp, readOp, newOp, ht, hd, he, Nat.zero_mul, List.map_nil, afill, if_true, Option.map_some]
  rfl
theorem evOp_len {args ats} : evOp C F H ev { dst, op := .call { callee := .builtin .len, args := ⟨args⟩, argTypes := ⟨ats⟩ }, type := ty, pos, after, guard } =
    (match ats, args with
    | t :: _, x :: _ => match alen C t (ev x) with
      | some v => some (v, H)
      | none => (alenMap C H t (ev x)).map (·, H)
    | _, _ => none) := by
  cases ats with
  | nil => rfl
  | cons t ts =>
    cases args with
    | nil => rfl
    | cons x xs =>
      simp only [evOp, pureOp, readOp, newOp, chainOp, abuiltin, List.map_cons]
      cases alen C t (ev x) with
      | some v => rfl
      | none => cases h : alenMap C H t (ev x) <;> simp [h]
theorem evOp_append {args ats} : evOp C F H ev { dst, op := .call { callee := .builtin .append, args := ⟨args⟩, argTypes := ⟨ats⟩ }, type := ty, pos, after, guard } = aappend C H ats (args.map ev) := by
  simp only [evOp, pureOp, readOp, newOp, chainOp, abuiltin]
theorem evOp_copy {args ats} : evOp C F H ev { dst, op := .call { callee := .builtin .copy, args := ⟨args⟩, argTypes := ⟨ats⟩ }, type := ty, pos, after, guard } = acopy C H ats (args.map ev) := by
  simp only [evOp, pureOp, readOp, newOp, chainOp, abuiltin]
theorem evOp_delete {args ats} : evOp C F H ev { dst, op := .call { callee := .builtin .delete, args := ⟨args⟩, argTypes := ⟨ats⟩ }, type := ty, pos, after, guard } = adelete C H ats (args.map ev) := by
  simp only [evOp, pureOp, readOp, newOp, chainOp, abuiltin]
theorem evOp_slice {t x lo hi mx} : evOp C F H ev { dst, op := .slice t x lo hi mx, type := ty, pos, after, guard } =
    (match aslice C t (ev x) (lo.map ev) (hi.map ev) (mx.map ev) with
    | some v => some (v, H)
    | none => (aArrSlice C H t (ev x) (lo.map ev) (hi.map ev) (mx.map ev)).map (·, H)) := by
  simp only [evOp, pureOp, readOp, newOp, chainOp]
  cases aslice C t (ev x) (lo.map ev) (hi.map ev) (mx.map ev) with
  | some v => rfl
  | none => cases h : aArrSlice C H t (ev x) (lo.map ev) (hi.map ev) (mx.map ev) <;> simp [h]
end

/-! ### Reading -/
def cellAt (H : AH) (b k : Nat) : Option AV :=
  match H.get b with
  | some (.cells _ vs) => vs[k]?
  | _ => none
def cellsAt (H : AH) (b k n : Nat) : Option AV :=
  match H.get b with
  | some (.cells _ vs) => bif Nat.beq ((vs.drop k).take n).length n then some (.agg ((vs.drop k).take n)) else none
  | _ => none
def mapLenAt (H : AH) (b : Nat) : Option AV :=
  match H.get b with
  | some (.map ps _) => some (.int .i64 ps.length)
  | _ => none
section
variable {C : Ctx} {H : AH}
theorem aload_cell {t : TypeId} {i : TI} {b k : Nat} {ro : Bool} {vs : List AV} {v : AV} (ht : C.ti t = some i) (ha : i.agg = false) (hb : H.get b = some (.cells ro vs)) (hv : vs[k]? = some v) : aload C H t (.ptr b k) = some v := by
  simp only [aload, hb, ht, ha, cond_false, hv]
theorem aindexAddr_slice {t e : TypeId} {i : TI} {j : TI} {b o len z : Nat} {cap : ACap} {k : IntKind} {m : Nat} (ht : C.ti t = some i) (hd : i.d = .slice e) (he : C.ti e = some j) (hm : m < len) :
    aindexAddr C t (.slice b o len cap z) (.int k (m : Int)) = some (.ptr b (o + m * j.size)) := by
  simp only [aindexAddr, ht, hd, he, inRange_lt hm]
theorem afieldAddr_at {s : TypeId} {i j : TI} {fields : Array Field} {fl : Field} {b o f : Nat} (ht : C.ti s = some i) (hd : i.d = .struct fields) (hf : fields.toList[f]? = some fl) (hj : C.ti fl.type = some j) (hz : Nat.beq j.size 0 = false) :
    afieldAddr C s (.ptr b o) f = some (.ptr b (o + fl.offset)) := by
  simp only [afieldAddr, ht, hd, hf, hj, hz, cond_false]
theorem alen_slice {t e : TypeId} {i : TI} {x : AV} {n : Nat} (ht : C.ti t = some i) (hd : i.d = .slice e) (hn : lenOfAV x = some n) : alen C t x = some (.int .i64 (n : Int)) := by
  simp only [alen, ht, hd, hn]
theorem alen_sliceM {t e : TypeId} {i : TI} (ht : C.ti t = some i) (hd : i.d = .slice e) (x : AV) : alen C t x = (lenOfAV x).map fun n => .int .i64 (n : Int) := by
  simp only [alen, ht, hd]; cases lenOfAV x <;> rfl
theorem alen_map {t k e : TypeId} {i : TI} {b : Nat} (ht : C.ti t = some i) (hd : i.d = .map k e) : alen C t (.map b) = none := by
  simp only [alen, ht, hd]
theorem alenMap_of {t k e : TypeId} {i : TI} {b : Nat} (ht : C.ti t = some i) (hd : i.d = .map k e) : alenMap C H t (.map b) = mapLenAt H b := by
  simp only [alenMap, ht, hd, mapLenAt]
  cases H.get b with
  | none => rfl
  | some o => cases o <;> rfl
theorem aload_one {t : TypeId} {i : TI} {b k : Nat} (ht : C.ti t = some i) (ha : i.agg = false) : aload C H t (.ptr b k) = cellAt H b k := by
  simp only [aload, ht, ha, cond_false, cellAt]
  cases H.get b with
  | none => rfl
  | some o => cases o <;> rfl
theorem aload_agg {t : TypeId} {i : TI} {b k : Nat} (ht : C.ti t = some i) (ha : i.agg = true) : aload C H t (.ptr b k) = cellsAt H b k i.size := by
  simp only [aload, ht, ha, cond_true, cellsAt]
  cases H.get b with
  | none => rfl
  | some o => cases o <;> rfl
theorem lenOfAV_slice {b o n z : Nat} {c : ACap} : lenOfAV (.slice b o n c z) = some n := rfl
theorem lenOfAV_nils : lenOfAV .nils = some 0 := rfl
theorem lenOfAV_empty {b : Nat} : lenOfAV (.empty b) = some 0 := rfl
theorem alen_str {t : TypeId} {i : TI} {s : List UInt8} (ht : C.ti t = some i) (hd : i.d = .string) : alen C t (.str s) = some (.int .i64 (s.length : Int)) := by
  simp only [alen, ht, hd]
end

section
variable {C : Ctx} {N G n : Nat} {T : PT AV} {H : AH} {ops : Array Oper} {l : List Oper} {Q : PT AV → AH → Prop}

/-- One operation, no call. -/
theorem AOs.op1 (hC : C.OK) {op : Op} {type : TypeId} {pos : String} {after : Array Edge} {v : AV} {H' : AH} {d : Nat} (hv : evOp C F0 H (aeval G T) { dst := some d, op, type, pos, after, guard := none } = some (v, H')) (hn : Nat.blt d n = true)
    (h : AOs C N G n ops l (T.set d v) H' Q) : AOs C N G n ops ({ dst := some d, op, type, pos, after, guard := none } :: l) T H Q :=
  AOs.op hC (F0_ok C N G) rfl hv (by unfold aput; simp only [hn, cond_true]; exact h)

/-- One operation that yields nothing. -/
theorem AOs.op0 (hC : C.OK) {op : Op} {type : TypeId} {pos : String} {after : Array Edge} {v : AV} {H' : AH} (hv : evOp C F0 H (aeval G T) { dst := none, op, type, pos, after, guard := none } = some (v, H'))
    (h : AOs C N G n ops l T H' Q) : AOs C N G n ops ({ dst := none, op, type, pos, after, guard := none } :: l) T H Q :=
  AOs.op hC (F0_ok C N G) rfl hv (by unfold aput; exact h)

theorem AOs.skip1 {o : Oper} {d : Nat} (hw : awanted ops T o = some false) (hd : o.dst = some d) (hn : Nat.blt d n = true)
    (h : AOs C N G n ops l (T.set d (.tuple [])) H Q) : AOs C N G n ops (o :: l) T H Q :=
  AOs.skip hw (by unfold aput; rw [hd]; simp only [hn, cond_true]; exact h)

theorem AOs.skip0 {o : Oper} (hw : awanted ops T o = some false) (hd : o.dst = none)
    (h : AOs C N G n ops l T H Q) : AOs C N G n ops (o :: l) T H Q :=
  AOs.skip hw (by unfold aput; rw [hd]; exact h)

/-- A call of a function that is known by its triple. -/
theorem AOs.callG (hC : C.OK) {dst : Option Tmp} {type : TypeId} {pos : String} {after : Array Edge} {guard : Option (Nat × Bool)} {args : List Operand} {ats : List TypeId} {fo : Operand} {f : FuncId} {fs cs : List AV} {g : Func} {Qc : AV → AH → Prop}
    (hw : awanted ops T { dst, op := .call { callee := .value fo, args := ⟨args⟩, argTypes := ⟨ats⟩ }, type, pos, after, guard } = some true) (hf : aeval G T fo = .func f fs cs)
    (hg : C.fn f = some g) (hb : fnOk g = true) (hac : AC C N G f (fs ++ args.map (aeval G T) ++ cs) H Qc) (h : ∀ r H', Qc r H' → AOs C N G n ops l (aput n T dst r) H' Q) :
    AOs C N G n ops ({ dst, op := .call { callee := .value fo, args := ⟨args⟩, argTypes := ⟨ats⟩ }, type, pos, after, guard } :: l) T H Q := fun ρ w a hR hA K hK => by
  have hw' := awanted_ok hA hw
  have hev := hA.eval hR
  unfold wpList
  rw [hw']
  simp only [if_true]
  refine .inl ?_
  have hfv := hev fo
  rw [hf] at hfv
  simp only [VR] at hfv
  obtain ⟨us, vs, hfv, hus, hvs⟩ := hfv
  have hall := (hus.append (hev.list args)).append hvs
  have hargs : (Array.mk args).map a.eval = ⟨args.map a.eval⟩ := by apply Array.ext'; simp
  have hexec : (execOp a.eval { dst, op := .call { callee := .value fo, args := ⟨args⟩, argTypes := ⟨ats⟩ }, type, pos, after, guard }).run C.P w = (callFunc f ⟨us ++ args.map a.eval ++ vs⟩).run C.P w := by
    simp only [execOp, resolve, hargs, Deferred.ofValue, hfv, Sem.run_bind, Sem.run_pure, Result.andThen_ok, invoke]
    simp
  unfold fnOk at hb
  simp only [Bool.and_eq_true, Bool.not_eq_true'] at hb
  have hfn := hC.fn f g hg
  have : (callFunc f ⟨us ++ args.map a.eval ++ vs⟩).run C.P w = .ok (.enter f ⟨us ++ args.map a.eval ++ vs⟩) w := by
    unfold callFunc
    have hb' : g.body.isNone = false := by
      cases hb1 : g.body with
      | none => rw [hb1] at hb; simp at hb
      | some _ => rfl
    simp only [Sem.run_bind, run_program, Result.andThen_ok, hfn, hb.2, Bool.false_eq_true, if_false, hb', Sem.run_pure]
  unfold Oper.wp
  rw [hexec, this, Oper.upon_enter]
  refine (hac ρ w _ hR hall).mono ?_
  rintro e w' ⟨v, ρ', r, H', hQ, rfl, hv, hR', hF'⟩
  exact h r H' hQ ρ' w' _ hR' ((hA.ext (hR.ext hF')).put hv dst) K fun ρ2 a2 w2 T2 H2 hQ2 hA2 hR2 hF2 => hK ρ2 a2 w2 T2 H2 hQ2 hA2 hR2 (hF'.trans hF2)

/-- A call of a function that is known by its triple. -/
theorem AOs.callQ (hC : C.OK) {d : Nat} {type : TypeId} {pos : String} {after : Array Edge} {args : List Operand} {ats : Array TypeId} {fo : Operand} {f : FuncId} {fs cs : List AV} {g : Func} {Qc : AV → AH → Prop}
    (hf : aeval G T fo = .func f fs cs) (hg : C.fn f = some g) (hb : fnOk g = true) (hn : Nat.blt d n = true) {as : List AV} (hargs : fs ++ args.map (aeval G T) ++ cs = as) (hac : AC C N G f as H Qc) (h : ∀ r H', Qc r H' → AOs C N G n ops l (T.set d r) H' Q) :
    AOs C N G n ops ({ dst := some d, op := .call { callee := .value fo, args := ⟨args⟩, argTypes := ats }, type, pos, after, guard := none } :: l) T H Q :=
  AOs.callG (ats := ats.toList) hC rfl hf hg hb (by rw [hargs]; exact hac) fun r H' hq => by
    have := h r H' hq
    unfold aput; simp only [hn, cond_true]; exact this

/-- By cases. -/
theorem AOs.cases {l : List Oper} (b : Bool) (ht : b = true → AOs C N G n ops l T H Q) (hf : b = false → AOs C N G n ops l T H Q) : AOs C N G n ops l T H Q := by
  cases b
  · exact hf rfl
  · exact ht rfl

theorem AOs.unguard {o : Oper} (hw : awanted ops T o = some true) (h : AOs C N G n ops ({ o with guard := none } :: l) T H Q) : AOs C N G n ops (o :: l) T H Q := fun ρ w a hR hA K hK => by
  have hw' := awanted_ok hA hw
  have h1 := h ρ w a hR hA K hK
  unfold wpList at h1 ⊢
  rw [hw']
  have : Region.wanted { o with guard := none } (yielded ops a.tmps) = true := rfl
  rw [this] at h1
  simp only [if_true] at h1 ⊢
  exact h1

section
variable {dst : Option Tmp} {op : Op} {type : TypeId} {pos : String} {after : Array Edge} {j : Nat} {want : Bool} {d : Nat} {b : Bool}

theorem awanted_guard (hd : (ops[j]?).bind (·.dst) = some d) (hb : T.get d = some (.bool b)) : awanted ops T { dst, op, type, pos, after, guard := some (j, want) } = some (b == want) := by
  simp only [awanted, hd, hb]

/-- A guard that says yes. -/
theorem AOs.guardT (hd : (ops[j]?).bind (·.dst) = some d) (hb : T.get d = some (.bool b)) (hbw : b = want) (h : AOs C N G n ops ({ dst, op, type, pos, after, guard := none } :: l) T H Q) :
    AOs C N G n ops ({ dst, op, type, pos, after, guard := some (j, want) } :: l) T H Q :=
  AOs.unguard (by rw [awanted_guard hd hb, hbw]; simp) h

theorem bool_ne {b want : Bool} (h : b = !want) : (b == want) = false := by subst h; cases want <;> rfl

/-- A guard that says no. -/
theorem AOs.guardF {e : Nat} (hd : (ops[j]?).bind (·.dst) = some d) (hb : T.get d = some (.bool b)) (hbw : b = !want) (hn : Nat.blt e n = true) (h : AOs C N G n ops l (T.set e (.tuple [])) H Q) :
    AOs C N G n ops ({ dst := some e, op, type, pos, after, guard := some (j, want) } :: l) T H Q :=
  AOs.skip1 (by rw [awanted_guard hd hb, bool_ne hbw]) rfl hn h

theorem AOs.guardF0 (hd : (ops[j]?).bind (·.dst) = some d) (hb : T.get d = some (.bool b)) (hbw : b = !want) (h : AOs C N G n ops l T H Q) :
    AOs C N G n ops ({ dst := none, op, type, pos, after, guard := some (j, want) } :: l) T H Q :=
  AOs.skip0 (by rw [awanted_guard hd hb, bool_ne hbw]) rfl h

/-- A guard that was not asked. -/
theorem AOs.guardN {e : Nat} (hd : (ops[j]?).bind (·.dst) = some d) (hb : T.get d = some (.tuple [])) (hn : Nat.blt e n = true) (h : AOs C N G n ops l (T.set e (.tuple [])) H Q) :
    AOs C N G n ops ({ dst := some e, op, type, pos, after, guard := some (j, want) } :: l) T H Q :=
  AOs.skip1 (by simp only [awanted, hd, hb]) rfl hn h

/-- A guard: by cases. -/
theorem AOs.guardC {e : Nat} (hd : (ops[j]?).bind (·.dst) = some d) (hb : T.get d = some (.bool b)) (hn : Nat.blt e n = true) (ht : b = want → AOs C N G n ops ({ dst := some e, op, type, pos, after, guard := none } :: l) T H Q)
    (hf : b = (!want) → AOs C N G n ops l (T.set e (.tuple [])) H Q) : AOs C N G n ops ({ dst := some e, op, type, pos, after, guard := some (j, want) } :: l) T H Q := by
  by_cases h : b = want
  · exact AOs.guardT hd hb h (ht h)
  · have h' : b = !want := by cases b <;> cases want <;> simp_all
    exact AOs.guardF hd hb h' hn (hf h')
end
end

section
variable {C : Ctx} {N G n : Nat} {T : PT AV} {H : AH} {Q : AEx → PT AV → AH → Prop} {P : PT AV → AH → Prop}
theorem andThen_normal (h : P T H) : andThen P Q .normal T H := h
theorem andThen_exit {i : Nat} (h : Q (.exit i) T H) : andThen P Q (.exit i) T H := h
theorem andThen_ret (h : Q .ret T H) : andThen P Q .ret T H := h
theorem inBlock_normal {i : Nat} (h : Q .normal T H) : inBlock i Q .normal T H := h
theorem inBlock_ret {i : Nat} (h : Q .ret T H) : inBlock i Q .ret T H := h
theorem inBlock_hit {i : Nat} (h : Q .normal T H) : inBlock i Q (.exit i) T H := by simp only [inBlock, if_true]; exact h
theorem inBlock_miss {i k : Nat} (hne : Nat.beq k i = false) (h : Q (.exit k) T H) : inBlock i Q (.exit k) T H := by
  have : ¬ k = i := fun e => by subst e; rw [Nat.beq_refl] at hne; cases hne
  simp only [inBlock, if_neg this]; exact h
theorem AW.condT {c : Operand} {x y : Code} {b : Bool} (hc : aeval G T c = .bool b) (hb : b = true) (h : AW C N G n x T H Q) : AW C N G n (.cond c x y) T H Q :=
  AW.cond hc (fun _ => h) (fun e => by rw [hb] at e; cases e)
theorem AW.condF {c : Operand} {x y : Code} {b : Bool} (hc : aeval G T c = .bool b) (hb : b = false) (h : AW C N G n y T H Q) : AW C N G n (.cond c x y) T H Q :=
  AW.cond hc (fun e => by rw [hb] at e; cases e) (fun _ => h)

/-- Behind a function's body. -/
def fnPost (C : Ctx) (rs : List ResultVar) (Q : AV → AH → Prop) : AEx → PT AV → AH → Prop
  | .exit _, _, _ => False
  | _, T, H => ∃ as, aresults C T H rs = some as ∧ Q (one as) H

theorem fnPost_ret {rs : List ResultVar} {Q : AV → AH → Prop} {as : List AV} (h : aresults C T H rs = some as) (hq : Q (one as) H) : fnPost C rs Q .ret T H := ⟨as, h, hq⟩
theorem fnPost_normal {rs : List ResultVar} {Q : AV → AH → Prop} {as : List AV} (h : aresults C T H rs = some as) (hq : Q (one as) H) : fnPost C rs Q .normal T H := ⟨as, h, hq⟩
theorem fnPost_ret1 {t : Nat} {Q : AV → AH → Prop} {a : AV} (h : T.get t = some a) (hq : Q a H) : fnPost C [.tmp t] Q .ret T H := ⟨[a], by simp only [aresults, aresult, h], hq⟩
theorem fnPost_normal1 {t : Nat} {Q : AV → AH → Prop} {a : AV} (h : T.get t = some a) (hq : Q a H) : fnPost C [.tmp t] Q .normal T H := ⟨[a], by simp only [aresults, aresult, h], hq⟩
theorem fnPost_ret2 {t u : Nat} {Q : AV → AH → Prop} {a b : AV} (h : T.get t = some a) (h2 : T.get u = some b) (hq : Q (.tuple [a, b]) H) : fnPost C [.tmp t, .tmp u] Q .ret T H := ⟨[a, b], by simp only [aresults, aresult, h, h2], hq⟩

theorem AC.by (hC : C.OK) {f : FuncId} {g : Func} {c : Code} {rs : List ResultVar} (hg : C.fn f = some g) (hb : g.body = some c) (hm : g.ntmps = n) (hr : g.results.toList = rs) {args : List AV} (hl : Nat.ble args.length n = true) {Q : AV → AH → Prop}
    (h : AW C N G n c (PT.ofList .leaf 0 args) H (fnPost C rs Q)) : AC C N G f args H Q := by
  subst hm; subst hr
  exact AC.of hC hg hb (Nat.le_of_ble_eq_true hl) (h.mono fun e T' H' hq => by cases e <;> exact hq)
end
end Go.AB
