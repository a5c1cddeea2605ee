/- Triples over abstract heaps: texts, bytes, drawn regions in steps, the room of a slice; no condition. -/
import Derived.Test.YtapokkpdgfpokaaGreatHeap5
import Derived.Laws.Externs
set_option linter.unusedSimpArgs false
set_option linter.unusedVariables false
set_option linter.defProp false
namespace Go.AB

def AWn (C : Ctx) (N : Bd) (G n : Nat) (c : Code) (Q : AEx → PT AV → AH → Prop) : Nat → PT AV → AH → Prop
  | 0, _, _ => False
  | k + 1, T, H => AW C N G n c T H (andThen (AWn C N G n c Q k) Q)

theorem AWn.succ {C : Ctx} {N : Bd} {G n : Nat} {c : Code} {Q : AEx → PT AV → AH → Prop} {k : Nat} {T : PT AV} {H : AH} (h : AW C N G n c T H (andThen (AWn C N G n c Q k) Q)) : AWn C N G n c Q (k + 1) T H := h

def bytesAV (s : List UInt8) : List AV := s.map fun b => .int .u8 b.toNat
theorem bytesAV_length (s : List UInt8) : (bytesAV s).length = s.length := by simp [bytesAV]
theorem bytesAV_append (s t : List UInt8) : bytesAV (s ++ t) = bytesAV s ++ bytesAV t := by simp [bytesAV]
theorem bytesAV_one (s : List UInt8) : allOne (bytesAV s) = true := by
  induction s with
  | nil => rfl
  | cons a s ih => simp only [bytesAV, List.map_cons, allOne]; exact (by rw [show AV.one (.int .u8 (a.toNat : Int)) = true from rfl, Bool.true_and]; exact ih)

/-- Bytes in a row, wherever it lies. -/
def BytesAt (H : AH) (v : AV) (l : List UInt8) : Prop :=
  ((v = .nils ∨ ∃ k, v = .empty k) ∧ l = []) ∨ ∃ b o c ro vs, v = .slice b o l.length c 1 ∧ H.get b = some (.cells ro vs) ∧ (vs.drop o).take l.length = bytesAV l

theorem BytesAt.len {H : AH} {v : AV} {l : List UInt8} (h : BytesAt H v l) : lenOfAV v = some l.length := by
  rcases h with ⟨rfl | ⟨k, rfl⟩, rfl⟩ | ⟨b, o, c, ro, vs, rfl, _⟩ <;> rfl

theorem BytesAt.one {H : AH} {v : AV} {l : List UInt8} (h : BytesAt H v l) : v.one = true := by
  rcases h with ⟨rfl | ⟨k, rfl⟩, rfl⟩ | ⟨b, o, c, ro, vs, rfl, _⟩ <;> rfl

theorem BytesAt.keep {H K : AH} {v : AV} {l : List UInt8} (h : BytesAt H v l) (hk : ∀ b o c, v = .slice b o l.length c 1 → ∀ x, H.get b = some x → K.get b = some x) : BytesAt K v l := by
  rcases h with h | ⟨b, o, c, ro, vs, rfl, h1, h2⟩
  · exact .inl h
  · exact .inr ⟨b, o, c, ro, vs, rfl, hk b o c rfl _ h1, h2⟩

theorem BytesAt.cells {H : AH} {v : AV} {l : List UInt8} (h : BytesAt H v l) : acells H 1 l.length v = some (bytesAV l) := by
  rcases h with ⟨rfl | ⟨k, rfl⟩, rfl⟩ | ⟨b, o, c, ro, vs, rfl, h1, h2⟩
  · rfl
  · rfl
  · simp only [acells, Nat.mul_one, h1, h2, nbeq, bytesAV_length, decide_true, cond_true]
    by_cases h0 : l.length = 0
    · have := List.eq_nil_of_length_eq_zero h0
      subst this; rfl
    · simp [h0]

theorem BytesAt.str {H : AH} {v : AV} {l : List UInt8} (h : BytesAt H v l) : aToString H v = some (.str l) := by
  rcases h with ⟨rfl | ⟨k, rfl⟩, rfl⟩ | ⟨b, o, c, ro, vs, rfl, h1, h2⟩
  · rfl
  · rfl
  · simp only [aToString, h1, h2, nbeq, bytesAV_length, decide_true, cond_true]
    rw [show bytesAV l = l.map (fun b => AV.int .u8 b.toNat) from rfl, toBytes_map]; rfl
end Go.AB
namespace Go.AB
def isUnit : AV → Bool
  | .tuple [] => true
  | _ => false
theorem isUnit_eq {x : AV} (h : isUnit x = true) : x = .tuple [] := by
  unfold isUnit at h
  split at h
  · rfl
  · cases h
theorem AOs.guardU {C : Ctx} {N : Bd} {G n : Nat} {T : PT AV} {H : AH} {ops : Array Oper} {l : List Oper} {Q : PT AV → AH → Prop} {op : Op} {type : TypeId} {pos : String} {after : Array Edge} {j : Nat} {want : Bool} {d e : Nat} {x : AV}
    (hd : (ops[j]?).bind (·.dst) = some d) (hb : T.get d = some x) (hx : isUnit x = true) (hn : Nat.blt e n = true) (h : AOs C N G n ops l (T.set e (.tuple [])) H Q) :
    AOs C N G n ops ({ dst := some e, op, type, pos, after, guard := some (j, want) } :: l) T H Q := AOs.guardN hd (by rw [hb, isUnit_eq hx]) hn h
theorem QO.guardU {C : Ctx} {F : Fns} {G n : Nat} {ops : Array Oper} {l : List Oper} {T : PT AV} {H : AH} {P : PT AV → Prop} {op : Op} {type : TypeId} {pos : String} {after : Array Edge} {j : Nat} {want : Bool} {d e : Nat} {x : AV}
    (hd : (ops[j]?).bind (·.dst) = some d) (hb : T.get d = some x) (hx : isUnit x = true) (hn : Nat.blt e n = true) (h : QO C F G n ops l (T.set e (.tuple [])) H P) :
    QO C F G n ops ({ dst := some e, op, type, pos, after, guard := some (j, want) } :: l) T H P := QO.guardN hd (by rw [hb, isUnit_eq hx]) hn h
end Go.AB
namespace Go.AB
theorem abin_eqlS {C : Ctx} {t : TypeId} {cst : Bool} {a b : List UInt8} : abin C .eql t cst (.str a) (.str b) = some (.bool (decide (a = b))) := by simp only [abin, astr, beqL_eq]
theorem abin_neqS {C : Ctx} {t : TypeId} {cst : Bool} {a b : List UInt8} : abin C .neq t cst (.str a) (.str b) = some (.bool (!decide (a = b))) := by simp only [abin, astr, beqL_eq]
end Go.AB
namespace Go.AB
/-! ### Maps of texts -/
def lookAt (H : AH) (m : Nat) (k : List UInt8) (z : AV) : Option AV :=
  match H.get m with
  | some (.map ps _) => some ((mget ps k).getD z)
  | _ => none
def mapSetAt (H : AH) (m : Nat) (k : List UInt8) (v : AV) : Option AH :=
  match H.get m with
  | some (.map ps _) => some ⟨H.t.set m (.map (mset ps k v) H.next), H.next + 1⟩
  | _ => none
theorem alookup_map {C : Ctx} {t kt et : TypeId} {i j : TI} {z : AV} (ht : C.ti t = some i) (hd : i.d = .map kt et) (hk : isStrKey C kt = true) (he : C.ti et = some j) (hz : j.zero = some z) (H : AH) (m : Nat) (k : List UInt8) :
    alookup C H t (.map m) (.str k) false = lookAt H m k z := by
  have key : ∀ x, H.get m = x → alookup C H t (.map m) (.str k) false = lookAt H m k z := by
    intro x hx
    cases x with
    | none => simp only [alookup, ht, hd, hk, cond_true, mapOf, hx, lookAt]
    | some o =>
      cases o with
      | map ps ver =>
        simp only [alookup, ht, hd, hk, cond_true, mapOf, hx, lookAt, he, hz, cond_false]
        cases mget ps k <;> rfl
      | _ => simp only [alookup, ht, hd, hk, cond_true, mapOf, hx, lookAt]
  exact key _ rfl
theorem amapUpdate_map {C : Ctx} {t kt et : TypeId} {i : TI} (ht : C.ti t = some i) (hd : i.d = .map kt et) (hk : isStrKey C kt = true) (H : AH) (m : Nat) (k : List UInt8) (v : AV) :
    amapUpdate C H t (.map m) (.str k) v = mapSetAt H m k v := by
  have key : ∀ x, H.get m = x → amapUpdate C H t (.map m) (.str k) v = mapSetAt H m k v := by
    intro x hx
    cases x with
    | none => simp only [amapUpdate, ht, hd, hk, cond_true, hx, mapSetAt]
    | some o => cases o <;> simp only [amapUpdate, ht, hd, hk, cond_true, hx, mapSetAt]
  exact key _ rfl

/-- Entries that lead to objects. -/
def ents (E : List (List UInt8 × Nat)) : List (List UInt8 × AV) := E.map fun p => (p.1, .ptr p.2 0)
def getN : List (List UInt8 × Nat) → List UInt8 → Option Nat
  | [], _ => none
  | p :: ps, k => if k = p.1 then some p.2 else getN ps k
def setN : List (List UInt8 × Nat) → List UInt8 → Nat → List (List UInt8 × Nat)
  | [], k, v => [(k, v)]
  | p :: ps, k, v => if k = p.1 then (k, v) :: ps else p :: setN ps k v
def delN : List (List UInt8 × Nat) → List UInt8 → List (List UInt8 × Nat)
  | [], _ => []
  | p :: ps, k => if k = p.1 then ps else p :: delN ps k
theorem mget_ents : ∀ (E : List (List UInt8 × Nat)) (k : List UInt8), mget (ents E) k = (getN E k).map fun f => .ptr f 0
  | [], _ => rfl
  | p :: ps, k => by
    simp only [ents, List.map_cons, mget, beqL_eq, getN]
    by_cases h : k = p.1
    · simp [h]
    · simp only [h, decide_false, cond_false, if_false]; exact mget_ents ps k
theorem mset_ents : ∀ (E : List (List UInt8 × Nat)) (k : List UInt8) (f : Nat), mset (ents E) k (.ptr f 0) = ents (setN E k f)
  | [], _, _ => rfl
  | p :: ps, k, f => by
    simp only [ents, List.map_cons, mset, beqL_eq, setN]
    by_cases h : k = p.1
    · simp [h]
    · simp only [h, decide_false, cond_false, if_false, List.map_cons]
      exact congrArg _ (mset_ents ps k f)
theorem mdel_ents : ∀ (E : List (List UInt8 × Nat)) (k : List UInt8), mdel (ents E) k = ents (delN E k)
  | [], _ => rfl
  | p :: ps, k => by
    simp only [ents, List.map_cons, mdel, beqL_eq, delN]
    by_cases h : k = p.1
    · simp [h]
    · simp only [h, decide_false, cond_false, if_false, List.map_cons]
      exact congrArg _ (mdel_ents ps k)
end Go.AB
namespace Go.AB
def mapDelAt (H : AH) (m : Nat) (k : List UInt8) : Option (AV × AH) :=
  match H.get m with
  | some (.map ps _) => some (.tuple [], ⟨H.t.set m (.map (mdel ps k) H.next), H.next + 1⟩)
  | _ => none
theorem adelete_map {C : Ctx} {t kt et : TypeId} {i : TI} (ht : C.ti t = some i) (hd : i.d = .map kt et) (hk : isStrKey C kt = true) (H : AH) (u m : Nat) (k : List UInt8) :
    adelete C H [t, u] [.map m, .str k] = mapDelAt H m k := by
  have key : ∀ x, H.get m = x → adelete C H [t, u] [.map m, .str k] = mapDelAt H m k := by
    intro x hx
    cases x with
    | none => simp only [adelete, ht, hd, hk, cond_true, hx, mapDelAt]
    | some o => cases o <;> simp only [adelete, ht, hd, hk, cond_true, hx, mapDelAt]
  exact key _ rfl
end Go.AB

namespace Go.AB

theorem evOp_entry {C : Ctx} {F : Fns} {H : AH} {ev : Operand → AV} {dst : Option Tmp} {ty : TypeId} {pos : String} {after : Array Edge} {guard : Option (Nat × Bool)} {x} : evOp C F H ev { dst, op := .entry x, type := ty, pos, after, guard } = (aentry H (ev x)).map (·, H) := by
  simp only [evOp, pureOp, readOp, newOp, chainOp]; cases aentry H (ev x) <;> rfl

def rangeMapAt (H : AH) (m : Nat) : Option (AV × AH) :=
  match H.get m with
  | some (.map ps ver) => bif Nat.blt ver H.next then some (.ptr H.next 0, H.alloc (.miter m (ps.map (·.1)) ver none)) else none
  | _ => none

theorem arange_map {C : Ctx} {t kt et : TypeId} {i : TI} (ht : C.ti t = some i) (hd : i.d = .map kt et) (H : AH) (m : Nat) : arange C H t (.map m) = rangeMapAt H m := by
  simp only [arange, ht, hd, rangeMapAt]
  cases H.get m with
  | none => rfl
  | some o => cases o <;> rfl

section
variable {C : Ctx} {N : Bd} {G n : Nat} {T : PT AV} {H : AH} {ops : Array Oper} {l : List Oper} {Q : PT AV → AH → Prop}

/-- An iterator's step: over, or at one of those that are left. -/
theorem AOs.nextM {it : Operand} {type : TypeId} {pos : String} {after : Array Edge} {b m ver d : Nat} {left : List (List UInt8)} {cur : Option (List UInt8)} {ps : List (List UInt8 × AV)}
    (hit : aeval G T it = .ptr b 0) (hb : H.get b = some (.miter m left ver cur)) (hm : H.get m = some (.map ps ver)) (hn : Nat.blt d n = true)
    (h0 : left = [] → AOs C N G n ops l (T.set d (.tuple [.bool false])) H Q)
    (h1 : ∀ k x, k ∈ left → mget ps k = some x → AOs C N G n ops l (T.set d (.tuple [.bool true, .str k, x])) (H.set b (.miter m (left.erase k) ver (some k))) Q) :
    AOs C N G n ops ({ dst := some d, op := .next it false, type, pos, after, guard := none } :: l) T H Q := fun ρ w a hR hA K hK => by
  have hw' := awanted_ok (ops := ops) (o := { dst := some d, op := .next it false, type, pos, after, guard := none }) (b := true) hA rfl
  have hv := hA.eval hR it
  rw [hit] at hv
  obtain ⟨g1, g2⟩ := next_any (P := C.P) hR hb hm hv type
  unfold wpList
  rw [hw']
  simp only [if_true]
  refine .inl ?_
  by_cases hl : left = []
  · unfold Oper.wp
    have : (execOp a.eval { dst := some d, op := .next it false, type, pos, after, guard := none }).run C.P w = .ok (.value (.tuple #[.bool false])) w := by
      simp only [execOp, Sem.run_bind, g1 hl, Result.andThen_ok, Sem.run_pure]
    rw [this]
    have hA' := hA.put (v := .tuple [.bool false]) (x := .tuple #[.bool false]) (by simp only [VR]; exact ⟨_, rfl, VRs.cons (by simp [VR]) VRs.nil⟩) (some d)
    unfold aput at hA'
    simp only [hn, cond_true] at hA'
    exact h0 hl ρ w _ hR hA' K fun ρ2 a2 w2 T2 H2 hQ hA2 hR2 hF2 => hK ρ2 a2 w2 T2 H2 hQ hA2 hR2 hF2
  · obtain ⟨k, x, u, w', hk, hx, hrun, hvu, hR', hF'⟩ := g2 hl
    unfold Oper.wp
    have : (execOp a.eval { dst := some d, op := .next it false, type, pos, after, guard := none }).run C.P w = .ok (.value u) w' := by
      simp only [execOp, Sem.run_bind, hrun, Result.andThen_ok, Sem.run_pure]
    rw [this]
    have hA' := hA.put hvu (some d)
    unfold aput at hA'
    simp only [hn, cond_true] at hA'
    exact h1 k x hk hx ρ w' _ hR' hA' K fun ρ2 a2 w2 T2 H2 hQ hA2 hR2 hF2 => hK ρ2 a2 w2 T2 H2 hQ hA2 hR2 (hF'.trans hF2)
end

end Go.AB

namespace Go.AB

def boxC (v : AV) : Option (List AV) := bif notJunk v then some v.cells else none
theorem boxC_one {v : AV} (h : v.one = true) : boxC v = some [v] := by
  obtain ⟨h1, h2⟩ := cells_of_one h
  simp [boxC, h1, h2]
theorem boxC_agg {cs : List AV} : boxC (.agg cs) = some cs := rfl
section
variable {C : Ctx} {F : Fns} {H : AH} {ev : Operand → AV} {dst : Option Tmp} {ty : TypeId} {pos : String} {after : Array Edge} {guard : Option (Nat × Bool)}
theorem evOp_boxC {t x} : evOp C F H ev { dst, op := .box t x, type := ty, pos, after, guard } = (boxC (ev x)).map fun cs => (.ptr H.next 0, H.alloc (.cells false cs)) := by
  simp only [evOp, pureOp, readOp, newOp, chainOp, boxC]
  cases notJunk (ev x) <;> rfl
theorem evOp_cap {t : TypeId} {ts : List TypeId} {x : Operand} {xs : List Operand} : evOp C F H ev { dst, op := .call { callee := .builtin .cap, args := ⟨x :: xs⟩, argTypes := ⟨t :: ts⟩ }, type := ty, pos, after, guard } = (acap C t (ev x)).map (·, H) := by
  simp only [evOp, pureOp, readOp, newOp, chainOp, abuiltin, List.map_cons]
  cases acap C t (ev x) <;> rfl
end

theorem AW.drawG {C : Ctx} (hC : C.OK) {N : Bd} {G n : Nat} {F : Fns} (hF : F.OK C N G) (hq : QuietF F) {id : Nat} {ops : Array Oper} (ho : quietOps C ops = true) {T : PT AV} {H : AH} {Q : AEx → PT AV → AH → Prop}
    (h : ∀ m, H.next ≤ m → QO C F G n ops ops.toList T ⟨H.t, m⟩ fun T' => Q .normal T' ⟨H.t, m⟩) : AW C N G n (.region id ops true) T H Q :=
  AW.drawS hC hF hq ho (h _ (Nat.le_add_right _ _))
end Go.AB

namespace Go.AB
section
variable {C : Ctx} {F : Fns} {H : AH} {ev : Operand → AV} {dst : Option Tmp} {ty : TypeId} {pos : String} {after : Array Edge} {guard : Option (Nat × Bool)}
theorem evOp_buildSlice2 {t e : TypeId} {i j : TI} {z : AV} {x y : Operand} (ht : C.ti t = some i) (hd : i.d = .slice e) (he : C.ti e = some j) (hs : j.size = 1) (hz : j.zero = some z) (hzo : z.one = true) (hv : (ev x).one = true) (hw : (ev y).one = true) :
    evOp C F H ev { dst, op := .buildSlice t 2 ⟨[(0, x), (1, y)]⟩, type := ty, pos, after, guard } = some (.slice H.next 0 2 (.ex 2) 1, H.alloc (.cells false [ev x, ev y])) := by
  obtain ⟨z1, z2⟩ := cells_of_one hzo
  obtain ⟨v1, v2⟩ := cells_of_one hv
  obtain ⟨w1, w2⟩ := cells_of_one hw
  have h1 : splice [z, z] 0 [ev x] = [ev x, z] := by simp [splice]
  have h2 : splice [ev x, z] 1 [ev y] = [ev x, ev y] := by simp [splice]
  have hzs : zerosOf [z] 2 = [z, z] := by simp [zerosOf]
  simp only [evOp, pureOp, readOp, newOp, ht, hd, he, hs, hz, z1, z2, nbeq, nble, Nat.one_mul, Nat.mul_one, List.length_cons, List.length_nil, Nat.zero_add, decide_true, Bool.and_true, Bool.true_and, cond_true, List.map_cons, List.map_nil, hzs, afill, v1, v2, w1, w2, Option.map_some, Nat.zero_mul]
  simp [h1, h2]
end
end Go.AB

namespace Go.AB

section
variable {C : Ctx} {H : AH} {st e : TypeId} {i j : TI} {z : AV}

theorem aappended_bytes {xt : TypeId} {xi : TI} {e : TypeId} {v : AV} {l : List UInt8} (hx : C.ti xt = some xi) (hxd : xi.d = .slice e) (hs : j.size = 1) (h : BytesAt H v l) : aappended C H j xt v = some (l.length, bytesAV l) := by
  have h1 := h.len
  have h2 := h.cells
  rcases h with ⟨rfl | ⟨k, rfl⟩, rfl⟩ | ⟨b, o, c, ro, vs, rfl, h3, h4⟩
  · simp only [aappended, hx, hxd, h1, hs, h2, Option.map_some]
  · simp only [aappended, hx, hxd, h1, hs, h2, Option.map_some]
  · simp only [aappended, hx, hxd, h1, hs, h2, Option.map_some]

theorem splice_nil (vs : List AV) (o : Nat) : splice vs o [] = vs := by simp [splice]

/-- Bytes appended to a row that has room. -/
theorem aappend_room {b k n : Nat} {vs : List AV} {v : AV} {l : List UInt8} (ht : C.ti st = some i) (hd : i.d = .slice e) (he : C.ti e = some j) (hs : j.size = 1) (hb : j.bytes = 1) (hz : j.zero = some z) (hzo : z.one = true)
    (hv : BytesAt H v l) (hg : H.get b = some (.cells false vs)) (hvs : vs.length = n) (hn : k + l.length ≤ n) (hN : n ≤ 1000000000000) :
    ∃ H', aappend C H [st, st] [.slice b 0 k (.lo n) 1, v] = some (.slice b 0 (k + l.length) (.lo n) 1, H') ∧ H'.get b = some (.cells false (splice vs k (bytesAV l))) ∧ (∀ x, x ≠ b → H'.get x = H.get x) ∧ H'.next = H.next := by
  have h1 := aappended_bytes (C := C) (j := j) ht hd hs hv
  by_cases hl : l = []
  · subst hl
    refine ⟨H, ?_, by rw [show bytesAV [] = [] from rfl, splice_nil]; exact hg, fun _ _ => rfl, rfl⟩
    simp [aappend, ht, hd, he, h1, bytesAV_one, bytesAV_length, hs, zOK_of hz hzo hs, nbeq]
  · have hl0 : ¬ l.length = 0 := fun h => hl (List.eq_nil_of_length_eq_zero h)
    refine ⟨H.set b (.cells false (splice vs k (bytesAV l))), ?_, by rw [AH.get_set, if_pos rfl], fun x hx => by rw [AH.get_set, if_neg hx], rfl⟩
    have e1 : (2 * (k + l.length) + 1024) * 1 ≤ 281474976710656 := by omega
    have e2 : k + l.length ≤ 4611686018427387904 := by omega
    have e3 : k ≤ vs.length := by omega
    simp [aappend, ht, hd, he, h1, bytesAV_one, bytesAV_length, hs, hb, zOK_of hz hzo hs, nbeq, nble, hl0, hl, ACap.low, hn, hg, e3]
    rw [decide_eq_true (show 2 * (k + l.length) ≤ 281474976709632 by omega), decide_eq_true (show k + l.length ≤ 4611686018427387904 by omega)]; rfl

/-- Bytes appended to nothing. -/
theorem aappend_bytesNil {v : AV} {l : List UInt8} (ht : C.ti st = some i) (hd : i.d = .slice e) (he : C.ti e = some j) (hs : j.size = 1) (hz : j.zero = some z) (hzo : z.one = true) (hv : BytesAt H v l) (hl : l = []) :
    aappend C H [st, st] [.nils, v] = some (.nils, H) := by
  subst hl
  have h1 := aappended_bytes (C := C) (j := j) ht hd hs hv
  simp [aappend, ht, hd, he, h1, bytesAV_one, bytesAV_length, hs, zOK_of hz hzo hs, nbeq]

/-- A row of zeros appended to nothing. -/
theorem aappend_zeros {xt : TypeId} {xi : TI} {k k' : IntKind} {n : Nat} (ht : C.ti st = some i) (hd : i.d = .slice e) (he : C.ti e = some j) (hs : j.size = 1) (hb : j.bytes = 1) (hz : j.zero = some z) (hzo : z.one = true) (hx : C.ti xt = some xi) (hxd : xi.d = .int k) (hn : 0 < n) (hN : n ≤ 1000000000000) :
    aappend C H [st, xt] [.nils, .int k' (n : Int)] = some (.slice H.next 0 n (.lo n) 1, H.alloc (.cells false (List.replicate n z))) := by
  obtain ⟨z1, z2⟩ := cells_of_one hzo
  have hzs : zerosOf [z] n = List.replicate n z := by
    unfold zerosOf
    induction n with
    | zero => rfl
    | succ n ih => 
      rw [List.replicate_succ, List.flatten_cons, List.replicate_succ]
      by_cases hn0 : n = 0
      · subst hn0; rfl
      · rw [ih (by omega) (by omega)]; rfl
  have h1 : aappended C H j xt (.int k' (n : Int)) = some (n, List.replicate n z) := by
    have : (n : Int) = Int.ofNat n := rfl
    rw [this]
    have e1 : n ≤ 281474976710656 := by omega
    have e2 : n ≤ 9223372036854775807 := by omega
    simp only [aappended, hx, hxd, hz, z1, z2, hs, hb, hzs, nbeq, nble, List.length_cons, List.length_nil, Nat.zero_add, decide_true, Bool.and_true, Bool.true_and, Nat.mul_one, e1, e2, cond_true]
  have ha : allOne (List.replicate n z) = true := by
    clear h1 hzs hn hN
    induction n with
    | zero => rfl
    | succ n ih => rw [List.replicate_succ]; simp only [allOne, hzo, ih, Bool.and_true]
  have e1 : (2 * n + 1024) * 1 ≤ 281474976710656 := by omega
  have e2 : n ≤ 4611686018427387904 := by omega
  have e0 : ¬ n = 0 := by omega
  simp [aappend, ht, hd, he, h1, ha, hs, hb, zOK_of hz hzo hs, nbeq, nble, e0]
  rw [decide_eq_true (show 2 * n ≤ 281474976709632 by omega), decide_eq_true (show n ≤ 4611686018427387904 by omega)]; rfl
end
end Go.AB

namespace Go.AB

def max2V : AV → AV → Option AV
  | .int k a, .int _ b => some (.int k (if b > a then b else a))
  | _, _ => none
theorem max2V_int {k k' : IntKind} {a b : Int} : max2V (.int k a) (.int k' b) = some (.int k (max a b)) := by
  simp only [max2V]
  congr 2
  split <;> omega
section
variable {C : Ctx} {F : Fns} {H : AH} {ev : Operand → AV} {dst : Option Tmp} {ty : TypeId} {pos : String} {after : Array Edge} {guard : Option (Nat × Bool)}
theorem evOp_max2 {x y : Operand} {ats : Array TypeId} (h : (max2V (ev x) (ev y)).isSome = true) : evOp C F H ev { dst, op := .call { callee := .builtin .max, args := ⟨[x, y]⟩, argTypes := ats }, type := ty, pos, after, guard } = (max2V (ev x) (ev y)).map (·, H) := by
  simp only [evOp, pureOp, readOp, newOp, chainOp, abuiltin, List.map_cons, List.map_nil]
  revert h
  generalize ev x = a
  generalize ev y = b
  intro h
  cases a <;> cases b <;> simp [max2V] at h
  simp [max2V, intVals, intVal, Builtin.max_, Builtin.max2, pur, ofVal]
  rfl
end
section
variable {C : Ctx} {t : TypeId} {cst : Bool} {k : IntKind} {a b : Int}
end
end Go.AB

namespace Go.AB

/-- An operation that was taken in the prover's order: what its temporaries were, what it yields; 0: it looks at no memory, 1: it may, 2: it acts. -/
structure Ro where
  i : Nat
  o : Oper
  T : PT AV
  v : AV
  k : Nat

def ancOf (ops : Array Oper) (i : Nat) : Nat := (Region.before ops).getD i 0

/-- A call that is known to leave the heap as it was. -/
def QCall (C : Ctx) (N : Bd) (G : Nat) (H : AH) (ev : Operand → AV) (o : Oper) (v : AV) : Prop :=
  ∃ (args : List Operand) (ats : Array TypeId) (fo : Operand) (f : FuncId) (fs cs : List AV) (g : Func), o.op = .call { callee := .value fo, args := ⟨args⟩, argTypes := ats } ∧ ev fo = .func f fs cs ∧ C.fn f = some g ∧ fnOk g = true ∧
    AC C N G f (fs ++ args.map ev ++ cs) H fun r K => r = v ∧ K = H

theorem qcall_congr {C : Ctx} {N : Bd} {G : Nat} {H : AH} {ev ev' : Operand → AV} {o : Oper} {v : AV} (h : ∀ x ∈ o.op.operands, ev x = ev' x) (hq : QCall C N G H ev o v) : QCall C N G H ev' o v := by
  obtain ⟨args, ats, fo, f, fs, cs, g, he, hf, hg, hb, hac⟩ := hq
  have hx : ∀ x, (x = fo ∨ x ∈ args) → ev x = ev' x := fun x hx => h x (by rw [he]; simp [Op.operands, Call.operands]; exact hx)
  refine ⟨args, ats, fo, f, fs, cs, g, he, by rw [← hx fo (.inl rfl)]; exact hf, hg, hb, ?_⟩
  rw [← List.map_congr_left (fun x hxa => hx x (.inr hxa))]
  exact hac

theorem qcall_wp {C : Ctx} (hC : C.OK) {N : Bd} {G : Nat} {ρ : Names} {H : AH} {w : World} {a : Act} {ev : Operand → AV} {o : Oper} {v : AV} (h : QCall C N G H ev o v) (hR : R N G ρ H w) (h2 : VEv ρ ev a.eval) {next : Act → World → Prop} {Z : Exit → Act → World → Prop}
    (hnext : ∀ x ρ' w', VR ρ' v x → R N G ρ' H w' → Fr ρ H w ρ' H w' → next (a.put o.dst x) w') : o.wp C.P a w next Z := by
  obtain ⟨args, ats, fo, f, fs, cs, g, he, hf, hg, hb, hac⟩ := h
  obtain ⟨dst, op, type, pos, after, guard⟩ := o
  simp only at he; subst he
  have hfv := h2 fo
  rw [hf] at hfv
  simp only [VR] at hfv
  obtain ⟨us, vs, hfv, hus, hvs⟩ := hfv
  have hargsV : ∀ l : List Operand, VRs ρ (l.map ev) (l.map a.eval) := by
    intro l
    induction l with
    | nil => exact VRs.nil
    | cons x l ih => exact VRs.cons (h2 x) ih
  have hall := (hus.append (hargsV args)).append hvs
  have hargs : (Array.mk args).map a.eval = ⟨args.map a.eval⟩ := by apply Array.ext'; simp
  have hexec : (execOp a.eval { dst, op := .call { callee := .value fo, args := ⟨args⟩, argTypes := ats }, type, pos, after, guard }).run C.P w = (callFunc f ⟨us ++ args.map a.eval ++ vs⟩).run C.P w := by
    simp only [execOp, resolve, hargs, Deferred.ofValue, hfv, Sem.run_bind, Sem.run_pure, Result.andThen_ok, invoke]
    simp
  unfold fnOk at hb
  simp only [Bool.and_eq_true, Bool.not_eq_true'] at hb
  have hfn := hC.fn f g hg
  have : (callFunc f ⟨us ++ args.map a.eval ++ vs⟩).run C.P w = .ok (.enter f ⟨us ++ args.map a.eval ++ vs⟩) w := by
    unfold callFunc
    have hb' : g.body.isNone = false := by
      cases hb1 : g.body with
      | none => rw [hb1] at hb; simp at hb
      | some _ => rfl
    simp only [Sem.run_bind, run_program, Result.andThen_ok, hfn, hb.2, Bool.false_eq_true, if_false, hb', Sem.run_pure]
  unfold Oper.wp
  rw [hexec, this, Oper.upon_enter]
  refine (hac ρ w _ hR hall).mono ?_
  rintro e w' ⟨x, ρ', r, K, ⟨rfl, rfl⟩, rfl, hv, hR', hF'⟩
  exact hnext x ρ' w' hv hR' hF'

/-- What a row that has not come up yet will yield where H lies in memory. -/
def Ro.good (C : Ctx) (N : Bd) (G : Nat) (ops : Array Oper) (H : AH) (r : Ro) : Prop :=
  (awanted ops r.T r.o = some false ∧ r.v = .tuple []) ∨ (awanted ops r.T r.o = some true ∧ (pureOp C (aeval G r.T) r.o = some r.v ∨ readOp C H (aeval G r.T) r.o = some r.v ∨ QCall C N G H (aeval G r.T) r.o r.v))

def Tat (rs : List Ro) (T : PT AV) (k : Nat) : PT AV :=
  match rs[k]? with
  | some r => r.T
  | none => T

structure Mt (C : Ctx) (N : Bd) (G n : Nat) (ops : Array Oper) (rs : List Ro) (D : Nat) (P : List Ro) (T : PT AV) (H : AH) (ρ0 : Names) (H0 : AH) (w0 : World) (S : Nat → Bool) (ρ : Names) (a : Act) (w : World) : Prop where
  op : ∀ (k : Nat) r, rs[k]? = some r → ops[r.i]? = some r.o
  once : ∀ (k k' : Nat) r r', rs[k]? = some r → rs[k']? = some r' → r.i = r'.i → k = k'
  anc : ∀ (k : Nat) r (j : Nat), rs[k]? = some r → (ancOf ops r.i).testBit j = true → ∃ (k' : Nat) (r' : Ro), k' < k ∧ rs[k']? = some r' ∧ r'.i = j
  step : ∀ (k : Nat) r, rs[k]? = some r → Tat rs T (k + 1) = aput n r.T r.o.dst r.v
  dn : ∀ j, D.testBit j = true ↔ ∃ (k : Nat) (r : Ro), rs[k]? = some r ∧ r.i = j
  sub : ∀ j, S j = true → D.testBit j = true
  good : ∀ (k : Nat) r, rs[k]? = some r → S r.i = false → r.good C N G ops H ∧ r.k ≠ 2 ∧ (r.k ≠ 1 → ∀ K, r.good C N G ops K) ∧ (r.k = 1 → r ∈ P)
  closed : ∀ i, S i = true → ∀ j, (ancOf ops i).testBit j = true → S j = true
  rd : R N G ρ H w
  fr : Fr ρ0 H0 w0 ρ H w
  defers : a.defers = []
  size : a.tmps.size = n
  tmp : ∀ k, k ≤ rs.length → ∀ d v, (Tat rs T k).get d = some v → d < n
  vals : ∀ k, k ≤ rs.length → ∀ d, (∀ (k' : Nat) (r : Ro), rs[k']? = some r → r.o.dst = some d → (S r.i = true ↔ k' < k)) → ∀ v, (Tat rs T k).get d = some v → ∃ x, a.tmps[d]? = some x ∧ VR ρ v x

section
variable {C : Ctx} {N : Bd} {G n : Nat} {ops : Array Oper} {rs : List Ro} {D : Nat} {P : List Ro} {T : PT AV} {H : AH} {ρ0 : Names} {H0 : AH} {w0 : World} {S S' : Nat → Bool} {ρ ρ' : Names} {a : Act} {w w' : World}

theorem getElem?_lt {α : Type} {l : List α} {k : Nat} {x : α} (h : l[k]? = some x) : k < l.length := (List.getElem?_eq_some_iff.1 h).1

/-- Writers of what a row names: those that came up are those ahead of it. -/
theorem Mt.writers (h : Mt C N G n ops rs D P T H ρ0 H0 w0 S ρ a w) (K : DrawOK ops) {k : Nat} {r : Ro} (hr : rs[k]? = some r) (hi : S r.i = false) (hanc : ∀ j, (ancOf ops r.i).testBit j = true → S j = true)
    {d : Nat} (hd : d ∈ tmpsOf ops r.o) (k' : Nat) (r' : Ro) (hr' : rs[k']? = some r') (hd' : r'.o.dst = some d) : S r'.i = true ↔ k' < k := by
  have ho := h.op k r hr
  have ho' := h.op k' r' hr'
  rcases Nat.lt_trichotomy r'.i r.i with h1 | h1 | h1
  · have hp := K.pairs r'.i r.i _ _ h1 ho' ho (clash_of hd' hd)
    constructor
    · intro _
      obtain ⟨k2, r2, g1, g2, g3⟩ := h.anc k r r'.i hr hp
      have := h.once k2 k' r2 r' g2 hr' g3
      omega
    · intro _; exact hanc _ hp
  · have := h.once k' k r' r hr' hr h1
    subst this
    rw [h1, hi]; simp
  · have hp := K.pairs r.i r'.i _ _ h1 ho ho' (clash_of' hd' hd)
    constructor
    · intro hs
      have := h.closed r'.i hs r.i hp
      rw [hi] at this; cases this
    · intro hlt
      obtain ⟨k2, r2, g1, g2, g3⟩ := h.anc k' r' r.i hr' hp
      have := h.once k2 k r2 r g2 hr g3
      omega

theorem Mt.sees (h : Mt C N G n ops rs D P T H ρ0 H0 w0 S ρ a w) (K : DrawOK ops) {k : Nat} {r : Ro} (hr : rs[k]? = some r) (hi : S r.i = false) (hanc : ∀ j, (ancOf ops r.i).testBit j = true → S j = true)
    {d : Nat} (hd : d ∈ tmpsOf ops r.o) {v : AV} (hv : r.T.get d = some v) : ∃ x, a.tmps[d]? = some x ∧ VR ρ v x := by
  refine h.vals k (Nat.le_of_lt (getElem?_lt hr)) d (h.writers K hr hi hanc hd) v ?_
  unfold Tat; rw [hr]; exact hv

theorem Mt.tmp_same (h : Mt C N G n ops rs D P T H ρ0 H0 w0 S ρ a w) {d p : Nat} : ∀ (m : Nat), p + m ≤ rs.length → (∀ (j : Nat) r, p ≤ j → j < p + m → rs[j]? = some r → r.o.dst ≠ some d) → (Tat rs T (p + m)).get d = (Tat rs T p).get d
  | 0, _, _ => rfl
  | m + 1, hm, hno => by
    have ih := h.tmp_same m (by omega) fun j r h1 h2 => hno j r h1 (by omega)
    obtain ⟨r, hr⟩ : ∃ r, rs[p + m]? = some r := ⟨_, List.getElem?_eq_getElem (by omega)⟩
    have hs := h.step (p + m) r hr
    have hT : Tat rs T (p + m) = r.T := by unfold Tat; rw [hr]
    rw [show p + (m + 1) = p + m + 1 by omega, hs, ← ih, hT]
    have hne := hno (p + m) r (by omega) (by omega) hr
    cases he : r.o.dst with
    | none => rfl
    | some e =>
      have : d ≠ e := fun e' => hne (by rw [he, e'])
      simp only [aput]
      cases Nat.blt e n
      · rfl
      · simp only [cond_true, PT.get_set]; rw [if_neg this]

/-- A row that has not come up yet comes up. -/
theorem Mt.put (h : Mt C N G n ops rs D P T H ρ0 H0 w0 S ρ a w) (K : DrawOK ops) {k : Nat} {r : Ro} (hr : rs[k]? = some r) (hi : S r.i = false) (hanc : ∀ j, (ancOf ops r.i).testBit j = true → S j = true)
    (hSi : S' r.i = true) (hS : ∀ j, j ≠ r.i → S' j = S j) {x : Value} (hext : Ext ρ ρ') (hx : VR ρ' r.v x) (hR : R N G ρ' H w') (hF : Fr ρ0 H0 w0 ρ' H w') : Mt C N G n ops rs D P T H ρ0 H0 w0 S' ρ' (a.put r.o.dst x) w' := by
  have ho := h.op k r hr
  have mono : ∀ j, S j = true → S' j = true := fun j hj => by
    by_cases e : j = r.i
    · rw [e]; exact hSi
    · rw [hS j e]; exact hj
  refine ⟨h.op, h.once, h.anc, h.step, h.dn, fun j hj => ?_, fun k' r' hr' hn => ?_, fun i hs j hj => ?_, hR, hF, ?_, ?_, h.tmp, ?_⟩
  · by_cases e : j = r.i
    · exact (h.dn j).2 ⟨k, r, hr, e.symm⟩
    · rw [hS j e] at hj; exact h.sub j hj
  · have hne : r'.i ≠ r.i := fun e => by rw [e, hSi] at hn; cases hn
    rw [hS _ hne] at hn
    exact h.good k' r' hr' hn
  · by_cases e : i = r.i
    · rw [e] at hj; exact mono j (hanc j hj)
    · rw [hS i e] at hs; exact mono j (h.closed i hs j hj)
  · cases hd : r.o.dst <;> exact h.defers
  · cases hd : r.o.dst
    · exact h.size
    · simp [Act.put, h.size]
  · intro k2 hk2 d hw v hv
    by_cases hd : r.o.dst = some d
    · have hik : k < k2 := (hw k r hr hd).1 hSi
      have hsame : (Tat rs T k2).get d = (Tat rs T (k + 1)).get d := by
        have := h.tmp_same (d := d) (p := k + 1) (k2 - (k + 1)) (by omega) fun j rj h1 h2 h3 h4 => by
          have hne : rj.i ≠ r.i := fun e => by have := h.once j k rj r h3 hr e; omega
          have hjs := (hw j rj h3 h4).2 (by omega)
          rw [hS _ hne] at hjs
          have := (h.writers K hr hi hanc (dst_mem hd) j rj h3 h4).1 hjs
          omega
        rwa [show k + 1 + (k2 - (k + 1)) = k2 by omega] at this
      have hdn : d < n := h.tmp k2 hk2 d v hv
      rw [hsame, h.step k r hr, hd] at hv
      have hb : Nat.blt d n = true := Nat.ble_eq_true_of_le hdn
      simp only [aput, hb, cond_true, PT.get_set, if_true, Option.some.injEq] at hv
      subst hv
      refine ⟨x, ?_, hx⟩
      rw [hd]
      simp [Act.put, h.size, hdn]
    · have hkeep : (a.put r.o.dst x).tmps[d]? = a.tmps[d]? := by
        cases he : r.o.dst with
        | none => rfl
        | some e =>
          simp only [Act.put]
          rw [Array.getElem?_setIfInBounds_ne]
          intro e'; subst e'; exact hd he
      rw [hkeep]
      obtain ⟨x0, hx0, hx1⟩ := h.vals k2 hk2 d (fun j rj hj hdj => by
        have hne : rj.i ≠ r.i := by
          intro e
          have := h.once j k rj r hj hr e
          subst this
          rw [hr] at hj; cases hj
          exact hd hdj
        rw [← hS _ hne]
        exact hw j rj hj hdj) v hv
      exact ⟨x0, hx0, hx1.ext hext⟩

/-- What an operation sees of its operands. -/
theorem ev_of (hR : R N G ρ H w) {o : Oper} {T : PT AV} (sees : ∀ d, d ∈ tmpsOf ops o → ∀ v, T.get d = some v → ∃ x, a.tmps[d]? = some x ∧ VR ρ v x) :
    (∀ b, awanted ops T o = some b → Region.wanted o (yielded ops a.tmps) = b) ∧ ∃ ev : Operand → AV, (∀ x ∈ o.op.operands, aeval G T x = ev x) ∧ VEv ρ ev a.eval := by
  refine ⟨fun b hb => awanted_ok' (ρ := ρ) hb fun j want d hg hd v hv => sees d (by unfold tmpsOf; rw [hg]; simp [hd]) v hv, ?_⟩
  classical
  refine ⟨fun x => if x ∈ o.op.operands then aeval G T x else .junk, fun x hx => by simp [hx], fun x => ?_⟩
  simp only
  split
  · rename_i hx
    refine aeval_ok hR x fun t ht v hv => sees t ?_ v hv
    subst ht
    unfold tmpsOf
    simp only [List.mem_append, List.mem_filterMap]
    exact .inl (.inr ⟨_, Array.mem_toList_iff.2 hx, rfl⟩)
  · simp [VR]

theorem Mt.float (hC : C.OK) (h : Mt C N G n ops rs D P T H ρ0 H0 w0 S ρ a w) (K : DrawOK ops) {k : Nat} {r : Ro} (hr : rs[k]? = some r) (hi : S r.i = false) (hanc : ∀ j, (ancOf ops r.i).testBit j = true → S j = true)
    (hSi : S' r.i = true) (hS : ∀ j, j ≠ r.i → S' j = S j) {Q : Exit → Act → World → Prop} {next : Act → World → Prop} (hnext : ∀ ρ' a' w', Mt C N G n ops rs D P T H ρ0 H0 w0 S' ρ' a' w' → next a' w') : wpOp C.P ops Q r.i next a w := by
  have ho := h.op k r hr
  obtain ⟨hwant, ev, hev1, hev2⟩ := ev_of (o := r.o) (T := r.T) h.rd fun d hd v hv => h.sees K hr hi hanc hd hv
  unfold wpOp
  rw [ho]
  simp only
  rcases (h.good k r hr hi).1 with ⟨hw, hv⟩ | ⟨hw, hg⟩
  · rw [hwant _ hw]
    simp only [Bool.false_eq_true, if_false]
    exact hnext _ _ _ (h.put K hr hi hanc hSi hS (fun _ _ h => h) (by rw [hv]; simp only [VR, undef]; exact ⟨[], rfl, VRs.nil⟩) h.rd h.fr)
  · rw [hwant _ hw]
    simp only [if_true]
    left
    rcases hg with hv | hv | hv
    · rw [pureOp_congr hev1] at hv
      obtain ⟨u, hu, hru⟩ := pureOp_ok hC hev2 hv w
      unfold Oper.wp
      rw [hu]
      exact hnext _ _ _ (h.put K hr hi hanc hSi hS (fun _ _ h => h) hru h.rd h.fr)
    · rw [readOp_congr hev1] at hv
      obtain ⟨u, w', hu, hru, hR', hF'⟩ := readOp_ok hC h.rd hev2 hv
      unfold Oper.wp
      rw [hu]
      exact hnext _ _ _ (h.put K hr hi hanc hSi hS (fun _ _ h => h) hru hR' (h.fr.trans hF'))
    · exact qcall_wp hC (qcall_congr hev1 hv) h.rd hev2 fun x ρ' w' hx hR' hF' => hnext _ _ _ (h.put K hr hi hanc hSi hS (h.rd.ext hF') hx hR' (h.fr.trans hF'))

/-- All orders, out of what holds of each operation that may come now. -/
theorem any_of (K : DrawOK ops) {P : Program} {Q : Exit → Act → World → Prop} {fuel : Nat} {listed : Array Bool} (hsz : listed.size = ops.size) (hc : listed.toList.count false = fuel) (hcl : ∀ i, listed.getD i false = true → ∀ j, (ancOf ops i).testBit j = true → listed.getD j false = true)
    (hend : (∀ i, i < ops.size → listed.getD i false = true) → Q .normal a w)
    (hstep : ∀ i fuel', fuel = fuel' + 1 → i < ops.size → listed.getD i false = false → (∀ j, (ancOf ops i).testBit j = true → listed.getD j false = true) →
      (listed.setIfInBounds i true).size = ops.size → (listed.setIfInBounds i true).toList.count false = fuel' → (∀ j, (listed.setIfInBounds i true).getD j false = if j = i then true else listed.getD j false) →
      wpOp P ops Q i (wpAny P .any ops Q fuel' (listed.setIfInBounds i true)) a w) : wpAny P .any ops Q fuel listed a w := by
  have all_of_ready : Region.ready .any ops listed = [] → ∀ j, j < ops.size → listed.getD j false = true := by
    intro hr j
    induction j using Nat.strongRecOn with
    | ind j ih =>
      intro hj
      cases hb : listed.getD j false
      · exfalso
        have : j ∈ Region.ready .any ops listed := by
          rw [mem_ready]
          refine ⟨?_, ops[j], by simp [hj], fun e he hbd => ?_⟩
          · rw [Array.getD_eq_getD_getElem?] at hb ⊢
            have : j < listed.size := by omega
            simp only [Array.getElem?_eq_getElem this, Option.getD_some] at hb ⊢
            exact hb
          · have := K.edges j _ (by simp [hj]) e he hbd
            exact ih e.on this (by omega)
        rw [hr] at this; cases this
      · rfl
  cases fuel with
  | zero =>
    have hall : ∀ j, j < ops.size → listed.getD j false = true := by
      intro j hj
      cases hb : listed.getD j false
      · exfalso
        rw [Array.getD_eq_getD_getElem?] at hb
        have hlt : j < listed.size := by omega
        simp only [Array.getElem?_eq_getElem hlt, Option.getD_some] at hb
        have : false ∈ listed.toList := by rw [← hb]; simp
        rw [List.count_eq_zero] at hc
        exact hc this
      · rfl
    refine ⟨?_, hend hall⟩
    rw [List.eq_nil_iff_forall_not_mem]
    intro j hj
    obtain ⟨h1, o, ho, _⟩ := mem_ready.1 hj
    have hjs : j < ops.size := (Array.getElem?_eq_some_iff.1 ho).1
    have h2 := hall j hjs
    rw [Array.getD_eq_getD_getElem?] at h1 h2
    have hlt : j < listed.size := by omega
    simp only [Array.getElem?_eq_getElem hlt, Option.getD_some] at h1 h2
    rw [h1] at h2; cases h2
  | succ fuel =>
    refine ⟨fun hr => hend (all_of_ready hr), fun i hi => ?_⟩
    obtain ⟨h1, o, ho, hedges⟩ := mem_ready.1 hi
    have his : i < ops.size := (Array.getElem?_eq_some_iff.1 ho).1
    have hlt : i < listed.size := by omega
    have hfalse : listed.getD i false = false := by
      rw [Array.getD_eq_getD_getElem?] at h1 ⊢
      simp only [Array.getElem?_eq_getElem hlt, Option.getD_some] at h1 ⊢
      exact h1
    have hanc : ∀ j, (ancOf ops i).testBit j = true → listed.getD j false = true := by
      intro j hj
      obtain ⟨o', ho', e, he, hb, hon⟩ := before_spec ops hj
      rw [ho] at ho'; cases ho'
      have hS := hedges e he hb
      rcases hon with rfl | ⟨hon, hei⟩
      · exact hS
      · exact hcl e.on hS j hon
    have hset : ∀ j, (listed.setIfInBounds i true).getD j false = if j = i then true else listed.getD j false := by
      intro j
      split
      · rename_i e
        subst e
        rw [Array.getD_eq_getD_getElem?]; simp [hlt]
      · rename_i e
        exact getD_set_ne false (fun e' => e e'.symm)
    refine hstep i fuel rfl his hfalse hanc (by simp [hsz]) ?_ hset
    have hget : listed.toList[i]'(by simpa using hlt) = false := by
      rw [Array.getD_eq_getD_getElem?] at hfalse
      simp only [Array.getElem?_eq_getElem hlt, Option.getD_some] at hfalse
      simpa using hfalse
    rw [Array.setIfInBounds, dif_pos hlt]
    simp only [Array.toList_set]
    rw [List.count_set (by simpa using hlt)]
    rw [hget, hc]
    simp
end

/-- An operation that may change memory. -/
def actOp (C : Ctx) (o : Oper) : Bool := !(quietOp C o && !isCallOp o)

/-- The prover's order may be: each waits for those alone that are taken; all that is left waits for what acts. -/
def ordOK (C : Ctx) (Qs : List Nat) (anc : Nat → Nat) : List (Nat × Oper) → Nat → Bool
  | [], _ => true
  | (i, o) :: l, D => Nat.beq (anc i &&& D) (anc i) && !(D.testBit i) && (bif actOp C o && !(memB i Qs) then l.all (fun p => (anc p.1).testBit i) else true) && ordOK C Qs anc l (D ||| 2 ^ i)

/-- What a region does, in the prover's order: l: what is left; D: what is taken; P: what was read. -/
def DN (C : Ctx) (N : Bd) (G n : Nat) (Qs : List Nat) (ops : Array Oper) (l : List (Nat × Oper)) (D : Nat) (P : List Ro) (T : PT AV) (H : AH) (Q : PT AV → AH → Prop) : Prop :=
  DrawOK ops → ordOK C Qs (ancOf ops) l D = true → (∀ p ∈ l, ops[p.1]? = some p.2) → (∀ i, i < ops.size → D.testBit i = true ∨ ∃ p ∈ l, p.1 = i) →
  ∀ (rs : List Ro) (ρ0 : Names) (H0 : AH) (w0 : World) (fuel : Nat) (listed : Array Bool) (ρ : Names) (a : Act) (w : World), listed.size = ops.size → listed.toList.count false = fuel →
    Mt C N G n ops rs D P T H ρ0 H0 w0 (fun j => listed.getD j false) ρ a w →
  ∀ K : Exit → Act → World → Prop, (∀ ρ' a' w' T' H', Q T' H' → AR ρ' T' n a' → R N G ρ' H' w' → Fr ρ0 H0 w0 ρ' H' w' → K .normal a' w') → wpAny C.P .any ops K fuel listed a w

theorem getD_of_append {rs : List Ro} {r0 : Ro} {k : Nat} {r : Ro} (h : (rs ++ [r0])[k]? = some r) : rs[k]? = some r ∨ (k = rs.length ∧ r = r0) := by
  by_cases hk : k < rs.length
  · rw [List.getElem?_append_left hk] at h; exact .inl h
  · rw [List.getElem?_append_right (by omega)] at h
    have := getElem?_lt h
    simp at this
    have hk' : k = rs.length := by omega
    subst hk'
    simp at h
    exact .inr ⟨rfl, h.symm⟩

theorem getE_append_left {rs : List Ro} {r0 : Ro} {k : Nat} {r : Ro} (h : rs[k]? = some r) : (rs ++ [r0])[k]? = some r := by
  rw [List.getElem?_append_left (getElem?_lt h)]; exact h
theorem getE_append_last {rs : List Ro} {r0 : Ro} : (rs ++ [r0])[rs.length]? = some r0 := by simp

theorem Tat_append {rs : List Ro} {r0 : Ro} {T T' : PT AV} (hT : r0.T = T) {k : Nat} (hk : k ≤ rs.length) : Tat (rs ++ [r0]) T' k = Tat rs T k := by
  unfold Tat
  by_cases h : k < rs.length
  · rw [List.getElem?_append_left h, List.getElem?_eq_getElem h]
  · have : k = rs.length := by omega
    subst this
    rw [getE_append_last, List.getElem?_eq_none (Nat.le_refl _)]
    exact hT
theorem Tat_last {rs : List Ro} {T : PT AV} : Tat rs T rs.length = T := by
  unfold Tat; rw [List.getElem?_eq_none (Nat.le_refl _)]

theorem testBit_or_pow' (D i j : Nat) : (D ||| 2 ^ i).testBit j = (D.testBit j || decide (i = j)) := by
  rw [Nat.testBit_or, Nat.testBit_two_pow]

section
variable {C : Ctx} {N : Bd} {G n : Nat} {ops : Array Oper} {rs : List Ro} {D : Nat} {P : List Ro} {T : PT AV} {H : AH} {ρ0 : Names} {H0 : AH} {w0 : World} {S S' : Nat → Bool} {ρ ρ' : Names} {a : Act} {w w' : World}

/-- One more row in the prover's order. -/
theorem Mt.more (h : Mt C N G n ops rs D P T H ρ0 H0 w0 S ρ a w) {i : Nat} {o : Oper} (ho : ops[i]? = some o) (hD : D.testBit i = false) (hanc : ∀ j, (ancOf ops i).testBit j = true → D.testBit j = true) {v : AV} {k : Nat} {P' : List Ro} {H' : AH}
    (hSi : S' i = true → k = 2 ∧ ∀ j, (ancOf ops i).testBit j = true → S j = true) (hS : ∀ j, j ≠ i → S' j = S j)
    (hgood : S' i = false → (⟨i, o, T, v, k⟩ : Ro).good C N G ops H' ∧ k ≠ 2 ∧ (k ≠ 1 → ∀ K, (⟨i, o, T, v, k⟩ : Ro).good C N G ops K) ∧ (k = 1 → (⟨i, o, T, v, k⟩ : Ro) ∈ P'))
    (hold : ∀ (k' : Nat) r, rs[k']? = some r → S r.i = false → r.good C N G ops H' ∧ (r.k = 1 → r ∈ P'))
    {a' : Act} (hdef : a'.defers = []) (hsize : a'.tmps.size = n) (hR : R N G ρ' H' w') (hF : Fr ρ0 H0 w0 ρ' H' w') (hext : Ext ρ ρ')
    (hkeep : ∀ d, (S' i = true → o.dst ≠ some d) → a'.tmps[d]? = a.tmps[d]?) (hput : S' i = true → ∀ d, o.dst = some d → d < n → ∃ x, a'.tmps[d]? = some x ∧ VR ρ' v x) :
    Mt C N G n ops (rs ++ [⟨i, o, T, v, k⟩]) (D ||| 2 ^ i) P' (aput n T o.dst v) H' ρ0 H0 w0 S' ρ' a' w' := by
  have hSno : S i = false := by
    cases hs : S i
    · rfl
    · have := h.sub i hs; rw [hD] at this; cases this
  have hne : ∀ (k' : Nat) r, rs[k']? = some r → r.i ≠ i := fun k' r hr e => by
    have := (h.dn i).2 ⟨k', r, hr, e⟩
    rw [hD] at this; cases this
  have mono : ∀ j, S j = true → S' j = true := fun j hj => by
    have : j ≠ i := fun e => by rw [e, hSno] at hj; cases hj
    rw [hS j this]; exact hj
  have hTlast : Tat (rs ++ [⟨i, o, T, v, k⟩]) (aput n T o.dst v) (rs.length + 1) = aput n T o.dst v := by
    have := Tat_last (rs := rs ++ [(⟨i, o, T, v, k⟩ : Ro)]) (T := aput n T o.dst v)
    rwa [List.length_append, List.length_cons, List.length_nil, Nat.zero_add] at this
  refine ⟨fun k' r hr => ?_, fun k1 k2 r1 r2 h1 h2 he => ?_, fun k' r j hr hj => ?_, fun k' r hr => ?_, fun j => ?_, fun j hj => ?_, fun k' r hr hs => ?_, fun i' hs j hj => ?_, hR, hF, hdef, hsize, fun k' hk' d v' hv => ?_, fun k' hk' d hw v' hv => ?_⟩
  · rcases getD_of_append hr with hr | ⟨rfl, rfl⟩
    · exact h.op k' r hr
    · exact ho
  · rcases getD_of_append h1 with h1 | ⟨rfl, rfl⟩ <;> rcases getD_of_append h2 with h2 | ⟨rfl, rfl⟩
    · exact h.once _ _ _ _ h1 h2 he
    · exact absurd he (hne _ _ h1)
    · exact absurd he.symm (hne _ _ h2)
    · rfl
  · rcases getD_of_append hr with hr | ⟨rfl, rfl⟩
    · obtain ⟨k2, r2, g1, g2, g3⟩ := h.anc k' r j hr hj
      exact ⟨k2, r2, g1, getE_append_left g2, g3⟩
    · obtain ⟨k2, r2, g2, g3⟩ := (h.dn j).1 (hanc j hj)
      exact ⟨k2, r2, getElem?_lt g2, getE_append_left g2, g3⟩
  · rcases getD_of_append hr with hr | ⟨rfl, rfl⟩
    · rw [Tat_append (T := T) rfl (getElem?_lt hr)]
      exact h.step k' r hr
    · exact hTlast
  · rw [testBit_or_pow', Bool.or_eq_true, h.dn j]
    constructor
    · rintro (⟨k', r, hr, e⟩ | e)
      · exact ⟨k', r, getE_append_left hr, e⟩
      · exact ⟨_, _, getE_append_last, of_decide_eq_true e⟩
    · rintro ⟨k', r, hr, e⟩
      rcases getD_of_append hr with hr | ⟨rfl, rfl⟩
      · exact .inl ⟨k', r, hr, e⟩
      · exact .inr (decide_eq_true e)
  · rw [testBit_or_pow', Bool.or_eq_true]
    by_cases e : j = i
    · exact .inr (decide_eq_true e.symm)
    · rw [hS j e] at hj; exact .inl (h.sub j hj)
  · rcases getD_of_append hr with hr | ⟨rfl, rfl⟩
    · rw [hS _ (hne _ _ hr)] at hs
      obtain ⟨g1, g2, g3, g4⟩ := h.good k' r hr hs
      obtain ⟨q1, q2⟩ := hold k' r hr hs
      exact ⟨q1, g2, g3, q2⟩
    · exact hgood hs
  · by_cases e : i' = i
    · subst e
      exact mono j ((hSi hs).2 j hj)
    · rw [hS i' e] at hs
      exact mono j (h.closed i' hs j hj)
  · simp only [List.length_append, List.length_cons, List.length_nil, Nat.zero_add] at hk'
    by_cases hk2 : k' ≤ rs.length
    · rw [Tat_append (T := T) rfl hk2] at hv
      exact h.tmp k' hk2 d v' hv
    · have : k' = rs.length + 1 := by omega
      subst this
      rw [hTlast] at hv
      cases he : o.dst with
      | none => rw [he] at hv; exact h.tmp _ (Nat.le_refl _) d v' (by rw [Tat_last]; exact hv)
      | some e =>
        rw [he] at hv
        simp only [aput] at hv
        cases hb : Nat.blt e n
        · rw [hb] at hv; exact h.tmp _ (Nat.le_refl _) d v' (by rw [Tat_last]; exact hv)
        · rw [hb] at hv
          simp only [cond_true, PT.get_set] at hv
          split at hv
          · rename_i e'; rw [e']; exact Nat.le_of_ble_eq_true hb
          · exact h.tmp _ (Nat.le_refl _) d v' (by rw [Tat_last]; exact hv)
  · simp only [List.length_append, List.length_cons, List.length_nil, Nat.zero_add] at hk'
    have hlast := hw rs.length ⟨i, o, T, v, k⟩ getE_append_last
    have hrest : ∀ k2, k2 ≤ rs.length → (k2 = k' ∨ (k2 = rs.length ∧ k' = rs.length + 1)) → ∀ (k'' : Nat) (r : Ro), rs[k'']? = some r → r.o.dst = some d → (S r.i = true ↔ k'' < k2) := fun k2 hk2 hkk k'' r hr hd => by
      have h1 := hw k'' r (getE_append_left hr) hd
      rw [hS _ (hne _ _ hr)] at h1
      have := getElem?_lt hr
      rw [h1]
      rcases hkk with rfl | ⟨rfl, rfl⟩
      · exact Iff.rfl
      · omega
    by_cases hk2 : k' ≤ rs.length
    · rw [Tat_append (T := T) rfl hk2] at hv
      have hnd : S' i = true → o.dst ≠ some d := fun hs e => by
        have := (hlast e).1 hs
        omega
      obtain ⟨x, h1, h2⟩ := h.vals k' hk2 d (hrest k' hk2 (.inl rfl)) v' hv
      exact ⟨x, by rw [hkeep d hnd]; exact h1, h2.ext hext⟩
    · have : k' = rs.length + 1 := by omega
      subst this
      rw [hTlast] at hv
      by_cases hd : o.dst = some d
      · have hs : S' i = true := (hlast hd).2 (Nat.lt_succ_self _)
        rcases Nat.lt_or_ge d n with hdn | hdn
        · have hb : Nat.blt d n = true := Nat.ble_eq_true_of_le hdn
          rw [hd] at hv
          simp only [aput, hb, cond_true, PT.get_set, if_true, Option.some.injEq] at hv
          subst hv
          exact hput hs d hd hdn
        · exfalso
          have hb : Nat.blt d n = false := by
            cases hb : Nat.blt d n
            · rfl
            · exact absurd (Nat.le_of_ble_eq_true hb) (Nat.not_le.2 (Nat.lt_succ_of_le hdn))
          rw [hd] at hv
          simp only [aput, hb, cond_false] at hv
          exact absurd (h.tmp _ (Nat.le_refl _) d v' (by rw [Tat_last]; exact hv)) (Nat.not_lt.2 hdn)
      · have hv2 : T.get d = some v' := by
          cases he : o.dst with
          | none => rw [he] at hv; exact hv
          | some e =>
            have hde : d ≠ e := fun e' => hd (by rw [he, e'])
            rw [he] at hv
            simp only [aput] at hv
            cases hb : Nat.blt e n
            · rw [hb] at hv; exact hv
            · rw [hb] at hv
              simp only [cond_true, PT.get_set] at hv
              rwa [if_neg hde] at hv
        obtain ⟨x, h1, h2⟩ := h.vals rs.length (Nat.le_refl _) d (hrest rs.length (Nat.le_refl _) (.inr ⟨rfl, rfl⟩)) v' (by rw [Tat_last]; exact hv2)
        exact ⟨x, by rw [hkeep d (fun _ => hd)]; exact h1, h2.ext hext⟩
end

section
variable {C : Ctx} {N : Bd} {G n : Nat} {Qs : List Nat} {ops : Array Oper} {D : Nat} {P : List Ro} {T : PT AV} {H : AH} {Q : PT AV → AH → Prop} {l : List (Nat × Oper)} {i : Nat} {o : Oper} {v : AV}

/-- All is taken. -/
theorem DN.nil (hC : C.OK) (h : Q T H) : DN C N G n Qs ops [] D P T H Q := by
  intro K _ _ hall rs ρ0 H0 w0 fuel
  induction fuel with
  | zero =>
    intro listed ρ a w hsz hc hM Z hZ
    refine any_of K hsz hc hM.closed (fun hl => ?_) (fun i f e => by omega)
    refine hZ ρ a w T H h ⟨hM.defers, hM.size, fun d v hv => ?_⟩ hM.rd hM.fr
    refine hM.vals rs.length (Nat.le_refl _) d (fun k r hr _ => ⟨fun _ => getElem?_lt hr, fun _ => hl r.i (by have := (Array.getElem?_eq_some_iff.1 (hM.op k r hr)).1; exact this)⟩) v (by rw [Tat_last]; exact hv)
  | succ fuel ih =>
    intro listed ρ a w hsz hc hM Z hZ
    refine any_of K hsz hc hM.closed (fun hl => ?_) (fun i f e hi hf hanc h1 h2 h3 => ?_)
    · refine hZ ρ a w T H h ⟨hM.defers, hM.size, fun d v hv => ?_⟩ hM.rd hM.fr
      refine hM.vals rs.length (Nat.le_refl _) d (fun k r hr _ => ⟨fun _ => getElem?_lt hr, fun _ => hl r.i (by have := (Array.getElem?_eq_some_iff.1 (hM.op k r hr)).1; exact this)⟩) v (by rw [Tat_last]; exact hv)
    · obtain rfl : f = fuel := by omega
      have hd : D.testBit i = true := (hall i hi).resolve_right (by rintro ⟨p, hp, _⟩; simp at hp)
      obtain ⟨k, r, hr, rfl⟩ := (hM.dn i).1 hd
      exact hM.float hC K hr hf hanc (S' := fun j => (listed.setIfInBounds r.i true).getD j false) (by simp only [h3, if_true]) (fun j hj => by simp only [h3, if_neg hj]) fun ρ' a' w' hM' => ih _ ρ' a' w' h1 h2 hM' Z hZ

theorem ordOK_cons (h : ordOK C Qs (ancOf ops) ((i, o) :: l) D = true) : (∀ j, (ancOf ops i).testBit j = true → D.testBit j = true) ∧ D.testBit i = false ∧ (actOp C o = true → memB i Qs = false → ∀ p ∈ l, (ancOf ops p.1).testBit i = true) ∧ ordOK C Qs (ancOf ops) l (D ||| 2 ^ i) = true := by
  simp only [ordOK, Bool.and_eq_true, Bool.not_eq_true'] at h
  obtain ⟨⟨⟨h1, h2⟩, h3⟩, h4⟩ := h
  refine ⟨fun j hj => ?_, h2, fun ha hm p hp => ?_, h4⟩
  · have e := Nat.eq_of_beq_eq_true h1
    rw [← e, Nat.testBit_and, Bool.and_eq_true] at hj
    exact hj.2
  · rw [ha, hm] at h3
    exact List.all_eq_true.1 h3 p hp

/-- What is known of an operation that does not act. -/
theorem good_of (hq : actOp C o = false) (hw : awanted ops T o = some true) (hv : evOp C F0 H (aeval G T) o = some (v, H)) (k : Nat) : (⟨i, o, T, v, k⟩ : Ro).good C N G ops H := by
  refine .inr ⟨hw, ?_⟩
  simp only [actOp, Bool.not_eq_false', Bool.and_eq_true, Bool.not_eq_true'] at hq
  unfold evOp at hv
  split at hv
  · rename_i x hx
    simp only [Option.some.injEq, Prod.mk.injEq] at hv
    obtain ⟨rfl, _⟩ := hv
    exact .inl hx
  · split at hv
    · rename_i x hx
      simp only [Option.some.injEq, Prod.mk.injEq] at hv
      obtain ⟨rfl, _⟩ := hv
      exact .inr (.inl hx)
    · rw [quiet_new hq.1] at hv
      have := (quiet_chain QuietF0 hq.1 hv).2
      rw [hq.2] at this; cases this

/-- A row that does not act is taken. -/
theorem DN.floatR {k : Nat} (hk : k ≠ 2) {P' : List Ro} (hP : ∀ r ∈ P, r ∈ P') (hk1 : k = 1 → (⟨i, o, T, v, k⟩ : Ro) ∈ P') (hg : (⟨i, o, T, v, k⟩ : Ro).good C N G ops H) (hg2 : k ≠ 1 → ∀ K, (⟨i, o, T, v, k⟩ : Ro).good C N G ops K)
    (h : DN C N G n Qs ops l (D ||| 2 ^ i) P' (aput n T o.dst v) H Q) : DN C N G n Qs ops ((i, o) :: l) D P T H Q := by
  intro K hord hops hall rs ρ0 H0 w0 fuel listed ρ a w hsz hc hM Z hZ
  obtain ⟨h1, h2, h3, h4⟩ := ordOK_cons hord
  have hS : listed.getD i false = false := by
    cases hs : listed.getD i false
    · rfl
    · have := hM.sub i hs; rw [h2] at this; cases this
  refine h K h4 (fun p hp => hops p (List.mem_cons_of_mem _ hp)) (fun j hj => ?_) (rs ++ [⟨i, o, T, v, k⟩]) ρ0 H0 w0 fuel listed ρ a w hsz hc ?_ Z hZ
  · rcases hall j hj with h | ⟨p, hp, e⟩
    · left; rw [testBit_or_pow', h]; rfl
    · rcases List.mem_cons.1 hp with rfl | hp
      · left; rw [testBit_or_pow', decide_eq_true e]; simp
      · exact .inr ⟨p, hp, e⟩
  · exact hM.more (S' := fun j => listed.getD j false) (hops _ List.mem_cons_self) h2 h1 (fun hs => by rw [hS] at hs; cases hs) (fun _ _ => rfl) (fun _ => ⟨hg, hk, hg2, hk1⟩)
      (fun k' r hr hs => ⟨(hM.good k' r hr hs).1, fun e => hP r ((hM.good k' r hr hs).2.2.2 e)⟩) hM.defers hM.size hM.rd hM.fr (fun _ _ h => h) (fun _ _ => rfl) (fun hs => by rw [hS] at hs; cases hs)

/-- What acts is taken: what it does from H, and of what was read without its waiting for it, that it stays. -/
theorem DN.actR (hC : C.OK) (hq : actOp C o = true) {R1 : AV → AH → Prop} (hw : awanted ops T o = some true)
    (hact : ∀ ρ w a (ev : Operand → AV), R N G ρ H w → (∀ x ∈ o.op.operands, aeval G T x = ev x) → VEv ρ ev a.eval → ∀ (next : Act → World → Prop) (Z : Exit → Act → World → Prop), (∀ x r ρ' w' H', R1 r H' → VR ρ' r x → R N G ρ' H' w' → Fr ρ H w ρ' H' w' → next (a.put o.dst x) w') → o.wp C.P a w next Z)
    (P' : List Ro) (hP : ∀ r ∈ P, r ∈ P' ∨ (ancOf ops i).testBit r.i = true)
    (h : ∀ r H', R1 r H' → (∀ x ∈ P', x.good C N G ops H') ∧ DN C N G n Qs ops l (D ||| 2 ^ i) P' (aput n T o.dst r) H' Q) (hm : memB i Qs = false := by with_unfolding_all rfl) : DN C N G n Qs ops ((i, o) :: l) D P T H Q := by
  intro K hord hops hall rs ρ0 H0 w0 fuel
  obtain ⟨h1, h2, h3, h4⟩ := ordOK_cons hord
  have ho : ops[i]? = some o := hops (i, o) List.mem_cons_self
  have his : i < ops.size := (Array.getElem?_eq_some_iff.1 ho).1
  induction fuel with
  | zero =>
    intro listed ρ a w hsz hc hM Z hZ
    refine any_of K hsz hc hM.closed (fun hl => ?_) (fun i f e => by omega)
    exfalso
    have := hM.sub i (hl i his)
    rw [h2] at this; cases this
  | succ fuel ih =>
    intro listed ρ a w hsz hc hM Z hZ
    refine any_of K hsz hc hM.closed (fun hl => ?_) (fun i' f e hi hf hanc g1 g2 g3 => ?_)
    · exfalso
      have := hM.sub i (hl i his)
      rw [h2] at this; cases this
    · obtain rfl : f = fuel := by omega
      rcases hall i' hi with hd | ⟨p, hp, rfl⟩
      · obtain ⟨k, r, hr, rfl⟩ := (hM.dn i').1 hd
        exact hM.float hC K hr hf hanc (S' := fun j => (listed.setIfInBounds r.i true).getD j false) (by simp only [g3, if_true]) (fun j hj => by simp only [g3, if_neg hj]) fun ρ' a' w' hM' => ih _ ρ' a' w' g1 g2 hM' Z hZ
      · rcases List.mem_cons.1 hp with rfl | hp
        · -- it acts
          have hSi : (listed.setIfInBounds i true).getD i false = true := by simp only [g3, if_true]
          have sees : ∀ d, d ∈ tmpsOf ops o → ∀ v, T.get d = some v → ∃ x, a.tmps[d]? = some x ∧ VR ρ v x := fun d hd v hv => by
            refine hM.vals rs.length (Nat.le_refl _) d (fun k r hr hdr => ⟨fun _ => getElem?_lt hr, fun _ => ?_⟩) v (by rw [Tat_last]; exact hv)
            have hor := hM.op k r hr
            have hin : D.testBit r.i = true := (hM.dn r.i).2 ⟨k, r, hr, rfl⟩
            rcases Nat.lt_trichotomy r.i i with q | q | q
            · exact hanc _ (K.pairs r.i i _ _ q hor ho (clash_of hdr hd))
            · rw [q, h2] at hin; cases hin
            · exfalso
              have hb := K.pairs i r.i _ _ q ho hor (clash_of' hdr hd)
              obtain ⟨k2, r2, _, q2, q3⟩ := hM.anc k r i hr hb
              have := (hM.dn i).2 ⟨k2, r2, q2, q3⟩
              rw [h2] at this; cases this
          obtain ⟨hwant, ev, hev1, hev2⟩ := ev_of (o := o) (T := T) hM.rd sees
          unfold wpOp
          rw [ho]
          simp only
          rw [hwant _ hw]
          simp only [if_true]
          left
          refine hact ρ w a ev hM.rd hev1 hev2 _ _ fun x r ρ' w' H' hq1 hx hR' hF' => ?_
          obtain ⟨hst, hgo⟩ := h r H' hq1
          refine hgo K h4 (fun p hp => hops p (List.mem_cons_of_mem _ hp)) (fun j hj => ?_) (rs ++ [⟨i, o, T, r, 2⟩]) ρ0 H0 w0 f _ ρ' _ w' g1 g2 ?_ Z hZ
          · rcases hall j hj with h | ⟨p, hp, e⟩
            · left; rw [testBit_or_pow', h]; rfl
            · rcases List.mem_cons.1 hp with rfl | hp
              · left; rw [testBit_or_pow', decide_eq_true e]; simp
              · exact .inr ⟨p, hp, e⟩
          · have hext := hM.rd.ext hF'
            refine hM.more (S' := fun j => (listed.setIfInBounds i true).getD j false) ho h2 h1 (fun _ => ⟨rfl, hanc⟩) (fun j hj => by simp only [g3, if_neg hj]) (fun hs => by rw [hSi] at hs; cases hs) (fun k' r' hr' hs' => ?_) ?_ ?_ hR' (hM.fr.trans hF') hext (fun d hd => ?_) (fun _ d hd hdn => ?_)
            · obtain ⟨q1, q2, q3, q4⟩ := hM.good k' r' hr' hs'
              by_cases hk1 : r'.k = 1
              · rcases hP r' (q4 hk1) with hp | hp
                · exact ⟨hst r' hp, fun _ => hp⟩
                · have := hanc _ hp; rw [hs'] at this; cases this
              · exact ⟨q3 hk1 H', fun e => absurd e hk1⟩
            · cases hd : o.dst <;> exact hM.defers
            · cases hd : o.dst
              · exact hM.size
              · simp [Act.put, hM.size]
            · have hne := hd hSi
              cases he : o.dst with
              | none => rfl
              | some e =>
                simp only [Act.put]
                rw [Array.getElem?_setIfInBounds_ne]
                intro e'; subst e'; exact hne he
            · refine ⟨x, ?_, hx⟩
              rw [hd]
              simp [Act.put, hM.size, hdn]
        · have := hanc i (h3 hq hm p hp)
          exfalso
          have := hM.sub i this
          rw [h2] at this; cases this
end

def pickL (ops : List Oper) : List Nat → List (Nat × Oper)
  | [] => []
  | i :: l => match ops[i]? with
    | some o => (i, o) :: pickL ops l
    | none => pickL ops l

theorem pickL_ops {ops : Array Oper} : ∀ (l : List Nat), ∀ p ∈ pickL ops.toList l, ops[p.1]? = some p.2
  | [], p, hp => by simp [pickL] at hp
  | i :: l, p, hp => by
    simp only [pickL] at hp
    split at hp
    · rename_i o ho
      rcases List.mem_cons.1 hp with rfl | hp
      · simpa using ho
      · exact pickL_ops l p hp
    · exact pickL_ops l p hp
theorem pickL_mem {ops : Array Oper} {i : Nat} (hi : i < ops.size) : ∀ (l : List Nat), i ∈ l → ∃ p ∈ pickL ops.toList l, p.1 = i
  | j :: l, h => by
    simp only [pickL]
    rcases List.mem_cons.1 h with rfl | h
    · have : ops.toList[i]? = some ops[i] := by simp [hi]
      rw [this]
      exact ⟨_, List.mem_cons_self, rfl⟩
    · obtain ⟨p, hp, e⟩ := pickL_mem hi l h
      split
      · exact ⟨p, List.mem_cons_of_mem _ hp, e⟩
      · exact ⟨p, hp, e⟩

def drawNOK (C : Ctx) (ops : Array Oper) (σ : List Nat) (Qs : List Nat := []) : Bool := drawOK ops && ordOK C Qs (ancOf ops) (pickL ops.toList σ) 0 && (List.range ops.size).all fun i => memB i σ

/-- **A region that draws its order**, in the prover's order. -/
theorem AW.drawN {C : Ctx} (hC : C.OK) {N : Bd} {G n : Nat} {id : Nat} {ops : Array Oper} (σ : List Nat) {Qs : List Nat} (ho : drawNOK C ops σ Qs = true) {T : PT AV} {H : AH} {Q : AEx → PT AV → AH → Prop} {l : List (Nat × Oper)} (hl : pickL ops.toList σ = l)
    (h : DN C N G n Qs ops l 0 [] T H (Q .normal)) : AW C N G n (.region id ops true) T H Q := fun ρ w a hR hA Z hZ => by
  subst hl
  simp only [drawNOK, Bool.and_eq_true] at ho
  obtain ⟨⟨ho1, ho2⟩, ho3⟩ := ho
  have K := drawOK_spec ho1
  refine wp_region_any hC.mixed (h K ho2 (pickL_ops σ) (fun i hi => .inr (pickL_mem hi σ (memB_iff.1 (List.all_eq_true.1 ho3 i (by simpa using hi))))) [] ρ H w ops.size _ ρ a { w with drawn := w.drawn + 1 } (by simp) (by simp) ?_ Z fun ρ' a' w' T' H' => hZ ρ' a' w' .normal T' H')
  have e : (fun j => (Array.replicate ops.size false).getD j false) = fun _ => false := by
    funext j
    rw [Array.getD_eq_getD_getElem?]
    by_cases hj : j < ops.size
    · simp [hj]
    · simp [hj]
  rw [e]
  exact {
    op := fun k r h => by simp at h
    once := fun k k' r r' h => by simp at h
    anc := fun k r j h => by simp at h
    step := fun k r h => by simp at h
    dn := fun j => by simp
    sub := fun j h => by cases h
    good := fun k r h => by simp at h
    closed := fun i h => by cases h
    rd := hR.drawn _
    fr := Fr.drawn _
    defers := hA.defers
    size := hA.size
    tmp := fun k _ d v hv => by
      have : (Tat [] T k) = T := rfl
      rw [this] at hv
      obtain ⟨x, hx, _⟩ := hA.vals d v hv
      have := (Array.getElem?_eq_some_iff.1 hx).1
      rw [hA.size] at this; exact this
    vals := fun k _ d _ v hv => hA.vals d v hv }
end Go.AB

namespace Go.AB

/-- Operations that look at no memory. -/
def pureK (o : Oper) : Bool :=
  match o.op with
  | .move _ | .assign _ | .pick .. | .build .. | .nilCheck _ | .binOp .. | .unOp .. | .makeInterface .. | .makeFunc .. | .fieldAddr .. | .field .. | .indexAddr .. | .index .. | .extract .. | .typeAssert .. => true
  | _ => false

section
variable {C : Ctx} {N : Bd} {G n : Nat} {Qs : List Nat} {ops : Array Oper} {D : Nat} {P : List Ro} {T : PT AV} {H H' : AH} {Q : PT AV → AH → Prop} {l : List (Nat × Oper)} {i : Nat} {o : Oper} {v : AV}
variable {op : Op} {type : TypeId} {pos : String} {after : Array Edge} {guard : Option (Nat × Bool)} {j : Nat} {want : Bool} {d e : Nat} {b : Bool}

theorem pureK_read {ev : Operand → AV} (h : pureK o = true) : readOp C H ev o = none := by
  obtain ⟨dst, op, type, pos, after, guard⟩ := o
  cases op <;> simp only [pureK, reduceCtorEq] at h <;> rfl

theorem pureK_act (h : pureK o = true) : actOp C o = false := by
  obtain ⟨dst, op, type, pos, after, guard⟩ := o
  cases op <;> simp only [pureK, reduceCtorEq] at h <;> rfl

theorem good_pure (h : pureK o = true) (hw : awanted ops T o = some true) (hv : evOp C F0 H (aeval G T) o = some (v, H)) (k : Nat) (K : AH) : (⟨i, o, T, v, k⟩ : Ro).good C N G ops K := by
  have := good_of (N := N) (i := i) (pureK_act h) hw hv k
  rcases this with ⟨h1, h2⟩ | ⟨h1, h2 | h2 | ⟨args, ats, fo, f, fs, cs, g, he, _⟩⟩
  · exact .inl ⟨h1, h2⟩
  · exact .inr ⟨h1, .inl h2⟩
  · simp only [pureK_read h] at h2; cases h2
  · simp only [pureK] at h
    simp only at he
    rw [he] at h; cases h

/-- Looks at no memory. -/
theorem DN.fl (hw : awanted ops T { dst := some d, op, type, pos, after, guard } = some true) (hk : pureK { dst := some d, op, type, pos, after, guard } = true) (hv : evOp C F0 H (aeval G T) { dst := some d, op, type, pos, after, guard } = some (v, H)) (hn : Nat.blt d n = true)
    (h : DN C N G n Qs ops l (D ||| 2 ^ i) P (T.set d v) H Q) : DN C N G n Qs ops ((i, { dst := some d, op, type, pos, after, guard }) :: l) D P T H Q := by
  refine DN.floatR (k := 0) (v := v) (P' := P) (by decide) (fun _ h => h) (fun e => by cases e) (good_pure hk hw hv 0 H) (fun _ K => good_pure hk hw hv 0 K) ?_
  simp only [aput, hn, cond_true]; exact h
theorem DN.fl1 (hk : pureK { dst := some d, op, type, pos, after, guard := none } = true) (hv : evOp C F0 H (aeval G T) { dst := some d, op, type, pos, after, guard := none } = some (v, H)) (hn : Nat.blt d n = true)
    (h : DN C N G n Qs ops l (D ||| 2 ^ i) P (T.set d v) H Q) : DN C N G n Qs ops ((i, { dst := some d, op, type, pos, after, guard := none }) :: l) D P T H Q := DN.fl rfl hk hv hn h
theorem DN.flT (hd : (ops[j]?).bind (·.dst) = some e) (hb : T.get e = some (.bool b)) (hbw : b = want) (hk : pureK { dst := some d, op, type, pos, after, guard := some (j, want) } = true) (hv : evOp C F0 H (aeval G T) { dst := some d, op, type, pos, after, guard := some (j, want) } = some (v, H)) (hn : Nat.blt d n = true)
    (h : DN C N G n Qs ops l (D ||| 2 ^ i) P (T.set d v) H Q) : DN C N G n Qs ops ((i, { dst := some d, op, type, pos, after, guard := some (j, want) }) :: l) D P T H Q := DN.fl (by rw [awanted_guard hd hb, hbw]; simp) hk hv hn h

/-- May look at memory. -/
theorem DN.rd (hw : awanted ops T { dst := some d, op, type, pos, after, guard } = some true) (hk : actOp C { dst := some d, op, type, pos, after, guard } = false) (hv : evOp C F0 H (aeval G T) { dst := some d, op, type, pos, after, guard } = some (v, H)) (hn : Nat.blt d n = true)
    (h : DN C N G n Qs ops l (D ||| 2 ^ i) (⟨i, { dst := some d, op, type, pos, after, guard }, T, v, 1⟩ :: P) (T.set d v) H Q) : DN C N G n Qs ops ((i, { dst := some d, op, type, pos, after, guard }) :: l) D P T H Q := by
  refine DN.floatR (k := 1) (v := v) (by decide) (fun _ h => List.mem_cons_of_mem _ h) (fun _ => List.mem_cons_self) (good_of hk hw hv 1) (fun e => absurd rfl e) ?_
  simp only [aput, hn, cond_true]; exact h
theorem DN.rd1 (hk : actOp C { dst := some d, op, type, pos, after, guard := none } = false) (hv : evOp C F0 H (aeval G T) { dst := some d, op, type, pos, after, guard := none } = some (v, H)) (hn : Nat.blt d n = true)
    (h : DN C N G n Qs ops l (D ||| 2 ^ i) (⟨i, { dst := some d, op, type, pos, after, guard := none }, T, v, 1⟩ :: P) (T.set d v) H Q) : DN C N G n Qs ops ((i, { dst := some d, op, type, pos, after, guard := none }) :: l) D P T H Q := DN.rd rfl hk hv hn h
theorem DN.rdT (hd : (ops[j]?).bind (·.dst) = some e) (hb : T.get e = some (.bool b)) (hbw : b = want) (hk : actOp C { dst := some d, op, type, pos, after, guard := some (j, want) } = false) (hv : evOp C F0 H (aeval G T) { dst := some d, op, type, pos, after, guard := some (j, want) } = some (v, H)) (hn : Nat.blt d n = true)
    (h : DN C N G n Qs ops l (D ||| 2 ^ i) (⟨i, { dst := some d, op, type, pos, after, guard := some (j, want) }, T, v, 1⟩ :: P) (T.set d v) H Q) : DN C N G n Qs ops ((i, { dst := some d, op, type, pos, after, guard := some (j, want) }) :: l) D P T H Q := DN.rd (by rw [awanted_guard hd hb, hbw]; simp) hk hv hn h

theorem evOp_congr {F : Fns} {ev ev' : Operand → AV} (h : ∀ x ∈ o.op.operands, ev x = ev' x) : evOp C F H ev o = evOp C F H ev' o := by
  unfold evOp
  rw [pureOp_congr h, readOp_congr h, newOp_congr h, chainOp_congr h]

def allWait (ops : Array Oper) (i : Nat) (P : List Ro) : Bool := P.all fun r => (ancOf ops i).testBit r.i
theorem allWait_spec {P : List Ro} (h : allWait ops i P = true) : ∀ r ∈ P, r ∈ ([] : List Ro) ∨ (ancOf ops i).testBit r.i = true := fun r hr => .inr (List.all_eq_true.1 h r hr)

/-- Acts, as the evaluator says. -/
theorem DN.actS (hC : C.OK) (hq : actOp C { dst := some d, op, type, pos, after, guard := none } = true) (hv : evOp C F0 H (aeval G T) { dst := some d, op, type, pos, after, guard := none } = some (v, H')) (hn : Nat.blt d n = true)
    (P' : List Ro) (hP : ∀ r ∈ P, r ∈ P' ∨ (ancOf ops i).testBit r.i = true) (hg : ∀ x ∈ P', x.good C N G ops H')
    (h : DN C N G n Qs ops l (D ||| 2 ^ i) P' (T.set d v) H' Q) (hm : memB i Qs = false := by with_unfolding_all rfl) : DN C N G n Qs ops ((i, { dst := some d, op, type, pos, after, guard := none }) :: l) D P T H Q := by
  refine DN.actR hC hq (R1 := fun r K => r = v ∧ K = H') rfl (fun ρ w a ev hR h1 h2 next Z hnext => ?_) P' hP (fun r K ⟨e1, e2⟩ => ?_) hm
  · exact evOp_ok hC (F0_ok C N G) hR h2 (by rw [← evOp_congr h1]; exact hv) next Z fun x w' ρ' hx hR' hF' => hnext x v ρ' w' H' ⟨rfl, rfl⟩ hx hR' hF'
  · subst e1; subst e2
    simp only [aput, hn, cond_true]; exact ⟨hg, h⟩
theorem DN.act (hC : C.OK) (hq : actOp C { dst := some d, op, type, pos, after, guard := none } = true) (hv : evOp C F0 H (aeval G T) { dst := some d, op, type, pos, after, guard := none } = some (v, H')) (hn : Nat.blt d n = true) (hP : allWait ops i P = true)
    (h : DN C N G n Qs ops l (D ||| 2 ^ i) [] (T.set d v) H' Q) (hm : memB i Qs = false := by with_unfolding_all rfl) : DN C N G n Qs ops ((i, { dst := some d, op, type, pos, after, guard := none }) :: l) D P T H Q := DN.actS hC hq hv hn [] (allWait_spec hP) (fun x hx => by simp at hx) h hm
theorem DN.act0S (hC : C.OK) (hq : actOp C { dst := none, op, type, pos, after, guard := none } = true) (hv : evOp C F0 H (aeval G T) { dst := none, op, type, pos, after, guard := none } = some (v, H'))
    (P' : List Ro) (hP : ∀ r ∈ P, r ∈ P' ∨ (ancOf ops i).testBit r.i = true) (hg : ∀ x ∈ P', x.good C N G ops H')
    (h : DN C N G n Qs ops l (D ||| 2 ^ i) P' T H' Q) (hm : memB i Qs = false := by with_unfolding_all rfl) : DN C N G n Qs ops ((i, { dst := none, op, type, pos, after, guard := none }) :: l) D P T H Q := by
  refine DN.actR hC hq (R1 := fun r K => r = v ∧ K = H') rfl (fun ρ w a ev hR h1 h2 next Z hnext => ?_) P' hP (fun r K ⟨e1, e2⟩ => ?_) hm
  · exact evOp_ok hC (F0_ok C N G) hR h2 (by rw [← evOp_congr h1]; exact hv) next Z fun x w' ρ' hx hR' hF' => hnext x v ρ' w' H' ⟨rfl, rfl⟩ hx hR' hF'
  · subst e1; subst e2
    exact ⟨hg, h⟩
theorem DN.act0 (hC : C.OK) (hq : actOp C { dst := none, op, type, pos, after, guard := none } = true) (hv : evOp C F0 H (aeval G T) { dst := none, op, type, pos, after, guard := none } = some (v, H')) (hP : allWait ops i P = true)
    (h : DN C N G n Qs ops l (D ||| 2 ^ i) [] T H' Q) (hm : memB i Qs = false := by with_unfolding_all rfl) : DN C N G n Qs ops ((i, { dst := none, op, type, pos, after, guard := none }) :: l) D P T H Q := DN.act0S hC hq hv [] (allWait_spec hP) (fun x hx => by simp at hx) h hm

/-- A call of which a triple is known. -/
theorem DN.callS (hC : C.OK) {args : List Operand} {ats : Array TypeId} {fo : Operand} {f : FuncId} {fs cs as : List AV} {g : Func} {Qc : AV → AH → Prop}
    (hf : aeval G T fo = .func f fs cs) (hg : C.fn f = some g) (hb : fnOk g = true) (hn : Nat.blt d n = true) (hargs : fs ++ args.map (aeval G T) ++ cs = as) (hac : AC C N G f as H Qc)
    (P' : List Ro) (hP : ∀ r ∈ P, r ∈ P' ∨ (ancOf ops i).testBit r.i = true) (h : ∀ r K, Qc r K → (∀ x ∈ P', x.good C N G ops K) ∧ DN C N G n Qs ops l (D ||| 2 ^ i) P' (T.set d r) K Q) (hm : memB i Qs = false := by with_unfolding_all rfl) : DN C N G n Qs ops ((i, { dst := some d, op := .call { callee := .value fo, args := ⟨args⟩, argTypes := ats }, type, pos, after, guard := none }) :: l) D P T H Q := by
  subst hargs
  refine DN.actR hC rfl (R1 := Qc) rfl (fun ρ w a ev hR h1 h2 next Z hnext => ?_) P' hP (fun r K hq => ?_) hm
  · have hev : ∀ x, (x = fo ∨ x ∈ args) → VR ρ (aeval G T x) (a.eval x) := fun x hx => by
      rw [h1 x (by simp [Op.operands, Call.operands]; exact hx)]
      exact h2 x
    have hfv := hev fo (.inl rfl)
    rw [hf] at hfv
    simp only [VR] at hfv
    obtain ⟨us, vs, hfv, hus, hvs⟩ := hfv
    have hargsV : ∀ l : List Operand, (∀ x ∈ l, x ∈ args) → VRs ρ (l.map (aeval G T)) (l.map a.eval) := by
      intro l
      induction l with
      | nil => intro _; exact VRs.nil
      | cons x l ih => intro hl; exact VRs.cons (hev x (.inr (hl x (by simp)))) (ih fun y hy => hl y (by simp [hy]))
    have hall := (hus.append (hargsV args fun _ h => h)).append hvs
    have hargs : (Array.mk args).map a.eval = ⟨args.map a.eval⟩ := by apply Array.ext'; simp
    have hexec : (execOp a.eval { dst := some d, op := .call { callee := .value fo, args := ⟨args⟩, argTypes := ats }, type, pos, after, guard := none }).run C.P w = (callFunc f ⟨us ++ args.map a.eval ++ vs⟩).run C.P w := by
      simp only [execOp, resolve, hargs, Deferred.ofValue, hfv, Sem.run_bind, Sem.run_pure, Result.andThen_ok, invoke]
      simp
    unfold fnOk at hb
    simp only [Bool.and_eq_true, Bool.not_eq_true'] at hb
    have hfn := hC.fn f g hg
    have : (callFunc f ⟨us ++ args.map a.eval ++ vs⟩).run C.P w = .ok (.enter f ⟨us ++ args.map a.eval ++ vs⟩) w := by
      unfold callFunc
      have hb' : g.body.isNone = false := by
        cases hb1 : g.body with
        | none => rw [hb1] at hb; simp at hb
        | some _ => rfl
      simp only [Sem.run_bind, run_program, Result.andThen_ok, hfn, hb.2, Bool.false_eq_true, if_false, hb', Sem.run_pure]
    unfold Oper.wp
    rw [hexec, this, Oper.upon_enter]
    refine (hac ρ w _ hR hall).mono ?_
    rintro e w' ⟨v, ρ', r, K, hQ, rfl, hv, hR', hF'⟩
    exact hnext v r ρ' w' K hQ hv hR' hF'
  · simp only [aput, hn, cond_true]; exact h r K hq
theorem DN.call (hC : C.OK) {args : List Operand} {ats : Array TypeId} {fo : Operand} {f : FuncId} {fs cs as : List AV} {g : Func} {Qc : AV → AH → Prop}
    (hf : aeval G T fo = .func f fs cs) (hg : C.fn f = some g) (hb : fnOk g = true) (hn : Nat.blt d n = true) (hargs : fs ++ args.map (aeval G T) ++ cs = as) (hac : AC C N G f as H Qc)
    (hP : allWait ops i P = true) (h : ∀ r K, Qc r K → DN C N G n Qs ops l (D ||| 2 ^ i) [] (T.set d r) K Q) (hm : memB i Qs = false := by with_unfolding_all rfl) : DN C N G n Qs ops ((i, { dst := some d, op := .call { callee := .value fo, args := ⟨args⟩, argTypes := ats }, type, pos, after, guard := none }) :: l) D P T H Q :=
  DN.callS hC hf hg hb hn hargs hac [] (allWait_spec hP) (fun r K hq => ⟨fun x hx => by simp at hx, h r K hq⟩) hm
end
end Go.AB
namespace Go.AB
section
variable {C : Ctx} {N : Bd} {G n : Nat} {Qs : List Nat} {ops : Array Oper} {D : Nat} {P : List Ro} {T : PT AV} {H H' : AH} {Q : PT AV → AH → Prop} {l : List (Nat × Oper)} {i : Nat} {o : Oper} {v : AV}
variable {op : Op} {type : TypeId} {pos : String} {after : Array Edge} {guard : Option (Nat × Bool)} {j : Nat} {want : Bool} {d e : Nat} {b : Bool}
/-- A call of which a triple is known; what was read stays. -/
theorem DN.callP (hC : C.OK) {args : List Operand} {ats : Array TypeId} {fo : Operand} {f : FuncId} {fs cs as : List AV} {g : Func} {Qc : AV → AH → Prop}
    (hf : aeval G T fo = .func f fs cs) (hg : C.fn f = some g) (hb : fnOk g = true) (hn : Nat.blt d n = true) (hargs : fs ++ args.map (aeval G T) ++ cs = as) (hac : AC C N G f as H Qc)
    (h : ∀ r K, Qc r K → (∀ x ∈ P, x.good C N G ops K) ∧ DN C N G n Qs ops l (D ||| 2 ^ i) P (T.set d r) K Q) (hm : memB i Qs = false := by with_unfolding_all rfl) : DN C N G n Qs ops ((i, { dst := some d, op := .call { callee := .value fo, args := ⟨args⟩, argTypes := ats }, type, pos, after, guard := none }) :: l) D P T H Q :=
  DN.callS hC hf hg hb hn hargs hac P (fun _ h => .inl h) h hm
theorem DN.actP (hC : C.OK) (hq : actOp C { dst := some d, op, type, pos, after, guard := none } = true) (hv : evOp C F0 H (aeval G T) { dst := some d, op, type, pos, after, guard := none } = some (v, H')) (hn : Nat.blt d n = true)
    (hg : ∀ x ∈ P, x.good C N G ops H') (h : DN C N G n Qs ops l (D ||| 2 ^ i) P (T.set d v) H' Q) (hm : memB i Qs = false := by with_unfolding_all rfl) : DN C N G n Qs ops ((i, { dst := some d, op, type, pos, after, guard := none }) :: l) D P T H Q := DN.actS hC hq hv hn P (fun _ h => .inl h) hg h hm
theorem good_nil {p : Ro → Prop} : ∀ x ∈ ([] : List Ro), p x := fun x hx => by simp at hx
theorem good_cons {p : Ro → Prop} {r : Ro} {P : List Ro} (h : p r) (hs : ∀ x ∈ P, p x) : ∀ x ∈ r :: P, p x := fun x hx => by
  rcases List.mem_cons.1 hx with rfl | hx
  · exact h
  · exact hs x hx
end

def pickAll : Nat → List Oper → List (Nat × Oper)
  | _, [] => []
  | k, o :: l => (k, o) :: pickAll (k + 1) l
theorem pickAll_get : ∀ (l : List Oper) (k : Nat), ∀ p ∈ pickAll k l, k ≤ p.1 ∧ l[p.1 - k]? = some p.2
  | [], _, p, h => by simp [pickAll] at h
  | o :: l, k, p, h => by
    simp only [pickAll] at h
    rcases List.mem_cons.1 h with rfl | h
    · simp
    · obtain ⟨h1, h2⟩ := pickAll_get l (k + 1) p h
      refine ⟨by omega, ?_⟩
      rw [show p.1 - k = (p.1 - (k + 1)) + 1 by omega]
      simpa using h2
theorem pickAll_mem : ∀ (l : List Oper) (k i : Nat), i < l.length → ∃ p ∈ pickAll k l, p.1 = k + i
  | o :: l, k, 0, h => ⟨(k, o), by simp [pickAll], rfl⟩
  | o :: l, k, i + 1, h => by
    obtain ⟨p, h1, h2⟩ := pickAll_mem l (k + 1) i (by simpa using h)
    exact ⟨p, by simp only [pickAll]; exact List.mem_cons_of_mem _ h1, by omega⟩
def drawTOK (C : Ctx) (ops : Array Oper) : Bool := drawOK ops && ordOK C [] (ancOf ops) (pickAll 0 ops.toList) 0

/-- **A region that draws its order**, in the order of the text. -/
theorem AW.drawT {C : Ctx} (hC : C.OK) {N : Bd} {G n : Nat} {id : Nat} {os : List Oper} (ho : drawTOK C ⟨os⟩ = true) {T : PT AV} {H : AH} {Q : AEx → PT AV → AH → Prop} {l : List (Nat × Oper)} (hl : pickAll 0 os = l)
    (h : DN C N G n [] ⟨os⟩ l 0 [] T H (Q .normal)) : AW C N G n (.region id ⟨os⟩ true) T H Q := fun ρ w a hR hA Z hZ => by
  subst hl
  simp only [drawTOK, Bool.and_eq_true] at ho
  obtain ⟨ho1, ho2⟩ := ho
  have K := drawOK_spec ho1
  refine wp_region_any hC.mixed (h K ho2 (fun p hp => by have := (pickAll_get os 0 p hp).2; simpa using this) (fun i hi => .inr (by have := pickAll_mem os 0 i (by simpa using hi); simpa using this)) [] ρ H w os.length _ ρ a { w with drawn := w.drawn + 1 } (by simp) (by simp) ?_ Z fun ρ' a' w' T' H' => hZ ρ' a' w' .normal T' H')
  have e : (fun j => (Array.replicate (⟨os⟩ : Array Oper).size false).getD j false) = fun _ => false := by
    funext j
    rw [Array.getD_eq_getD_getElem?]
    by_cases hj : j < os.length
    · simp [hj]
    · simp [hj]
  rw [e]
  exact {
    op := fun k r h => by simp at h
    once := fun k k' r r' h => by simp at h
    anc := fun k r j h => by simp at h
    step := fun k r h => by simp at h
    dn := fun j => by simp
    sub := fun j h => by cases h
    good := fun k r h => by simp at h
    closed := fun i h => by cases h
    rd := hR.drawn _
    fr := Fr.drawn _
    defers := hA.defers
    size := hA.size
    tmp := fun k _ d v hv => by
      have : (Tat [] T k) = T := rfl
      rw [this] at hv
      obtain ⟨x, hx, _⟩ := hA.vals d v hv
      have := (Array.getElem?_eq_some_iff.1 hx).1
      rw [hA.size] at this; exact this
    vals := fun k _ d _ v hv => hA.vals d v hv }
end Go.AB
namespace Go.AB
section
variable {C : Ctx} {N : Bd} {G n : Nat} {Qs : List Nat} {ops : Array Oper} {D : Nat} {P : List Ro} {T : PT AV} {H H' : AH} {Q : PT AV → AH → Prop} {l : List (Nat × Oper)} {i : Nat} {o : Oper} {v : AV}
variable {op : Op} {type : TypeId} {pos : String} {after : Array Edge} {guard : Option (Nat × Bool)} {j : Nat} {want : Bool} {d e : Nat} {b : Bool}
/-- A call that leaves the heap as it was need come in no order with what acts: it must hold where it comes. -/
theorem DN.callQ {args : List Operand} {ats : Array TypeId} {fo : Operand} {f : FuncId} {fs cs as : List AV} {g : Func}
    (hf : aeval G T fo = .func f fs cs) (hg : C.fn f = some g) (hb : fnOk g = true) (hn : Nat.blt d n = true) (hargs : fs ++ args.map (aeval G T) ++ cs = as) (hac : AC C N G f as H fun r K => r = v ∧ K = H)
    (h : DN C N G n Qs ops l (D ||| 2 ^ i) (⟨i, { dst := some d, op := .call { callee := .value fo, args := ⟨args⟩, argTypes := ats }, type, pos, after, guard := none }, T, v, 1⟩ :: P) (T.set d v) H Q) :
    DN C N G n Qs ops ((i, { dst := some d, op := .call { callee := .value fo, args := ⟨args⟩, argTypes := ats }, type, pos, after, guard := none }) :: l) D P T H Q := by
  subst hargs
  refine DN.floatR (k := 1) (v := v) (by decide) (fun _ h => List.mem_cons_of_mem _ h) (fun _ => List.mem_cons_self) (.inr ⟨rfl, .inr (.inr ⟨args, ats, fo, f, fs, cs, g, rfl, hf, hg, hb, hac⟩)⟩) (fun e => absurd rfl e) ?_
  simp only [aput, hn, cond_true]; exact h
/-- It stays what it was, where the heap is another. -/
theorem good_callQ {args : List Operand} {ats : Array TypeId} {fo : Operand} {f : FuncId} {fs cs as : List AV} {g : Func}
    (hf : aeval G T fo = .func f fs cs) (hg : C.fn f = some g) (hb : fnOk g = true) (hargs : fs ++ args.map (aeval G T) ++ cs = as) (hac : AC C N G f as H fun r K => r = v ∧ K = H) (k : Nat) :
    (⟨i, { dst := some d, op := .call { callee := .value fo, args := ⟨args⟩, argTypes := ats }, type, pos, after, guard := none }, T, v, k⟩ : Ro).good C N G ops H := by
  subst hargs
  exact .inr ⟨rfl, .inr (.inr ⟨args, ats, fo, f, fs, cs, g, rfl, hf, hg, hb, hac⟩)⟩
end
end Go.AB

namespace Go.AB
section
variable {C : Ctx} {F : Fns} {H : AH} {ev : Operand → AV} {dst : Option Tmp} {ty : TypeId} {pos : String} {after : Array Edge} {guard : Option (Nat × Bool)}
end
end Go.AB

namespace Go.AB

def Step (x : Option (AV × AH)) (k : AV → AH → Prop) : Prop := ∃ v H, x = some (v, H) ∧ k v H
theorem Step.mk {x : Option (AV × AH)} {k : AV → AH → Prop} {v : AV} {H : AH} (h : x = some (v, H)) (hk : k v H) : Step x k := ⟨v, H, h, hk⟩
/-- Memory is as it was. -/
def Same (H' H : AH) (p : Prop) : Prop := H' = H ∧ p
theorem Same.mk {H : AH} {p : Prop} (h : p) : Same H H p := ⟨rfl, h⟩

section
variable {C : Ctx} {N : Bd} {G n : Nat} {T : PT AV} {H : AH} {ops : Array Oper}
variable {op : Op} {type : TypeId} {pos : String} {after : Array Edge} {d : Nat}
section
variable {l : List Oper} {Q : PT AV → AH → Prop}
theorem AOs.op1E (hC : C.OK) (hn : Nat.blt d n = true) (h : Step (evOp C F0 H (aeval G T) { dst := some d, op, type, pos, after, guard := none }) fun v H' => AOs C N G n ops l (T.set d v) H' Q) :
    AOs C N G n ops ({ dst := some d, op, type, pos, after, guard := none } :: l) T H Q := let ⟨_, _, hv, h⟩ := h; AOs.op1 hC hv hn h
theorem AOs.op0E (hC : C.OK) (h : Step (evOp C F0 H (aeval G T) { dst := none, op, type, pos, after, guard := none }) fun _ H' => AOs C N G n ops l T H' Q) :
    AOs C N G n ops ({ dst := none, op, type, pos, after, guard := none } :: l) T H Q := let ⟨_, _, hv, h⟩ := h; AOs.op0 hC hv h
end
section
variable {F : Fns} {l : List Oper} {P : PT AV → Prop}
theorem QO.op1E (hn : Nat.blt d n = true) (h : Step (evOp C F H (aeval G T) { dst := some d, op, type, pos, after, guard := none }) fun v H' => Same H' H (QO C F G n ops l (T.set d v) H P)) :
    QO C F G n ops ({ dst := some d, op, type, pos, after, guard := none } :: l) T H P := let ⟨_, _, hv, e, h⟩ := h; QO.op1 (by rw [hv, e]) hn h
end
section
variable {Qs : List Nat} {D : Nat} {P : List Ro} {Q : PT AV → AH → Prop} {l : List (Nat × Oper)} {i j e : Nat} {want b : Bool}
theorem DN.fl1E (hk : pureK { dst := some d, op, type, pos, after, guard := none } = true) (hn : Nat.blt d n = true)
    (h : Step (evOp C F0 H (aeval G T) { dst := some d, op, type, pos, after, guard := none }) fun v H' => Same H' H (DN C N G n Qs ops l (D ||| 2 ^ i) P (T.set d v) H Q)) :
    DN C N G n Qs ops ((i, { dst := some d, op, type, pos, after, guard := none }) :: l) D P T H Q := let ⟨_, _, hv, e, h⟩ := h; DN.fl1 hk (by rw [hv, e]) hn h
theorem DN.flTE (hd : (ops[j]?).bind (·.dst) = some e) (hb : T.get e = some (.bool b)) (hbw : b = want) (hk : pureK { dst := some d, op, type, pos, after, guard := some (j, want) } = true) (hn : Nat.blt d n = true)
    (h : Step (evOp C F0 H (aeval G T) { dst := some d, op, type, pos, after, guard := some (j, want) }) fun v H' => Same H' H (DN C N G n Qs ops l (D ||| 2 ^ i) P (T.set d v) H Q)) :
    DN C N G n Qs ops ((i, { dst := some d, op, type, pos, after, guard := some (j, want) }) :: l) D P T H Q := let ⟨_, _, hv, e, h⟩ := h; DN.flT hd hb hbw hk (by rw [hv, e]) hn h
theorem DN.rd1E (hk : actOp C { dst := some d, op, type, pos, after, guard := none } = false) (hn : Nat.blt d n = true)
    (h : Step (evOp C F0 H (aeval G T) { dst := some d, op, type, pos, after, guard := none }) fun v H' => Same H' H (DN C N G n Qs ops l (D ||| 2 ^ i) (⟨i, { dst := some d, op, type, pos, after, guard := none }, T, v, 1⟩ :: P) (T.set d v) H Q)) :
    DN C N G n Qs ops ((i, { dst := some d, op, type, pos, after, guard := none }) :: l) D P T H Q := let ⟨_, _, hv, e, h⟩ := h; DN.rd1 hk (by rw [hv, e]) hn h
theorem DN.rdTE (hd : (ops[j]?).bind (·.dst) = some e) (hb : T.get e = some (.bool b)) (hbw : b = want) (hk : actOp C { dst := some d, op, type, pos, after, guard := some (j, want) } = false) (hn : Nat.blt d n = true)
    (h : Step (evOp C F0 H (aeval G T) { dst := some d, op, type, pos, after, guard := some (j, want) }) fun v H' => Same H' H (DN C N G n Qs ops l (D ||| 2 ^ i) (⟨i, { dst := some d, op, type, pos, after, guard := some (j, want) }, T, v, 1⟩ :: P) (T.set d v) H Q)) :
    DN C N G n Qs ops ((i, { dst := some d, op, type, pos, after, guard := some (j, want) }) :: l) D P T H Q := let ⟨_, _, hv, e, h⟩ := h; DN.rdT hd hb hbw hk (by rw [hv, e]) hn h
theorem DN.actE (hC : C.OK) (hq : actOp C { dst := some d, op, type, pos, after, guard := none } = true) (hn : Nat.blt d n = true) (hP : allWait ops i P = true)
    (h : Step (evOp C F0 H (aeval G T) { dst := some d, op, type, pos, after, guard := none }) fun v H' => DN C N G n Qs ops l (D ||| 2 ^ i) [] (T.set d v) H' Q) (hm : memB i Qs = false := by with_unfolding_all rfl) :
    DN C N G n Qs ops ((i, { dst := some d, op, type, pos, after, guard := none }) :: l) D P T H Q := let ⟨_, _, hv, h⟩ := h; DN.act hC hq hv hn hP h hm
theorem DN.act0E (hC : C.OK) (hq : actOp C { dst := none, op, type, pos, after, guard := none } = true) (hP : allWait ops i P = true)
    (h : Step (evOp C F0 H (aeval G T) { dst := none, op, type, pos, after, guard := none }) fun _ H' => DN C N G n Qs ops l (D ||| 2 ^ i) [] T H' Q) (hm : memB i Qs = false := by with_unfolding_all rfl) :
    DN C N G n Qs ops ((i, { dst := none, op, type, pos, after, guard := none }) :: l) D P T H Q := let ⟨_, _, hv, h⟩ := h; DN.act0 hC hq hv hP h hm
end

end
end Go.AB

namespace Go.AB

theorem wrapU8 {n : Nat} : IntKind.wrap .u8 (n : Int) = ((n % 256 : Nat) : Int) := by
  unfold IntKind.wrap
  show (if (false && decide ((n : Int) % 256 ≥ (128 : Int))) = true then (n : Int) % 256 - 256 else (n : Int) % 256) = _
  simp

section
variable {C : Ctx} {t : TypeId} {cst : Bool} {n m : Nat}
end

section
variable {C : Ctx} {F : Fns} {H : AH} {ev : Operand → AV} {dst : Option Tmp} {ty : TypeId} {pos : String} {after : Array Edge} {guard : Option (Nat × Bool)}
end
end Go.AB

namespace Go.AB

/-- A row that was put together by append, nothing beside it in its block. -/
def Acc (H : AH) (v : AV) (vs : List AV) : Prop := (v = .nils ∧ vs = []) ∨ ∃ b, v = .slice b 0 vs.length (.lo vs.length) 1 ∧ H.get b = some (.cells false vs) ∧ vs ≠ []

theorem Acc.keep {H K : AH} {v : AV} {vs : List AV} (h : Acc H v vs) (hk : ∀ b o n c z, v = .slice b o n c z → ∀ x, H.get b = some x → K.get b = some x) : Acc K v vs := by
  rcases h with h | ⟨b, rfl, h1, h2⟩
  · exact .inl h
  · exact .inr ⟨b, rfl, hk _ _ _ _ _ rfl _ h1, h2⟩

section
variable {C : Ctx} {H : AH} {st xt e : TypeId} {i j : TI} {z : AV}

/-- What append to such a row leaves: the row, what was there beside it. -/
theorem acc_append {v x : AV} {vs cs : List AV} (ht : C.ti st = some i) (hd : i.d = .slice e) (he : C.ti e = some j) (hs : j.size = 1) (hz : j.zero = some z) (hzo : z.one = true) (hj : j.bytes ≤ 64) (hw : WF H)
    (h : Acc H v vs) (hx : aappended C H j xt x = some (cs.length, cs)) (ho : allOne cs = true) (hN : vs.length + cs.length ≤ 1000000000) :
    ∃ v' H', aappend C H [st, xt] [v, x] = some (v', H') ∧ Acc H' v' (vs ++ cs) ∧ H.next ≤ H'.next ∧ (∀ b y, H.get b = some y → (∀ o n c z, v ≠ .slice b o n c z) → H'.get b = some y) ∧ (∀ b o n c z, v' = .slice b o n c z → v = v' ∨ H.next ≤ b) := by
  have hb1 : (2 * cs.length + 1024) * j.bytes ≤ (2 * 1000000000 + 1024) * 64 := Nat.mul_le_mul (by omega) hj
  have hb2 : (2 * (vs.length + cs.length) + 1024) * j.bytes ≤ (2 * 1000000000 + 1024) * 64 := Nat.mul_le_mul (by omega) hj
  have d1 : decide ((2 * cs.length + 1024) * j.bytes ≤ 281474976710656) = true := decide_eq_true (by omega)
  have d2 : decide ((2 * (vs.length + cs.length) + 1024) * j.bytes ≤ 281474976710656) = true := decide_eq_true (by omega)
  have d3 : decide (cs.length ≤ 4611686018427387904) = true := decide_eq_true (by omega)
  have d4 : decide (vs.length + cs.length ≤ 4611686018427387904) = true := decide_eq_true (by omega)
  have hzk := zOK_of hz hzo hs
  by_cases hc : cs = []
  · subst hc
    rcases h with ⟨rfl, rfl⟩ | ⟨b, rfl, h1, h2⟩
    · refine ⟨.nils, H, ?_, .inl ⟨rfl, rfl⟩, Nat.le_refl _, fun b y hy _ => hy, fun b o n c z e => .inl rfl⟩
      simp [aappend, ht, hd, he, hx, allOne, hs, hzk, nbeq]
    · refine ⟨_, H, ?_, .inr ⟨b, by rw [List.append_nil], by rw [List.append_nil]; exact h1, by simpa using h2⟩, Nat.le_refl _, fun b y hy _ => hy, fun b o n c z e => .inl rfl⟩
      simp [aappend, ht, hd, he, hx, allOne, hs, hzk, nbeq]
  · have hc0 : ¬ cs.length = 0 := fun h => hc (List.eq_nil_of_length_eq_zero h)
    rcases h with ⟨rfl, rfl⟩ | ⟨b, rfl, h1, h2⟩
    · refine ⟨_, _, ?_, .inr ⟨H.next, rfl, by rw [AH.get_alloc, if_pos rfl, List.nil_append], by simpa using hc⟩, by rw [AH.next_alloc]; omega, fun b y hy _ => by rw [AH.get_alloc, if_neg (by have := hw b y hy; omega)]; exact hy, fun b o n c z e => by cases e; exact .inr (Nat.le_refl _)⟩
      simp only [aappend, ht, hd, he, hx, ho, hs, hzk, nbeq, nble, d1, d3, Nat.mul_one, decide_true, Bool.true_and, cond_true]
      rw [if_neg hc0]
      rfl
    · have hne : ¬ vs.length + cs.length ≤ vs.length := by omega
      have e1 : aappend C H [st, xt] [.slice b 0 vs.length (.lo vs.length) 1, x] = some (.slice H.next 0 (vs ++ cs).length (.lo (vs ++ cs).length) 1, (H.del b).alloc (.cells false (vs ++ cs))) := by
        simp only [aappend, ht, hd, he, hx, ho, hs, hzk, nbeq, nble, d2, d4, Nat.mul_one, decide_true, Bool.true_and, cond_true]
        rw [if_neg hc0]
        simp only [ACap.low, hne, if_false, h1, Nat.zero_add, decide_true, Bool.true_and, cond_true, List.drop_zero, List.length_append]
      refine ⟨_, _, e1, .inr ⟨H.next, rfl, by rw [AH.get_alloc, if_pos (by rfl)], by simp [hc]⟩, ?_, fun k y hy hk => ?_, fun b o n c z e => by cases e; exact .inr (Nat.le_refl _)⟩
      · show H.next ≤ H.next + 1; omega
      · have hkb : k ≠ b := fun e => hk _ _ _ _ (by rw [e])
        rw [AH.get_alloc, if_neg (by show ¬ k = H.next; have := hw k y hy; omega), AH.get_del, if_neg hkb]; exact hy

/-- Rows of one behind one another. -/
theorem aappend_ex1 {b ub uo : Nat} {uc : ACap} {ro : Bool} {x : AV} {ws us : List AV} (ht : C.ti st = some i) (hd : i.d = .slice e) (he : C.ti e = some j) (hs : j.size = 1) (hz : j.zero = some z) (hzo : z.one = true) (hj : j.bytes ≤ 64)
    (h : H.get b = some (.cells false [x])) (hu : H.get ub = some (.cells ro ws)) (hus : (ws.drop uo).take us.length = us) (h0 : us ≠ []) (ho : allOne us = true) (hN : us.length ≤ 1000000) :
    aappend C H [st, st] [.slice b 0 1 (.ex 1) 1, .slice ub uo us.length uc 1] = some (.slice H.next 0 (1 + us.length) (.lo (1 + us.length)) 1, H.alloc (.cells false (x :: us))) := by
  have hb2 : (2 * (1 + us.length) + 1024) * j.bytes ≤ (2 * 1000000000 + 1024) * 64 := Nat.mul_le_mul (by omega) hj
  have d2 : decide ((2 * (1 + us.length) + 1024) * j.bytes ≤ 281474976710656) = true := decide_eq_true (by omega)
  have d4 : decide (1 + us.length ≤ 4611686018427387904) = true := decide_eq_true (by omega)
  have hc0 : ¬ us.length = 0 := fun h => h0 (List.eq_nil_of_length_eq_zero h)
  have hne : ¬ 1 + us.length ≤ 1 := by omega
  have hx : aappended C H j st (.slice ub uo us.length uc 1) = some (us.length, us) := by
    simp [aappended, ht, hd, lenOfAV, acells, hu, hs, hus, nbeq, h0]
  have hzk := zOK_of hz hzo hs
  simp only [aappend, ht, hd, he, hx, ho, hs, hzk, nbeq, nble, d2, d4, Nat.mul_one, decide_true, Bool.true_and, cond_true]
  rw [if_neg hc0]
  simp only [ACap.low, hne, if_false]
  simp [acells, h, nbeq]
end
end Go.AB

namespace Go.AB
section
variable {C : Ctx} {F : Fns} {H : AH} {ev : Operand → AV} {dst : Option Tmp} {ty : TypeId} {pos : String} {after : Array Edge} {guard : Option (Nat × Bool)}
end
end Go.AB

namespace Go.AB

def plainR : AV → Bool
  | .tuple vs => AV.plainVs vs
  | v => v.plainV

theorem plainVs_ok {ρ ρ' : Names} : ∀ (vs : List AV) (us : List Value), AV.plainVs vs = true → VRs ρ vs us → VRs ρ' vs us
  | [], us, _, h => h
  | a :: vs, us, hp, h => by
    simp only [AV.plainVs, Bool.and_eq_true] at hp
    simp only [VRs] at h ⊢
    obtain ⟨u, us', rfl, h1, h2⟩ := h
    exact ⟨u, us', rfl, AV.plainV_ok a u hp.1 h1, plainVs_ok vs us' hp.2 h2⟩
theorem plainR_ok {ρ ρ' : Names} (v : AV) (u : Value) (hp : plainR v = true) (h : VR ρ v u) : VR ρ' v u := by
  cases v with
  | tuple vs =>
    simp only [VR] at h ⊢
    obtain ⟨us, rfl, h⟩ := h
    exact ⟨us, rfl, plainVs_ok vs us hp h⟩
  | _ => exact AV.plainV_ok _ u hp h

def eqV : AV → AV → Bool
  | .tuple xs, .tuple ys => AV.beq (.agg xs) (.agg ys)
  | x, y => AV.beq x y
theorem eqV_eq (x y : AV) (h : eqV x y = true) : x = y := by
  unfold eqV at h
  split at h
  · have := AV.beq_eq _ _ h
    cases this; rfl
  · exact AV.beq_eq _ _ h

def constR (r : AV) : Option (AV × AH) → Bool
  | some (v, _) => eqV v r && plainR r
  | none => false

end Go.AB

namespace Go.AB
section
variable {C : Ctx} {N : Bd} {G n : Nat} {Qs : List Nat} {ops : Array Oper} {D : Nat} {P : List Ro} {T : PT AV} {H H' : AH} {Q : PT AV → AH → Prop} {l : List (Nat × Oper)} {i : Nat} {o : Oper} {v : AV}
variable {op : Op} {type : TypeId} {pos : String} {after : Array Edge} {guard : Option (Nat × Bool)} {j : Nat} {want : Bool} {d e : Nat} {b : Bool}
/-- A call of which a triple is known, under a guard. -/
theorem DN.callGS (hC : C.OK) {args : List Operand} {ats : Array TypeId} {fo : Operand} {f : FuncId} {fs cs as : List AV} {g : Func} {Qc : AV → AH → Prop}
    (hd : (ops[j]?).bind (·.dst) = some e) (hbt : T.get e = some (.bool b)) (hbw : b = want)
    (hf : aeval G T fo = .func f fs cs) (hg : C.fn f = some g) (hb : fnOk g = true) (hn : Nat.blt d n = true) (hargs : fs ++ args.map (aeval G T) ++ cs = as) (hac : AC C N G f as H Qc)
    (P' : List Ro) (hP : ∀ r ∈ P, r ∈ P' ∨ (ancOf ops i).testBit r.i = true) (h : ∀ r K, Qc r K → (∀ x ∈ P', x.good C N G ops K) ∧ DN C N G n Qs ops l (D ||| 2 ^ i) P' (T.set d r) K Q) (hm : memB i Qs = false := by with_unfolding_all rfl) : DN C N G n Qs ops ((i, { dst := some d, op := .call { callee := .value fo, args := ⟨args⟩, argTypes := ats }, type, pos, after, guard := some (j, want) }) :: l) D P T H Q := by
  subst hargs
  refine DN.actR hC rfl (R1 := Qc) (by rw [awanted_guard hd hbt, hbw]; simp) (fun ρ w a ev hR h1 h2 next Z hnext => ?_) P' hP (fun r K hq => ?_) hm
  · have hev : ∀ x, (x = fo ∨ x ∈ args) → VR ρ (aeval G T x) (a.eval x) := fun x hx => by
      rw [h1 x (by simp [Op.operands, Call.operands]; exact hx)]
      exact h2 x
    have hfv := hev fo (.inl rfl)
    rw [hf] at hfv
    simp only [VR] at hfv
    obtain ⟨us, vs, hfv, hus, hvs⟩ := hfv
    have hargsV : ∀ l : List Operand, (∀ x ∈ l, x ∈ args) → VRs ρ (l.map (aeval G T)) (l.map a.eval) := by
      intro l
      induction l with
      | nil => intro _; exact VRs.nil
      | cons x l ih => intro hl; exact VRs.cons (hev x (.inr (hl x (by simp)))) (ih fun y hy => hl y (by simp [hy]))
    have hall := (hus.append (hargsV args fun _ h => h)).append hvs
    have hargs : (Array.mk args).map a.eval = ⟨args.map a.eval⟩ := by apply Array.ext'; simp
    have hexec : (execOp a.eval { dst := some d, op := .call { callee := .value fo, args := ⟨args⟩, argTypes := ats }, type, pos, after, guard := some (j, want) }).run C.P w = (callFunc f ⟨us ++ args.map a.eval ++ vs⟩).run C.P w := by
      simp only [execOp, resolve, hargs, Deferred.ofValue, hfv, Sem.run_bind, Sem.run_pure, Result.andThen_ok, invoke]
      simp
    unfold fnOk at hb
    simp only [Bool.and_eq_true, Bool.not_eq_true'] at hb
    have hfn := hC.fn f g hg
    have : (callFunc f ⟨us ++ args.map a.eval ++ vs⟩).run C.P w = .ok (.enter f ⟨us ++ args.map a.eval ++ vs⟩) w := by
      unfold callFunc
      have hb' : g.body.isNone = false := by
        cases hb1 : g.body with
        | none => rw [hb1] at hb; simp at hb
        | some _ => rfl
      simp only [Sem.run_bind, run_program, Result.andThen_ok, hfn, hb.2, Bool.false_eq_true, if_false, hb', Sem.run_pure]
    unfold Oper.wp
    rw [hexec, this, Oper.upon_enter]
    refine (hac ρ w _ hR hall).mono ?_
    rintro e w' ⟨v, ρ', r, K, hQ, rfl, hv, hR', hF'⟩
    exact hnext v r ρ' w' K hQ hv hR' hF'
  · simp only [aput, hn, cond_true]; exact h r K hq
theorem DN.callGP (hC : C.OK) {args : List Operand} {ats : Array TypeId} {fo : Operand} {f : FuncId} {fs cs as : List AV} {g : Func} {Qc : AV → AH → Prop}
    (hd : (ops[j]?).bind (·.dst) = some e) (hbt : T.get e = some (.bool b)) (hbw : b = want)
    (hf : aeval G T fo = .func f fs cs) (hg : C.fn f = some g) (hb : fnOk g = true) (hn : Nat.blt d n = true) (hargs : fs ++ args.map (aeval G T) ++ cs = as) (hac : AC C N G f as H Qc)
    (h : ∀ r K, Qc r K → (∀ x ∈ P, x.good C N G ops K) ∧ DN C N G n Qs ops l (D ||| 2 ^ i) P (T.set d r) K Q) (hm : memB i Qs = false := by with_unfolding_all rfl) : DN C N G n Qs ops ((i, { dst := some d, op := .call { callee := .value fo, args := ⟨args⟩, argTypes := ats }, type, pos, after, guard := some (j, want) }) :: l) D P T H Q :=
  DN.callGS hC hd hbt hbw hf hg hb hn hargs hac P (fun _ h => .inl h) h hm
theorem DN.callG (hC : C.OK) {args : List Operand} {ats : Array TypeId} {fo : Operand} {f : FuncId} {fs cs as : List AV} {g : Func} {Qc : AV → AH → Prop}
    (hd : (ops[j]?).bind (·.dst) = some e) (hbt : T.get e = some (.bool b)) (hbw : b = want)
    (hf : aeval G T fo = .func f fs cs) (hg : C.fn f = some g) (hb : fnOk g = true) (hn : Nat.blt d n = true) (hargs : fs ++ args.map (aeval G T) ++ cs = as) (hac : AC C N G f as H Qc)
    (hP : allWait ops i P = true) (h : ∀ r K, Qc r K → DN C N G n Qs ops l (D ||| 2 ^ i) [] (T.set d r) K Q) (hm : memB i Qs = false := by with_unfolding_all rfl) : DN C N G n Qs ops ((i, { dst := some d, op := .call { callee := .value fo, args := ⟨args⟩, argTypes := ats }, type, pos, after, guard := some (j, want) }) :: l) D P T H Q :=
  DN.callGS hC hd hbt hbw hf hg hb hn hargs hac [] (allWait_spec hP) (fun r K hq => ⟨fun x hx => by simp at hx, h r K hq⟩) hm
end
end Go.AB

namespace Go.AB

section
variable {C : Ctx} {N : Bd} {G n : Nat} {T : PT AV} {H : AH} {ops : Array Oper} {l : List Oper} {Q : PT AV → AH → Prop}

end
theorem good_ofN {C : Ctx} {N : Bd} {G : Nat} {T : PT AV} {H : AH} {ops : Array Oper} {i : Nat} {v : AV} {dst : Option Tmp} {op : Op} {type : TypeId} {pos : String} {after : Array Edge} (hq : actOp C { dst, op, type, pos, after, guard := none } = false) (hv : evOp C F0 H (aeval G T) { dst, op, type, pos, after, guard := none } = some (v, H)) (k : Nat) :
    (⟨i, { dst, op, type, pos, after, guard := none }, T, v, k⟩ : Ro).good C N G ops H := good_of hq rfl hv k
theorem good_ofG {C : Ctx} {N : Bd} {G : Nat} {T : PT AV} {H : AH} {ops : Array Oper} {i j d : Nat} {b want : Bool} {v : AV} {dst : Option Tmp} {op : Op} {type : TypeId} {pos : String} {after : Array Edge} (hd : (ops[j]?).bind (·.dst) = some d) (hb : T.get d = some (.bool b)) (hbw : b = want)
    (hq : actOp C { dst, op, type, pos, after, guard := some (j, want) } = false) (hv : evOp C F0 H (aeval G T) { dst, op, type, pos, after, guard := some (j, want) } = some (v, H)) (k : Nat) :
    (⟨i, { dst, op, type, pos, after, guard := some (j, want) }, T, v, k⟩ : Ro).good C N G ops H := good_of hq (by rw [awanted_guard hd hb, hbw]; cases want <;> rfl) hv k

section
variable {C : Ctx} {N : Bd} {G n : Nat} {Qs : List Nat} {ops : Array Oper} {D : Nat} {P : List Ro} {T : PT AV} {H H' : AH} {Q : PT AV → AH → Prop} {l : List (Nat × Oper)} {i : Nat} {o : Oper} {v : AV}
variable {op : Op} {type : TypeId} {pos : String} {after : Array Edge} {guard : Option (Nat × Bool)} {j : Nat} {want : Bool} {d e : Nat} {b : Bool}
/-- What is not asked is passed over, whatever it is. -/
theorem DN.skipA (hw : awanted ops T { dst := some d, op, type, pos, after, guard } = some false) (hn : Nat.blt d n = true)
    (h : DN C N G n Qs ops l (D ||| 2 ^ i) P (T.set d (.tuple [])) H Q) : DN C N G n Qs ops ((i, { dst := some d, op, type, pos, after, guard }) :: l) D P T H Q := by
  refine DN.floatR (k := 0) (v := .tuple []) (P' := P) (by decide) (fun _ h => h) (fun e => by cases e) (.inl ⟨hw, rfl⟩) (fun _ K => .inl ⟨hw, rfl⟩) ?_
  simp only [aput, hn, cond_true]; exact h
theorem DN.guardFA (hd : (ops[j]?).bind (·.dst) = some d) (hb : T.get d = some (.bool b)) (hbw : b = !want) (hn : Nat.blt e n = true)
    (h : DN C N G n Qs ops l (D ||| 2 ^ i) P (T.set e (.tuple [])) H Q) : DN C N G n Qs ops ((i, { dst := some e, op, type, pos, after, guard := some (j, want) }) :: l) D P T H Q := DN.skipA (by rw [awanted_guard hd hb, bool_ne hbw]) hn h
theorem DN.guardUA {x : AV} (hd : (ops[j]?).bind (·.dst) = some d) (hb : T.get d = some x) (hx : isUnit x = true) (hn : Nat.blt e n = true)
    (h : DN C N G n Qs ops l (D ||| 2 ^ i) P (T.set e (.tuple [])) H Q) : DN C N G n Qs ops ((i, { dst := some e, op, type, pos, after, guard := some (j, want) }) :: l) D P T H Q := DN.skipA (by simp only [awanted, hd, hb, isUnit_eq hx]) hn h
/-- A call that leaves the heap as it was, under a guard. -/
theorem DN.callQG {args : List Operand} {ats : Array TypeId} {fo : Operand} {f : FuncId} {fs cs as : List AV} {g : Func} (hd : (ops[j]?).bind (·.dst) = some e) (hbt : T.get e = some (.bool b)) (hbw : b = want)
    (hf : aeval G T fo = .func f fs cs) (hg : C.fn f = some g) (hb : fnOk g = true) (hn : Nat.blt d n = true) (hargs : fs ++ args.map (aeval G T) ++ cs = as) (hac : AC C N G f as H fun r K => r = v ∧ K = H)
    (h : DN C N G n Qs ops l (D ||| 2 ^ i) (⟨i, { dst := some d, op := .call { callee := .value fo, args := ⟨args⟩, argTypes := ats }, type, pos, after, guard := some (j, want) }, T, v, 1⟩ :: P) (T.set d v) H Q) :
    DN C N G n Qs ops ((i, { dst := some d, op := .call { callee := .value fo, args := ⟨args⟩, argTypes := ats }, type, pos, after, guard := some (j, want) }) :: l) D P T H Q := by
  subst hargs
  refine DN.floatR (k := 1) (v := v) (by decide) (fun _ h => List.mem_cons_of_mem _ h) (fun _ => List.mem_cons_self) (.inr ⟨by rw [awanted_guard hd hbt, hbw]; cases want <;> rfl, .inr (.inr ⟨args, ats, fo, f, fs, cs, g, rfl, hf, hg, hb, hac⟩)⟩) (fun e => absurd rfl e) ?_
  simp only [aput, hn, cond_true]; exact h
end
end Go.AB

namespace Go.AB

/-- The room of a slice is told, and its block reaches as far. -/
theorem AW.reveal {C : Ctx} {N : Bd} {G n : Nat} {c : Code} {T : PT AV} {H : AH} {Q : AEx → PT AV → AH → Prop} {k b o l lo z : Nat} {vs : List AV} (hk : T.get k = some (.slice b o l (.lo lo) z)) (hb : H.get b = some (.cells false vs))
    (h : ∀ cc, lo ≤ cc → AW C N G n c (T.set k (.slice b o l (.ex cc) z)) (H.set b (.cells false (vs ++ List.replicate (o + cc * z - vs.length) .junk))) Q) : AW C N G n c T H Q := fun ρ w a hR hA K hK => by
  obtain ⟨x, hx, hv⟩ := hA.vals k _ hk
  simp only [VR] at hv
  obtain ⟨s, cc, hs, rfl, hlo, hl, hroom⟩ := hv
  have hlo : lo ≤ cc := hlo
  obtain ⟨s', hs', hO⟩ := hR.obj b _ hb
  rw [hs] at hs'; cases hs'
  simp only [OR] at hO
  obtain ⟨cl, e, l1, h1, ho1, ho2, ho3, ho4, ho5, ho6⟩ := hO
  have hO' : OR N.n ρ ⟨H.t.set b (.cells false (vs ++ List.replicate (o + cc * z - vs.length) .junk)), H.next⟩ w s (.cells false (vs ++ List.replicate (o + cc * z - vs.length) .junk)) := by
    simp only [OR]
    refine ⟨cl, e, l1, h1, ho1, ho2, by simp; omega, fun i x hi => ?_, fun h => (by cases h), fun _ => by simpa using ho6⟩
    by_cases hil : i < vs.length
    · rw [List.getElem?_append_left hil] at hi
      exact ho4 i x hi
    · have hlt := (List.getElem?_eq_some_iff.1 hi).1
      rw [List.length_append, List.length_replicate] at hlt
      rw [List.getElem?_append_right (by omega)] at hi
      have hxj : x = .junk := by
        have := List.mem_of_getElem? hi
        exact (List.mem_replicate.1 this).2
      subst hxj
      exact ⟨_, Array.getElem?_eq_getElem (by omega), by simp only [VR]⟩
  obtain ⟨hR', hF'⟩ := hR.write (o' := .cells false (vs ++ List.replicate (o + cc * z - vs.length) .junk)) hb rfl hs rfl rfl (fun _ _ => rfl) rfl rfl rfl H.next (Nat.le_refl _) hO' (fun _ _ _ _ e => by cases e) (fun _ _ _ _ _ _ _ _ _ e => by cases e)
  refine h cc hlo ρ w a hR' ⟨hA.defers, hA.size, fun d v hd => ?_⟩ K fun ρ' a' w' e T' H' hQ hA' hR'' hF'' => hK ρ' a' w' e T' H' hQ hA' hR'' (hF'.trans hF'')
  rw [PT.get_set] at hd
  split at hd
  · rename_i hdk
    subst hdk
    cases Option.some.inj hd
    exact ⟨_, hx, by simp only [VR]; exact ⟨s, cc, hs, rfl, rfl, hl, hroom⟩⟩
  · exact hA.vals d v hd

/-- slices.overlaps of slices in two blocks: an answer that is open. -/
theorem run_overlaps_any {P : Program} (w : World) (tS tR e : TypeId) (ht : P.underlying tS = some (.slice e)) (size : Nat) (hz : ∀ w, (Go.sizeOf e).run P w = .ok size w)
    (a b : Addr) (la ca lb cb : Nat) (hne : a.block ≠ b.block) (tA tB : TypeId) (kA kB : Nat)
    (hsa : w.shape? a.block = some (tA, kA)) (hsb : w.shape? b.block = some (tB, kB)) (hkA : kA ≠ 0) (hkB : kB ≠ 0) (hfa : w.frozen? a = false) :
    ∃ r d, w.drawn ≤ d ∧ (Extern.SlicesOverlaps.overlaps #[tS, tS] #[tR] #[.slice (some a) la ca, .slice (some b) lb cb]).run P w = .ok (.bool r) { w with drawn := d } := by
  have hnb : (a.block != b.block) = true := by simpa using hne
  have hnb' : (a.block == b.block) = false := by simpa using hne
  refine Exists.imp (fun r => Exists.imp fun d => And.imp_right fun h => (Sem.run_bind _ _ _ _).trans h) ?_
  by_cases h0 : la = 0 ∨ lb = 0 ∨ size = 0
  · exact ⟨false, w.drawn, Nat.le_refl _, by simp [run_underlying ht, hz, h0]⟩
  · cases kA with
    | zero => exact absurd rfl hkA
    | succ kA =>
    cases kB with
    | zero => exact absurd rfl hkB
    | succ kB =>
      cases hfe : w.frozen? { block := a.block, off := kA + 1 } with
      | false => exact ⟨false, w.drawn, Nat.le_refl _, by simp [run_underlying ht, hz, h0, hnb, hnb', frozen, noView, viewAt, mayBeOne, stringish, shape, Sem.run, hsa, hsb, hfa, hfe]⟩
      | true =>
        cases hfb : w.frozen? b with
        | true => exact ⟨_, w.drawn + 1, Nat.le_succ _, by simp [run_underlying ht, hz, h0, hnb, hnb', frozen, noView, viewAt, mayBeOne, stringish, shape, Sem.run, hsa, hsb, hfa, hfe, hfb, choose, Question.forced]; rfl⟩
        | false =>
          cases hfg : w.frozen? { block := b.block, off := kB + 1 } with
          | true => exact ⟨_, w.drawn + 1, Nat.le_succ _, by simp [run_underlying ht, hz, h0, hnb, hnb', frozen, noView, viewAt, mayBeOne, stringish, shape, Sem.run, hsa, hsb, hfa, hfe, hfb, hfg, choose, Question.forced]; rfl⟩
          | false => exact ⟨false, w.drawn, Nat.le_refl _, by simp [run_underlying ht, hz, h0, hnb, hnb', frozen, noView, viewAt, mayBeOne, stringish, shape, Sem.run, hsa, hsb, hfa, hfe, hfb, hfg]⟩

section
variable {C : Ctx} {N : Bd} {G n : Nat} {T : PT AV} {H : AH} {ops : Array Oper} {l : List Oper} {Q : PT AV → AH → Prop}
/-- A call of a function without a body, whose answer may be open. -/
theorem AOs.callO {d : Nat} {type : TypeId} {pos : String} {after : Array Edge} {args : List Operand} {ats : Array TypeId} {fo : Operand} {f : FuncId} {as : List AV} {Qc : AV → AH → Prop}
    (hf : aeval G T fo = .func f [] []) (hn : Nat.blt d n = true) (hargs : args.map (aeval G T) = as)
    (hx : ∀ ρ w vs, R N G ρ H w → VRs ρ as vs → ∃ v w' ρ' r H', (callFunc f ⟨vs⟩).run C.P w = .ok (.value v) w' ∧ VR ρ' r v ∧ R N G ρ' H' w' ∧ Fr ρ H w ρ' H' w' ∧ Qc r H')
    (h : ∀ r H', Qc r H' → AOs C N G n ops l (T.set d r) H' Q) :
    AOs C N G n ops ({ dst := some d, op := .call { callee := .value fo, args := ⟨args⟩, argTypes := ats }, type, pos, after, guard := none } :: l) T H Q := fun ρ w a hR hA K hK => by
  have hw' := awanted_ok (ops := ops) (o := { dst := some d, op := .call { callee := .value fo, args := ⟨args⟩, argTypes := ats }, type, pos, after, guard := none }) (b := true) hA rfl
  have hev := hA.eval hR
  unfold wpList
  rw [hw']
  simp only [if_true]
  refine .inl ?_
  have hfv := hev fo
  rw [hf] at hfv
  simp only [VR] at hfv
  obtain ⟨us, vs, hfv, hus, hvs⟩ := hfv
  simp only [VRs] at hus hvs
  subst hus
  subst hvs
  have hall := hev.list args
  rw [hargs] at hall
  have hargs' : (Array.mk args).map a.eval = ⟨args.map a.eval⟩ := by apply Array.ext'; simp
  have hexec : (execOp a.eval { dst := some d, op := .call { callee := .value fo, args := ⟨args⟩, argTypes := ats }, type, pos, after, guard := none }).run C.P w = (callFunc f ⟨args.map a.eval⟩).run C.P w := by
    simp only [execOp, resolve, hargs', Deferred.ofValue, hfv, Sem.run_bind, Sem.run_pure, Result.andThen_ok, invoke]
    simp
  obtain ⟨v, w', ρ', r, H', hrun, hv, hR', hF', hq⟩ := hx ρ w _ hR hall
  unfold Oper.wp
  rw [hexec, hrun]
  have hA' := (hA.ext (hR.ext hF')).put hv (some d)
  unfold aput at hA'
  simp only [hn, cond_true] at hA'
  exact h r H' hq ρ' w' _ hR' hA' K fun ρ2 a2 w2 T2 H2 hQ2 hA2 hR2 hF2 => hK ρ2 a2 w2 T2 H2 hQ2 hA2 hR2 (hF'.trans hF2)
end

theorem Fr.drawnO {ρ : Names} {H : AH} {w : World} (d : Nat) : Fr ρ H w ρ H { w with drawn := d } :=
  ⟨fun _ _ => rfl, Nat.le_refl _, Nat.le_refl _, fun _ _ _ => rfl, fun b o s h1 h2 h3 => .inr ⟨b, o, s, h1, h2, h3, rfl⟩, fun b o _ h => ⟨o, h⟩, rfl, rfl, rfl⟩

/-- Two slices in two blocks that are written: they may be said to overlap, or not. -/
theorem overlaps_open {C : Ctx} {N : Bd} {G : Nat} {ρ : Names} {H : AH} {w : World} {vs : List Value} {f : FuncId} {tS tR e : TypeId} {size : Nat} (ht : C.P.underlying tS = some (.slice e)) (hz : ∀ w, (Go.sizeOf e).run C.P w = .ok size w)
    (hcall : ∀ args w r w', (Extern.SlicesOverlaps.overlaps #[tS, tS] #[tR] args).run C.P w = .ok r w' → (callFunc f args).run C.P w = .ok (.value r) w')
    {b b' o o' n n' z z' : Nat} {c c' : ACap} {as bs : List AV} (hne : b ≠ b') (hb : H.get b = some (.cells false as)) (hb' : H.get b' = some (.cells false bs)) (hn : 0 < n) (hn' : 0 < n') (hz0 : 0 < z) (hz0' : 0 < z')
    (hR : R N G ρ H w) (hv : VRs ρ [.slice b o n c z, .slice b' o' n' c' z'] vs) :
    ∃ v w' ρ' r H', (callFunc f ⟨vs⟩).run C.P w = .ok (.value v) w' ∧ VR ρ' r v ∧ R N G ρ' H' w' ∧ Fr ρ H w ρ' H' w' ∧ ((∃ x, r = .bool x) ∧ H' = H) := by
  simp only [VRs, VR] at hv
  obtain ⟨v1, vs1, rfl, ⟨s, cc, hs, rfl, hc, hl, hroom⟩, v2, vs2, rfl, ⟨s', cc', hs', rfl, hc', hl', hroom'⟩, rfl⟩ := hv
  obtain ⟨s1, h1, hO⟩ := hR.obj b _ hb
  rw [hs] at h1; cases h1
  obtain ⟨s2, h2, hO'⟩ := hR.obj b' _ hb'
  rw [hs'] at h2; cases h2
  simp only [OR] at hO hO'
  obtain ⟨cl, el, lo, hi, g1, g2, g3, g4, g5, g6⟩ := hO
  obtain ⟨cl', el', lo', hi', k1, k2, k3, k4, k5, k6⟩ := hO'
  have hblk : s.blk ≠ s'.blk := fun e => hne (hR.inj b b' _ _ s s' hb hb' rfl rfl hs hs' e)
  have hpos : 0 < cc * z := Nat.mul_pos (by omega) hz0
  have hpos' : 0 < cc' * z' := Nat.mul_pos (by omega) hz0'
  have hf : w.frozen? ⟨s.blk, s.base + o, none⟩ = false := by
    simp only [World.frozen?, g1]
    have h6 : lo = hi ∨ cl.size ≤ lo := by simpa using (g6 (by simp)).2
    exact notFrozen h6 _ (by omega)
  have e1 : w.shape? s.blk = some (el, cl.size) := by simp only [World.shape?, g1]
  have e2 : w.shape? s'.blk = some (el', cl'.size) := by simp only [World.shape?, k1]
  obtain ⟨r, d, hd, hr⟩ := run_overlaps_any (P := C.P) w tS tR e ht size hz ⟨s.blk, s.base + o, none⟩ ⟨s'.blk, s'.base + o', none⟩ n cc n' cc' hblk el el' cl.size cl'.size e1 e2 (by omega) (by omega) hf
  exact ⟨.bool r, _, ρ, .bool r, H, hcall _ _ _ _ hr, by simp only [VR], hR.drawn d hd, Fr.drawnO d, ⟨r, rfl⟩, rfl⟩
end Go.AB

namespace Go.AB

theorem wi64 (n : Int) : IntKind.wrap .i64 n = if n % 18446744073709551616 ≥ 9223372036854775808 then n % 18446744073709551616 - 18446744073709551616 else n % 18446744073709551616 := by
  unfold IntKind.wrap
  show (if (true && decide (n % 18446744073709551616 ≥ (9223372036854775808 : Int))) = true then n % 18446744073709551616 - 18446744073709551616 else n % 18446744073709551616) = _
  simp only [Bool.true_and, decide_eq_true_eq]
theorem wu64 (n : Int) : IntKind.wrap .u64 n = n % 18446744073709551616 := by
  unfold IntKind.wrap
  show (if (false && decide (n % 18446744073709551616 ≥ _)) = true then _ else n % 18446744073709551616) = _
  simp only [Bool.false_and, Bool.false_eq_true, if_false]
def I64 (n : Int) : Prop := -9223372036854775808 ≤ n ∧ n < 9223372036854775808
def uopA (op : UnOp) (v : AV) : Option AV :=
  match v with
  | .int k n => pur (Op.unary op (.int k n))
  | .bool b => pur (Op.unary op (.bool b))
  | _ => none
section
variable {C : Ctx} {F : Fns} {H : AH} {ev : Operand → AV} {dst : Option Tmp} {ty : TypeId} {pos : String} {after : Array Edge} {guard : Option (Nat × Bool)}
theorem evOp_unX {t : TypeId} {x : Operand} : evOp C F H ev { dst, op := .unOp .xor t x, type := ty, pos, after, guard } = (uopA .xor (ev x)).map (·, H) := by
  simp only [evOp, pureOp, readOp, newOp, chainOp]
  cases ev x <;> simp only [uopA] <;> first | rfl | (cases pur (Op.unary UnOp.xor _) <;> rfl)
theorem evOp_unN {t : TypeId} {x : Operand} : evOp C F H ev { dst, op := .unOp .neg t x, type := ty, pos, after, guard } = (uopA .neg (ev x)).map (·, H) := by
  simp only [evOp, pureOp, readOp, newOp, chainOp]
  cases ev x <;> simp only [uopA] <;> first | rfl | (cases pur (Op.unary UnOp.neg _) <;> rfl)
end

theorem ofInt64_toNat (n : Int) : (BitVec.ofInt 64 n).toNat = (n % 18446744073709551616).toNat := by
  rw [BitVec.toNat_ofInt]; rfl
theorem uop_xor_u64 {n : Nat} (h : n < 18446744073709551616) : uopA .xor (.int .u64 (n : Int)) = some (.int .u64 ((18446744073709551615 - n : Nat) : Int)) := by
  have e : uopA .xor (.int .u64 (n : Int)) = some (.int .u64 (IntKind.wrap .u64 (((BitVec.ofInt 64 18446744073709551615 ^^^ BitVec.ofInt 64 (n : Int)).toNat : Nat) : Int))) := by
    simp [uopA, pur, Op.unary, Op.intBits, ofVal]; rfl
  rw [e, show BitVec.ofInt 64 18446744073709551615 = BitVec.allOnes 64 from by decide, BitVec.allOnes_xor, BitVec.toNat_not, ofInt64_toNat, wu64]
  congr 2
  omega
theorem uop_xor_i64 {n : Int} (h : I64 n) : uopA .xor (.int .i64 n) = some (.int .i64 (-1 - n)) := by
  have e : uopA .xor (.int .i64 n) = some (.int .i64 (IntKind.wrap .i64 (((BitVec.ofInt 64 (-1) ^^^ BitVec.ofInt 64 n).toNat : Nat) : Int))) := by
    simp [uopA, pur, Op.unary, Op.intBits, ofVal]; rfl
  rw [e, show BitVec.ofInt 64 (-1) = BitVec.allOnes 64 from by decide, BitVec.allOnes_xor, BitVec.toNat_not, ofInt64_toNat, wi64]
  unfold I64 at h
  congr 2
  split <;> omega
theorem uop_neg_u64 {n : Int} : uopA .neg (.int .u64 n) = some (.int .u64 (IntKind.wrap .u64 (0 - n))) := by
  simp [uopA, pur, Op.unary, Op.intArith, ofVal]; rfl
theorem shr63 {C : Ctx} {t : TypeId} {cst : Bool} {n : Int} {k' : IntKind} (h : I64 n) : abin C .shr t cst (.int .i64 n) (.int k' 63) = some (.int .i64 (if n < 0 then -1 else 0)) := by
  have e : abin C .shr t cst (.int .i64 n) (.int k' 63) = pur (Op.shift .shr .i64 n k' 63) := by
    simp [abin, binOp]
  rw [e]
  unfold Op.shift
  rw [if_neg (by decide)]
  unfold I64 at h
  show some (ofVal (.int .i64 (Int.fdiv n (2 ^ 63)))) = _
  simp only [ofVal]
  congr 2
  rw [Int.fdiv_eq_ediv_of_nonneg _ (by decide)]
  show n / 9223372036854775808 = _
  split <;> omega

/-! Great sums. -/
def loN (S : Int) : Nat := (S % 18446744073709551616).toNat
def hiI (S : Int) : Int := IntKind.wrap .i64 (S / 18446744073709551616)
theorem loN_lt (S : Int) : loN S < 18446744073709551616 := by unfold loN; omega
theorem loN_cast (S : Int) : ((loN S : Nat) : Int) = S % 18446744073709551616 := by unfold loN; omega
theorem hiI_64 (S : Int) : I64 (hiI S) := by
  unfold hiI I64
  rw [wi64]
  split <;> omega
theorem hiI_of {x S : Int} (e : x % 18446744073709551616 = (S / 18446744073709551616) % 18446744073709551616) : IntKind.wrap .i64 x = hiI S := by
  unfold hiI
  rw [wi64, wi64, e]
theorem hiI_mod (S : Int) : hiI S % 18446744073709551616 = (S / 18446744073709551616) % 18446744073709551616 := by
  unfold hiI
  rw [wi64]
  split <;> omega
/-- A great sum's three words. -/
def grt (S c : Int) : List AV := [.int .i64 (hiI S), .int .u64 (loN S : Nat), .int .u64 (loN c : Nat)]
/-- What a sum and how many are over come to. -/
def grtV (S c : Int) : Int × Bool := if loN c = 0 ∧ hiI S = (if IntKind.wrap .i64 (loN S : Nat) < 0 then -1 else 0) then (IntKind.wrap .i64 (loN S : Nat), false) else (0, true)
end Go.AB

namespace Go.AB

/-- A tree: its block, number, how often, how many in all, how high, both sides. -/
inductive Tr where
  | leaf
  | node (b : Nat) (n : Int) (t a h : Nat) (l r : Tr)
def Tr.cnt : Tr → Nat
  | .leaf => 0
  | .node _ _ _ a _ _ _ => a
def Tr.hi : Tr → Nat
  | .leaf => 0
  | .node _ _ _ _ h _ _ => h
def Tr.ok : Tr → Prop
  | .leaf => True
  | .node _ _ t a h l r => 1 ≤ t ∧ a = t + l.cnt + r.cnt ∧ h = 1 + max l.hi r.hi ∧ l.ok ∧ r.ok
def Tr.blks : Tr → List Nat
  | .leaf => []
  | .node b _ _ _ _ l r => b :: (l.blks ++ r.blks)
def Tr.ino : Tr → List (Int × Nat)
  | .leaf => []
  | .node _ n t _ _ l r => l.ino ++ (n, t) :: r.ino
def ndC (n t a h : Int) (vl vr : AV) : List AV := [.int .i64 n, .int .i64 t, .int .i64 a, .int .i64 h, vl, vr]
def TrAt (H : AH) : AV → Tr → Prop
  | v, .leaf => v = .nilp
  | v, .node b n t a h l r => v = .ptr b 0 ∧ ∃ vl vr, H.get b = some (.cells false (ndC n t a h vl vr)) ∧ TrAt H vl l ∧ TrAt H vr r
theorem TrAt.keep {H K : AH} : ∀ {t : Tr} {v : AV}, TrAt H v t → (∀ b ∈ t.blks, ∀ o, H.get b = some o → K.get b = some o) → TrAt K v t
  | .leaf, v, h, _ => h
  | .node b n t a x l r, v, h, hk => by
    obtain ⟨rfl, vl, vr, h1, h2, h3⟩ := h
    exact ⟨rfl, vl, vr, hk b (by simp [Tr.blks]) _ h1, h2.keep fun c hc => hk c (by simp [Tr.blks, hc]), h3.keep fun c hc => hk c (by simp [Tr.blks, hc])⟩
theorem TrAt.one {H : AH} {t : Tr} {v : AV} (h : TrAt H v t) : v.one = true := by
  cases t with
  | leaf => rw [h]; rfl
  | node => rw [h.1]; rfl
theorem TrAt.lt {H : AH} (hw : WF H) : ∀ {t : Tr} {v : AV}, TrAt H v t → ∀ b ∈ t.blks, b < H.next
  | .leaf, v, _, b, hb => by simp [Tr.blks] at hb
  | .node b n t a x l r, v, h, c, hc => by
    obtain ⟨rfl, vl, vr, h1, h2, h3⟩ := h
    simp only [Tr.blks, List.mem_cons, List.mem_append] at hc
    rcases hc with rfl | hc | hc
    · exact hw _ _ h1
    · exact h2.lt hw c hc
    · exact h3.lt hw c hc
theorem Tr.hi_le : ∀ {t : Tr}, t.ok → t.hi ≤ t.cnt
  | .leaf, _ => Nat.le_refl _
  | .node b n t a x l r, h => by
    obtain ⟨h1, h2, h3, h4, h5⟩ := h
    have := hi_le h4
    have := hi_le h5
    simp only [Tr.hi, Tr.cnt]
    omega
theorem Tr.hi_pos {t : Tr} (h : t.ok) (hh : 0 < t.hi) : ∃ b n k a x l r, t = .node b n k a x l r := by
  cases t with
  | leaf => simp [Tr.hi] at hh
  | node b n k a x l r => exact ⟨b, n, k, a, x, l, r, rfl⟩
theorem Tr.ino_pos : ∀ {t : Tr}, t.ok → ∀ p ∈ t.ino, 1 ≤ p.2
  | .leaf, _, p, hp => by simp [Tr.ino] at hp
  | .node b n t a x l r, h, p, hp => by
    obtain ⟨h1, h2, h3, h4, h5⟩ := h
    simp only [Tr.ino, List.mem_append, List.mem_cons] at hp
    rcases hp with hp | rfl | hp
    · exact ino_pos h4 p hp
    · exact h1
    · exact ino_pos h5 p hp
def sumT (l : List (Int × Nat)) : Nat := (l.map (·.2)).sum
theorem sumT_app (a b : List (Int × Nat)) : sumT (a ++ b) = sumT a + sumT b := by simp [sumT]
theorem sumT_cons (p : Int × Nat) (a : List (Int × Nat)) : sumT (p :: a) = p.2 + sumT a := by simp [sumT]
theorem Tr.cnt_ino : ∀ {t : Tr}, t.ok → t.cnt = sumT t.ino
  | .leaf, _ => rfl
  | .node b n t a x l r, h => by
    obtain ⟨h1, h2, h3, h4, h5⟩ := h
    simp only [Tr.cnt, Tr.ino]
    rw [sumT_app, sumT_cons, ← cnt_ino h4, ← cnt_ino h5]
    omega

/-- In order, each once. -/
def Srt (l : List (Int × Nat)) : Prop := l.Pairwise fun x y => x.1 < y.1
def insL (n : Int) (k : Nat) : List (Int × Nat) → List (Int × Nat)
  | [] => [(n, k)]
  | p :: ps => if n < p.1 then (n, k) :: p :: ps else if p.1 < n then p :: insL n k ps else (p.1, p.2 + k) :: ps
def delL (n : Int) : List (Int × Nat) → List (Int × Nat)
  | [] => []
  | p :: ps => if p.1 = n then (if 1 < p.2 then (p.1, p.2 - 1) :: ps else ps) else p :: delL n ps
def tms : List (Int × Nat) → Int → Nat
  | [], _ => 0
  | p :: ps, n => if p.1 = n then p.2 else tms ps n
theorem insL_left {n m : Int} {k t : Nat} (h : n < m) : ∀ (l r : List (Int × Nat)), insL n k (l ++ (m, t) :: r) = insL n k l ++ (m, t) :: r
  | [], r => by simp [insL, h]
  | p :: ps, r => by
    simp only [List.cons_append, insL]
    split
    · rfl
    · split
      · rw [insL_left h ps r]; rfl
      · rfl
theorem insL_right {n m : Int} {k t : Nat} (h : m < n) : ∀ (l r : List (Int × Nat)), (∀ p ∈ l, p.1 < n) → insL n k (l ++ (m, t) :: r) = l ++ (m, t) :: insL n k r
  | [], r, _ => by simp only [List.nil_append, insL]; rw [if_neg (by omega), if_pos h]
  | p :: ps, r, hl => by
    have := hl p (List.mem_cons_self)
    simp only [List.cons_append, insL]
    rw [if_neg (by omega), if_pos this, insL_right h ps r fun q hq => hl q (List.mem_cons_of_mem _ hq)]
theorem insL_here {n : Int} {k t : Nat} : ∀ (l r : List (Int × Nat)), (∀ p ∈ l, p.1 < n) → insL n k (l ++ (n, t) :: r) = l ++ (n, t + k) :: r
  | [], r, _ => by simp only [List.nil_append, insL]; rw [if_neg (by omega), if_neg (by omega)]
  | p :: ps, r, hl => by
    have := hl p (List.mem_cons_self)
    simp only [List.cons_append, insL]
    rw [if_neg (by omega), if_pos this, insL_here ps r fun q hq => hl q (List.mem_cons_of_mem _ hq)]
theorem mem_insL {n : Int} {k : Nat} : ∀ {l : List (Int × Nat)} {p : Int × Nat}, p ∈ insL n k l → p.1 = n ∨ p ∈ l
  | [], p, h => by simp [insL] at h; exact .inl (by rw [h])
  | q :: l, p, h => by
    unfold insL at h
    split at h
    · rcases List.mem_cons.1 h with rfl | h
      · exact .inl rfl
      · exact .inr h
    · split at h
      · rcases List.mem_cons.1 h with rfl | h
        · exact .inr (List.mem_cons_self)
        · exact (mem_insL h).imp id (List.mem_cons_of_mem _)
      · rename_i h1 h2
        rcases List.mem_cons.1 h with rfl | h
        · exact .inl (by show q.1 = n; omega)
        · exact .inr (List.mem_cons_of_mem _ h)
theorem Srt.ins {n : Int} {k : Nat} : ∀ {l : List (Int × Nat)}, Srt l → Srt (insL n k l)
  | [], _ => by simp [insL, Srt]
  | q :: l, h => by
    have hq : ∀ {p : Int × Nat}, p ∈ l → q.1 < p.1 := fun hp => List.rel_of_pairwise_cons h hp
    have hl : Srt l := List.Pairwise.of_cons h
    unfold insL
    split
    · rename_i h1
      exact List.Pairwise.cons (fun p hp => by
        rcases List.mem_cons.1 hp with rfl | hp
        · exact h1
        · have := hq hp; show n < p.1; omega) h
    · split
      · rename_i h1 h2
        exact List.Pairwise.cons (fun p hp => by
          rcases mem_insL hp with e | hp
          · rw [e]; exact h2
          · exact hq hp) hl.ins
      · exact List.Pairwise.cons (fun p hp => hq hp) hl
theorem tms_ins {n : Int} {k : Nat} (m : Int) : ∀ {l : List (Int × Nat)}, Srt l → tms (insL n k l) m = tms l m + if m = n then k else 0
  | [], _ => by
    simp only [insL, tms]
    by_cases h : m = n
    · rw [if_pos h.symm, if_pos h]; omega
    · rw [if_neg (fun e => h e.symm), if_neg h]
  | q :: l, h => by
    have hq : ∀ {p : Int × Nat}, p ∈ l → q.1 < p.1 := fun hp => List.rel_of_pairwise_cons h hp
    have hl : Srt l := List.Pairwise.of_cons h
    unfold insL
    split
    · rename_i h1
      have hz : tms (q :: l) n = 0 := by
        have : ∀ (l : List (Int × Nat)), (∀ p ∈ l, n < p.1) → tms l n = 0 := by
          intro l
          induction l with
          | nil => intro _; rfl
          | cons a l ih =>
            intro ha
            have := ha a (List.mem_cons_self)
            unfold tms
            rw [if_neg (by omega), ih fun p hp => ha p (List.mem_cons_of_mem _ hp)]
        refine this _ fun p hp => ?_
        rcases List.mem_cons.1 hp with rfl | hp
        · exact h1
        · have := hq hp; omega
      rw [tms]
      by_cases h2 : m = n
      · subst h2; rw [if_pos rfl, if_pos rfl, hz]; omega
      · rw [if_neg (fun e => h2 e.symm), if_neg h2, Nat.add_zero]
    · split
      · rename_i h1 h2
        rw [tms, tms, tms_ins m hl]
        by_cases h3 : q.1 = m
        · rw [if_pos h3, if_pos h3, if_neg (by omega), Nat.add_zero]
        · rw [if_neg h3, if_neg h3]
      · rename_i h1 h2
        rw [tms, tms]
        by_cases h3 : q.1 = m
        · rw [if_pos h3, if_pos h3, if_pos (by omega)]
        · rw [if_neg h3, if_neg h3, if_neg (by omega), Nat.add_zero]
theorem sumT_ins {n : Int} {k : Nat} : ∀ (l : List (Int × Nat)), sumT (insL n k l) = sumT l + k
  | [] => by simp [insL, sumT]
  | q :: l => by
    unfold insL
    split
    · rw [sumT_cons, Nat.add_comm]
    · split
      · rw [sumT_cons, sumT_cons, sumT_ins l]; omega
      · rw [sumT_cons, sumT_cons]; show q.2 + k + sumT l = _; omega
/-! One taken out. -/
theorem delL_left {n : Int} : ∀ {l : List (Int × Nat)} (x : List (Int × Nat)), (∃ t, (n, t) ∈ l) → delL n (l ++ x) = delL n l ++ x
  | [], x, ⟨t, h⟩ => by simp at h
  | p :: ps, x, ⟨t, h⟩ => by
    simp only [List.cons_append, delL]
    by_cases e : p.1 = n
    · rw [if_pos e, if_pos e]; split <;> rfl
    · rw [if_neg e, if_neg e]
      rcases List.mem_cons.1 h with h | h
      · rw [← h] at e; exact absurd rfl e
      · rw [delL_left x ⟨t, h⟩]; rfl
theorem delL_right {n : Int} : ∀ {l : List (Int × Nat)} (x : List (Int × Nat)), (∀ p ∈ l, p.1 ≠ n) → delL n (l ++ x) = l ++ delL n x
  | [], x, _ => rfl
  | p :: ps, x, h => by
    simp only [List.cons_append, delL]
    rw [if_neg (h p (List.mem_cons_self)), delL_right x fun q hq => h q (List.mem_cons_of_mem _ hq)]
theorem mem_delL {n : Int} : ∀ {l : List (Int × Nat)} {p : Int × Nat}, p ∈ delL n l → ∃ q ∈ l, q.1 = p.1
  | [], p, h => by simp [delL] at h
  | q :: l, p, h => by
    unfold delL at h
    split at h
    · split at h
      · rcases List.mem_cons.1 h with rfl | h
        · exact ⟨q, List.mem_cons_self, rfl⟩
        · exact ⟨p, List.mem_cons_of_mem _ h, rfl⟩
      · exact ⟨p, List.mem_cons_of_mem _ h, rfl⟩
    · rcases List.mem_cons.1 h with rfl | h
      · exact ⟨p, List.mem_cons_self, rfl⟩
      · obtain ⟨x, h1, h2⟩ := mem_delL h
        exact ⟨x, List.mem_cons_of_mem _ h1, h2⟩
theorem Srt.del {n : Int} : ∀ {l : List (Int × Nat)}, Srt l → Srt (delL n l)
  | [], _ => by simp [delL, Srt]
  | q :: l, h => by
    have hq : ∀ {p : Int × Nat}, p ∈ l → q.1 < p.1 := fun hp => List.rel_of_pairwise_cons h hp
    have hl : Srt l := List.Pairwise.of_cons h
    unfold delL
    split
    · split
      · exact List.Pairwise.cons (fun p hp => hq hp) hl
      · exact hl
    · exact List.Pairwise.cons (fun p hp => by obtain ⟨x, h1, h2⟩ := mem_delL hp; rw [← h2]; exact hq h1) hl.del
theorem tms_none {n : Int} : ∀ {l : List (Int × Nat)}, (∀ p ∈ l, p.1 ≠ n) → tms l n = 0
  | [], _ => rfl
  | p :: l, h => by
    unfold tms
    rw [if_neg (h p (List.mem_cons_self)), tms_none fun q hq => h q (List.mem_cons_of_mem _ hq)]
theorem tms_del {n : Int} (m : Int) : ∀ {l : List (Int × Nat)}, Srt l → (∀ p ∈ l, 1 ≤ p.2) → tms (delL n l) m = tms l m - if m = n then 1 else 0
  | [], _, _ => by simp [delL, tms]
  | q :: l, h, hp => by
    have hq : ∀ {p : Int × Nat}, p ∈ l → q.1 < p.1 := fun hp => List.rel_of_pairwise_cons h hp
    have hl : Srt l := List.Pairwise.of_cons h
    have q1 := hp q (List.mem_cons_self)
    unfold delL
    split
    · rename_i h1
      split
      · rw [tms, tms]
        by_cases h3 : q.1 = m
        · rw [if_pos h3, if_pos h3, if_pos (by omega)]
        · rw [if_neg h3, if_neg h3, if_neg (by omega), Nat.sub_zero]
      · rw [tms]
        by_cases h3 : q.1 = m
        · rw [if_pos h3, if_pos (by omega), tms_none fun p hp => by have := hq hp; omega]; omega
        · rw [if_neg h3, if_neg (by omega), Nat.sub_zero]
    · rename_i h1
      rw [tms, tms, tms_del m hl fun p hp' => hp p (List.mem_cons_of_mem _ hp')]
      by_cases h3 : q.1 = m
      · rw [if_pos h3, if_pos h3, if_neg (by omega), Nat.sub_zero]
      · rw [if_neg h3, if_neg h3]
theorem tms_mem {n : Int} : ∀ {l : List (Int × Nat)}, 0 < tms l n → ∃ t, (n, t) ∈ l
  | [], h => by simp [tms] at h
  | p :: l, h => by
    unfold tms at h
    split at h
    · rename_i e; exact ⟨p.2, by rw [← e]; exact List.mem_cons_self⟩
    · obtain ⟨t, ht⟩ := tms_mem h; exact ⟨t, List.mem_cons_of_mem _ ht⟩
theorem Srt.split {l r : List (Int × Nat)} {m : Int} {t : Nat} (h : Srt (l ++ (m, t) :: r)) : Srt l ∧ Srt r ∧ (∀ p ∈ l, p.1 < m) ∧ (∀ p ∈ r, m < p.1) := by
  obtain ⟨h1, h2, h3⟩ := List.pairwise_append.1 h
  exact ⟨h1, List.Pairwise.of_cons h2, fun p hp => h3 p hp (m, t) (List.mem_cons_self), fun p hp => List.rel_of_pairwise_cons h2 hp⟩
end Go.AB

namespace Go.AB
section
variable {C : Ctx} {N : Bd} {G n : Nat} {T : PT AV} {H : AH} {ops : Array Oper} {l : List Oper} {Q : PT AV → AH → Prop} {R : AEx → PT AV → AH → Prop}
theorem AW.cT {c : Operand} {x y : Code} {b : Bool} (h : AW C N G n x T H R) (hc : aeval G T c = .bool b := by simp only [aeval, PT.get_set, Nat.reduceEqDiff, reduceIte]; rfl) (hb : b = true := by first | rfl | decide | assumption) : AW C N G n (.cond c x y) T H R := AW.condT hc hb h
theorem AW.cF {c : Operand} {x y : Code} {b : Bool} (h : AW C N G n y T H R) (hc : aeval G T c = .bool b := by simp only [aeval, PT.get_set, Nat.reduceEqDiff, reduceIte]; rfl) (hb : b = false := by first | rfl | decide | assumption) : AW C N G n (.cond c x y) T H R := AW.condF hc hb h
variable {op : Op} {type : TypeId} {pos : String} {after : Array Edge} {dst : Option Tmp} {d e j : Nat} {b want : Bool}
theorem AOs.o1 (hC : C.OK) (h : Step (evOp C F0 H (aeval G T) { dst := some d, op, type, pos, after, guard := none }) fun v H' => AOs C N G n ops l (T.set d v) H' Q) (hn : Nat.blt d n = true := by with_unfolding_all rfl) :
    AOs C N G n ops ({ dst := some d, op, type, pos, after, guard := none } :: l) T H Q := AOs.op1E hC hn h
theorem AOs.gT (h : AOs C N G n ops ({ dst, op, type, pos, after, guard := none } :: l) T H Q) (hd : (ops[j]?).bind (·.dst) = some d := by with_unfolding_all rfl) (hb : T.get d = some (.bool b) := by simp only [PT.get_set, Nat.reduceEqDiff, reduceIte]; rfl) (hbw : b = want := by first | rfl | decide | assumption) :
    AOs C N G n ops ({ dst, op, type, pos, after, guard := some (j, want) } :: l) T H Q := AOs.guardT hd hb hbw h
theorem AOs.gF (h : AOs C N G n ops l (T.set e (.tuple [])) H Q) (hd : (ops[j]?).bind (·.dst) = some d := by with_unfolding_all rfl) (hb : T.get d = some (.bool b) := by simp only [PT.get_set, Nat.reduceEqDiff, reduceIte]; rfl) (hbw : b = !want := by first | rfl | decide | assumption) (hn : Nat.blt e n = true := by with_unfolding_all rfl) :
    AOs C N G n ops ({ dst := some e, op, type, pos, after, guard := some (j, want) } :: l) T H Q := AOs.guardF hd hb hbw hn h
theorem AOs.cq (hC : C.OK) {type : TypeId} {args : List Operand} {ats : Array TypeId} {fo : Operand} {f : FuncId} {g : Func} {Qc : AV → AH → Prop} {as : List AV}
    (hg : C.fn f = some g) (hb : fnOk g = true) (hac : AC C N G f as H Qc) (h : ∀ r H', Qc r H' → AOs C N G n ops l (T.set d r) H' Q) (hf : aeval G T fo = .func f [] [] := by rfl) (hn : Nat.blt d n = true := by rfl)
    (hargs : [] ++ args.map (aeval G T) ++ [] = as := by simp only [List.map_cons, List.map_nil, List.nil_append, List.append_nil, List.cons_append, aeval, ofVal, PT.get_set, Nat.reduceEqDiff, reduceIte] <;> rfl) :
    AOs C N G n ops ({ dst := some d, op := .call { callee := .value fo, args := ⟨args⟩, argTypes := ats }, type, pos, after, guard := none } :: l) T H Q := AOs.callQ hC hf hg hb hn hargs hac h
end
section
variable {C : Ctx} {T : PT AV} {H : AH}
theorem fr1 {t : Nat} {Q : AV → AH → Prop} {a : AV} (hq : Q a H) (h : T.get t = some a := by first | (simp only [PT.get_set, Nat.reduceEqDiff, reduceIte]; rfl) | simp only [PT.get_set, Nat.reduceEqDiff, reduceIte]) : fnPost C [.tmp t] Q .ret T H := fnPost_ret1 h hq
end
theorem gt1 {T : PT AV} {t : Nat} {x : Option AV} (h : T.get t = x := by first | (simp only [PT.get_set, Nat.reduceEqDiff, reduceIte]; rfl) | simp only [PT.get_set, Nat.reduceEqDiff, reduceIte]) : T.get t = x := h
theorem gt2 {T : PT AV} {t : Nat} {x : Option AV} (h : T.get t = x := by first | (simp only [PT.get_set, Nat.reduceEqDiff, reduceIte]; done) | (simp only [PT.get_set, Nat.reduceEqDiff, reduceIte]; assumption) | (simp only [PT.get_set, Nat.reduceEqDiff, reduceIte]; rfl)) : T.get t = x := h
theorem ar1 {x y : List AV} (h : x = y := by simp only [List.map_cons, List.map_nil, List.nil_append, List.append_nil, List.cons_append, aeval, ofVal, PT.get_set, Nat.reduceEqDiff, reduceIte] <;> rfl) : x = y := h
theorem wu {α : Type} {x y : α} (h : x = y := by with_unfolding_all rfl) : x = y := h
theorem pk1 {x y : List (Nat × Oper)} (h : x = y := by simp only [pickL, List.getElem?_cons_zero, List.getElem?_cons_succ]; rfl) : x = y := h
end Go.AB

open Go Go.AB
namespace Go.AB
set_option maxRecDepth 10000
def evc0 := And.intro @evOp_move (And.intro @evOp_assign (And.intro @evOp_pick (And.intro @evOp_build (And.intro @evOp_nilCheck (And.intro @evOp_binOp (And.intro @evOp_not (And.intro @evOp_fieldAddr (And.intro @evOp_indexAddr (And.intro @evOp_extract (And.intro @evOp_load (And.intro @evOp_store (And.intro @evOp_len (And.intro @evOp_append (And.intro @evOp_slice (And.intro @evOp_convert (And.intro @evOp_boxC (And.intro @boxC_agg (And.intro @one_int (And.intro @PT.get_set (And.intro @lenOfAV_slice (And.intro @List.map_cons.{0, 0} (And.intro @List.map_nil.{0, 0} (And.intro @Option.map_some.{0, 0} (And.intro @Option.map_none.{0, 0} (And.intro @abin_add (And.intro @abin_sub (And.intro @abin_lss (And.intro @abin_leq (And.intro @abin_gtr (And.intro @abin_geq (And.intro @abin_eql (And.intro @abin_neq (And.intro @cond_true.{1} (And.intro @cond_false.{1} (And.intro @decide_true (And.intro @decide_false (And.intro @Bool.not_true (And.intro @Bool.not_false (And.intro @List.getElem?_cons_zero.{0} (And.intro @List.getElem?_cons_succ.{0} (And.intro @Nat.add_zero (And.intro @Nat.zero_add (And.intro @nbeq (And.intro @nblt (And.intro @List.length_cons.{0} (And.intro @List.length_nil.{0} @Int.cast_ofNat_Int))))))))))))))))))))))))))))))))))))))))))))))
theorem evc : type_of% evc0 := evc0
def evr0 := And.intro @evOp_field (And.intro @evOp_index (And.intro @evOp_makeFunc (And.intro @evOp_lookup (And.intro @evOp_mapUpdate (And.intro @evOp_insert (And.intro @evOp_range (And.intro @evOp_makeMap (And.intro @evOp_copy (And.intro @evOp_delete (And.intro @evOp_entry (And.intro @boxC_one (And.intro @evOp_cap (And.intro @one_bool (And.intro @one_str (And.intro @one_nilp (And.intro @one_ptr (And.intro @one_nils (And.intro @one_slice (And.intro @one_empty (And.intro @one_nilm (And.intro @one_map (And.intro @one_func (And.intro @one_nilf (And.intro @one_iface (And.intro @one_nili (And.intro @lenOfAV_nils (And.intro @lenOfAV_empty (And.intro @List.nil_append.{0} (And.intro @List.append_nil.{0} (And.intro @abin_mul (And.intro @abin_eqlS (And.intro @abin_neqS (And.intro @Nat.zero_mul (And.intro @nble (And.intro @Bool.and_true (And.intro @Bool.true_and (And.intro @Bool.and_false (And.intro @Bool.false_and (And.intro @List.set_cons_zero.{0} (And.intro @List.set_cons_succ.{0} (And.intro @AH.get_set (And.intro @AH.next_set (And.intro @Int.ofNat_eq_natCast @Int.natCast_zero)))))))))))))))))))))))))))))))))))))))))))
theorem evr : type_of% evr0 := evr0
end Go.AB
