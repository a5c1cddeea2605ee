/- Triples over abstract heaps: texts, bytes, drawn regions in steps, the room of a slice; no condition. -/
import Derived.Test.YtapokkpdgfpokaaGreatHeap5
import Derived.Laws.Externs
set_option linter.unusedSimpArgs false
set_option linter.unusedVariables false
namespace Go.AB

def AWn (C : Ctx) (N G n : Nat) (c : Code) (Q : AEx → PT AV → AH → Prop) : Nat → PT AV → AH → Prop
  | 0, _, _ => False
  | k + 1, T, H => AW C N G n c T H (andThen (AWn C N G n c Q k) Q)

theorem AWn.succ {C : Ctx} {N G n : Nat} {c : Code} {Q : AEx → PT AV → AH → Prop} {k : Nat} {T : PT AV} {H : AH} (h : AW C N G n c T H (andThen (AWn C N G n c Q k) Q)) : AWn C N G n c Q (k + 1) T H := h

/-- A row of texts, wherever it lies. -/
def StrsAt (H : AH) (v : AV) (l : List (List UInt8)) : Prop :=
  (v = .nils ∧ l = []) ∨ ∃ b c ro vs, v = .slice b 0 l.length c 1 ∧ H.get b = some (.cells ro vs) ∧ ∀ (i : Nat) s, l[i]? = some s → vs[i]? = some (AV.str s)

theorem StrsAt.len {H : AH} {v : AV} {l : List (List UInt8)} (h : StrsAt H v l) : lenOfAV v = some l.length := by
  rcases h with ⟨rfl, rfl⟩ | ⟨b, c, ro, vs, rfl, _⟩ <;> rfl

def bytesAV (s : List UInt8) : List AV := s.map fun b => .int .u8 b.toNat
theorem bytesAV_length (s : List UInt8) : (bytesAV s).length = s.length := by simp [bytesAV]
/-- Bytes in a row, wherever it lies. -/
def BytesAt (H : AH) (v : AV) (l : List UInt8) : Prop :=
  ((v = .nils ∨ ∃ k, v = .empty k) ∧ l = []) ∨ ∃ b o c ro vs, v = .slice b o l.length c 1 ∧ H.get b = some (.cells ro vs) ∧ (vs.drop o).take l.length = bytesAV l

theorem BytesAt.len {H : AH} {v : AV} {l : List UInt8} (h : BytesAt H v l) : lenOfAV v = some l.length := by
  rcases h with ⟨rfl | ⟨k, rfl⟩, rfl⟩ | ⟨b, o, c, ro, vs, rfl, _⟩ <;> rfl

theorem BytesAt.one {H : AH} {v : AV} {l : List UInt8} (h : BytesAt H v l) : v.one = true := by
  rcases h with ⟨rfl | ⟨k, rfl⟩, rfl⟩ | ⟨b, o, c, ro, vs, rfl, _⟩ <;> rfl

theorem BytesAt.keep {H K : AH} {v : AV} {l : List UInt8} (h : BytesAt H v l) (hk : ∀ b o c, v = .slice b o l.length c 1 → ∀ x, H.get b = some x → K.get b = some x) : BytesAt K v l := by
  rcases h with h | ⟨b, o, c, ro, vs, rfl, h1, h2⟩
  · exact .inl h
  · exact .inr ⟨b, o, c, ro, vs, rfl, hk b o c rfl _ h1, h2⟩

theorem BytesAt.stays {H K : AH} {v : AV} {l : List UInt8} (h : BytesAt H v l) (hw : WF H) (hs : Stays H K) : BytesAt K v l :=
  h.keep fun b o c e x hx => hs.get b x (hw b x hx) hx

theorem BytesAt.cells {H : AH} {v : AV} {l : List UInt8} (h : BytesAt H v l) : acells H 1 l.length v = some (bytesAV l) := by
  rcases h with ⟨rfl | ⟨k, rfl⟩, rfl⟩ | ⟨b, o, c, ro, vs, rfl, h1, h2⟩
  · rfl
  · rfl
  · simp only [acells, Nat.mul_one, h1, h2, nbeq, bytesAV_length, decide_true, cond_true]
    by_cases h0 : l.length = 0
    · have := List.eq_nil_of_length_eq_zero h0
      subst this; rfl
    · simp [h0]

theorem BytesAt.str {H : AH} {v : AV} {l : List UInt8} (h : BytesAt H v l) : aToString H v = some (.str l) := by
  rcases h with ⟨rfl | ⟨k, rfl⟩, rfl⟩ | ⟨b, o, c, ro, vs, rfl, h1, h2⟩
  · rfl
  · rfl
  · simp only [aToString, h1, h2, nbeq, bytesAV_length, decide_true, cond_true]
    rw [show bytesAV l = l.map (fun b => AV.int .u8 b.toNat) from rfl, toBytes_map]; rfl
end Go.AB
namespace Go.AB
def isUnit : AV → Bool
  | .tuple [] => true
  | _ => false
theorem isUnit_eq {x : AV} (h : isUnit x = true) : x = .tuple [] := by
  unfold isUnit at h
  split at h
  · rfl
  · cases h
theorem AOs.guardU {C : Ctx} {N G n : Nat} {T : PT AV} {H : AH} {ops : Array Oper} {l : List Oper} {Q : PT AV → AH → Prop} {op : Op} {type : TypeId} {pos : String} {after : Array Edge} {j : Nat} {want : Bool} {d e : Nat} {x : AV}
    (hd : (ops[j]?).bind (·.dst) = some d) (hb : T.get d = some x) (hx : isUnit x = true) (hn : Nat.blt e n = true) (h : AOs C N G n ops l (T.set e (.tuple [])) H Q) :
    AOs C N G n ops ({ dst := some e, op, type, pos, after, guard := some (j, want) } :: l) T H Q := AOs.guardN hd (by rw [hb, isUnit_eq hx]) hn h
theorem QO.guardU {C : Ctx} {F : Fns} {G n : Nat} {ops : Array Oper} {l : List Oper} {T : PT AV} {H : AH} {P : PT AV → Prop} {op : Op} {type : TypeId} {pos : String} {after : Array Edge} {j : Nat} {want : Bool} {d e : Nat} {x : AV}
    (hd : (ops[j]?).bind (·.dst) = some d) (hb : T.get d = some x) (hx : isUnit x = true) (hn : Nat.blt e n = true) (h : QO C F G n ops l (T.set e (.tuple [])) H P) :
    QO C F G n ops ({ dst := some e, op, type, pos, after, guard := some (j, want) } :: l) T H P := QO.guardN hd (by rw [hb, isUnit_eq hx]) hn h
end Go.AB
namespace Go.AB
theorem abin_eqlS {C : Ctx} {t : TypeId} {cst : Bool} {a b : List UInt8} : abin C .eql t cst (.str a) (.str b) = some (.bool (decide (a = b))) := by simp only [abin, astr, beqL_eq]
theorem abin_neqS {C : Ctx} {t : TypeId} {cst : Bool} {a b : List UInt8} : abin C .neq t cst (.str a) (.str b) = some (.bool (!decide (a = b))) := by simp only [abin, astr, beqL_eq]
end Go.AB
namespace Go.AB
/-! ### Maps of texts -/
def lookAt (H : AH) (m : Nat) (k : List UInt8) (z : AV) : Option AV :=
  match H.get m with
  | some (.map ps _) => some ((mget ps k).getD z)
  | _ => none
def mapSetAt (H : AH) (m : Nat) (k : List UInt8) (v : AV) : Option AH :=
  match H.get m with
  | some (.map ps _) => some ⟨H.t.set m (.map (mset ps k v) H.next), H.next + 1⟩
  | _ => none
/-- Entries that lead to objects. -/
def ents (E : List (List UInt8 × Nat)) : List (List UInt8 × AV) := E.map fun p => (p.1, .ptr p.2 0)
end Go.AB
namespace Go.AB
def mapDelAt (H : AH) (m : Nat) (k : List UInt8) : Option (AV × AH) :=
  match H.get m with
  | some (.map ps _) => some (.tuple [], ⟨H.t.set m (.map (mdel ps k) H.next), H.next + 1⟩)
  | _ => none
end Go.AB

namespace Go.AB

theorem evOp_entry {C : Ctx} {F : Fns} {H : AH} {ev : Operand → AV} {dst : Option Tmp} {ty : TypeId} {pos : String} {after : Array Edge} {guard : Option (Nat × Bool)} {x} : evOp C F H ev { dst, op := .entry x, type := ty, pos, after, guard } = (aentry H (ev x)).map (·, H) := by
  simp only [evOp, pureOp, readOp, newOp, chainOp]; cases aentry H (ev x) <;> rfl

def rangeMapAt (H : AH) (m : Nat) : Option (AV × AH) :=
  match H.get m with
  | some (.map ps ver) => bif Nat.blt ver H.next then some (.ptr H.next 0, H.alloc (.miter m (ps.map (·.1)) ver none)) else none
  | _ => none

section
variable {C : Ctx} {N G n : Nat} {T : PT AV} {H : AH} {ops : Array Oper} {l : List Oper} {Q : PT AV → AH → Prop}

end

end Go.AB

namespace Go.AB

def boxC (v : AV) : Option (List AV) := bif notJunk v then some v.cells else none
theorem boxC_one {v : AV} (h : v.one = true) : boxC v = some [v] := by
  obtain ⟨h1, h2⟩ := cells_of_one h
  simp [boxC, h1, h2]
theorem boxC_agg {cs : List AV} : boxC (.agg cs) = some cs := rfl
section
variable {C : Ctx} {F : Fns} {H : AH} {ev : Operand → AV} {dst : Option Tmp} {ty : TypeId} {pos : String} {after : Array Edge} {guard : Option (Nat × Bool)}
theorem evOp_boxC {t x} : evOp C F H ev { dst, op := .box t x, type := ty, pos, after, guard } = (boxC (ev x)).map fun cs => (.ptr H.next 0, H.alloc (.cells false cs)) := by
  simp only [evOp, pureOp, readOp, newOp, chainOp, boxC]
  cases notJunk (ev x) <;> rfl
theorem evOp_cap {t : TypeId} {ts : List TypeId} {x : Operand} {xs : List Operand} : evOp C F H ev { dst, op := .call { callee := .builtin .cap, args := ⟨x :: xs⟩, argTypes := ⟨t :: ts⟩ }, type := ty, pos, after, guard } = (acap C t (ev x)).map (·, H) := by
  simp only [evOp, pureOp, readOp, newOp, chainOp, abuiltin, List.map_cons]
  cases acap C t (ev x) <;> rfl
end

theorem AW.drawG {C : Ctx} (hC : C.OK) {N G n : Nat} {F : Fns} (hF : F.OK C N G) (hq : QuietF F) {id : Nat} {ops : Array Oper} (ho : quietOps C ops = true) {T : PT AV} {H : AH} {Q : AEx → PT AV → AH → Prop}
    (h : ∀ m, H.next ≤ m → QO C F G n ops ops.toList T ⟨H.t, m⟩ fun T' => Q .normal T' ⟨H.t, m⟩) : AW C N G n (.region id ops true) T H Q :=
  AW.drawS hC hF hq ho (h _ (Nat.le_add_right _ _))
end Go.AB

namespace Go.AB
section
variable {C : Ctx} {F : Fns} {H : AH} {ev : Operand → AV} {dst : Option Tmp} {ty : TypeId} {pos : String} {after : Array Edge} {guard : Option (Nat × Bool)}
theorem evOp_buildSlice2 {t e : TypeId} {i j : TI} {z : AV} {x y : Operand} (ht : C.ti t = some i) (hd : i.d = .slice e) (he : C.ti e = some j) (hs : j.size = 1) (hz : j.zero = some z) (hzo : z.one = true) (hv : (ev x).one = true) (hw : (ev y).one = true) :
    evOp C F H ev { dst, op := .buildSlice t 2 ⟨[(0, x), (1, y)]⟩, type := ty, pos, after, guard } = some (.slice H.next 0 2 (.ex 2) 1, H.alloc (.cells false [ev x, ev y])) := by
  obtain ⟨z1, z2⟩ := cells_of_one hzo
  obtain ⟨v1, v2⟩ := cells_of_one hv
  obtain ⟨w1, w2⟩ := cells_of_one hw
  have h1 : splice [z, z] 0 [ev x] = [ev x, z] := by simp [splice]
  have h2 : splice [ev x, z] 1 [ev y] = [ev x, ev y] := by simp [splice]
  have hzs : zerosOf [z] 2 = [z, z] := by simp [zerosOf]
  simp only [evOp, pureOp, readOp, newOp, ht, hd, he, hs, hz, z1, z2, nbeq, nble, Nat.one_mul, Nat.mul_one, List.length_cons, List.length_nil, Nat.zero_add, decide_true, Bool.and_true, Bool.true_and, cond_true, List.map_cons, List.map_nil, hzs, afill, v1, v2, w1, w2, Option.map_some, Nat.zero_mul]
  simp [h1, h2]
end
end Go.AB

namespace Go.AB

section
variable {C : Ctx} {H : AH} {st e : TypeId} {i j : TI} {z : AV}

end
end Go.AB

namespace Go.AB

section
variable {C : Ctx} {F : Fns} {H : AH} {ev : Operand → AV} {dst : Option Tmp} {ty : TypeId} {pos : String} {after : Array Edge} {guard : Option (Nat × Bool)}
end
section
variable {C : Ctx} {t : TypeId} {cst : Bool} {k : IntKind} {a b : Int}
end
end Go.AB

namespace Go.AB

/-- An operation that was taken in the prover's order: what its temporaries were, what it yields; 0: it looks at no memory, 1: it may, 2: it acts. -/
structure Ro where
  i : Nat
  o : Oper
  T : PT AV
  v : AV
  k : Nat

def ancOf (ops : Array Oper) (i : Nat) : Nat := (Region.before ops).getD i 0

/-- A call that is known to leave the heap as it was. -/
def QCall (C : Ctx) (N G : Nat) (H : AH) (ev : Operand → AV) (o : Oper) (v : AV) : Prop :=
  ∃ (args : List Operand) (ats : Array TypeId) (fo : Operand) (f : FuncId) (fs cs : List AV) (g : Func), o.op = .call { callee := .value fo, args := ⟨args⟩, argTypes := ats } ∧ ev fo = .func f fs cs ∧ C.fn f = some g ∧ fnOk g = true ∧
    AC C N G f (fs ++ args.map ev ++ cs) H fun r K => r = v ∧ K = H

theorem qcall_congr {C : Ctx} {N G : Nat} {H : AH} {ev ev' : Operand → AV} {o : Oper} {v : AV} (h : ∀ x ∈ o.op.operands, ev x = ev' x) (hq : QCall C N G H ev o v) : QCall C N G H ev' o v := by
  obtain ⟨args, ats, fo, f, fs, cs, g, he, hf, hg, hb, hac⟩ := hq
  have hx : ∀ x, (x = fo ∨ x ∈ args) → ev x = ev' x := fun x hx => h x (by rw [he]; simp [Op.operands, Call.operands]; exact hx)
  refine ⟨args, ats, fo, f, fs, cs, g, he, by rw [← hx fo (.inl rfl)]; exact hf, hg, hb, ?_⟩
  rw [← List.map_congr_left (fun x hxa => hx x (.inr hxa))]
  exact hac

theorem qcall_wp {C : Ctx} (hC : C.OK) {N G : Nat} {ρ : Names} {H : AH} {w : World} {a : Act} {ev : Operand → AV} {o : Oper} {v : AV} (h : QCall C N G H ev o v) (hR : R N G ρ H w) (h2 : VEv ρ ev a.eval) {next : Act → World → Prop} {Z : Exit → Act → World → Prop}
    (hnext : ∀ x ρ' w', VR ρ' v x → R N G ρ' H w' → Fr ρ H w ρ' H w' → next (a.put o.dst x) w') : o.wp C.P a w next Z := by
  obtain ⟨args, ats, fo, f, fs, cs, g, he, hf, hg, hb, hac⟩ := h
  obtain ⟨dst, op, type, pos, after, guard⟩ := o
  simp only at he; subst he
  have hfv := h2 fo
  rw [hf] at hfv
  simp only [VR] at hfv
  obtain ⟨us, vs, hfv, hus, hvs⟩ := hfv
  have hargsV : ∀ l : List Operand, VRs ρ (l.map ev) (l.map a.eval) := by
    intro l
    induction l with
    | nil => exact VRs.nil
    | cons x l ih => exact VRs.cons (h2 x) ih
  have hall := (hus.append (hargsV args)).append hvs
  have hargs : (Array.mk args).map a.eval = ⟨args.map a.eval⟩ := by apply Array.ext'; simp
  have hexec : (execOp a.eval { dst, op := .call { callee := .value fo, args := ⟨args⟩, argTypes := ats }, type, pos, after, guard }).run C.P w = (callFunc f ⟨us ++ args.map a.eval ++ vs⟩).run C.P w := by
    simp only [execOp, resolve, hargs, Deferred.ofValue, hfv, Sem.run_bind, Sem.run_pure, Result.andThen_ok, invoke]
    simp
  unfold fnOk at hb
  simp only [Bool.and_eq_true, Bool.not_eq_true'] at hb
  have hfn := hC.fn f g hg
  have : (callFunc f ⟨us ++ args.map a.eval ++ vs⟩).run C.P w = .ok (.enter f ⟨us ++ args.map a.eval ++ vs⟩) w := by
    unfold callFunc
    have hb' : g.body.isNone = false := by
      cases hb1 : g.body with
      | none => rw [hb1] at hb; simp at hb
      | some _ => rfl
    simp only [Sem.run_bind, run_program, Result.andThen_ok, hfn, hb.2, Bool.false_eq_true, if_false, hb', Sem.run_pure]
  unfold Oper.wp
  rw [hexec, this, Oper.upon_enter]
  refine (hac ρ w _ hR hall).mono ?_
  rintro e w' ⟨x, ρ', r, K, ⟨rfl, rfl⟩, rfl, hv, hR', hF'⟩
  exact hnext x ρ' w' hv hR' hF'

/-- What a row that has not come up yet will yield where H lies in memory. -/
def Ro.good (C : Ctx) (N G : Nat) (ops : Array Oper) (H : AH) (r : Ro) : Prop :=
  (awanted ops r.T r.o = some false ∧ r.v = .tuple []) ∨ (awanted ops r.T r.o = some true ∧ (pureOp C (aeval G r.T) r.o = some r.v ∨ readOp C H (aeval G r.T) r.o = some r.v ∨ QCall C N G H (aeval G r.T) r.o r.v))

def Tat (rs : List Ro) (T : PT AV) (k : Nat) : PT AV :=
  match rs[k]? with
  | some r => r.T
  | none => T

structure Mt (C : Ctx) (N G n : Nat) (ops : Array Oper) (rs : List Ro) (D : Nat) (P : List Ro) (T : PT AV) (H : AH) (ρ0 : Names) (H0 : AH) (w0 : World) (S : Nat → Bool) (ρ : Names) (a : Act) (w : World) : Prop where
  op : ∀ (k : Nat) r, rs[k]? = some r → ops[r.i]? = some r.o
  once : ∀ (k k' : Nat) r r', rs[k]? = some r → rs[k']? = some r' → r.i = r'.i → k = k'
  anc : ∀ (k : Nat) r (j : Nat), rs[k]? = some r → (ancOf ops r.i).testBit j = true → ∃ (k' : Nat) (r' : Ro), k' < k ∧ rs[k']? = some r' ∧ r'.i = j
  step : ∀ (k : Nat) r, rs[k]? = some r → Tat rs T (k + 1) = aput n r.T r.o.dst r.v
  dn : ∀ j, D.testBit j = true ↔ ∃ (k : Nat) (r : Ro), rs[k]? = some r ∧ r.i = j
  sub : ∀ j, S j = true → D.testBit j = true
  good : ∀ (k : Nat) r, rs[k]? = some r → S r.i = false → r.good C N G ops H ∧ r.k ≠ 2 ∧ (r.k ≠ 1 → ∀ K, r.good C N G ops K) ∧ (r.k = 1 → r ∈ P)
  closed : ∀ i, S i = true → ∀ j, (ancOf ops i).testBit j = true → S j = true
  rd : R N G ρ H w
  fr : Fr ρ0 H0 w0 ρ H w
  defers : a.defers = []
  size : a.tmps.size = n
  tmp : ∀ k, k ≤ rs.length → ∀ d v, (Tat rs T k).get d = some v → d < n
  vals : ∀ k, k ≤ rs.length → ∀ d, (∀ (k' : Nat) (r : Ro), rs[k']? = some r → r.o.dst = some d → (S r.i = true ↔ k' < k)) → ∀ v, (Tat rs T k).get d = some v → ∃ x, a.tmps[d]? = some x ∧ VR ρ v x

section
variable {C : Ctx} {N G n : Nat} {ops : Array Oper} {rs : List Ro} {D : Nat} {P : List Ro} {T : PT AV} {H : AH} {ρ0 : Names} {H0 : AH} {w0 : World} {S S' : Nat → Bool} {ρ ρ' : Names} {a : Act} {w w' : World}

theorem getElem?_lt {α : Type} {l : List α} {k : Nat} {x : α} (h : l[k]? = some x) : k < l.length := (List.getElem?_eq_some_iff.1 h).1

/-- Writers of what a row names: those that came up are those ahead of it. -/
theorem Mt.writers (h : Mt C N G n ops rs D P T H ρ0 H0 w0 S ρ a w) (K : DrawOK ops) {k : Nat} {r : Ro} (hr : rs[k]? = some r) (hi : S r.i = false) (hanc : ∀ j, (ancOf ops r.i).testBit j = true → S j = true)
    {d : Nat} (hd : d ∈ tmpsOf ops r.o) (k' : Nat) (r' : Ro) (hr' : rs[k']? = some r') (hd' : r'.o.dst = some d) : S r'.i = true ↔ k' < k := by
  have ho := h.op k r hr
  have ho' := h.op k' r' hr'
  rcases Nat.lt_trichotomy r'.i r.i with h1 | h1 | h1
  · have hp := K.pairs r'.i r.i _ _ h1 ho' ho (clash_of hd' hd)
    constructor
    · intro _
      obtain ⟨k2, r2, g1, g2, g3⟩ := h.anc k r r'.i hr hp
      have := h.once k2 k' r2 r' g2 hr' g3
      omega
    · intro _; exact hanc _ hp
  · have := h.once k' k r' r hr' hr h1
    subst this
    rw [h1, hi]; simp
  · have hp := K.pairs r.i r'.i _ _ h1 ho ho' (clash_of' hd' hd)
    constructor
    · intro hs
      have := h.closed r'.i hs r.i hp
      rw [hi] at this; cases this
    · intro hlt
      obtain ⟨k2, r2, g1, g2, g3⟩ := h.anc k' r' r.i hr' hp
      have := h.once k2 k r2 r g2 hr g3
      omega

theorem Mt.sees (h : Mt C N G n ops rs D P T H ρ0 H0 w0 S ρ a w) (K : DrawOK ops) {k : Nat} {r : Ro} (hr : rs[k]? = some r) (hi : S r.i = false) (hanc : ∀ j, (ancOf ops r.i).testBit j = true → S j = true)
    {d : Nat} (hd : d ∈ tmpsOf ops r.o) {v : AV} (hv : r.T.get d = some v) : ∃ x, a.tmps[d]? = some x ∧ VR ρ v x := by
  refine h.vals k (Nat.le_of_lt (getElem?_lt hr)) d (h.writers K hr hi hanc hd) v ?_
  unfold Tat; rw [hr]; exact hv

theorem Mt.tmp_same (h : Mt C N G n ops rs D P T H ρ0 H0 w0 S ρ a w) {d p : Nat} : ∀ (m : Nat), p + m ≤ rs.length → (∀ (j : Nat) r, p ≤ j → j < p + m → rs[j]? = some r → r.o.dst ≠ some d) → (Tat rs T (p + m)).get d = (Tat rs T p).get d
  | 0, _, _ => rfl
  | m + 1, hm, hno => by
    have ih := h.tmp_same m (by omega) fun j r h1 h2 => hno j r h1 (by omega)
    obtain ⟨r, hr⟩ : ∃ r, rs[p + m]? = some r := ⟨_, List.getElem?_eq_getElem (by omega)⟩
    have hs := h.step (p + m) r hr
    have hT : Tat rs T (p + m) = r.T := by unfold Tat; rw [hr]
    rw [show p + (m + 1) = p + m + 1 by omega, hs, ← ih, hT]
    have hne := hno (p + m) r (by omega) (by omega) hr
    cases he : r.o.dst with
    | none => rfl
    | some e =>
      have : d ≠ e := fun e' => hne (by rw [he, e'])
      simp only [aput]
      cases Nat.blt e n
      · rfl
      · simp only [cond_true, PT.get_set]; rw [if_neg this]

/-- A row that has not come up yet comes up. -/
theorem Mt.put (h : Mt C N G n ops rs D P T H ρ0 H0 w0 S ρ a w) (K : DrawOK ops) {k : Nat} {r : Ro} (hr : rs[k]? = some r) (hi : S r.i = false) (hanc : ∀ j, (ancOf ops r.i).testBit j = true → S j = true)
    (hSi : S' r.i = true) (hS : ∀ j, j ≠ r.i → S' j = S j) {x : Value} (hext : Ext ρ ρ') (hx : VR ρ' r.v x) (hR : R N G ρ' H w') (hF : Fr ρ0 H0 w0 ρ' H w') : Mt C N G n ops rs D P T H ρ0 H0 w0 S' ρ' (a.put r.o.dst x) w' := by
  have ho := h.op k r hr
  have mono : ∀ j, S j = true → S' j = true := fun j hj => by
    by_cases e : j = r.i
    · rw [e]; exact hSi
    · rw [hS j e]; exact hj
  refine ⟨h.op, h.once, h.anc, h.step, h.dn, fun j hj => ?_, fun k' r' hr' hn => ?_, fun i hs j hj => ?_, hR, hF, ?_, ?_, h.tmp, ?_⟩
  · by_cases e : j = r.i
    · exact (h.dn j).2 ⟨k, r, hr, e.symm⟩
    · rw [hS j e] at hj; exact h.sub j hj
  · have hne : r'.i ≠ r.i := fun e => by rw [e, hSi] at hn; cases hn
    rw [hS _ hne] at hn
    exact h.good k' r' hr' hn
  · by_cases e : i = r.i
    · rw [e] at hj; exact mono j (hanc j hj)
    · rw [hS i e] at hs; exact mono j (h.closed i hs j hj)
  · cases hd : r.o.dst <;> exact h.defers
  · cases hd : r.o.dst
    · exact h.size
    · simp [Act.put, h.size]
  · intro k2 hk2 d hw v hv
    by_cases hd : r.o.dst = some d
    · have hik : k < k2 := (hw k r hr hd).1 hSi
      have hsame : (Tat rs T k2).get d = (Tat rs T (k + 1)).get d := by
        have := h.tmp_same (d := d) (p := k + 1) (k2 - (k + 1)) (by omega) fun j rj h1 h2 h3 h4 => by
          have hne : rj.i ≠ r.i := fun e => by have := h.once j k rj r h3 hr e; omega
          have hjs := (hw j rj h3 h4).2 (by omega)
          rw [hS _ hne] at hjs
          have := (h.writers K hr hi hanc (dst_mem hd) j rj h3 h4).1 hjs
          omega
        rwa [show k + 1 + (k2 - (k + 1)) = k2 by omega] at this
      have hdn : d < n := h.tmp k2 hk2 d v hv
      rw [hsame, h.step k r hr, hd] at hv
      have hb : Nat.blt d n = true := Nat.ble_eq_true_of_le hdn
      simp only [aput, hb, cond_true, PT.get_set, if_true, Option.some.injEq] at hv
      subst hv
      refine ⟨x, ?_, hx⟩
      rw [hd]
      simp [Act.put, h.size, hdn]
    · have hkeep : (a.put r.o.dst x).tmps[d]? = a.tmps[d]? := by
        cases he : r.o.dst with
        | none => rfl
        | some e =>
          simp only [Act.put]
          rw [Array.getElem?_setIfInBounds_ne]
          intro e'; subst e'; exact hd he
      rw [hkeep]
      obtain ⟨x0, hx0, hx1⟩ := h.vals k2 hk2 d (fun j rj hj hdj => by
        have hne : rj.i ≠ r.i := by
          intro e
          have := h.once j k rj r hj hr e
          subst this
          rw [hr] at hj; cases hj
          exact hd hdj
        rw [← hS _ hne]
        exact hw j rj hj hdj) v hv
      exact ⟨x0, hx0, hx1.ext hext⟩

/-- What an operation sees of its operands. -/
theorem ev_of (hR : R N G ρ H w) {o : Oper} {T : PT AV} (sees : ∀ d, d ∈ tmpsOf ops o → ∀ v, T.get d = some v → ∃ x, a.tmps[d]? = some x ∧ VR ρ v x) :
    (∀ b, awanted ops T o = some b → Region.wanted o (yielded ops a.tmps) = b) ∧ ∃ ev : Operand → AV, (∀ x ∈ o.op.operands, aeval G T x = ev x) ∧ VEv ρ ev a.eval := by
  refine ⟨fun b hb => awanted_ok' (ρ := ρ) hb fun j want d hg hd v hv => sees d (by unfold tmpsOf; rw [hg]; simp [hd]) v hv, ?_⟩
  classical
  refine ⟨fun x => if x ∈ o.op.operands then aeval G T x else .junk, fun x hx => by simp [hx], fun x => ?_⟩
  simp only
  split
  · rename_i hx
    refine aeval_ok hR x fun t ht v hv => sees t ?_ v hv
    subst ht
    unfold tmpsOf
    simp only [List.mem_append, List.mem_filterMap]
    exact .inl (.inr ⟨_, Array.mem_toList_iff.2 hx, rfl⟩)
  · simp [VR]

theorem Mt.float (hC : C.OK) (h : Mt C N G n ops rs D P T H ρ0 H0 w0 S ρ a w) (K : DrawOK ops) {k : Nat} {r : Ro} (hr : rs[k]? = some r) (hi : S r.i = false) (hanc : ∀ j, (ancOf ops r.i).testBit j = true → S j = true)
    (hSi : S' r.i = true) (hS : ∀ j, j ≠ r.i → S' j = S j) {Q : Exit → Act → World → Prop} {next : Act → World → Prop} (hnext : ∀ ρ' a' w', Mt C N G n ops rs D P T H ρ0 H0 w0 S' ρ' a' w' → next a' w') : wpOp C.P ops Q r.i next a w := by
  have ho := h.op k r hr
  obtain ⟨hwant, ev, hev1, hev2⟩ := ev_of (o := r.o) (T := r.T) h.rd fun d hd v hv => h.sees K hr hi hanc hd hv
  unfold wpOp
  rw [ho]
  simp only
  rcases (h.good k r hr hi).1 with ⟨hw, hv⟩ | ⟨hw, hg⟩
  · rw [hwant _ hw]
    simp only [Bool.false_eq_true, if_false]
    exact hnext _ _ _ (h.put K hr hi hanc hSi hS (fun _ _ h => h) (by rw [hv]; simp only [VR, undef]; exact ⟨[], rfl, VRs.nil⟩) h.rd h.fr)
  · rw [hwant _ hw]
    simp only [if_true]
    left
    rcases hg with hv | hv | hv
    · rw [pureOp_congr hev1] at hv
      obtain ⟨u, hu, hru⟩ := pureOp_ok hC hev2 hv w
      unfold Oper.wp
      rw [hu]
      exact hnext _ _ _ (h.put K hr hi hanc hSi hS (fun _ _ h => h) hru h.rd h.fr)
    · rw [readOp_congr hev1] at hv
      obtain ⟨u, w', hu, hru, hR', hF'⟩ := readOp_ok hC h.rd hev2 hv
      unfold Oper.wp
      rw [hu]
      exact hnext _ _ _ (h.put K hr hi hanc hSi hS (fun _ _ h => h) hru hR' (h.fr.trans hF'))
    · exact qcall_wp hC (qcall_congr hev1 hv) h.rd hev2 fun x ρ' w' hx hR' hF' => hnext _ _ _ (h.put K hr hi hanc hSi hS (h.rd.ext hF') hx hR' (h.fr.trans hF'))

/-- All orders, out of what holds of each operation that may come now. -/
theorem any_of (K : DrawOK ops) {P : Program} {Q : Exit → Act → World → Prop} {fuel : Nat} {listed : Array Bool} (hsz : listed.size = ops.size) (hc : listed.toList.count false = fuel) (hcl : ∀ i, listed.getD i false = true → ∀ j, (ancOf ops i).testBit j = true → listed.getD j false = true)
    (hend : (∀ i, i < ops.size → listed.getD i false = true) → Q .normal a w)
    (hstep : ∀ i fuel', fuel = fuel' + 1 → i < ops.size → listed.getD i false = false → (∀ j, (ancOf ops i).testBit j = true → listed.getD j false = true) →
      (listed.setIfInBounds i true).size = ops.size → (listed.setIfInBounds i true).toList.count false = fuel' → (∀ j, (listed.setIfInBounds i true).getD j false = if j = i then true else listed.getD j false) →
      wpOp P ops Q i (wpAny P .any ops Q fuel' (listed.setIfInBounds i true)) a w) : wpAny P .any ops Q fuel listed a w := by
  have all_of_ready : Region.ready .any ops listed = [] → ∀ j, j < ops.size → listed.getD j false = true := by
    intro hr j
    induction j using Nat.strongRecOn with
    | ind j ih =>
      intro hj
      cases hb : listed.getD j false
      · exfalso
        have : j ∈ Region.ready .any ops listed := by
          rw [mem_ready]
          refine ⟨?_, ops[j], by simp [hj], fun e he hbd => ?_⟩
          · rw [Array.getD_eq_getD_getElem?] at hb ⊢
            have : j < listed.size := by omega
            simp only [Array.getElem?_eq_getElem this, Option.getD_some] at hb ⊢
            exact hb
          · have := K.edges j _ (by simp [hj]) e he hbd
            exact ih e.on this (by omega)
        rw [hr] at this; cases this
      · rfl
  cases fuel with
  | zero =>
    have hall : ∀ j, j < ops.size → listed.getD j false = true := by
      intro j hj
      cases hb : listed.getD j false
      · exfalso
        rw [Array.getD_eq_getD_getElem?] at hb
        have hlt : j < listed.size := by omega
        simp only [Array.getElem?_eq_getElem hlt, Option.getD_some] at hb
        have : false ∈ listed.toList := by rw [← hb]; simp
        rw [List.count_eq_zero] at hc
        exact hc this
      · rfl
    refine ⟨?_, hend hall⟩
    rw [List.eq_nil_iff_forall_not_mem]
    intro j hj
    obtain ⟨h1, o, ho, _⟩ := mem_ready.1 hj
    have hjs : j < ops.size := (Array.getElem?_eq_some_iff.1 ho).1
    have h2 := hall j hjs
    rw [Array.getD_eq_getD_getElem?] at h1 h2
    have hlt : j < listed.size := by omega
    simp only [Array.getElem?_eq_getElem hlt, Option.getD_some] at h1 h2
    rw [h1] at h2; cases h2
  | succ fuel =>
    refine ⟨fun hr => hend (all_of_ready hr), fun i hi => ?_⟩
    obtain ⟨h1, o, ho, hedges⟩ := mem_ready.1 hi
    have his : i < ops.size := (Array.getElem?_eq_some_iff.1 ho).1
    have hlt : i < listed.size := by omega
    have hfalse : listed.getD i false = false := by
      rw [Array.getD_eq_getD_getElem?] at h1 ⊢
      simp only [Array.getElem?_eq_getElem hlt, Option.getD_some] at h1 ⊢
      exact h1
    have hanc : ∀ j, (ancOf ops i).testBit j = true → listed.getD j false = true := by
      intro j hj
      obtain ⟨o', ho', e, he, hb, hon⟩ := before_spec ops hj
      rw [ho] at ho'; cases ho'
      have hS := hedges e he hb
      rcases hon with rfl | ⟨hon, hei⟩
      · exact hS
      · exact hcl e.on hS j hon
    have hset : ∀ j, (listed.setIfInBounds i true).getD j false = if j = i then true else listed.getD j false := by
      intro j
      split
      · rename_i e
        subst e
        rw [Array.getD_eq_getD_getElem?]; simp [hlt]
      · rename_i e
        exact getD_set_ne false (fun e' => e e'.symm)
    refine hstep i fuel rfl his hfalse hanc (by simp [hsz]) ?_ hset
    have hget : listed.toList[i]'(by simpa using hlt) = false := by
      rw [Array.getD_eq_getD_getElem?] at hfalse
      simp only [Array.getElem?_eq_getElem hlt, Option.getD_some] at hfalse
      simpa using hfalse
    rw [Array.setIfInBounds, dif_pos hlt]
    simp only [Array.toList_set]
    rw [List.count_set (by simpa using hlt)]
    rw [hget, hc]
    simp
end

/-- An operation that may change memory. -/
def actOp (C : Ctx) (o : Oper) : Bool := !(quietOp C o && !isCallOp o)

/-- The prover's order may be: each waits for those alone that are taken; all that is left waits for what acts. -/
def ordOK (C : Ctx) (Qs : List Nat) (anc : Nat → Nat) : List (Nat × Oper) → Nat → Bool
  | [], _ => true
  | (i, o) :: l, D => Nat.beq (anc i &&& D) (anc i) && !(D.testBit i) && (bif actOp C o && !(memB i Qs) then l.all (fun p => (anc p.1).testBit i) else true) && ordOK C Qs anc l (D ||| 2 ^ i)

/-- What a region does, in the prover's order: l: what is left; D: what is taken; P: what was read. -/
def DN (C : Ctx) (N G n : Nat) (Qs : List Nat) (ops : Array Oper) (l : List (Nat × Oper)) (D : Nat) (P : List Ro) (T : PT AV) (H : AH) (Q : PT AV → AH → Prop) : Prop :=
  DrawOK ops → ordOK C Qs (ancOf ops) l D = true → (∀ p ∈ l, ops[p.1]? = some p.2) → (∀ i, i < ops.size → D.testBit i = true ∨ ∃ p ∈ l, p.1 = i) →
  ∀ (rs : List Ro) (ρ0 : Names) (H0 : AH) (w0 : World) (fuel : Nat) (listed : Array Bool) (ρ : Names) (a : Act) (w : World), listed.size = ops.size → listed.toList.count false = fuel →
    Mt C N G n ops rs D P T H ρ0 H0 w0 (fun j => listed.getD j false) ρ a w →
  ∀ K : Exit → Act → World → Prop, (∀ ρ' a' w' T' H', Q T' H' → AR ρ' T' n a' → R N G ρ' H' w' → Fr ρ0 H0 w0 ρ' H' w' → K .normal a' w') → wpAny C.P .any ops K fuel listed a w

theorem getD_of_append {rs : List Ro} {r0 : Ro} {k : Nat} {r : Ro} (h : (rs ++ [r0])[k]? = some r) : rs[k]? = some r ∨ (k = rs.length ∧ r = r0) := by
  by_cases hk : k < rs.length
  · rw [List.getElem?_append_left hk] at h; exact .inl h
  · rw [List.getElem?_append_right (by omega)] at h
    have := getElem?_lt h
    simp at this
    have hk' : k = rs.length := by omega
    subst hk'
    simp at h
    exact .inr ⟨rfl, h.symm⟩

theorem getE_append_left {rs : List Ro} {r0 : Ro} {k : Nat} {r : Ro} (h : rs[k]? = some r) : (rs ++ [r0])[k]? = some r := by
  rw [List.getElem?_append_left (getElem?_lt h)]; exact h
theorem getE_append_last {rs : List Ro} {r0 : Ro} : (rs ++ [r0])[rs.length]? = some r0 := by simp

theorem Tat_append {rs : List Ro} {r0 : Ro} {T T' : PT AV} (hT : r0.T = T) {k : Nat} (hk : k ≤ rs.length) : Tat (rs ++ [r0]) T' k = Tat rs T k := by
  unfold Tat
  by_cases h : k < rs.length
  · rw [List.getElem?_append_left h, List.getElem?_eq_getElem h]
  · have : k = rs.length := by omega
    subst this
    rw [getE_append_last, List.getElem?_eq_none (Nat.le_refl _)]
    exact hT
theorem Tat_last {rs : List Ro} {T : PT AV} : Tat rs T rs.length = T := by
  unfold Tat; rw [List.getElem?_eq_none (Nat.le_refl _)]

theorem testBit_or_pow' (D i j : Nat) : (D ||| 2 ^ i).testBit j = (D.testBit j || decide (i = j)) := by
  rw [Nat.testBit_or, Nat.testBit_two_pow]

section
variable {C : Ctx} {N G n : Nat} {ops : Array Oper} {rs : List Ro} {D : Nat} {P : List Ro} {T : PT AV} {H : AH} {ρ0 : Names} {H0 : AH} {w0 : World} {S S' : Nat → Bool} {ρ ρ' : Names} {a : Act} {w w' : World}

/-- One more row in the prover's order. -/
theorem Mt.more (h : Mt C N G n ops rs D P T H ρ0 H0 w0 S ρ a w) {i : Nat} {o : Oper} (ho : ops[i]? = some o) (hD : D.testBit i = false) (hanc : ∀ j, (ancOf ops i).testBit j = true → D.testBit j = true) {v : AV} {k : Nat} {P' : List Ro} {H' : AH}
    (hSi : S' i = true → k = 2 ∧ ∀ j, (ancOf ops i).testBit j = true → S j = true) (hS : ∀ j, j ≠ i → S' j = S j)
    (hgood : S' i = false → (⟨i, o, T, v, k⟩ : Ro).good C N G ops H' ∧ k ≠ 2 ∧ (k ≠ 1 → ∀ K, (⟨i, o, T, v, k⟩ : Ro).good C N G ops K) ∧ (k = 1 → (⟨i, o, T, v, k⟩ : Ro) ∈ P'))
    (hold : ∀ (k' : Nat) r, rs[k']? = some r → S r.i = false → r.good C N G ops H' ∧ (r.k = 1 → r ∈ P'))
    {a' : Act} (hdef : a'.defers = []) (hsize : a'.tmps.size = n) (hR : R N G ρ' H' w') (hF : Fr ρ0 H0 w0 ρ' H' w') (hext : Ext ρ ρ')
    (hkeep : ∀ d, (S' i = true → o.dst ≠ some d) → a'.tmps[d]? = a.tmps[d]?) (hput : S' i = true → ∀ d, o.dst = some d → d < n → ∃ x, a'.tmps[d]? = some x ∧ VR ρ' v x) :
    Mt C N G n ops (rs ++ [⟨i, o, T, v, k⟩]) (D ||| 2 ^ i) P' (aput n T o.dst v) H' ρ0 H0 w0 S' ρ' a' w' := by
  have hSno : S i = false := by
    cases hs : S i
    · rfl
    · have := h.sub i hs; rw [hD] at this; cases this
  have hne : ∀ (k' : Nat) r, rs[k']? = some r → r.i ≠ i := fun k' r hr e => by
    have := (h.dn i).2 ⟨k', r, hr, e⟩
    rw [hD] at this; cases this
  have mono : ∀ j, S j = true → S' j = true := fun j hj => by
    have : j ≠ i := fun e => by rw [e, hSno] at hj; cases hj
    rw [hS j this]; exact hj
  have hTlast : Tat (rs ++ [⟨i, o, T, v, k⟩]) (aput n T o.dst v) (rs.length + 1) = aput n T o.dst v := by
    have := Tat_last (rs := rs ++ [(⟨i, o, T, v, k⟩ : Ro)]) (T := aput n T o.dst v)
    rwa [List.length_append, List.length_cons, List.length_nil, Nat.zero_add] at this
  refine ⟨fun k' r hr => ?_, fun k1 k2 r1 r2 h1 h2 he => ?_, fun k' r j hr hj => ?_, fun k' r hr => ?_, fun j => ?_, fun j hj => ?_, fun k' r hr hs => ?_, fun i' hs j hj => ?_, hR, hF, hdef, hsize, fun k' hk' d v' hv => ?_, fun k' hk' d hw v' hv => ?_⟩
  · rcases getD_of_append hr with hr | ⟨rfl, rfl⟩
    · exact h.op k' r hr
    · exact ho
  · rcases getD_of_append h1 with h1 | ⟨rfl, rfl⟩ <;> rcases getD_of_append h2 with h2 | ⟨rfl, rfl⟩
    · exact h.once _ _ _ _ h1 h2 he
    · exact absurd he (hne _ _ h1)
    · exact absurd he.symm (hne _ _ h2)
    · rfl
  · rcases getD_of_append hr with hr | ⟨rfl, rfl⟩
    · obtain ⟨k2, r2, g1, g2, g3⟩ := h.anc k' r j hr hj
      exact ⟨k2, r2, g1, getE_append_left g2, g3⟩
    · obtain ⟨k2, r2, g2, g3⟩ := (h.dn j).1 (hanc j hj)
      exact ⟨k2, r2, getElem?_lt g2, getE_append_left g2, g3⟩
  · rcases getD_of_append hr with hr | ⟨rfl, rfl⟩
    · rw [Tat_append (T := T) rfl (getElem?_lt hr)]
      exact h.step k' r hr
    · exact hTlast
  · rw [testBit_or_pow', Bool.or_eq_true, h.dn j]
    constructor
    · rintro (⟨k', r, hr, e⟩ | e)
      · exact ⟨k', r, getE_append_left hr, e⟩
      · exact ⟨_, _, getE_append_last, of_decide_eq_true e⟩
    · rintro ⟨k', r, hr, e⟩
      rcases getD_of_append hr with hr | ⟨rfl, rfl⟩
      · exact .inl ⟨k', r, hr, e⟩
      · exact .inr (decide_eq_true e)
  · rw [testBit_or_pow', Bool.or_eq_true]
    by_cases e : j = i
    · exact .inr (decide_eq_true e.symm)
    · rw [hS j e] at hj; exact .inl (h.sub j hj)
  · rcases getD_of_append hr with hr | ⟨rfl, rfl⟩
    · rw [hS _ (hne _ _ hr)] at hs
      obtain ⟨g1, g2, g3, g4⟩ := h.good k' r hr hs
      obtain ⟨q1, q2⟩ := hold k' r hr hs
      exact ⟨q1, g2, g3, q2⟩
    · exact hgood hs
  · by_cases e : i' = i
    · subst e
      exact mono j ((hSi hs).2 j hj)
    · rw [hS i' e] at hs
      exact mono j (h.closed i' hs j hj)
  · simp only [List.length_append, List.length_cons, List.length_nil, Nat.zero_add] at hk'
    by_cases hk2 : k' ≤ rs.length
    · rw [Tat_append (T := T) rfl hk2] at hv
      exact h.tmp k' hk2 d v' hv
    · have : k' = rs.length + 1 := by omega
      subst this
      rw [hTlast] at hv
      cases he : o.dst with
      | none => rw [he] at hv; exact h.tmp _ (Nat.le_refl _) d v' (by rw [Tat_last]; exact hv)
      | some e =>
        rw [he] at hv
        simp only [aput] at hv
        cases hb : Nat.blt e n
        · rw [hb] at hv; exact h.tmp _ (Nat.le_refl _) d v' (by rw [Tat_last]; exact hv)
        · rw [hb] at hv
          simp only [cond_true, PT.get_set] at hv
          split at hv
          · rename_i e'; rw [e']; exact Nat.le_of_ble_eq_true hb
          · exact h.tmp _ (Nat.le_refl _) d v' (by rw [Tat_last]; exact hv)
  · simp only [List.length_append, List.length_cons, List.length_nil, Nat.zero_add] at hk'
    have hlast := hw rs.length ⟨i, o, T, v, k⟩ getE_append_last
    have hrest : ∀ k2, k2 ≤ rs.length → (k2 = k' ∨ (k2 = rs.length ∧ k' = rs.length + 1)) → ∀ (k'' : Nat) (r : Ro), rs[k'']? = some r → r.o.dst = some d → (S r.i = true ↔ k'' < k2) := fun k2 hk2 hkk k'' r hr hd => by
      have h1 := hw k'' r (getE_append_left hr) hd
      rw [hS _ (hne _ _ hr)] at h1
      have := getElem?_lt hr
      rw [h1]
      rcases hkk with rfl | ⟨rfl, rfl⟩
      · exact Iff.rfl
      · omega
    by_cases hk2 : k' ≤ rs.length
    · rw [Tat_append (T := T) rfl hk2] at hv
      have hnd : S' i = true → o.dst ≠ some d := fun hs e => by
        have := (hlast e).1 hs
        omega
      obtain ⟨x, h1, h2⟩ := h.vals k' hk2 d (hrest k' hk2 (.inl rfl)) v' hv
      exact ⟨x, by rw [hkeep d hnd]; exact h1, h2.ext hext⟩
    · have : k' = rs.length + 1 := by omega
      subst this
      rw [hTlast] at hv
      by_cases hd : o.dst = some d
      · have hs : S' i = true := (hlast hd).2 (Nat.lt_succ_self _)
        rcases Nat.lt_or_ge d n with hdn | hdn
        · have hb : Nat.blt d n = true := Nat.ble_eq_true_of_le hdn
          rw [hd] at hv
          simp only [aput, hb, cond_true, PT.get_set, if_true, Option.some.injEq] at hv
          subst hv
          exact hput hs d hd hdn
        · exfalso
          have hb : Nat.blt d n = false := by
            cases hb : Nat.blt d n
            · rfl
            · exact absurd (Nat.le_of_ble_eq_true hb) (Nat.not_le.2 (Nat.lt_succ_of_le hdn))
          rw [hd] at hv
          simp only [aput, hb, cond_false] at hv
          exact absurd (h.tmp _ (Nat.le_refl _) d v' (by rw [Tat_last]; exact hv)) (Nat.not_lt.2 hdn)
      · have hv2 : T.get d = some v' := by
          cases he : o.dst with
          | none => rw [he] at hv; exact hv
          | some e =>
            have hde : d ≠ e := fun e' => hd (by rw [he, e'])
            rw [he] at hv
            simp only [aput] at hv
            cases hb : Nat.blt e n
            · rw [hb] at hv; exact hv
            · rw [hb] at hv
              simp only [cond_true, PT.get_set] at hv
              rwa [if_neg hde] at hv
        obtain ⟨x, h1, h2⟩ := h.vals rs.length (Nat.le_refl _) d (hrest rs.length (Nat.le_refl _) (.inr ⟨rfl, rfl⟩)) v' (by rw [Tat_last]; exact hv2)
        exact ⟨x, by rw [hkeep d (fun _ => hd)]; exact h1, h2.ext hext⟩
end

section
variable {C : Ctx} {N G n : Nat} {Qs : List Nat} {ops : Array Oper} {D : Nat} {P : List Ro} {T : PT AV} {H : AH} {Q : PT AV → AH → Prop} {l : List (Nat × Oper)} {i : Nat} {o : Oper} {v : AV}

/-- All is taken. -/
theorem DN.nil (hC : C.OK) (h : Q T H) : DN C N G n Qs ops [] D P T H Q := by
  intro K _ _ hall rs ρ0 H0 w0 fuel
  induction fuel with
  | zero =>
    intro listed ρ a w hsz hc hM Z hZ
    refine any_of K hsz hc hM.closed (fun hl => ?_) (fun i f e => by omega)
    refine hZ ρ a w T H h ⟨hM.defers, hM.size, fun d v hv => ?_⟩ hM.rd hM.fr
    refine hM.vals rs.length (Nat.le_refl _) d (fun k r hr _ => ⟨fun _ => getElem?_lt hr, fun _ => hl r.i (by have := (Array.getElem?_eq_some_iff.1 (hM.op k r hr)).1; exact this)⟩) v (by rw [Tat_last]; exact hv)
  | succ fuel ih =>
    intro listed ρ a w hsz hc hM Z hZ
    refine any_of K hsz hc hM.closed (fun hl => ?_) (fun i f e hi hf hanc h1 h2 h3 => ?_)
    · refine hZ ρ a w T H h ⟨hM.defers, hM.size, fun d v hv => ?_⟩ hM.rd hM.fr
      refine hM.vals rs.length (Nat.le_refl _) d (fun k r hr _ => ⟨fun _ => getElem?_lt hr, fun _ => hl r.i (by have := (Array.getElem?_eq_some_iff.1 (hM.op k r hr)).1; exact this)⟩) v (by rw [Tat_last]; exact hv)
    · obtain rfl : f = fuel := by omega
      have hd : D.testBit i = true := (hall i hi).resolve_right (by rintro ⟨p, hp, _⟩; simp at hp)
      obtain ⟨k, r, hr, rfl⟩ := (hM.dn i).1 hd
      exact hM.float hC K hr hf hanc (S' := fun j => (listed.setIfInBounds r.i true).getD j false) (by simp only [h3, if_true]) (fun j hj => by simp only [h3, if_neg hj]) fun ρ' a' w' hM' => ih _ ρ' a' w' h1 h2 hM' Z hZ

theorem ordOK_cons (h : ordOK C Qs (ancOf ops) ((i, o) :: l) D = true) : (∀ j, (ancOf ops i).testBit j = true → D.testBit j = true) ∧ D.testBit i = false ∧ (actOp C o = true → memB i Qs = false → ∀ p ∈ l, (ancOf ops p.1).testBit i = true) ∧ ordOK C Qs (ancOf ops) l (D ||| 2 ^ i) = true := by
  simp only [ordOK, Bool.and_eq_true, Bool.not_eq_true'] at h
  obtain ⟨⟨⟨h1, h2⟩, h3⟩, h4⟩ := h
  refine ⟨fun j hj => ?_, h2, fun ha hm p hp => ?_, h4⟩
  · have e := Nat.eq_of_beq_eq_true h1
    rw [← e, Nat.testBit_and, Bool.and_eq_true] at hj
    exact hj.2
  · rw [ha, hm] at h3
    exact List.all_eq_true.1 h3 p hp

/-- What is known of an operation that does not act. -/
theorem good_of (hq : actOp C o = false) (hw : awanted ops T o = some true) (hv : evOp C F0 H (aeval G T) o = some (v, H)) (k : Nat) : (⟨i, o, T, v, k⟩ : Ro).good C N G ops H := by
  refine .inr ⟨hw, ?_⟩
  simp only [actOp, Bool.not_eq_false', Bool.and_eq_true, Bool.not_eq_true'] at hq
  unfold evOp at hv
  split at hv
  · rename_i x hx
    simp only [Option.some.injEq, Prod.mk.injEq] at hv
    obtain ⟨rfl, _⟩ := hv
    exact .inl hx
  · split at hv
    · rename_i x hx
      simp only [Option.some.injEq, Prod.mk.injEq] at hv
      obtain ⟨rfl, _⟩ := hv
      exact .inr (.inl hx)
    · rw [quiet_new hq.1] at hv
      have := (quiet_chain QuietF0 hq.1 hv).2
      rw [hq.2] at this; cases this

/-- A row that does not act is taken. -/
theorem DN.floatR {k : Nat} (hk : k ≠ 2) {P' : List Ro} (hP : ∀ r ∈ P, r ∈ P') (hk1 : k = 1 → (⟨i, o, T, v, k⟩ : Ro) ∈ P') (hg : (⟨i, o, T, v, k⟩ : Ro).good C N G ops H) (hg2 : k ≠ 1 → ∀ K, (⟨i, o, T, v, k⟩ : Ro).good C N G ops K)
    (h : DN C N G n Qs ops l (D ||| 2 ^ i) P' (aput n T o.dst v) H Q) : DN C N G n Qs ops ((i, o) :: l) D P T H Q := by
  intro K hord hops hall rs ρ0 H0 w0 fuel listed ρ a w hsz hc hM Z hZ
  obtain ⟨h1, h2, h3, h4⟩ := ordOK_cons hord
  have hS : listed.getD i false = false := by
    cases hs : listed.getD i false
    · rfl
    · have := hM.sub i hs; rw [h2] at this; cases this
  refine h K h4 (fun p hp => hops p (List.mem_cons_of_mem _ hp)) (fun j hj => ?_) (rs ++ [⟨i, o, T, v, k⟩]) ρ0 H0 w0 fuel listed ρ a w hsz hc ?_ Z hZ
  · rcases hall j hj with h | ⟨p, hp, e⟩
    · left; rw [testBit_or_pow', h]; rfl
    · rcases List.mem_cons.1 hp with rfl | hp
      · left; rw [testBit_or_pow', decide_eq_true e]; simp
      · exact .inr ⟨p, hp, e⟩
  · exact hM.more (S' := fun j => listed.getD j false) (hops _ List.mem_cons_self) h2 h1 (fun hs => by rw [hS] at hs; cases hs) (fun _ _ => rfl) (fun _ => ⟨hg, hk, hg2, hk1⟩)
      (fun k' r hr hs => ⟨(hM.good k' r hr hs).1, fun e => hP r ((hM.good k' r hr hs).2.2.2 e)⟩) hM.defers hM.size hM.rd hM.fr (fun _ _ h => h) (fun _ _ => rfl) (fun hs => by rw [hS] at hs; cases hs)

/-- What acts is taken: what it does from H, and of what was read without its waiting for it, that it stays. -/
theorem DN.actR (hC : C.OK) (hq : actOp C o = true) {R1 : AV → AH → Prop} (hw : awanted ops T o = some true)
    (hact : ∀ ρ w a (ev : Operand → AV), R N G ρ H w → (∀ x ∈ o.op.operands, aeval G T x = ev x) → VEv ρ ev a.eval → ∀ (next : Act → World → Prop) (Z : Exit → Act → World → Prop), (∀ x r ρ' w' H', R1 r H' → VR ρ' r x → R N G ρ' H' w' → Fr ρ H w ρ' H' w' → next (a.put o.dst x) w') → o.wp C.P a w next Z)
    (P' : List Ro) (hP : ∀ r ∈ P, r ∈ P' ∨ (ancOf ops i).testBit r.i = true)
    (h : ∀ r H', R1 r H' → (∀ x ∈ P', x.good C N G ops H') ∧ DN C N G n Qs ops l (D ||| 2 ^ i) P' (aput n T o.dst r) H' Q) (hm : memB i Qs = false := by with_unfolding_all rfl) : DN C N G n Qs ops ((i, o) :: l) D P T H Q := by
  intro K hord hops hall rs ρ0 H0 w0 fuel
  obtain ⟨h1, h2, h3, h4⟩ := ordOK_cons hord
  have ho : ops[i]? = some o := hops (i, o) List.mem_cons_self
  have his : i < ops.size := (Array.getElem?_eq_some_iff.1 ho).1
  induction fuel with
  | zero =>
    intro listed ρ a w hsz hc hM Z hZ
    refine any_of K hsz hc hM.closed (fun hl => ?_) (fun i f e => by omega)
    exfalso
    have := hM.sub i (hl i his)
    rw [h2] at this; cases this
  | succ fuel ih =>
    intro listed ρ a w hsz hc hM Z hZ
    refine any_of K hsz hc hM.closed (fun hl => ?_) (fun i' f e hi hf hanc g1 g2 g3 => ?_)
    · exfalso
      have := hM.sub i (hl i his)
      rw [h2] at this; cases this
    · obtain rfl : f = fuel := by omega
      rcases hall i' hi with hd | ⟨p, hp, rfl⟩
      · obtain ⟨k, r, hr, rfl⟩ := (hM.dn i').1 hd
        exact hM.float hC K hr hf hanc (S' := fun j => (listed.setIfInBounds r.i true).getD j false) (by simp only [g3, if_true]) (fun j hj => by simp only [g3, if_neg hj]) fun ρ' a' w' hM' => ih _ ρ' a' w' g1 g2 hM' Z hZ
      · rcases List.mem_cons.1 hp with rfl | hp
        · -- it acts
          have hSi : (listed.setIfInBounds i true).getD i false = true := by simp only [g3, if_true]
          have sees : ∀ d, d ∈ tmpsOf ops o → ∀ v, T.get d = some v → ∃ x, a.tmps[d]? = some x ∧ VR ρ v x := fun d hd v hv => by
            refine hM.vals rs.length (Nat.le_refl _) d (fun k r hr hdr => ⟨fun _ => getElem?_lt hr, fun _ => ?_⟩) v (by rw [Tat_last]; exact hv)
            have hor := hM.op k r hr
            have hin : D.testBit r.i = true := (hM.dn r.i).2 ⟨k, r, hr, rfl⟩
            rcases Nat.lt_trichotomy r.i i with q | q | q
            · exact hanc _ (K.pairs r.i i _ _ q hor ho (clash_of hdr hd))
            · rw [q, h2] at hin; cases hin
            · exfalso
              have hb := K.pairs i r.i _ _ q ho hor (clash_of' hdr hd)
              obtain ⟨k2, r2, _, q2, q3⟩ := hM.anc k r i hr hb
              have := (hM.dn i).2 ⟨k2, r2, q2, q3⟩
              rw [h2] at this; cases this
          obtain ⟨hwant, ev, hev1, hev2⟩ := ev_of (o := o) (T := T) hM.rd sees
          unfold wpOp
          rw [ho]
          simp only
          rw [hwant _ hw]
          simp only [if_true]
          left
          refine hact ρ w a ev hM.rd hev1 hev2 _ _ fun x r ρ' w' H' hq1 hx hR' hF' => ?_
          obtain ⟨hst, hgo⟩ := h r H' hq1
          refine hgo K h4 (fun p hp => hops p (List.mem_cons_of_mem _ hp)) (fun j hj => ?_) (rs ++ [⟨i, o, T, r, 2⟩]) ρ0 H0 w0 f _ ρ' _ w' g1 g2 ?_ Z hZ
          · rcases hall j hj with h | ⟨p, hp, e⟩
            · left; rw [testBit_or_pow', h]; rfl
            · rcases List.mem_cons.1 hp with rfl | hp
              · left; rw [testBit_or_pow', decide_eq_true e]; simp
              · exact .inr ⟨p, hp, e⟩
          · have hext := hM.rd.ext hF'
            refine hM.more (S' := fun j => (listed.setIfInBounds i true).getD j false) ho h2 h1 (fun _ => ⟨rfl, hanc⟩) (fun j hj => by simp only [g3, if_neg hj]) (fun hs => by rw [hSi] at hs; cases hs) (fun k' r' hr' hs' => ?_) ?_ ?_ hR' (hM.fr.trans hF') hext (fun d hd => ?_) (fun _ d hd hdn => ?_)
            · obtain ⟨q1, q2, q3, q4⟩ := hM.good k' r' hr' hs'
              by_cases hk1 : r'.k = 1
              · rcases hP r' (q4 hk1) with hp | hp
                · exact ⟨hst r' hp, fun _ => hp⟩
                · have := hanc _ hp; rw [hs'] at this; cases this
              · exact ⟨q3 hk1 H', fun e => absurd e hk1⟩
            · cases hd : o.dst <;> exact hM.defers
            · cases hd : o.dst
              · exact hM.size
              · simp [Act.put, hM.size]
            · have hne := hd hSi
              cases he : o.dst with
              | none => rfl
              | some e =>
                simp only [Act.put]
                rw [Array.getElem?_setIfInBounds_ne]
                intro e'; subst e'; exact hne he
            · refine ⟨x, ?_, hx⟩
              rw [hd]
              simp [Act.put, hM.size, hdn]
        · have := hanc i (h3 hq hm p hp)
          exfalso
          have := hM.sub i this
          rw [h2] at this; cases this
end

def pickL (ops : List Oper) : List Nat → List (Nat × Oper)
  | [] => []
  | i :: l => match ops[i]? with
    | some o => (i, o) :: pickL ops l
    | none => pickL ops l

theorem pickL_ops {ops : Array Oper} : ∀ (l : List Nat), ∀ p ∈ pickL ops.toList l, ops[p.1]? = some p.2
  | [], p, hp => by simp [pickL] at hp
  | i :: l, p, hp => by
    simp only [pickL] at hp
    split at hp
    · rename_i o ho
      rcases List.mem_cons.1 hp with rfl | hp
      · simpa using ho
      · exact pickL_ops l p hp
    · exact pickL_ops l p hp
theorem pickL_mem {ops : Array Oper} {i : Nat} (hi : i < ops.size) : ∀ (l : List Nat), i ∈ l → ∃ p ∈ pickL ops.toList l, p.1 = i
  | j :: l, h => by
    simp only [pickL]
    rcases List.mem_cons.1 h with rfl | h
    · have : ops.toList[i]? = some ops[i] := by simp [hi]
      rw [this]
      exact ⟨_, List.mem_cons_self, rfl⟩
    · obtain ⟨p, hp, e⟩ := pickL_mem hi l h
      split
      · exact ⟨p, List.mem_cons_of_mem _ hp, e⟩
      · exact ⟨p, hp, e⟩

def drawNOK (C : Ctx) (ops : Array Oper) (σ : List Nat) (Qs : List Nat := []) : Bool := drawOK ops && ordOK C Qs (ancOf ops) (pickL ops.toList σ) 0 && (List.range ops.size).all fun i => memB i σ

/-- **A region that draws its order**, in the prover's order. -/
theorem AW.drawN {C : Ctx} (hC : C.OK) {N G n : Nat} {id : Nat} {ops : Array Oper} (σ : List Nat) {Qs : List Nat} (ho : drawNOK C ops σ Qs = true) {T : PT AV} {H : AH} {Q : AEx → PT AV → AH → Prop} {l : List (Nat × Oper)} (hl : pickL ops.toList σ = l)
    (h : DN C N G n Qs ops l 0 [] T H (Q .normal)) : AW C N G n (.region id ops true) T H Q := fun ρ w a hR hA Z hZ => by
  subst hl
  simp only [drawNOK, Bool.and_eq_true] at ho
  obtain ⟨⟨ho1, ho2⟩, ho3⟩ := ho
  have K := drawOK_spec ho1
  refine wp_region_any hC.mixed (h K ho2 (pickL_ops σ) (fun i hi => .inr (pickL_mem hi σ (memB_iff.1 (List.all_eq_true.1 ho3 i (by simpa using hi))))) [] ρ H w ops.size _ ρ a { w with drawn := w.drawn + 1 } (by simp) (by simp) ?_ Z fun ρ' a' w' T' H' => hZ ρ' a' w' .normal T' H')
  have e : (fun j => (Array.replicate ops.size false).getD j false) = fun _ => false := by
    funext j
    rw [Array.getD_eq_getD_getElem?]
    by_cases hj : j < ops.size
    · simp [hj]
    · simp [hj]
  rw [e]
  exact {
    op := fun k r h => by simp at h
    once := fun k k' r r' h => by simp at h
    anc := fun k r j h => by simp at h
    step := fun k r h => by simp at h
    dn := fun j => by simp
    sub := fun j h => by cases h
    good := fun k r h => by simp at h
    closed := fun i h => by cases h
    rd := hR.drawn _
    fr := Fr.drawn _
    defers := hA.defers
    size := hA.size
    tmp := fun k _ d v hv => by
      have : (Tat [] T k) = T := rfl
      rw [this] at hv
      obtain ⟨x, hx, _⟩ := hA.vals d v hv
      have := (Array.getElem?_eq_some_iff.1 hx).1
      rw [hA.size] at this; exact this
    vals := fun k _ d _ v hv => hA.vals d v hv }
end Go.AB

namespace Go.AB

/-- Operations that look at no memory. -/
def pureK (o : Oper) : Bool :=
  match o.op with
  | .move _ | .assign _ | .pick .. | .build .. | .nilCheck _ | .binOp .. | .unOp .. | .makeInterface .. | .makeFunc .. | .fieldAddr .. | .field .. | .indexAddr .. | .index .. | .extract .. | .typeAssert .. => true
  | _ => false

section
variable {C : Ctx} {N G n : Nat} {Qs : List Nat} {ops : Array Oper} {D : Nat} {P : List Ro} {T : PT AV} {H H' : AH} {Q : PT AV → AH → Prop} {l : List (Nat × Oper)} {i : Nat} {o : Oper} {v : AV}
variable {op : Op} {type : TypeId} {pos : String} {after : Array Edge} {guard : Option (Nat × Bool)} {j : Nat} {want : Bool} {d e : Nat} {b : Bool}

theorem pureK_read {ev : Operand → AV} (h : pureK o = true) : readOp C H ev o = none := by
  obtain ⟨dst, op, type, pos, after, guard⟩ := o
  cases op <;> simp only [pureK, reduceCtorEq] at h <;> rfl

theorem pureK_act (h : pureK o = true) : actOp C o = false := by
  obtain ⟨dst, op, type, pos, after, guard⟩ := o
  cases op <;> simp only [pureK, reduceCtorEq] at h <;> rfl

theorem good_pure (h : pureK o = true) (hw : awanted ops T o = some true) (hv : evOp C F0 H (aeval G T) o = some (v, H)) (k : Nat) (K : AH) : (⟨i, o, T, v, k⟩ : Ro).good C N G ops K := by
  have := good_of (N := N) (i := i) (pureK_act h) hw hv k
  rcases this with ⟨h1, h2⟩ | ⟨h1, h2 | h2 | ⟨args, ats, fo, f, fs, cs, g, he, _⟩⟩
  · exact .inl ⟨h1, h2⟩
  · exact .inr ⟨h1, .inl h2⟩
  · simp only [pureK_read h] at h2; cases h2
  · simp only [pureK] at h
    simp only at he
    rw [he] at h; cases h

/-- Looks at no memory. -/
theorem DN.fl (hw : awanted ops T { dst := some d, op, type, pos, after, guard } = some true) (hk : pureK { dst := some d, op, type, pos, after, guard } = true) (hv : evOp C F0 H (aeval G T) { dst := some d, op, type, pos, after, guard } = some (v, H)) (hn : Nat.blt d n = true)
    (h : DN C N G n Qs ops l (D ||| 2 ^ i) P (T.set d v) H Q) : DN C N G n Qs ops ((i, { dst := some d, op, type, pos, after, guard }) :: l) D P T H Q := by
  refine DN.floatR (k := 0) (v := v) (P' := P) (by decide) (fun _ h => h) (fun e => by cases e) (good_pure hk hw hv 0 H) (fun _ K => good_pure hk hw hv 0 K) ?_
  simp only [aput, hn, cond_true]; exact h
theorem DN.fl1 (hk : pureK { dst := some d, op, type, pos, after, guard := none } = true) (hv : evOp C F0 H (aeval G T) { dst := some d, op, type, pos, after, guard := none } = some (v, H)) (hn : Nat.blt d n = true)
    (h : DN C N G n Qs ops l (D ||| 2 ^ i) P (T.set d v) H Q) : DN C N G n Qs ops ((i, { dst := some d, op, type, pos, after, guard := none }) :: l) D P T H Q := DN.fl rfl hk hv hn h
theorem DN.flT (hd : (ops[j]?).bind (·.dst) = some e) (hb : T.get e = some (.bool b)) (hbw : b = want) (hk : pureK { dst := some d, op, type, pos, after, guard := some (j, want) } = true) (hv : evOp C F0 H (aeval G T) { dst := some d, op, type, pos, after, guard := some (j, want) } = some (v, H)) (hn : Nat.blt d n = true)
    (h : DN C N G n Qs ops l (D ||| 2 ^ i) P (T.set d v) H Q) : DN C N G n Qs ops ((i, { dst := some d, op, type, pos, after, guard := some (j, want) }) :: l) D P T H Q := DN.fl (by rw [awanted_guard hd hb, hbw]; simp) hk hv hn h

/-- May look at memory. -/
theorem DN.rd (hw : awanted ops T { dst := some d, op, type, pos, after, guard } = some true) (hk : actOp C { dst := some d, op, type, pos, after, guard } = false) (hv : evOp C F0 H (aeval G T) { dst := some d, op, type, pos, after, guard } = some (v, H)) (hn : Nat.blt d n = true)
    (h : DN C N G n Qs ops l (D ||| 2 ^ i) (⟨i, { dst := some d, op, type, pos, after, guard }, T, v, 1⟩ :: P) (T.set d v) H Q) : DN C N G n Qs ops ((i, { dst := some d, op, type, pos, after, guard }) :: l) D P T H Q := by
  refine DN.floatR (k := 1) (v := v) (by decide) (fun _ h => List.mem_cons_of_mem _ h) (fun _ => List.mem_cons_self) (good_of hk hw hv 1) (fun e => absurd rfl e) ?_
  simp only [aput, hn, cond_true]; exact h
theorem DN.rd1 (hk : actOp C { dst := some d, op, type, pos, after, guard := none } = false) (hv : evOp C F0 H (aeval G T) { dst := some d, op, type, pos, after, guard := none } = some (v, H)) (hn : Nat.blt d n = true)
    (h : DN C N G n Qs ops l (D ||| 2 ^ i) (⟨i, { dst := some d, op, type, pos, after, guard := none }, T, v, 1⟩ :: P) (T.set d v) H Q) : DN C N G n Qs ops ((i, { dst := some d, op, type, pos, after, guard := none }) :: l) D P T H Q := DN.rd rfl hk hv hn h
theorem DN.rdT (hd : (ops[j]?).bind (·.dst) = some e) (hb : T.get e = some (.bool b)) (hbw : b = want) (hk : actOp C { dst := some d, op, type, pos, after, guard := some (j, want) } = false) (hv : evOp C F0 H (aeval G T) { dst := some d, op, type, pos, after, guard := some (j, want) } = some (v, H)) (hn : Nat.blt d n = true)
    (h : DN C N G n Qs ops l (D ||| 2 ^ i) (⟨i, { dst := some d, op, type, pos, after, guard := some (j, want) }, T, v, 1⟩ :: P) (T.set d v) H Q) : DN C N G n Qs ops ((i, { dst := some d, op, type, pos, after, guard := some (j, want) }) :: l) D P T H Q := DN.rd (by rw [awanted_guard hd hb, hbw]; simp) hk hv hn h

/-- Is not asked; what would act as well, where nothing else is at hand. -/
theorem DN.skip (hw : awanted ops T { dst := some d, op, type, pos, after, guard } = some false) (hk : actOp C { dst := some d, op, type, pos, after, guard } = false) (hn : Nat.blt d n = true)
    (h : DN C N G n Qs ops l (D ||| 2 ^ i) P (T.set d (.tuple [])) H Q) : DN C N G n Qs ops ((i, { dst := some d, op, type, pos, after, guard }) :: l) D P T H Q := by
  refine DN.floatR (k := 0) (v := .tuple []) (P' := P) (by decide) (fun _ h => h) (fun e => by cases e) (.inl ⟨hw, rfl⟩) (fun _ K => .inl ⟨hw, rfl⟩) ?_
  simp only [aput, hn, cond_true]; exact h
theorem DN.guardF (hd : (ops[j]?).bind (·.dst) = some d) (hb : T.get d = some (.bool b)) (hbw : b = !want) (hk : actOp C { dst := some e, op, type, pos, after, guard := some (j, want) } = false) (hn : Nat.blt e n = true)
    (h : DN C N G n Qs ops l (D ||| 2 ^ i) P (T.set e (.tuple [])) H Q) : DN C N G n Qs ops ((i, { dst := some e, op, type, pos, after, guard := some (j, want) }) :: l) D P T H Q := DN.skip (by rw [awanted_guard hd hb, bool_ne hbw]) hk hn h
theorem DN.guardU {x : AV} (hd : (ops[j]?).bind (·.dst) = some d) (hb : T.get d = some x) (hx : isUnit x = true) (hk : actOp C { dst := some e, op, type, pos, after, guard := some (j, want) } = false) (hn : Nat.blt e n = true)
    (h : DN C N G n Qs ops l (D ||| 2 ^ i) P (T.set e (.tuple [])) H Q) : DN C N G n Qs ops ((i, { dst := some e, op, type, pos, after, guard := some (j, want) }) :: l) D P T H Q := DN.skip (by simp only [awanted, hd, hb, isUnit_eq hx]) hk hn h

theorem evOp_congr {F : Fns} {ev ev' : Operand → AV} (h : ∀ x ∈ o.op.operands, ev x = ev' x) : evOp C F H ev o = evOp C F H ev' o := by
  unfold evOp
  rw [pureOp_congr h, readOp_congr h, newOp_congr h, chainOp_congr h]

def allWait (ops : Array Oper) (i : Nat) (P : List Ro) : Bool := P.all fun r => (ancOf ops i).testBit r.i
theorem allWait_spec {P : List Ro} (h : allWait ops i P = true) : ∀ r ∈ P, r ∈ ([] : List Ro) ∨ (ancOf ops i).testBit r.i = true := fun r hr => .inr (List.all_eq_true.1 h r hr)

/-- Acts, as the evaluator says. -/
theorem DN.actS (hC : C.OK) (hq : actOp C { dst := some d, op, type, pos, after, guard := none } = true) (hv : evOp C F0 H (aeval G T) { dst := some d, op, type, pos, after, guard := none } = some (v, H')) (hn : Nat.blt d n = true)
    (P' : List Ro) (hP : ∀ r ∈ P, r ∈ P' ∨ (ancOf ops i).testBit r.i = true) (hg : ∀ x ∈ P', x.good C N G ops H')
    (h : DN C N G n Qs ops l (D ||| 2 ^ i) P' (T.set d v) H' Q) (hm : memB i Qs = false := by with_unfolding_all rfl) : DN C N G n Qs ops ((i, { dst := some d, op, type, pos, after, guard := none }) :: l) D P T H Q := by
  refine DN.actR hC hq (R1 := fun r K => r = v ∧ K = H') rfl (fun ρ w a ev hR h1 h2 next Z hnext => ?_) P' hP (fun r K ⟨e1, e2⟩ => ?_) hm
  · exact evOp_ok hC (F0_ok C N G) hR h2 (by rw [← evOp_congr h1]; exact hv) next Z fun x w' ρ' hx hR' hF' => hnext x v ρ' w' H' ⟨rfl, rfl⟩ hx hR' hF'
  · subst e1; subst e2
    simp only [aput, hn, cond_true]; exact ⟨hg, h⟩
theorem DN.act (hC : C.OK) (hq : actOp C { dst := some d, op, type, pos, after, guard := none } = true) (hv : evOp C F0 H (aeval G T) { dst := some d, op, type, pos, after, guard := none } = some (v, H')) (hn : Nat.blt d n = true) (hP : allWait ops i P = true)
    (h : DN C N G n Qs ops l (D ||| 2 ^ i) [] (T.set d v) H' Q) (hm : memB i Qs = false := by with_unfolding_all rfl) : DN C N G n Qs ops ((i, { dst := some d, op, type, pos, after, guard := none }) :: l) D P T H Q := DN.actS hC hq hv hn [] (allWait_spec hP) (fun x hx => by simp at hx) h hm
theorem DN.act0S (hC : C.OK) (hq : actOp C { dst := none, op, type, pos, after, guard := none } = true) (hv : evOp C F0 H (aeval G T) { dst := none, op, type, pos, after, guard := none } = some (v, H'))
    (P' : List Ro) (hP : ∀ r ∈ P, r ∈ P' ∨ (ancOf ops i).testBit r.i = true) (hg : ∀ x ∈ P', x.good C N G ops H')
    (h : DN C N G n Qs ops l (D ||| 2 ^ i) P' T H' Q) (hm : memB i Qs = false := by with_unfolding_all rfl) : DN C N G n Qs ops ((i, { dst := none, op, type, pos, after, guard := none }) :: l) D P T H Q := by
  refine DN.actR hC hq (R1 := fun r K => r = v ∧ K = H') rfl (fun ρ w a ev hR h1 h2 next Z hnext => ?_) P' hP (fun r K ⟨e1, e2⟩ => ?_) hm
  · exact evOp_ok hC (F0_ok C N G) hR h2 (by rw [← evOp_congr h1]; exact hv) next Z fun x w' ρ' hx hR' hF' => hnext x v ρ' w' H' ⟨rfl, rfl⟩ hx hR' hF'
  · subst e1; subst e2
    exact ⟨hg, h⟩
theorem DN.act0 (hC : C.OK) (hq : actOp C { dst := none, op, type, pos, after, guard := none } = true) (hv : evOp C F0 H (aeval G T) { dst := none, op, type, pos, after, guard := none } = some (v, H')) (hP : allWait ops i P = true)
    (h : DN C N G n Qs ops l (D ||| 2 ^ i) [] T H' Q) (hm : memB i Qs = false := by with_unfolding_all rfl) : DN C N G n Qs ops ((i, { dst := none, op, type, pos, after, guard := none }) :: l) D P T H Q := DN.act0S hC hq hv [] (allWait_spec hP) (fun x hx => by simp at hx) h hm

/-- A call of which a triple is known. -/
theorem DN.callS (hC : C.OK) {args : List Operand} {ats : Array TypeId} {fo : Operand} {f : FuncId} {fs cs as : List AV} {g : Func} {Qc : AV → AH → Prop}
    (hf : aeval G T fo = .func f fs cs) (hg : C.fn f = some g) (hb : fnOk g = true) (hn : Nat.blt d n = true) (hargs : fs ++ args.map (aeval G T) ++ cs = as) (hac : AC C N G f as H Qc)
    (P' : List Ro) (hP : ∀ r ∈ P, r ∈ P' ∨ (ancOf ops i).testBit r.i = true) (h : ∀ r K, Qc r K → (∀ x ∈ P', x.good C N G ops K) ∧ DN C N G n Qs ops l (D ||| 2 ^ i) P' (T.set d r) K Q) (hm : memB i Qs = false := by with_unfolding_all rfl) : DN C N G n Qs ops ((i, { dst := some d, op := .call { callee := .value fo, args := ⟨args⟩, argTypes := ats }, type, pos, after, guard := none }) :: l) D P T H Q := by
  subst hargs
  refine DN.actR hC rfl (R1 := Qc) rfl (fun ρ w a ev hR h1 h2 next Z hnext => ?_) P' hP (fun r K hq => ?_) hm
  · have hev : ∀ x, (x = fo ∨ x ∈ args) → VR ρ (aeval G T x) (a.eval x) := fun x hx => by
      rw [h1 x (by simp [Op.operands, Call.operands]; exact hx)]
      exact h2 x
    have hfv := hev fo (.inl rfl)
    rw [hf] at hfv
    simp only [VR] at hfv
    obtain ⟨us, vs, hfv, hus, hvs⟩ := hfv
    have hargsV : ∀ l : List Operand, (∀ x ∈ l, x ∈ args) → VRs ρ (l.map (aeval G T)) (l.map a.eval) := by
      intro l
      induction l with
      | nil => intro _; exact VRs.nil
      | cons x l ih => intro hl; exact VRs.cons (hev x (.inr (hl x (by simp)))) (ih fun y hy => hl y (by simp [hy]))
    have hall := (hus.append (hargsV args fun _ h => h)).append hvs
    have hargs : (Array.mk args).map a.eval = ⟨args.map a.eval⟩ := by apply Array.ext'; simp
    have hexec : (execOp a.eval { dst := some d, op := .call { callee := .value fo, args := ⟨args⟩, argTypes := ats }, type, pos, after, guard := none }).run C.P w = (callFunc f ⟨us ++ args.map a.eval ++ vs⟩).run C.P w := by
      simp only [execOp, resolve, hargs, Deferred.ofValue, hfv, Sem.run_bind, Sem.run_pure, Result.andThen_ok, invoke]
      simp
    unfold fnOk at hb
    simp only [Bool.and_eq_true, Bool.not_eq_true'] at hb
    have hfn := hC.fn f g hg
    have : (callFunc f ⟨us ++ args.map a.eval ++ vs⟩).run C.P w = .ok (.enter f ⟨us ++ args.map a.eval ++ vs⟩) w := by
      unfold callFunc
      have hb' : g.body.isNone = false := by
        cases hb1 : g.body with
        | none => rw [hb1] at hb; simp at hb
        | some _ => rfl
      simp only [Sem.run_bind, run_program, Result.andThen_ok, hfn, hb.2, Bool.false_eq_true, if_false, hb', Sem.run_pure]
    unfold Oper.wp
    rw [hexec, this, Oper.upon_enter]
    refine (hac ρ w _ hR hall).mono ?_
    rintro e w' ⟨v, ρ', r, K, hQ, rfl, hv, hR', hF'⟩
    exact hnext v r ρ' w' K hQ hv hR' hF'
  · simp only [aput, hn, cond_true]; exact h r K hq
theorem DN.call (hC : C.OK) {args : List Operand} {ats : Array TypeId} {fo : Operand} {f : FuncId} {fs cs as : List AV} {g : Func} {Qc : AV → AH → Prop}
    (hf : aeval G T fo = .func f fs cs) (hg : C.fn f = some g) (hb : fnOk g = true) (hn : Nat.blt d n = true) (hargs : fs ++ args.map (aeval G T) ++ cs = as) (hac : AC C N G f as H Qc)
    (hP : allWait ops i P = true) (h : ∀ r K, Qc r K → DN C N G n Qs ops l (D ||| 2 ^ i) [] (T.set d r) K Q) (hm : memB i Qs = false := by with_unfolding_all rfl) : DN C N G n Qs ops ((i, { dst := some d, op := .call { callee := .value fo, args := ⟨args⟩, argTypes := ats }, type, pos, after, guard := none }) :: l) D P T H Q :=
  DN.callS hC hf hg hb hn hargs hac [] (allWait_spec hP) (fun r K hq => ⟨fun x hx => by simp at hx, h r K hq⟩) hm
end
end Go.AB
namespace Go.AB
section
variable {C : Ctx} {N G n : Nat} {Qs : List Nat} {ops : Array Oper} {D : Nat} {P : List Ro} {T : PT AV} {H H' : AH} {Q : PT AV → AH → Prop} {l : List (Nat × Oper)} {i : Nat} {o : Oper} {v : AV}
variable {op : Op} {type : TypeId} {pos : String} {after : Array Edge} {guard : Option (Nat × Bool)} {j : Nat} {want : Bool} {d e : Nat} {b : Bool}
/-- A call of which a triple is known; what was read stays. -/
theorem DN.callP (hC : C.OK) {args : List Operand} {ats : Array TypeId} {fo : Operand} {f : FuncId} {fs cs as : List AV} {g : Func} {Qc : AV → AH → Prop}
    (hf : aeval G T fo = .func f fs cs) (hg : C.fn f = some g) (hb : fnOk g = true) (hn : Nat.blt d n = true) (hargs : fs ++ args.map (aeval G T) ++ cs = as) (hac : AC C N G f as H Qc)
    (h : ∀ r K, Qc r K → (∀ x ∈ P, x.good C N G ops K) ∧ DN C N G n Qs ops l (D ||| 2 ^ i) P (T.set d r) K Q) (hm : memB i Qs = false := by with_unfolding_all rfl) : DN C N G n Qs ops ((i, { dst := some d, op := .call { callee := .value fo, args := ⟨args⟩, argTypes := ats }, type, pos, after, guard := none }) :: l) D P T H Q :=
  DN.callS hC hf hg hb hn hargs hac P (fun _ h => .inl h) h hm
theorem DN.actP (hC : C.OK) (hq : actOp C { dst := some d, op, type, pos, after, guard := none } = true) (hv : evOp C F0 H (aeval G T) { dst := some d, op, type, pos, after, guard := none } = some (v, H')) (hn : Nat.blt d n = true)
    (hg : ∀ x ∈ P, x.good C N G ops H') (h : DN C N G n Qs ops l (D ||| 2 ^ i) P (T.set d v) H' Q) (hm : memB i Qs = false := by with_unfolding_all rfl) : DN C N G n Qs ops ((i, { dst := some d, op, type, pos, after, guard := none }) :: l) D P T H Q := DN.actS hC hq hv hn P (fun _ h => .inl h) hg h hm
theorem good_nil {p : Ro → Prop} : ∀ x ∈ ([] : List Ro), p x := fun x hx => by simp at hx
theorem good_cons {p : Ro → Prop} {r : Ro} {P : List Ro} (h : p r) (hs : ∀ x ∈ P, p x) : ∀ x ∈ r :: P, p x := fun x hx => by
  rcases List.mem_cons.1 hx with rfl | hx
  · exact h
  · exact hs x hx
end

def pickAll : Nat → List Oper → List (Nat × Oper)
  | _, [] => []
  | k, o :: l => (k, o) :: pickAll (k + 1) l
theorem pickAll_get : ∀ (l : List Oper) (k : Nat), ∀ p ∈ pickAll k l, k ≤ p.1 ∧ l[p.1 - k]? = some p.2
  | [], _, p, h => by simp [pickAll] at h
  | o :: l, k, p, h => by
    simp only [pickAll] at h
    rcases List.mem_cons.1 h with rfl | h
    · simp
    · obtain ⟨h1, h2⟩ := pickAll_get l (k + 1) p h
      refine ⟨by omega, ?_⟩
      rw [show p.1 - k = (p.1 - (k + 1)) + 1 by omega]
      simpa using h2
theorem pickAll_mem : ∀ (l : List Oper) (k i : Nat), i < l.length → ∃ p ∈ pickAll k l, p.1 = k + i
  | o :: l, k, 0, h => ⟨(k, o), by simp [pickAll], rfl⟩
  | o :: l, k, i + 1, h => by
    obtain ⟨p, h1, h2⟩ := pickAll_mem l (k + 1) i (by simpa using h)
    exact ⟨p, by simp only [pickAll]; exact List.mem_cons_of_mem _ h1, by omega⟩
def drawTOK (C : Ctx) (ops : Array Oper) : Bool := drawOK ops && ordOK C [] (ancOf ops) (pickAll 0 ops.toList) 0

/-- **A region that draws its order**, in the order of the text. -/
theorem AW.drawT {C : Ctx} (hC : C.OK) {N G n : Nat} {id : Nat} {os : List Oper} (ho : drawTOK C ⟨os⟩ = true) {T : PT AV} {H : AH} {Q : AEx → PT AV → AH → Prop} {l : List (Nat × Oper)} (hl : pickAll 0 os = l)
    (h : DN C N G n [] ⟨os⟩ l 0 [] T H (Q .normal)) : AW C N G n (.region id ⟨os⟩ true) T H Q := fun ρ w a hR hA Z hZ => by
  subst hl
  simp only [drawTOK, Bool.and_eq_true] at ho
  obtain ⟨ho1, ho2⟩ := ho
  have K := drawOK_spec ho1
  refine wp_region_any hC.mixed (h K ho2 (fun p hp => by have := (pickAll_get os 0 p hp).2; simpa using this) (fun i hi => .inr (by have := pickAll_mem os 0 i (by simpa using hi); simpa using this)) [] ρ H w os.length _ ρ a { w with drawn := w.drawn + 1 } (by simp) (by simp) ?_ Z fun ρ' a' w' T' H' => hZ ρ' a' w' .normal T' H')
  have e : (fun j => (Array.replicate (⟨os⟩ : Array Oper).size false).getD j false) = fun _ => false := by
    funext j
    rw [Array.getD_eq_getD_getElem?]
    by_cases hj : j < os.length
    · simp [hj]
    · simp [hj]
  rw [e]
  exact {
    op := fun k r h => by simp at h
    once := fun k k' r r' h => by simp at h
    anc := fun k r j h => by simp at h
    step := fun k r h => by simp at h
    dn := fun j => by simp
    sub := fun j h => by cases h
    good := fun k r h => by simp at h
    closed := fun i h => by cases h
    rd := hR.drawn _
    fr := Fr.drawn _
    defers := hA.defers
    size := hA.size
    tmp := fun k _ d v hv => by
      have : (Tat [] T k) = T := rfl
      rw [this] at hv
      obtain ⟨x, hx, _⟩ := hA.vals d v hv
      have := (Array.getElem?_eq_some_iff.1 hx).1
      rw [hA.size] at this; exact this
    vals := fun k _ d _ v hv => hA.vals d v hv }
end Go.AB
namespace Go.AB
section
variable {C : Ctx} {N G n : Nat} {Qs : List Nat} {ops : Array Oper} {D : Nat} {P : List Ro} {T : PT AV} {H H' : AH} {Q : PT AV → AH → Prop} {l : List (Nat × Oper)} {i : Nat} {o : Oper} {v : AV}
variable {op : Op} {type : TypeId} {pos : String} {after : Array Edge} {guard : Option (Nat × Bool)} {j : Nat} {want : Bool} {d e : Nat} {b : Bool}
/-- A call that leaves the heap as it was need come in no order with what acts: it must hold where it comes. -/
theorem DN.callQ {args : List Operand} {ats : Array TypeId} {fo : Operand} {f : FuncId} {fs cs as : List AV} {g : Func}
    (hf : aeval G T fo = .func f fs cs) (hg : C.fn f = some g) (hb : fnOk g = true) (hn : Nat.blt d n = true) (hargs : fs ++ args.map (aeval G T) ++ cs = as) (hac : AC C N G f as H fun r K => r = v ∧ K = H)
    (h : DN C N G n Qs ops l (D ||| 2 ^ i) (⟨i, { dst := some d, op := .call { callee := .value fo, args := ⟨args⟩, argTypes := ats }, type, pos, after, guard := none }, T, v, 1⟩ :: P) (T.set d v) H Q) :
    DN C N G n Qs ops ((i, { dst := some d, op := .call { callee := .value fo, args := ⟨args⟩, argTypes := ats }, type, pos, after, guard := none }) :: l) D P T H Q := by
  subst hargs
  refine DN.floatR (k := 1) (v := v) (by decide) (fun _ h => List.mem_cons_of_mem _ h) (fun _ => List.mem_cons_self) (.inr ⟨rfl, .inr (.inr ⟨args, ats, fo, f, fs, cs, g, rfl, hf, hg, hb, hac⟩)⟩) (fun e => absurd rfl e) ?_
  simp only [aput, hn, cond_true]; exact h
/-- It stays what it was, where the heap is another. -/
theorem good_callQ {args : List Operand} {ats : Array TypeId} {fo : Operand} {f : FuncId} {fs cs as : List AV} {g : Func}
    (hf : aeval G T fo = .func f fs cs) (hg : C.fn f = some g) (hb : fnOk g = true) (hargs : fs ++ args.map (aeval G T) ++ cs = as) (hac : AC C N G f as H fun r K => r = v ∧ K = H) (k : Nat) :
    (⟨i, { dst := some d, op := .call { callee := .value fo, args := ⟨args⟩, argTypes := ats }, type, pos, after, guard := none }, T, v, k⟩ : Ro).good C N G ops H := by
  subst hargs
  exact .inr ⟨rfl, .inr (.inr ⟨args, ats, fo, f, fs, cs, g, rfl, hf, hg, hb, hac⟩)⟩
end
end Go.AB

namespace Go.AB
section
variable {C : Ctx} {F : Fns} {H : AH} {ev : Operand → AV} {dst : Option Tmp} {ty : TypeId} {pos : String} {after : Array Edge} {guard : Option (Nat × Bool)}
end
end Go.AB

namespace Go.AB

def Step (x : Option (AV × AH)) (k : AV → AH → Prop) : Prop := ∃ v H, x = some (v, H) ∧ k v H
theorem Step.mk {x : Option (AV × AH)} {k : AV → AH → Prop} {v : AV} {H : AH} (h : x = some (v, H)) (hk : k v H) : Step x k := ⟨v, H, h, hk⟩
/-- Memory is as it was. -/
def Same (H' H : AH) (p : Prop) : Prop := H' = H ∧ p
theorem Same.mk {H : AH} {p : Prop} (h : p) : Same H H p := ⟨rfl, h⟩

section
variable {C : Ctx} {N G n : Nat} {T : PT AV} {H : AH} {ops : Array Oper}
variable {op : Op} {type : TypeId} {pos : String} {after : Array Edge} {d : Nat}
section
variable {l : List Oper} {Q : PT AV → AH → Prop}
theorem AOs.op1E (hC : C.OK) (hn : Nat.blt d n = true) (h : Step (evOp C F0 H (aeval G T) { dst := some d, op, type, pos, after, guard := none }) fun v H' => AOs C N G n ops l (T.set d v) H' Q) :
    AOs C N G n ops ({ dst := some d, op, type, pos, after, guard := none } :: l) T H Q := let ⟨_, _, hv, h⟩ := h; AOs.op1 hC hv hn h
theorem AOs.op0E (hC : C.OK) (h : Step (evOp C F0 H (aeval G T) { dst := none, op, type, pos, after, guard := none }) fun _ H' => AOs C N G n ops l T H' Q) :
    AOs C N G n ops ({ dst := none, op, type, pos, after, guard := none } :: l) T H Q := let ⟨_, _, hv, h⟩ := h; AOs.op0 hC hv h
end
section
variable {F : Fns} {l : List Oper} {P : PT AV → Prop}
theorem QO.op1E (hn : Nat.blt d n = true) (h : Step (evOp C F H (aeval G T) { dst := some d, op, type, pos, after, guard := none }) fun v H' => Same H' H (QO C F G n ops l (T.set d v) H P)) :
    QO C F G n ops ({ dst := some d, op, type, pos, after, guard := none } :: l) T H P := let ⟨_, _, hv, e, h⟩ := h; QO.op1 (by rw [hv, e]) hn h
end
section
variable {Qs : List Nat} {D : Nat} {P : List Ro} {Q : PT AV → AH → Prop} {l : List (Nat × Oper)} {i j e : Nat} {want b : Bool}
theorem DN.fl1E (hk : pureK { dst := some d, op, type, pos, after, guard := none } = true) (hn : Nat.blt d n = true)
    (h : Step (evOp C F0 H (aeval G T) { dst := some d, op, type, pos, after, guard := none }) fun v H' => Same H' H (DN C N G n Qs ops l (D ||| 2 ^ i) P (T.set d v) H Q)) :
    DN C N G n Qs ops ((i, { dst := some d, op, type, pos, after, guard := none }) :: l) D P T H Q := let ⟨_, _, hv, e, h⟩ := h; DN.fl1 hk (by rw [hv, e]) hn h
theorem DN.flTE (hd : (ops[j]?).bind (·.dst) = some e) (hb : T.get e = some (.bool b)) (hbw : b = want) (hk : pureK { dst := some d, op, type, pos, after, guard := some (j, want) } = true) (hn : Nat.blt d n = true)
    (h : Step (evOp C F0 H (aeval G T) { dst := some d, op, type, pos, after, guard := some (j, want) }) fun v H' => Same H' H (DN C N G n Qs ops l (D ||| 2 ^ i) P (T.set d v) H Q)) :
    DN C N G n Qs ops ((i, { dst := some d, op, type, pos, after, guard := some (j, want) }) :: l) D P T H Q := let ⟨_, _, hv, e, h⟩ := h; DN.flT hd hb hbw hk (by rw [hv, e]) hn h
theorem DN.rd1E (hk : actOp C { dst := some d, op, type, pos, after, guard := none } = false) (hn : Nat.blt d n = true)
    (h : Step (evOp C F0 H (aeval G T) { dst := some d, op, type, pos, after, guard := none }) fun v H' => Same H' H (DN C N G n Qs ops l (D ||| 2 ^ i) (⟨i, { dst := some d, op, type, pos, after, guard := none }, T, v, 1⟩ :: P) (T.set d v) H Q)) :
    DN C N G n Qs ops ((i, { dst := some d, op, type, pos, after, guard := none }) :: l) D P T H Q := let ⟨_, _, hv, e, h⟩ := h; DN.rd1 hk (by rw [hv, e]) hn h
theorem DN.rdTE (hd : (ops[j]?).bind (·.dst) = some e) (hb : T.get e = some (.bool b)) (hbw : b = want) (hk : actOp C { dst := some d, op, type, pos, after, guard := some (j, want) } = false) (hn : Nat.blt d n = true)
    (h : Step (evOp C F0 H (aeval G T) { dst := some d, op, type, pos, after, guard := some (j, want) }) fun v H' => Same H' H (DN C N G n Qs ops l (D ||| 2 ^ i) (⟨i, { dst := some d, op, type, pos, after, guard := some (j, want) }, T, v, 1⟩ :: P) (T.set d v) H Q)) :
    DN C N G n Qs ops ((i, { dst := some d, op, type, pos, after, guard := some (j, want) }) :: l) D P T H Q := let ⟨_, _, hv, e, h⟩ := h; DN.rdT hd hb hbw hk (by rw [hv, e]) hn h
theorem DN.actE (hC : C.OK) (hq : actOp C { dst := some d, op, type, pos, after, guard := none } = true) (hn : Nat.blt d n = true) (hP : allWait ops i P = true)
    (h : Step (evOp C F0 H (aeval G T) { dst := some d, op, type, pos, after, guard := none }) fun v H' => DN C N G n Qs ops l (D ||| 2 ^ i) [] (T.set d v) H' Q) (hm : memB i Qs = false := by with_unfolding_all rfl) :
    DN C N G n Qs ops ((i, { dst := some d, op, type, pos, after, guard := none }) :: l) D P T H Q := let ⟨_, _, hv, h⟩ := h; DN.act hC hq hv hn hP h hm
theorem DN.act0E (hC : C.OK) (hq : actOp C { dst := none, op, type, pos, after, guard := none } = true) (hP : allWait ops i P = true)
    (h : Step (evOp C F0 H (aeval G T) { dst := none, op, type, pos, after, guard := none }) fun _ H' => DN C N G n Qs ops l (D ||| 2 ^ i) [] T H' Q) (hm : memB i Qs = false := by with_unfolding_all rfl) :
    DN C N G n Qs ops ((i, { dst := none, op, type, pos, after, guard := none }) :: l) D P T H Q := let ⟨_, _, hv, h⟩ := h; DN.act0 hC hq hv hP h hm
end

end
end Go.AB

namespace Go.AB

section
variable {C : Ctx} {t : TypeId} {cst : Bool} {n m : Nat}
end

section
variable {C : Ctx} {F : Fns} {H : AH} {ev : Operand → AV} {dst : Option Tmp} {ty : TypeId} {pos : String} {after : Array Edge} {guard : Option (Nat × Bool)}
end
end Go.AB

namespace Go.AB

/-- A row that was put together by append, nothing beside it in its block. -/
def Acc (H : AH) (v : AV) (vs : List AV) : Prop := (v = .nils ∧ vs = []) ∨ ∃ b, v = .slice b 0 vs.length (.lo vs.length) 1 ∧ H.get b = some (.cells false vs) ∧ vs ≠ []

theorem Acc.len {H : AH} {v : AV} {vs : List AV} (h : Acc H v vs) : lenOfAV v = some vs.length := by
  rcases h with ⟨rfl, rfl⟩ | ⟨b, rfl, _⟩ <;> rfl
theorem Acc.one {H : AH} {v : AV} {vs : List AV} (h : Acc H v vs) : v.one = true := by
  rcases h with ⟨rfl, rfl⟩ | ⟨b, rfl, _⟩ <;> rfl
theorem Acc.keep {H K : AH} {v : AV} {vs : List AV} (h : Acc H v vs) (hk : ∀ b o n c z, v = .slice b o n c z → ∀ x, H.get b = some x → K.get b = some x) : Acc K v vs := by
  rcases h with h | ⟨b, rfl, h1, h2⟩
  · exact .inl h
  · exact .inr ⟨b, rfl, hk _ _ _ _ _ rfl _ h1, h2⟩

section
variable {C : Ctx} {H : AH} {st xt e : TypeId} {i j : TI} {z : AV}

end
end Go.AB

namespace Go.AB
section
variable {C : Ctx} {F : Fns} {H : AH} {ev : Operand → AV} {dst : Option Tmp} {ty : TypeId} {pos : String} {after : Array Edge} {guard : Option (Nat × Bool)}
end
end Go.AB

namespace Go.AB

theorem plainVs_ok {ρ ρ' : Names} : ∀ (vs : List AV) (us : List Value), AV.plainVs vs = true → VRs ρ vs us → VRs ρ' vs us
  | [], us, _, h => h
  | a :: vs, us, hp, h => by
    simp only [AV.plainVs, Bool.and_eq_true] at hp
    simp only [VRs] at h ⊢
    obtain ⟨u, us', rfl, h1, h2⟩ := h
    exact ⟨u, us', rfl, AV.plainV_ok a u hp.1 h1, plainVs_ok vs us' hp.2 h2⟩
end Go.AB

namespace Go.AB
section
variable {C : Ctx} {N G n : Nat} {Qs : List Nat} {ops : Array Oper} {D : Nat} {P : List Ro} {T : PT AV} {H H' : AH} {Q : PT AV → AH → Prop} {l : List (Nat × Oper)} {i : Nat} {o : Oper} {v : AV}
variable {op : Op} {type : TypeId} {pos : String} {after : Array Edge} {guard : Option (Nat × Bool)} {j : Nat} {want : Bool} {d e : Nat} {b : Bool}
/-- A call of which a triple is known, under a guard. -/
theorem DN.callGS (hC : C.OK) {args : List Operand} {ats : Array TypeId} {fo : Operand} {f : FuncId} {fs cs as : List AV} {g : Func} {Qc : AV → AH → Prop}
    (hd : (ops[j]?).bind (·.dst) = some e) (hbt : T.get e = some (.bool b)) (hbw : b = want)
    (hf : aeval G T fo = .func f fs cs) (hg : C.fn f = some g) (hb : fnOk g = true) (hn : Nat.blt d n = true) (hargs : fs ++ args.map (aeval G T) ++ cs = as) (hac : AC C N G f as H Qc)
    (P' : List Ro) (hP : ∀ r ∈ P, r ∈ P' ∨ (ancOf ops i).testBit r.i = true) (h : ∀ r K, Qc r K → (∀ x ∈ P', x.good C N G ops K) ∧ DN C N G n Qs ops l (D ||| 2 ^ i) P' (T.set d r) K Q) (hm : memB i Qs = false := by with_unfolding_all rfl) : DN C N G n Qs ops ((i, { dst := some d, op := .call { callee := .value fo, args := ⟨args⟩, argTypes := ats }, type, pos, after, guard := some (j, want) }) :: l) D P T H Q := by
  subst hargs
  refine DN.actR hC rfl (R1 := Qc) (by rw [awanted_guard hd hbt, hbw]; simp) (fun ρ w a ev hR h1 h2 next Z hnext => ?_) P' hP (fun r K hq => ?_) hm
  · have hev : ∀ x, (x = fo ∨ x ∈ args) → VR ρ (aeval G T x) (a.eval x) := fun x hx => by
      rw [h1 x (by simp [Op.operands, Call.operands]; exact hx)]
      exact h2 x
    have hfv := hev fo (.inl rfl)
    rw [hf] at hfv
    simp only [VR] at hfv
    obtain ⟨us, vs, hfv, hus, hvs⟩ := hfv
    have hargsV : ∀ l : List Operand, (∀ x ∈ l, x ∈ args) → VRs ρ (l.map (aeval G T)) (l.map a.eval) := by
      intro l
      induction l with
      | nil => intro _; exact VRs.nil
      | cons x l ih => intro hl; exact VRs.cons (hev x (.inr (hl x (by simp)))) (ih fun y hy => hl y (by simp [hy]))
    have hall := (hus.append (hargsV args fun _ h => h)).append hvs
    have hargs : (Array.mk args).map a.eval = ⟨args.map a.eval⟩ := by apply Array.ext'; simp
    have hexec : (execOp a.eval { dst := some d, op := .call { callee := .value fo, args := ⟨args⟩, argTypes := ats }, type, pos, after, guard := some (j, want) }).run C.P w = (callFunc f ⟨us ++ args.map a.eval ++ vs⟩).run C.P w := by
      simp only [execOp, resolve, hargs, Deferred.ofValue, hfv, Sem.run_bind, Sem.run_pure, Result.andThen_ok, invoke]
      simp
    unfold fnOk at hb
    simp only [Bool.and_eq_true, Bool.not_eq_true'] at hb
    have hfn := hC.fn f g hg
    have : (callFunc f ⟨us ++ args.map a.eval ++ vs⟩).run C.P w = .ok (.enter f ⟨us ++ args.map a.eval ++ vs⟩) w := by
      unfold callFunc
      have hb' : g.body.isNone = false := by
        cases hb1 : g.body with
        | none => rw [hb1] at hb; simp at hb
        | some _ => rfl
      simp only [Sem.run_bind, run_program, Result.andThen_ok, hfn, hb.2, Bool.false_eq_true, if_false, hb', Sem.run_pure]
    unfold Oper.wp
    rw [hexec, this, Oper.upon_enter]
    refine (hac ρ w _ hR hall).mono ?_
    rintro e w' ⟨v, ρ', r, K, hQ, rfl, hv, hR', hF'⟩
    exact hnext v r ρ' w' K hQ hv hR' hF'
  · simp only [aput, hn, cond_true]; exact h r K hq
theorem DN.callG (hC : C.OK) {args : List Operand} {ats : Array TypeId} {fo : Operand} {f : FuncId} {fs cs as : List AV} {g : Func} {Qc : AV → AH → Prop}
    (hd : (ops[j]?).bind (·.dst) = some e) (hbt : T.get e = some (.bool b)) (hbw : b = want)
    (hf : aeval G T fo = .func f fs cs) (hg : C.fn f = some g) (hb : fnOk g = true) (hn : Nat.blt d n = true) (hargs : fs ++ args.map (aeval G T) ++ cs = as) (hac : AC C N G f as H Qc)
    (hP : allWait ops i P = true) (h : ∀ r K, Qc r K → DN C N G n Qs ops l (D ||| 2 ^ i) [] (T.set d r) K Q) (hm : memB i Qs = false := by with_unfolding_all rfl) : DN C N G n Qs ops ((i, { dst := some d, op := .call { callee := .value fo, args := ⟨args⟩, argTypes := ats }, type, pos, after, guard := some (j, want) }) :: l) D P T H Q :=
  DN.callGS hC hd hbt hbw hf hg hb hn hargs hac [] (allWait_spec hP) (fun r K hq => ⟨fun x hx => by simp at hx, h r K hq⟩) hm
end
end Go.AB

namespace Go.AB

section
variable {C : Ctx} {N G n : Nat} {T : PT AV} {H : AH} {ops : Array Oper} {l : List Oper} {Q : PT AV → AH → Prop}

end
theorem good_ofN {C : Ctx} {N G : Nat} {T : PT AV} {H : AH} {ops : Array Oper} {i : Nat} {v : AV} {dst : Option Tmp} {op : Op} {type : TypeId} {pos : String} {after : Array Edge} (hq : actOp C { dst, op, type, pos, after, guard := none } = false) (hv : evOp C F0 H (aeval G T) { dst, op, type, pos, after, guard := none } = some (v, H)) (k : Nat) :
    (⟨i, { dst, op, type, pos, after, guard := none }, T, v, k⟩ : Ro).good C N G ops H := good_of hq rfl hv k
theorem good_ofG {C : Ctx} {N G : Nat} {T : PT AV} {H : AH} {ops : Array Oper} {i j d : Nat} {b want : Bool} {v : AV} {dst : Option Tmp} {op : Op} {type : TypeId} {pos : String} {after : Array Edge} (hd : (ops[j]?).bind (·.dst) = some d) (hb : T.get d = some (.bool b)) (hbw : b = want)
    (hq : actOp C { dst, op, type, pos, after, guard := some (j, want) } = false) (hv : evOp C F0 H (aeval G T) { dst, op, type, pos, after, guard := some (j, want) } = some (v, H)) (k : Nat) :
    (⟨i, { dst, op, type, pos, after, guard := some (j, want) }, T, v, k⟩ : Ro).good C N G ops H := good_of hq (by rw [awanted_guard hd hb, hbw]; cases want <;> rfl) hv k

section
variable {C : Ctx} {N G n : Nat} {Qs : List Nat} {ops : Array Oper} {D : Nat} {P : List Ro} {T : PT AV} {H H' : AH} {Q : PT AV → AH → Prop} {l : List (Nat × Oper)} {i : Nat} {o : Oper} {v : AV}
variable {op : Op} {type : TypeId} {pos : String} {after : Array Edge} {guard : Option (Nat × Bool)} {j : Nat} {want : Bool} {d e : Nat} {b : Bool}
/-- What is not asked is passed over, whatever it is. -/
theorem DN.skipA (hw : awanted ops T { dst := some d, op, type, pos, after, guard } = some false) (hn : Nat.blt d n = true)
    (h : DN C N G n Qs ops l (D ||| 2 ^ i) P (T.set d (.tuple [])) H Q) : DN C N G n Qs ops ((i, { dst := some d, op, type, pos, after, guard }) :: l) D P T H Q := by
  refine DN.floatR (k := 0) (v := .tuple []) (P' := P) (by decide) (fun _ h => h) (fun e => by cases e) (.inl ⟨hw, rfl⟩) (fun _ K => .inl ⟨hw, rfl⟩) ?_
  simp only [aput, hn, cond_true]; exact h
theorem DN.guardFA (hd : (ops[j]?).bind (·.dst) = some d) (hb : T.get d = some (.bool b)) (hbw : b = !want) (hn : Nat.blt e n = true)
    (h : DN C N G n Qs ops l (D ||| 2 ^ i) P (T.set e (.tuple [])) H Q) : DN C N G n Qs ops ((i, { dst := some e, op, type, pos, after, guard := some (j, want) }) :: l) D P T H Q := DN.skipA (by rw [awanted_guard hd hb, bool_ne hbw]) hn h
theorem DN.guardUA {x : AV} (hd : (ops[j]?).bind (·.dst) = some d) (hb : T.get d = some x) (hx : isUnit x = true) (hn : Nat.blt e n = true)
    (h : DN C N G n Qs ops l (D ||| 2 ^ i) P (T.set e (.tuple [])) H Q) : DN C N G n Qs ops ((i, { dst := some e, op, type, pos, after, guard := some (j, want) }) :: l) D P T H Q := DN.skipA (by simp only [awanted, hd, hb, isUnit_eq hx]) hn h
/-- A call that leaves the heap as it was, under a guard. -/
theorem DN.callQG {args : List Operand} {ats : Array TypeId} {fo : Operand} {f : FuncId} {fs cs as : List AV} {g : Func} (hd : (ops[j]?).bind (·.dst) = some e) (hbt : T.get e = some (.bool b)) (hbw : b = want)
    (hf : aeval G T fo = .func f fs cs) (hg : C.fn f = some g) (hb : fnOk g = true) (hn : Nat.blt d n = true) (hargs : fs ++ args.map (aeval G T) ++ cs = as) (hac : AC C N G f as H fun r K => r = v ∧ K = H)
    (h : DN C N G n Qs ops l (D ||| 2 ^ i) (⟨i, { dst := some d, op := .call { callee := .value fo, args := ⟨args⟩, argTypes := ats }, type, pos, after, guard := some (j, want) }, T, v, 1⟩ :: P) (T.set d v) H Q) :
    DN C N G n Qs ops ((i, { dst := some d, op := .call { callee := .value fo, args := ⟨args⟩, argTypes := ats }, type, pos, after, guard := some (j, want) }) :: l) D P T H Q := by
  subst hargs
  refine DN.floatR (k := 1) (v := v) (by decide) (fun _ h => List.mem_cons_of_mem _ h) (fun _ => List.mem_cons_self) (.inr ⟨by rw [awanted_guard hd hbt, hbw]; cases want <;> rfl, .inr (.inr ⟨args, ats, fo, f, fs, cs, g, rfl, hf, hg, hb, hac⟩)⟩) (fun e => absurd rfl e) ?_
  simp only [aput, hn, cond_true]; exact h
end
end Go.AB

namespace Go.AB

/-- The room of a slice is told, and its block reaches as far. -/
theorem AW.reveal {C : Ctx} {N G n : Nat} {c : Code} {T : PT AV} {H : AH} {Q : AEx → PT AV → AH → Prop} {k b o l lo z : Nat} {vs : List AV} (hk : T.get k = some (.slice b o l (.lo lo) z)) (hb : H.get b = some (.cells false vs))
    (h : ∀ cc, lo ≤ cc → AW C N G n c (T.set k (.slice b o l (.ex cc) z)) (H.set b (.cells false (vs ++ List.replicate (o + cc * z - vs.length) .junk))) Q) : AW C N G n c T H Q := fun ρ w a hR hA K hK => by
  obtain ⟨x, hx, hv⟩ := hA.vals k _ hk
  simp only [VR] at hv
  obtain ⟨s, cc, hs, rfl, hlo, hl, hroom⟩ := hv
  have hlo : lo ≤ cc := hlo
  obtain ⟨s', hs', hO⟩ := hR.obj b _ hb
  rw [hs] at hs'; cases hs'
  simp only [OR] at hO
  obtain ⟨cl, e, l1, h1, ho1, ho2, ho3, ho4, ho5, ho6⟩ := hO
  have hO' : OR N ρ ⟨H.t.set b (.cells false (vs ++ List.replicate (o + cc * z - vs.length) .junk)), H.next⟩ w s (.cells false (vs ++ List.replicate (o + cc * z - vs.length) .junk)) := by
    simp only [OR]
    refine ⟨cl, e, l1, h1, ho1, ho2, by simp; omega, fun i x hi => ?_, fun h => (by cases h), fun _ => by simpa using ho6⟩
    by_cases hil : i < vs.length
    · rw [List.getElem?_append_left hil] at hi
      exact ho4 i x hi
    · have hlt := (List.getElem?_eq_some_iff.1 hi).1
      rw [List.length_append, List.length_replicate] at hlt
      rw [List.getElem?_append_right (by omega)] at hi
      have hxj : x = .junk := by
        have := List.mem_of_getElem? hi
        exact (List.mem_replicate.1 this).2
      subst hxj
      exact ⟨_, Array.getElem?_eq_getElem (by omega), by simp only [VR]⟩
  obtain ⟨hR', hF'⟩ := hR.write (o' := .cells false (vs ++ List.replicate (o + cc * z - vs.length) .junk)) hb rfl hs rfl rfl (fun _ _ => rfl) rfl rfl rfl H.next (Nat.le_refl _) hO' (fun _ _ _ _ e => by cases e) (fun _ _ _ _ _ _ _ _ _ e => by cases e)
  refine h cc hlo ρ w a hR' ⟨hA.defers, hA.size, fun d v hd => ?_⟩ K fun ρ' a' w' e T' H' hQ hA' hR'' hF'' => hK ρ' a' w' e T' H' hQ hA' hR'' (hF'.trans hF'')
  rw [PT.get_set] at hd
  split at hd
  · rename_i hdk
    subst hdk
    cases Option.some.inj hd
    exact ⟨_, hx, by simp only [VR]; exact ⟨s, cc, hs, rfl, rfl, hl, hroom⟩⟩
  · exact hA.vals d v hd

/-- slices.overlaps of slices in two blocks: an answer that is open. -/
theorem run_overlaps_any {P : Program} (w : World) (tS tR e : TypeId) (ht : P.underlying tS = some (.slice e)) (size : Nat) (hz : ∀ w, (Go.sizeOf e).run P w = .ok size w)
    (a b : Addr) (la ca lb cb : Nat) (hne : a.block ≠ b.block) (tA tB : TypeId) (kA kB : Nat)
    (hsa : w.shape? a.block = some (tA, kA)) (hsb : w.shape? b.block = some (tB, kB)) (hkA : kA ≠ 0) (hkB : kB ≠ 0) (hfa : w.frozen? a = false) :
    ∃ r d, (Extern.SlicesOverlaps.overlaps #[tS, tS] #[tR] #[.slice (some a) la ca, .slice (some b) lb cb]).run P w = .ok (.bool r) { w with drawn := d } := by
  have hnb : (a.block != b.block) = true := by simpa using hne
  have hnb' : (a.block == b.block) = false := by simpa using hne
  refine Exists.imp (fun r => Exists.imp fun d => fun h => (Sem.run_bind _ _ _ _).trans h) ?_
  by_cases h0 : la = 0 ∨ lb = 0 ∨ size = 0
  · exact ⟨false, w.drawn, by simp [run_underlying ht, hz, h0]⟩
  · cases kA with
    | zero => exact absurd rfl hkA
    | succ kA =>
    cases kB with
    | zero => exact absurd rfl hkB
    | succ kB =>
      cases hfe : w.frozen? { block := a.block, off := kA + 1 } with
      | false => exact ⟨false, w.drawn, by simp [run_underlying ht, hz, h0, hnb, hnb', frozen, noView, viewAt, mayBeOne, stringish, shape, Sem.run, hsa, hsb, hfa, hfe]⟩
      | true =>
        cases hfb : w.frozen? b with
        | true => exact ⟨_, w.drawn + 1, by simp [run_underlying ht, hz, h0, hnb, hnb', frozen, noView, viewAt, mayBeOne, stringish, shape, Sem.run, hsa, hsb, hfa, hfe, hfb, choose, Question.forced]; rfl⟩
        | false =>
          cases hfg : w.frozen? { block := b.block, off := kB + 1 } with
          | true => exact ⟨_, w.drawn + 1, by simp [run_underlying ht, hz, h0, hnb, hnb', frozen, noView, viewAt, mayBeOne, stringish, shape, Sem.run, hsa, hsb, hfa, hfe, hfb, hfg, choose, Question.forced]; rfl⟩
          | false => exact ⟨false, w.drawn, by simp [run_underlying ht, hz, h0, hnb, hnb', frozen, noView, viewAt, mayBeOne, stringish, shape, Sem.run, hsa, hsb, hfa, hfe, hfb, hfg]⟩

section
variable {C : Ctx} {N G n : Nat} {T : PT AV} {H : AH} {ops : Array Oper} {l : List Oper} {Q : PT AV → AH → Prop}
/-- A call of a function without a body, whose answer may be open. -/
theorem AOs.callO {d : Nat} {type : TypeId} {pos : String} {after : Array Edge} {args : List Operand} {ats : Array TypeId} {fo : Operand} {f : FuncId} {as : List AV} {Qc : AV → AH → Prop}
    (hf : aeval G T fo = .func f [] []) (hn : Nat.blt d n = true) (hargs : args.map (aeval G T) = as)
    (hx : ∀ ρ w vs, R N G ρ H w → VRs ρ as vs → ∃ v w' ρ' r H', (callFunc f ⟨vs⟩).run C.P w = .ok (.value v) w' ∧ VR ρ' r v ∧ R N G ρ' H' w' ∧ Fr ρ H w ρ' H' w' ∧ Qc r H')
    (h : ∀ r H', Qc r H' → AOs C N G n ops l (T.set d r) H' Q) :
    AOs C N G n ops ({ dst := some d, op := .call { callee := .value fo, args := ⟨args⟩, argTypes := ats }, type, pos, after, guard := none } :: l) T H Q := fun ρ w a hR hA K hK => by
  have hw' := awanted_ok (ops := ops) (o := { dst := some d, op := .call { callee := .value fo, args := ⟨args⟩, argTypes := ats }, type, pos, after, guard := none }) (b := true) hA rfl
  have hev := hA.eval hR
  unfold wpList
  rw [hw']
  simp only [if_true]
  refine .inl ?_
  have hfv := hev fo
  rw [hf] at hfv
  simp only [VR] at hfv
  obtain ⟨us, vs, hfv, hus, hvs⟩ := hfv
  simp only [VRs] at hus hvs
  subst hus
  subst hvs
  have hall := hev.list args
  rw [hargs] at hall
  have hargs' : (Array.mk args).map a.eval = ⟨args.map a.eval⟩ := by apply Array.ext'; simp
  have hexec : (execOp a.eval { dst := some d, op := .call { callee := .value fo, args := ⟨args⟩, argTypes := ats }, type, pos, after, guard := none }).run C.P w = (callFunc f ⟨args.map a.eval⟩).run C.P w := by
    simp only [execOp, resolve, hargs', Deferred.ofValue, hfv, Sem.run_bind, Sem.run_pure, Result.andThen_ok, invoke]
    simp
  obtain ⟨v, w', ρ', r, H', hrun, hv, hR', hF', hq⟩ := hx ρ w _ hR hall
  unfold Oper.wp
  rw [hexec, hrun]
  have hA' := (hA.ext (hR.ext hF')).put hv (some d)
  unfold aput at hA'
  simp only [hn, cond_true] at hA'
  exact h r H' hq ρ' w' _ hR' hA' K fun ρ2 a2 w2 T2 H2 hQ2 hA2 hR2 hF2 => hK ρ2 a2 w2 T2 H2 hQ2 hA2 hR2 (hF'.trans hF2)
end

theorem Fr.drawnO {ρ : Names} {H : AH} {w : World} (d : Nat) : Fr ρ H w ρ H { w with drawn := d } :=
  ⟨fun _ _ => rfl, Nat.le_refl _, Nat.le_refl _, fun _ _ _ => rfl, fun b o s h1 h2 h3 => .inr ⟨b, o, s, h1, h2, h3, rfl⟩, fun b o _ h => ⟨o, h⟩, rfl, rfl, rfl⟩

/-- Two slices in two blocks that are written: they may be said to overlap, or not. -/
theorem overlaps_open {C : Ctx} {N G : Nat} {ρ : Names} {H : AH} {w : World} {vs : List Value} {f : FuncId} {tS tR e : TypeId} {size : Nat} (ht : C.P.underlying tS = some (.slice e)) (hz : ∀ w, (Go.sizeOf e).run C.P w = .ok size w)
    (hcall : ∀ args w r w', (Extern.SlicesOverlaps.overlaps #[tS, tS] #[tR] args).run C.P w = .ok r w' → (callFunc f args).run C.P w = .ok (.value r) w')
    {b b' o o' n n' z z' : Nat} {c c' : ACap} {as bs : List AV} (hne : b ≠ b') (hb : H.get b = some (.cells false as)) (hb' : H.get b' = some (.cells false bs)) (hn : 0 < n) (hn' : 0 < n') (hz0 : 0 < z) (hz0' : 0 < z')
    (hR : R N G ρ H w) (hv : VRs ρ [.slice b o n c z, .slice b' o' n' c' z'] vs) :
    ∃ v w' ρ' r H', (callFunc f ⟨vs⟩).run C.P w = .ok (.value v) w' ∧ VR ρ' r v ∧ R N G ρ' H' w' ∧ Fr ρ H w ρ' H' w' ∧ ((∃ x, r = .bool x) ∧ H' = H) := by
  simp only [VRs, VR] at hv
  obtain ⟨v1, vs1, rfl, ⟨s, cc, hs, rfl, hc, hl, hroom⟩, v2, vs2, rfl, ⟨s', cc', hs', rfl, hc', hl', hroom'⟩, rfl⟩ := hv
  obtain ⟨s1, h1, hO⟩ := hR.obj b _ hb
  rw [hs] at h1; cases h1
  obtain ⟨s2, h2, hO'⟩ := hR.obj b' _ hb'
  rw [hs'] at h2; cases h2
  simp only [OR] at hO hO'
  obtain ⟨cl, el, lo, hi, g1, g2, g3, g4, g5, g6⟩ := hO
  obtain ⟨cl', el', lo', hi', k1, k2, k3, k4, k5, k6⟩ := hO'
  have hblk : s.blk ≠ s'.blk := fun e => hne (hR.inj b b' _ _ s s' hb hb' rfl rfl hs hs' e)
  have hpos : 0 < cc * z := Nat.mul_pos (by omega) hz0
  have hpos' : 0 < cc' * z' := Nat.mul_pos (by omega) hz0'
  have hf : w.frozen? ⟨s.blk, s.base + o, none⟩ = false := by
    simp only [World.frozen?, g1]
    have h6 : lo = hi ∨ cl.size ≤ lo := by simpa using (g6 (by simp)).2
    exact notFrozen h6 _ (by omega)
  have e1 : w.shape? s.blk = some (el, cl.size) := by simp only [World.shape?, g1]
  have e2 : w.shape? s'.blk = some (el', cl'.size) := by simp only [World.shape?, k1]
  obtain ⟨r, d, hr⟩ := run_overlaps_any (P := C.P) w tS tR e ht size hz ⟨s.blk, s.base + o, none⟩ ⟨s'.blk, s'.base + o', none⟩ n cc n' cc' hblk el el' cl.size cl'.size e1 e2 (by omega) (by omega) hf
  exact ⟨.bool r, _, ρ, .bool r, H, hcall _ _ _ _ hr, by simp only [VR], hR.drawn d, Fr.drawnO d, ⟨r, rfl⟩, rfl⟩
end Go.AB
