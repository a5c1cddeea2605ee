/- Operations that read memory, all together; operations that make a new block. -/
import Derived.Test.YtgihociajfgohaaGreatDoorAb9
namespace Go.AB
set_option linter.unusedSimpArgs false

/-- Bytes of a literal's: only what lies behind the row's end is marked. -/
def aMark (H : AH) (x : AV) : Option AV :=
  match x with
  | .slice b o l c z => match H.get b with
    | some (.cells false _) => some (.slice b o l c z)
    | _ => none
  | _ => none

def readOp (C : Ctx) (H : AH) (ev : Operand → AV) (o : Oper) : Option AV :=
  match o.op with
  | .load t x => aload C H t (ev x)
  | .lookup t x k ok => alookup C H t (ev x) (ev k) ok
  | .entry it => aentry H (ev it)
  | .slice t x lo hi mx => aArrSlice C H t (ev x) (lo.map ev) (hi.map ev) (mx.map ev)
  | .convert src dst x => match C.ti src, C.ti dst with
    | some i, some j => match i.d, j.d with
      | .slice e, .string => match C.ti e with
        | some k => (match k.d with
          | .int .u8 => aToString H (ev x)
          | _ => none)
        | none => none
      | .slice _, .slice e => match C.ti e with
        | some k => (match k.d with
          | .int .u8 => bif Nat.beq src dst then aMark H (ev x) else none
          | _ => none)
        | none => none
      | _, _ => none
    | _, _ => none
  | .call c => match c.callee with
    | .builtin .len => match c.argTypes.toList, c.args.toList with
      | t :: _, x :: _ => alenMap C H t (ev x)
      | _, _ => none
    | _ => none
  | _ => none

theorem R.same_set {N G : Nat} {ρ : Names} {H : AH} {w : World} {b : Nat} {o : AO} (hb : H.get b = some o) (hR : R N G ρ ⟨H.t.set b o, H.next⟩ w) : R N G ρ H w := by
  have hg : ∀ k, AH.get ⟨H.t.set b o, H.next⟩ k = H.get k := fun k => by
    have := AH.get_set H b o k
    by_cases e : k = b
    · subst e; rw [if_pos rfl] at this; rw [hb]; exact this
    · rw [if_neg e] at this; exact this
  exact
  { size := hR.size, glob := hR.glob
    obj := fun k q hk => by
      rw [← hg] at hk
      obtain ⟨s, h1, h2⟩ := hR.obj k q hk
      exact ⟨s, h1, h2.keep (fun _ _ h => h) rfl (fun m l v c _ sm ps _ h => ⟨(hg m).trans h, rfl⟩)⟩
    inj := fun b b' o o' s s' h1 h2 => by rw [← hg] at h1 h2; exact hR.inj b b' o o' s s' h1 h2
    fresh := hR.fresh, gn := hR.gn
    vers := fun b m l v c hb => by rw [← hg] at hb; exact hR.vers b m l v c hb
    flat := hR.flat }

theorem aMark_ok {P : Program} {N G : Nat} {ρ : Names} {H : AH} {w : World} (hR : R N G ρ H w) {x r : AV} {v : Value} (hx : VR ρ x v) (h : aMark H x = some r) :
    ∃ a l c w', v = .slice (some a) l c ∧ (markStringish a).run P w = .ok () w' ∧ VR ρ r v ∧ R N G ρ H w' ∧ Fr ρ H w ρ H w' := by
  unfold aMark at h
  split at h
  · rename_i b o l c z
    split at h
    · rename_i vs hb
      simp only [Option.some.injEq] at h; subst h
      have hx0 := hx
      simp only [VR] at hx
      obtain ⟨sg, cc, hsg, rfl, _⟩ := hx
      obtain ⟨s', hs', cs, e, lo, hi, h1, h2, h3, h4, h5, h6⟩ := hR.obj b _ hb
      rw [hsg] at hs'; cases hs'
      obtain ⟨hN, hfz⟩ := h6 rfl
      let w' := w.freeze { block := sg.blk, off := cs.size } 1
      have hlt : sg.blk < w.heap.size := by
        rcases Nat.lt_or_ge sg.blk w.heap.size with h | h
        · exact h
        · rw [Array.getElem?_eq_none h] at h1; cases h1
      have hsize : w'.heap.size = w.heap.size := by simp [w', World.freeze]
      have hoth : ∀ k, k ≠ sg.blk → w'.heap[k]? = w.heap[k]? := fun k hk => by
        simp only [w', World.freeze]
        rw [if_neg (by omega)]
        simp only [Array.getElem?_modify]
        rw [if_neg (fun e => hk e.symm)]
      obtain ⟨lo', hi', hw, hfz'⟩ : ∃ lo' hi', w'.heap[sg.blk]? = some (.cells cs e (lo', hi')) ∧ (lo' = hi' ∨ cs.size ≤ lo') := by
        simp only [w', World.freeze]
        rw [if_neg (by omega)]
        simp only [Array.getElem?_modify, if_true, h1, Option.map_some]
        by_cases hlh : lo = hi
        · exact ⟨_, _, by rw [if_pos (by simpa using hlh)], .inr (Nat.le_refl _)⟩
        · have hle : cs.size ≤ lo := by rcases hfz with h | h; exact absurd h hlh; exact h
          exact ⟨_, _, by rw [if_neg (by simpa using hlh)], .inr (by rw [Nat.min_eq_right hle]; exact Nat.le_refl _)⟩
      have hwr := hR.write (w' := w') (o' := .cells false vs) hb rfl hsg rfl hsize hoth (by simp only [w', World.freeze]; rw [if_neg (by omega)]) (by simp only [w', World.freeze]; rw [if_neg (by omega)]) (by simp only [w', World.freeze]; rw [if_neg (by omega)]) H.next (Nat.le_refl _)
        ⟨cs, e, lo', hi', hw, h2, h3, h4, h5, fun _ => ⟨hN, hfz'⟩⟩ (fun m l v c e => by cases e) (fun k m l v c _ _ _ ps => by simp)
      have hF := hwr.2
      refine ⟨_, l, cc, w', rfl, ?_, hx0, hwr.1.same_set hb, ⟨hF.same, hF.next, hF.size, hF.keep, fun k o s h1 h2 h3 => .inr ⟨k, o, s, h1, h2, h3, rfl⟩, fun _ o _ h => ⟨o, h⟩, hF.os, hF.tape, hF.output⟩⟩
      unfold markStringish
      have hsh : w.shape? sg.blk = some (e, cs.size) := by simp [World.shape?, h1]
      simp only [Sem.run_bind, run_shape, hsh, Result.andThen_ok, run_freeze]
      rfl
    · cases h
  · cases h

theorem aToString_slice {H : AH} {ρ : Names} {x r : AV} {v : Value} (hx : VR ρ x v) (h : aToString H x = some r) : ∃ a n c, v = .slice a n c := by
  unfold aToString at h
  split at h
  · simp only [VR] at hx; exact ⟨_, _, _, hx⟩
  · simp only [VR] at hx; obtain ⟨_, _, e⟩ := hx; exact ⟨_, _, _, e⟩
  · simp only [VR] at hx; obtain ⟨s, cc, _, e, _⟩ := hx; exact ⟨_, _, _, e⟩
  · cases h

theorem readOp_ok {C : Ctx} (hC : C.OK) {N G : Nat} {ρ : Names} {H : AH} {w : World} (hR : R N G ρ H w) {ev : Operand → AV} {e : Operand → Value} (hev : VEv ρ ev e) {o : Oper} {r : AV} (h : readOp C H ev o = some r) :
    ∃ u w', (execOp e o).run C.P w = .ok (.value u) w' ∧ VR ρ r u ∧ R N G ρ H w' ∧ Fr ρ H w ρ H w' := by
  have fin : ∀ u, (execOp e o).run C.P w = .ok (.value u) w → VR ρ r u → ∃ u w', (execOp e o).run C.P w = .ok (.value u) w' ∧ VR ρ r u ∧ R N G ρ H w' ∧ Fr ρ H w ρ H w' := fun u h1 h2 => ⟨u, w, h1, h2, hR, Fr.refl _ _ _⟩
  obtain ⟨dst, op, type, pos, after, guard⟩ := o
  cases op <;> simp only [readOp, reduceCtorEq] at h <;> simp only [execOp] at fin ⊢
  case load t x =>
    obtain ⟨u, hu, hr⟩ := aload_ok hC hR (hev x) h
    exact fin u (by simp only [Sem.run_bind, hu, Result.andThen_ok, Sem.run_pure]) hr
  case lookup t x k ok =>
    obtain ⟨u, hu, hr⟩ := alookup_ok hC hR (hev x) (hev k) h
    exact fin u (by simp only [Sem.run_bind, hu, Result.andThen_ok, Sem.run_pure]) hr
  case entry it =>
    obtain ⟨u, hu, hr⟩ := aentry_ok (P := C.P) hR (hev it) h
    exact fin u (by simp only [Sem.run_bind, hu, Result.andThen_ok, Sem.run_pure]) hr
  case slice t x lo hi mx =>
    obtain ⟨u, hu, hr⟩ := aArrSlice_ok hC hR (hev x) (hev.opt lo) (hev.opt hi) (hev.opt mx) h
    exact fin u (by simp only [Sem.run_bind, hu, Result.andThen_ok, Sem.run_pure]) hr
  case convert src dst x =>
    split at h
    · rename_i i j hi hj
      split at h
      · rename_i el hd1 hd2
        split at h
        · rename_i k hk
          split at h
          · rename_i hkd
            obtain ⟨u, hu, hr⟩ := aToString_ok (P := C.P) hR (hev x) h
            obtain ⟨a, n, c, hv⟩ := aToString_slice (hev x) h
            refine fin u ?_ hr
            unfold convert
            simp only [Sem.run_bind, hC.run_und hi, hC.run_und hj, Result.andThen_ok, hd1, hd2]
            rw [hv] at hu ⊢
            simp only [Sem.run_bind, hC.run_und hk, hkd, Result.andThen_ok, hu, Sem.run_pure]
          · cases h
        · cases h
      · rename_i e0 el hd1 hd2
        split at h
        · rename_i k hk
          split at h
          · rename_i hkd
            cases hsd : Nat.beq src dst
            · rw [hsd] at h; cases h
            · rw [hsd] at h
              simp only [cond_true] at h
              have hsd' := Nat.eq_of_beq_eq_true hsd
              obtain ⟨a, l, c, w', hv, hrun, hr, hR', hF'⟩ := aMark_ok (P := C.P) hR (hev x) h
              refine ⟨e x, w', ?_, hr, hR', hF'⟩
              unfold convert
              rw [hv]
              simp only [Sem.run_bind, hC.run_und hi, hC.run_und hj, Result.andThen_ok, hd1, hd2, hC.run_und hk, hkd]
              have : (src == dst) = true := by simpa using hsd'
              simp only [this, Sem.run_bind, hrun, Result.andThen_ok, Sem.run_pure]
          · cases h
        · cases h
      · cases h
    · cases h
  case call c =>
    obtain ⟨callee, args, ats⟩ := c
    obtain ⟨args⟩ := args
    obtain ⟨ats⟩ := ats
    cases callee <;> simp only [reduceCtorEq] at h
    case builtin b =>
      cases b <;> simp only [reduceCtorEq] at h
      case len =>
        split at h
        · rename_i l1 l2 t ts x xs
          obtain ⟨u, hu, hr⟩ := alenMap_ok hC hR (hev x) h ⟨t :: ts⟩ (by simp) type ⟨(x :: xs).map e⟩ (by simp)
          refine fin u ?_ hr
          simp only [resolve, Sem.run_bind, Sem.run_pure, Result.andThen_ok, invoke, builtin]
          have : (Array.map e { toList := x :: xs }) = ⟨(x :: xs).map e⟩ := by apply Array.ext'; simp
          rw [this, hu]
          rfl
        · cases h

/-! ### New blocks -/
/-- An object's bare make, in a block of its own. -/
structure NewCells (ρ : Names) (s : Seg) (vs : List AV) (c : Array Value) (lo hi : Nat) : Prop where
  base : s.base = 0
  room : s.room ≤ c.size
  len : vs.length ≤ s.room
  cells : CellsR ρ vs c 0
  free : lo = hi ∨ c.size ≤ lo

inductive NewObj (ρ : Names) (s : Seg) : AO → Obj → Prop
  | cells (vs : List AV) (c : Array Value) (e : TypeId) (lo hi : Nat) (h : NewCells ρ s vs c lo hi) : NewObj ρ s (.cells false vs) (.cells c e (lo, hi))
  | map (ver : Nat) (h : s.base = 0) : NewObj ρ s (.map [] ver) (.map #[] 0)
  | siter (t : List UInt8) (h : s.base = 0) : NewObj ρ s (.siter t 0) (.stringIter ⟨t.toArray⟩ 0)

/-- What an operation yields that makes a block. -/
structure Made (P : Program) (ρ : Names) (n : Nat) (x : Sem Next) (w : World) (ao : AO) (av : AV) (v : Value) (ob : Obj) (d : Nat) (s : Seg) : Prop where
  run : x.run P w = .ok (.value v) { w with heap := w.heap.push ob, drawn := d }
  blk : s.blk = w.heap.size
  val : VR (ρ.put n s) av v
  obj : NewObj (ρ.put n s) s ao ob

theorem NewObj.base {ρ : Names} {s : Seg} {ao : AO} {ob : Obj} (h : NewObj ρ s ao ob) : s.base = 0 := by
  cases h with
  | cells vs c e lo hi h => exact h.base
  | map ver h => exact h
  | siter t h => exact h

theorem NewObj.or {N G : Nat} {ρ : Names} {H : AH} {w : World} (hR : R N G ρ H w) {ρ' : Names} {H' : AH} {s : Seg} {ao : AO} {ob : Obj} (h : NewObj ρ' s ao ob) (hs : s.blk = w.heap.size) (d : Nat) :
    OR N ρ' H' { w with heap := w.heap.push ob, drawn := d } s ao := by
  have hN : N ≤ s.blk := by have := hR.size; omega
  have hget : ∀ o, (w.heap.push o)[s.blk]? = some o := fun o => by rw [hs]; simp
  cases h with
  | cells vs c e lo hi h =>
    refine ⟨c, e, lo, hi, hget _, by rw [h.base]; simpa using h.room, h.len, by rw [h.base]; exact h.cells, fun e => (by cases e), fun _ => ⟨hN, h.free⟩⟩
  | map ver h =>
    exact ⟨hN, #[], 0, hget _, ⟨by simp [EntsR], by simp, by simp, by simp⟩⟩
  | siter t h => exact ⟨hN, h, hget _⟩

theorem NewObj.rw {ρ : Names} {s : Seg} {ao : AO} {ob : Obj} (h : NewObj ρ s ao ob) : ao.rw = true := by cases h <;> rfl
theorem NewObj.nomiter {ρ : Names} {s : Seg} {ao : AO} {ob : Obj} (h : NewObj ρ s ao ob) : ∀ m l v c, ao ≠ .miter m l v c := by
  intro m l v c e; subst e; cases h

/-- A new block, by the next name. -/
theorem Made.alloc {P : Program} {N G : Nat} {ρ : Names} {H : AH} {w : World} (hR : R N G ρ H w) {x : Sem Next} {ao : AO} {av : AV} {v : Value} {ob : Obj} {d : Nat} {s : Seg} (h : Made P ρ H.next x w ao av v ob d s) :
    R N G (ρ.put H.next s) (H.alloc ao) { w with heap := w.heap.push ob, drawn := d } ∧ Fr ρ H w (ρ.put H.next s) (H.alloc ao) { w with heap := w.heap.push ob, drawn := d } :=
  hR.alloc ob d ao s h.blk h.obj.base h.obj.rw (h.obj.or hR h.blk d) (fun m l v c e => absurd e (h.obj.nomiter m l v c))

/-- n zeros -/
def zerosOf (z : List AV) (n : Nat) : List AV := (List.replicate n z).flatten

def newOp (C : Ctx) (ev : Operand → AV) (o : Oper) : Option (AO × (Nat → AV)) :=
  match o.op with
  | .alloc t => match C.ti t with
    | some i => match i.zero with
      | some z => bif notJunk z then some (.cells false z.cells, fun n => .ptr n 0) else none
      | none => none
    | none => none
  | .box _ x => bif notJunk (ev x) then some (.cells false (ev x).cells, fun n => .ptr n 0) else none
  | .buildSlice t len parts => match C.ti t with
    | some i => match i.d with
      | .slice e => match C.ti e with
        | some j => bif Nat.ble (len * j.size) 16777216 then
            match (if len * j.size = 0 then some [] else match j.zero with | some z => bif notJunk z && Nat.beq z.cells.length j.size then some (zerosOf z.cells len) else none | none => none) with
            | some zs => (afill (fun n => some (n * j.size, j.size)) zs (parts.toList.map fun p => (p.1, ev p.2))).map fun cs => (.cells false cs, fun n => .slice n 0 len (.ex len) j.size)
            | none => none
          else none
        | none => none
      | _ => none
    | none => none
  | .makeSlice t l c => match C.ti t, ev l, ev c with
    | some i, .int _ (.ofNat a), .int _ (.ofNat b) => (match i.d with
      | .slice e => match C.ti e with
        | some j => match j.zero with
          | some z => bif notJunk z && Nat.beq z.cells.length j.size && Nat.ble a b && Nat.ble (b * j.bytes) 281474976710656 && Nat.ble b 9223372036854775807 then some (.cells false (zerosOf z.cells b), fun n => .slice n 0 a (.ex b) j.size) else none
          | none => none
        | none => none
      | _ => none)
    | _, _, _ => none
  | .makeMap t r => match r with
    | none => some (.map [] 0, fun n => .map n)
    | some x => match C.ti t, ev x with
      | some i, .int _ _ => (match i.d with | .map _ _ => some (.map [] 0, fun n => .map n) | _ => none)
      | _, _ => none
  | .convert src dst x => match C.ti src, C.ti dst with
    | some i, some j => match i.d, j.d, ev x with
      | .string, .slice e, .str s => match C.ti e with
        | some k => (match k.d with
          | .int .u8 => some (.cells false (s.map fun b => .int .u8 b.toNat), fun n => .slice n 0 s.length (.lo s.length) 1)
          | _ => none)
        | none => none
      | _, _, _ => none
    | _, _ => none
  | _ => none

theorem VRs.cellsR {ρ : Names} {as : List AV} {c : Array Value} (h : VRs ρ as c.toList) : CellsR ρ as c 0 := by
  intro i a ha
  obtain ⟨v, hv, hr⟩ := h.get i a ha
  exact ⟨v, by simpa using hv, hr⟩

theorem run_newVar_ab {P : Program} (w : World) (t : TypeId) (v : Value) : (newVar t v).run P w = .ok ⟨w.heap.size, 0, none⟩ { w with heap := w.heap.push (.cells v.cells t) } := by
  unfold newVar newRow
  simp only [Sem.run_bind, run_newObj, Result.andThen_ok, Sem.run_pure]

theorem made_cells {P : Program} {ρ : Names} {w : World} (n : Nat) (hn : ρ n = none) {x : Sem Next} {as : List AV} {c : Array Value} {e : TypeId} {av : AV} {v : Value} {d : Nat} (hc : VRs ρ as c.toList)
    (hrun : x.run P w = .ok (.value v) { w with heap := w.heap.push (.cells c e), drawn := d }) (hval : ∀ ρ' : Names, ρ' n = some ⟨w.heap.size, 0, c.size⟩ → VR ρ' av v) :
    Made P ρ n x w (.cells false as) av v (.cells c e) d ⟨w.heap.size, 0, c.size⟩ := by
  have hl := hc.length
  simp at hl
  exact ⟨hrun, rfl, hval _ (Names.put_same _ _ _), .cells _ _ _ _ _ ⟨rfl, Nat.le_refl _, by simp [hl], (hc.cellsR).ext (Names.put_ext hn), .inl rfl⟩⟩


theorem zerosOf_length (z : List AV) (n : Nat) : (zerosOf z n).length = n * z.length := by
  simp [zerosOf, List.length_flatten, List.map_replicate, List.sum_replicate_nat]

theorem zerosOf_get (z : List AV) : ∀ (n i : Nat), i < n * z.length → (zerosOf z n)[i]? = z[i % z.length]?
  | 0, i, h => by simp at h
  | n + 1, i, h => by
    have hz : 0 < z.length := by
      rcases Nat.eq_zero_or_pos z.length with h0 | h0
      · rw [h0] at h; simp at h
      · exact h0
    have e : zerosOf z (n + 1) = z ++ zerosOf z n := by simp [zerosOf, List.replicate_succ]
    rw [e]
    by_cases hi : i < z.length
    · rw [List.getElem?_append_left hi, Nat.mod_eq_of_lt hi]
    · rw [List.getElem?_append_right (by omega), zerosOf_get z n (i - z.length) (by rw [Nat.add_mul] at h; omega)]
      congr 1
      conv => rhs; rw [show i = (i - z.length) + z.length by omega, Nat.add_mod_right]

theorem zerosOf_ok {ρ : Names} {z : List AV} {zs : Array Value} (h : VRs ρ z zs.toList) (n m : Nat) (hm : m = n * z.length) : VRs ρ (zerosOf z n) ((Array.range m).map fun i => zs[i % zs.size]!).toList := by
  have hl := h.length
  simp at hl
  refine VRs.of_get (by simp [zerosOf_length, hm]) fun i a v ha hv => ?_
  simp only [Array.toList_map, Array.toList_range, List.getElem?_map, List.getElem?_range] at hv
  by_cases hi : i < m
  · rw [List.getElem?_range hi] at hv
    simp only [Option.map_some, Option.some.injEq] at hv
    rw [zerosOf_get z n i (by omega)] at ha
    obtain ⟨v', hv', hr⟩ := h.get _ _ ha
    have h2 : zs[i % zs.size]? = some v' := by rw [hl]; simpa using hv'
    rw [getElem!_def, h2] at hv
    simp only at hv
    rw [← hv]; exact hr
  · rw [List.getElem?_eq_none (by simp; omega)] at hv; simp at hv

theorem modify_push (h : Array Obj) (o : Obj) (f : Obj → Obj) : (h.push o).modify h.size f = h.push (f o) := by
  apply Array.ext_getElem?
  intro i
  rw [Array.getElem?_modify, Array.getElem?_push, Array.getElem?_push]
  by_cases e : i = h.size
  · subst e; simp
  · rw [if_neg (fun x => e x.symm), if_neg e, if_neg e]

theorem newOp_ok {C : Ctx} (hC : C.OK) {ρ : Names} {w : World} {ev : Operand → AV} {e : Operand → Value} (hev : VEv ρ ev e) {o : Oper} {ao : AO} {mk : Nat → AV} (h : newOp C ev o = some (ao, mk)) (n : Nat) (hn : ρ n = none) :
    ∃ v ob d s, Made C.P ρ n (execOp e o) w ao (mk n) v ob d s := by
  obtain ⟨dst, op, type, pos, after, guard⟩ := o
  cases op <;> simp only [newOp, reduceCtorEq] at h <;> simp only [execOp]
  case alloc t =>
    split at h
    · rename_i i hi
      split at h
      · rename_i z hz
        cases hj : notJunk z
        · rw [hj] at h; cases h
        · rw [hj] at h
          simp only [cond_true, Option.some.injEq, Prod.mk.injEq] at h
          obtain ⟨rfl, rfl⟩ := h
          obtain ⟨zv, hzv, hr⟩ := hC.run_zero hi hz w ρ
          have hc := VR.cells hr hj
          refine ⟨_, _, w.drawn, _, made_cells (e := t) n hn hc (v := .pointer (some ⟨w.heap.size, 0, none⟩)) ?_ fun ρ' h' => by simp only [VR]; exact ⟨_, h', rfl⟩⟩
          unfold Instr.alloc
          simp only [Sem.run_bind, hzv, Result.andThen_ok, run_newVar_ab, Sem.run_pure]
      · cases h
    · cases h
  case box t x =>
    cases hj : notJunk (ev x)
    · rw [hj] at h; cases h
    · rw [hj] at h
      simp only [cond_true, Option.some.injEq, Prod.mk.injEq] at h
      obtain ⟨rfl, rfl⟩ := h
      have hc := VR.cells (hev x) hj
      refine ⟨_, _, w.drawn, _, made_cells (e := t) n hn hc (v := .pointer (some ⟨w.heap.size, 0, none⟩)) ?_ fun ρ' h' => by simp only [VR]; exact ⟨_, h', rfl⟩⟩
      unfold Instr.box
      simp only [Sem.run_bind, Result.andThen_ok, run_newVar_ab, Sem.run_pure]
  case buildSlice t len parts =>
    split at h
    · rename_i i hi
      split at h
      · rename_i el hd
        split at h
        · rename_i j hj
          cases hle : Nat.ble (len * j.size) 16777216
          · rw [hle] at h; cases h
          · rw [hle] at h
            simp only [cond_true] at h
            have hle' := Nat.le_of_ble_eq_true hle
            split at h
            · rename_i zs hzs
              simp only [Option.map_eq_some_iff, Prod.mk.injEq] at h
              obtain ⟨cs, hcs, rfl, rfl⟩ := h
              -- the zeros
              obtain ⟨zv, hz1, hz2⟩ : ∃ zv : Array Value, (len * j.size = 0 ∧ zv = #[] ∨ len * j.size ≠ 0 ∧ ∃ q, (zeroValue el).run C.P w = .ok q w ∧ q.cells = zv) ∧ VRs ρ zs ((Array.range (len * j.size)).map fun i => zv[i % zv.size]!).toList := by
                split at hzs
                · rename_i h0
                  simp only [Option.some.injEq] at hzs; subst hzs
                  exact ⟨#[], .inl ⟨h0, rfl⟩, by rw [h0]; simp [VRs]⟩
                · rename_i h0
                  split at hzs
                  · rename_i z hz
                    cases hjk : (notJunk z && Nat.beq z.cells.length j.size)
                    · rw [hjk] at hzs; cases hzs
                    · rw [hjk] at hzs
                      simp only [cond_true, Option.some.injEq] at hzs
                      subst hzs
                      simp only [Bool.and_eq_true] at hjk
                      obtain ⟨zv, hzv, hr⟩ := hC.run_zero hj hz w ρ
                      have hc := VR.cells hr hjk.1
                      refine ⟨zv.cells, .inr ⟨h0, zv, hzv, rfl⟩, ?_⟩
                      exact zerosOf_ok hc len _ (by rw [Nat.eq_of_beq_eq_true hjk.2])
                  · cases hzs
              have hm : (parts.map fun x => (x.1, e x.2)).toList = parts.toList.map fun x => (x.1, e x.2) := by simp
              obtain ⟨us, h1, h2⟩ := afill_ok (ρ := ρ) (place := fun n => some (n * j.size, j.size)) (ps := parts.toList.map fun p => (p.1, ev p.2)) (qs := (parts.map fun x => (x.1, e x.2)).toList)
                (by rw [hm]; simp [List.map_map, Function.comp_def])
                (by rw [hm]; simp only [List.map_map, Function.comp_def]
                    have := hev.list (parts.toList.map (·.2))
                    simpa [List.map_map, Function.comp_def] using this) hz2 hcs
              have hlen : us.size = len * j.size := by
                have a1 := h2.length
                have a2 : ∀ (l : List (Nat × AV)) (cs out : List AV), afill (fun n => some (n * j.size, j.size)) cs l = some out → out.length = cs.length := by
                  intro l
                  induction l with
                  | nil => intro cs out e; simp [afill] at e; rw [e]
                  | cons p l ih =>
                    intro cs out e
                    simp only [afill] at e
                    cases hcond : (notJunk p.2 && Nat.beq p.2.cells.length j.size && Nat.ble (p.1 * j.size + j.size) cs.length)
                    · rw [hcond] at e; cases e
                    · rw [hcond] at e
                      simp only [cond_true] at e
                      simp only [Bool.and_eq_true] at hcond
                      have b1 := Nat.eq_of_beq_eq_true hcond.1.2
                      have b2 := Nat.le_of_ble_eq_true hcond.2
                      rw [ih _ _ e]
                      simp only [splice, List.length_append, List.length_take, List.length_drop]
                      omega
                have a3 := a2 _ _ _ hcs
                have a4 := hz2.length
                simp at a1 a4
                omega
              refine ⟨_, _, w.drawn, _, made_cells (e := el) n hn h2 (v := .slice (some ⟨w.heap.size, 0, none⟩) len len) ?_ fun ρ' h' => by
                simp only [VR]; exact ⟨_, len, h', rfl, rfl, Nat.le_refl _, by show 0 + len * j.size ≤ us.size; omega⟩⟩
              unfold Instr.buildSlice
              simp only [Sem.run_bind, hC.run_und hi, hd, hC.run_size hj, Result.andThen_ok]
              rw [if_neg (by have : (2 : Nat) ^ 24 = 16777216 := rfl; omega)]
              rcases hz1 with ⟨h0, rfl⟩ | ⟨h0, q, hq, rfl⟩
              · rw [if_pos h0]
                simp only [pure_bind, h1, newRow, Sem.run_bind, run_newObj, Sem.run_pure, Result.andThen_ok]
              · rw [if_neg h0]
                simp only [pure_bind, Sem.run_bind, hq, h1, newRow, run_newObj, Sem.run_pure, Result.andThen_ok]
            · cases h
        · cases h
      · cases h
    · cases h
  case makeSlice t l c =>
    split at h
    · rename_i i k1 a k2 b hi hl hc
      split at h
      · rename_i el hd
        split at h
        · rename_i j hj
          split at h
          · rename_i z hz
            cases hcond : (notJunk z && Nat.beq z.cells.length j.size && Nat.ble a b && Nat.ble (b * j.bytes) 281474976710656 && Nat.ble b 9223372036854775807)
            · rw [hcond] at h; cases h
            · rw [hcond] at h
              simp only [cond_true, Option.some.injEq, Prod.mk.injEq] at h
              obtain ⟨rfl, rfl⟩ := h
              simp only [Bool.and_eq_true] at hcond
              obtain ⟨⟨⟨⟨c1, c2⟩, c3⟩, c4⟩, c5⟩ := hcond
              have c2 := Nat.eq_of_beq_eq_true c2
              have c3 := Nat.le_of_ble_eq_true c3
              have c4 := Nat.le_of_ble_eq_true c4
              have c5 := Nat.le_of_ble_eq_true c5
              have vl := hev l
              have vc := hev c
              rw [hl] at vl
              rw [hc] at vc
              simp only [VR] at vl vc
              obtain ⟨q, hq, hr⟩ := hC.run_zero hj hz w ρ
              have hcs := VR.cells hr c1
              have hlen := hcs.length
              simp at hlen
              have wrapN : ∀ m : Nat, m ≤ 9223372036854775807 → IntKind.i64.wrap (Int.ofNat m) = m := by
                intro m hm
                unfold IntKind.wrap IntKind.bits IntKind.signed
                simp only [Bool.true_and, decide_eq_true_eq]
                have e2 : ((2 : Int) ^ (64 - 1)) = 9223372036854775808 := by decide
                have e3 : ((2 : Int) ^ 64) = 18446744073709551616 := by decide
                have e : (Int.ofNat m) % 18446744073709551616 = m := by simp only [Int.ofNat_eq_natCast]; omega
                simp only [e2, e3]
                rw [e, if_neg (by omega)]
              obtain ⟨x, hx1, hx2, hx3⟩ := hC.run_info hj w
              have hzs := zerosOf_ok hcs b (b * j.size) (by rw [c2])
              have h48 : ((2 : Int) ^ 48) = 281474976710656 := by decide
              have hbig : ∀ m : Nat, m * j.bytes ≤ 281474976710656 → (decide ((Int.ofNat m) < 0) || decide ((x.bytes : Int) * (Int.ofNat m) > 2 ^ 48)) = false := by
                intro m hm
                rw [hx3, h48]
                have : ((m * j.bytes : Nat) : Int) ≤ 281474976710656 := by omega
                rw [Int.natCast_mul] at this
                have e : (j.bytes : Int) * (Int.ofNat m) = (m : Int) * j.bytes := by simp [Int.mul_comm]
                rw [e]
                simp; omega
              have hab : a * j.bytes ≤ 281474976710656 := Nat.le_trans (Nat.mul_le_mul_right _ c3) c4
              have hbb := hbig b c4
              refine ⟨_, _, w.drawn, _, made_cells (e := el) n hn hzs (v := .slice (some ⟨w.heap.size, 0, none⟩) a b) ?_ fun ρ' h' => by
                simp only [VR]; exact ⟨_, b, h', rfl, rfl, c3, by show 0 + b * j.size ≤ _; simp⟩⟩
              unfold Instr.makeSlice
              simp only [Sem.run_bind, hC.run_und hi, hd, Result.andThen_ok, vl, vc, asInt, asIntOf, Sem.run_pure, hx1, wrapN a (by omega), wrapN b c5, run_askRoom, hC.run_size hj, Int.toNat_natCast]
              have e1 : ((decide ((b : Int) < 0) || decide ((x.bytes : Int) * (b : Int) > 2 ^ 48)) || decide ((a : Int) < 0) || decide ((a : Int) > (b : Int))) = false := by
                have := hbb
                simp only [Int.ofNat_eq_natCast] at this
                rw [this]
                simp; omega
              rw [if_neg (by rw [e1]; simp)]
              simp only [Sem.run_bind, run_askRoom, hC.run_size hj, Result.andThen_ok]
              by_cases h0 : b * j.size = 0
              · rw [if_pos h0]
                simp only [Sem.run_pure, Result.andThen_ok, newRow, Sem.run_bind, run_newObj]
                congr 4
                rw [h0]; simp
              · rw [if_neg h0]
                simp only [Sem.run_bind, hq, Sem.run_pure, Result.andThen_ok, newRow, run_newObj]
          · cases h
        · cases h
      · cases h
    · cases h
  case makeMap t r =>
    have key : ∀ (x : Sem Next), x.run C.P w = .ok (.value (.map (some w.heap.size))) { w with heap := w.heap.push (.map #[] 0) } → ∃ v ob d s, Made C.P ρ n x w (.map [] 0) (.map n) v ob d s := by
      intro x hx
      exact ⟨_, _, w.drawn, ⟨w.heap.size, 0, 0⟩, ⟨hx, rfl, by simp only [VR]; exact ⟨_, Names.put_same _ _ _, rfl⟩, .map _ rfl⟩⟩
    split at h
    · simp only [Option.some.injEq, Prod.mk.injEq] at h
      obtain ⟨rfl, rfl⟩ := h
      refine key _ ?_
      simp [Instr.makeMap]
    · rename_i x
      split at h
      · rename_i i k q hi hx
        split at h
        · rename_i hd
          simp only [Option.some.injEq, Prod.mk.injEq] at h
          obtain ⟨rfl, rfl⟩ := h
          refine key _ ?_
          have hv := hev x
          rw [hx] at hv
          simp only [VR] at hv
          simp [Instr.makeMap, hC.run_und hi, hd, hv, asInt, asIntOf]
        · cases h
      · cases h
  case convert src dst x =>
    split at h
    · rename_i i j hi hj
      split at h
      · rename_i el s hd1 hd2 hx
        split at h
        · rename_i k hk
          split at h
          · rename_i hkd
            simp only [Option.some.injEq, Prod.mk.injEq] at h
            obtain ⟨rfl, rfl⟩ := h
            have hv := hev x
            rw [hx] at hv
            simp only [VR] at hv
            have hsz : (ByteArray.mk s.toArray).size = s.length := by simp [ByteArray.size]
            let q : Question := .appendCap s.length 0 el
            let cap := q.cut (w.tape w.drawn q)
            have hcap : s.length ≤ cap := Nat.le_add_right _ _
            let c : Array Value := (s.toArray.map fun b => Value.int .u8 b.toNat) ++ Array.replicate (cap - s.length) (.int .u8 0)
            have hcs : c.size = cap := by simp [c]; omega
            refine ⟨.slice (some ⟨w.heap.size, 0, none⟩) s.length cap, .cells c el (cap, cap + 1), w.drawn + 1, ⟨w.heap.size, 0, cap⟩, ⟨?_, rfl, ?_, ?_⟩⟩
            · unfold convert
              simp only [Sem.run_bind, hC.run_und hi, hC.run_und hj, Result.andThen_ok, hd1, hd2, hv, hC.run_und hk, hkd]
              unfold Conv.stringToBytes
              simp only [Sem.run_bind, hsz, run_choose, Question.forced, Bool.false_eq_true, if_false, Result.andThen_ok, newRow, run_newObj, Sem.run_pure]
              have hsh : ({ heap := w.heap.push (.cells c el (0, 0)), tape := w.tape, drawn := w.drawn + 1, os := w.os, output := w.output } : World).shape? w.heap.size = some (el, cap) := by
                simp [World.shape?, hcs]
              unfold markStringish
              simp only [Sem.run_bind, run_shape]
              rw [show (Obj.cells (Array.map (fun b => Value.int .u8 (b.toNat : Int)) s.toArray ++ Array.replicate (Question.cut (.appendCap s.length 0 el) (w.tape w.drawn (.appendCap s.length 0 el)) - s.length) (Value.int .u8 0)) el) = Obj.cells c el (0, 0) from rfl, hsh]
              simp only [Result.andThen_ok, run_freeze]
              congr 1
              simp only [World.freeze]
              rw [if_neg (by omega)]
              congr 1
              rw [modify_push]
              rfl
            · simp only [VR]
              exact ⟨_, cap, Names.put_same _ _ _, by simp, hcap, hcap, by simp⟩
            · refine .cells _ _ _ _ _ ⟨rfl, by rw [hcs]; exact Nat.le_refl _, by simpa using hcap, ?_, .inr (by rw [hcs]; exact Nat.le_refl _)⟩
              · intro i a ha
                rw [List.getElem?_map] at ha
                rcases hsi : s[i]? with _ | b
                · rw [hsi] at ha; cases ha
                · rw [hsi] at ha
                  simp only [Option.map_some, Option.some.injEq] at ha
                  subst ha
                  have hlt : i < s.length := by
                    rcases Nat.lt_or_ge i s.length with h | h
                    · exact h
                    · rw [List.getElem?_eq_none h] at hsi; cases hsi
                  refine ⟨.int .u8 b.toNat, ?_, by simp only [VR]⟩
                  simp only [c, Nat.zero_add]
                  rw [Array.getElem?_append_left (by simpa using hlt)]
                  simp [hsi]
          · cases h
        · cases h
      · cases h
    · cases h

end Go.AB
