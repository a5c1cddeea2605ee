/- Operations that read memory: the rest, and all together; operations that make a new block. -/
import Derived.Test.YtgihociajfgohaaGreatDoorAb8
namespace Go.AB
set_option linter.unusedSimpArgs false

def byteOfAV : AV → Option UInt8
  | .int .u8 n => some (UInt8.ofNat n.toNat)
  | _ => none

theorem byteOfAV_ok {ρ : Names} {a : AV} {v : Value} {b : UInt8} (h : byteOfAV a = some b) (hv : VR ρ a v) : ∃ n, v = .int .u8 n ∧ UInt8.ofNat n.toNat = b := by
  unfold byteOfAV at h
  split at h
  · simp only [VR] at hv
    exact ⟨_, hv, by simpa using h⟩
  · cases h

def toBytes : List AV → Option (List UInt8)
  | [] => some []
  | a :: as => match byteOfAV a, toBytes as with
    | some b, some l => some (b :: l)
    | _, _ => none

theorem toBytes_map : ∀ l : List UInt8, toBytes (l.map fun b => .int .u8 b.toNat) = some l
  | [] => rfl
  | b :: l => by simp [toBytes, byteOfAV, toBytes_map l]

theorem run_pushBytes {P : Program} {w : World} {ρ : Names} : ∀ {as : List AV} {vs : List Value} {l : List UInt8} (acc : ByteArray), VRs ρ as vs → toBytes as = some l →
    ((do
      let mut s := acc
      for c in vs do
        let .int .u8 n := c | stuck "bytesToString: byte expected"
        s := s.push (UInt8.ofNat n.toNat)
      pure (.string s) : Sem Value)).run P w = .ok (.string ⟨(acc.data.toList ++ l).toArray⟩) w
  | [], vs, l, acc, h, e => by
    simp only [VRs] at h; subst h
    simp [toBytes] at e; subst e
    simp
  | a :: as, vs, l, acc, h, e => by
    simp only [VRs] at h
    obtain ⟨v, vs', rfl, h1, h2⟩ := h
    simp only [toBytes] at e
    split at e
    · rename_i b l' hb hl
      simp only [Option.some.injEq] at e
      subst e
      obtain ⟨n, rfl, rfl⟩ := byteOfAV_ok hb h1
      have ih := run_pushBytes (P := P) (w := w) (acc.push (UInt8.ofNat n.toNat)) h2 hl
      simp only [List.forIn_cons, bind_assoc, pure_bind]
      refine ih.trans ?_
      congr 3
      simp [ByteArray.push]
    · cases e

def aToString (H : AH) (x : AV) : Option AV :=
  match x with
  | .nils => some (.str [])
  | .empty _ => some (.str [])
  | .slice b o n _ _ => match H.get b with
    | some (.cells _ vs) =>
      let cs := (vs.drop o).take n
      bif Nat.beq cs.length n then (toBytes cs).map .str else none
    | _ => none
  | _ => none

theorem aToString_ok {P : Program} {N G : Nat} {ρ : Names} {H : AH} {w : World} (hR : R N G ρ H w) {x r : AV} {v : Value} (hx : VR ρ x v) (h : aToString H x = some r) :
    ∃ u, (Conv.bytesToString v).run P w = .ok u w ∧ VR ρ r u := by
  unfold aToString at h
  split at h
  · simp only [Option.some.injEq] at h; subst h
    simp only [VR] at hx; subst hx
    exact ⟨_, rfl, by simp only [VR]; rfl⟩
  · simp only [Option.some.injEq] at h; subst h
    simp only [VR] at hx
    obtain ⟨s, o, cc, _, rfl⟩ := hx
    exact ⟨_, rfl, by simp only [VR]; rfl⟩
  · rename_i b o n cap z
    split at h
    · rename_i ro vs hb
      cases hl : Nat.beq ((vs.drop o).take n).length n
      · simp only [hl] at h; cases h
      · simp only [hl, cond_true, Option.map_eq_some_iff] at h
        obtain ⟨l, hbytes, rfl⟩ := h
        simp only [VR] at hx
        obtain ⟨sg, cc, hsg, rfl, _⟩ := hx
        have hl' := Nat.eq_of_beq_eq_true hl
        obtain ⟨us, h1, h2⟩ := run_loadCells_ab (P := P) (w := w) (ρ := ρ) sg.blk ((vs.drop o).take n) (sg.base + o) 0 #[] (fun j a hj => by
          rw [List.getElem?_take] at hj
          split at hj
          · rw [List.getElem?_drop] at hj
            have := hR.cell hb hsg hj
            rwa [show sg.base + o + 0 + j = sg.base + (o + j) by omega]
          · cases hj)
        rw [hl'] at h1
        refine ⟨.string ⟨l.toArray⟩, ?_, by simp only [VR]⟩
        unfold Conv.bytesToString
        rw [Sem.run_bind, loadCells, h1, Result.andThen_ok]
        have h3 := run_pushBytes (P := P) (w := w) ByteArray.empty h2 hbytes
        rw [← Array.forIn_toList]
        have e : (#[] ++ ({ toList := us } : Array Value)).toList = us := by simp
        rw [e]
        have h4 : ByteArray.empty.data.toList = [] := rfl
        rw [h4, List.nil_append] at h3
        exact h3
    · cases h
  · cases h

/-- A slice over an array that lies in memory. -/
def aArrSlice (C : Ctx) (H : AH) (t : TypeId) (x : AV) (lo hi mx : Option AV) : Option AV :=
  match C.ti t, x, mx with
  | some i, .ptr b o, none =>
    match i.d with
    | .array n e =>
      match C.ti e, bnd lo 0, bnd hi n, H.get b with
      | some j, some l, some h, some (.cells _ vs) =>
        bif Nat.ble l h && Nat.ble h n && Nat.ble (o + n * j.size) vs.length then (if n = l then some (.slice b o 0 (.ex 0) j.size) else some (.slice b (o + l * j.size) (h - l) (.ex (n - l)) j.size)) else none
      | _, _, _, _ => none
    | _ => none
  | _, _, _ => none

theorem aArrSlice_ok {C : Ctx} (hC : C.OK) {N G : Nat} {ρ : Names} {H : AH} {w : World} (hR : R N G ρ H w) {t : TypeId} {x r : AV} {lo hi mx : Option AV} {v : Value} {lo' hi' mx' : Option Value} (hx : VR ρ x v) (hl : OVR ρ lo lo') (hh : OVR ρ hi hi') (hm : OVR ρ mx mx')
    (h : aArrSlice C H t x lo hi mx = some r) : ∃ u, (Instr.sliceAt t v lo' hi' mx').run C.P w = .ok u w ∧ VR ρ r u := by
  unfold aArrSlice at h
  split at h
  · rename_i i b o hi0
    split at h
    · rename_i n e hd
      split at h
      · rename_i j l hh2 ro vs hj el eh hb
        cases hc : (Nat.ble l hh2 && Nat.ble hh2 n && Nat.ble (o + n * j.size) vs.length)
        · rw [hc] at h; cases h
        · rw [hc] at h
          simp only [cond_true] at h
          simp only [Bool.and_eq_true] at hc
          have c1 := Nat.le_of_ble_eq_true hc.1.1
          have c2 := Nat.le_of_ble_eq_true hc.1.2
          have c3 := Nat.le_of_ble_eq_true hc.2
          cases mx' with
          | some _ => exact hm.elim
          | none =>
          simp only [VR] at hx
          obtain ⟨sg, hsg, rfl⟩ := hx
          have hroom : vs.length ≤ sg.room := by
            obtain ⟨s', hs', c, e', l', h', _, _, h3, _⟩ := hR.obj b _ hb
            rw [hsg] at hs'; cases hs'; exact h3
          have := sliceBounds_run (P := C.P) (w := w) (isSlice := false) (len := n) (cap := n) hl hh hm el eh (m := n) rfl c1 (fun _ => c2) (Nat.le_refl _) (by simp)
          unfold Instr.sliceAt
          simp only [Sem.run_bind, hC.run_und hi0, Result.andThen_ok, hd, Instr.sureAddr, Sem.run_pure, this, hC.run_size hj]
          refine ⟨_, rfl, ?_⟩
          split at h
          · rename_i hcl
            subst hcl
            simp only [Option.some.injEq] at h; subst h
            simp only [VR, if_true]
            have : hh2 - n = 0 := by omega
            exact ⟨sg, 0, hsg, by simp [this], rfl, Nat.le_refl _, by omega⟩
          · rename_i hcl
            simp only [Option.some.injEq] at h; subst h
            rw [if_neg hcl]
            simp only [VR]
            refine ⟨sg, n - l, hsg, ?_, rfl, by omega, ?_⟩
            · congr 2
              unfold Addr.add
              split <;> simp_all [Nat.add_assoc]
            · rw [Nat.add_assoc, ← Nat.add_mul, Nat.add_sub_cancel' (by omega : l ≤ n)]
              omega
      · cases h
    · cases h
  · cases h

def alenMap (C : Ctx) (H : AH) (t : TypeId) (x : AV) : Option AV :=
  match C.ti t, x with
  | some i, .map b =>
    match i.d, H.get b with
    | .map _ _, some (.map ps _) => some (.int .i64 ps.length)
    | _, _ => none
  | _, _ => none

theorem EntsR.length {ρ : Names} : ∀ {ps : List (List UInt8 × AV)} {es : List MapEntry}, EntsR ρ ps es → es.length = ps.length
  | [], es, h => by simp only [EntsR] at h; simp [h]
  | p :: ps, es, h => by
    simp only [EntsR] at h
    obtain ⟨e, es', rfl, _, _, hr⟩ := h
    simp [hr.length]

theorem alenMap_ok {C : Ctx} (hC : C.OK) {N G : Nat} {ρ : Names} {H : AH} {w : World} (hR : R N G ρ H w) {t : TypeId} {x r : AV} {v : Value} (hx : VR ρ x v) (h : alenMap C H t x = some r) (ats : Array TypeId) (ht : ats[0]? = some t) (ty : TypeId) (args : Array Value) (ha : args[0]? = some v) :
    ∃ u, (Builtin.len_ ats ty args).run C.P w = .ok u w ∧ VR ρ r u := by
  unfold alenMap at h
  split at h
  · rename_i i b hi
    split at h
    · rename_i kt et ps ver hd hb
      simp only [Option.some.injEq] at h; subst h
      simp only [VR] at hx
      obtain ⟨sg, hsg, rfl⟩ := hx
      obtain ⟨_, es, clock, h1, h2⟩ := hR.map hb hsg
      unfold Builtin.len_
      simp only [ht, ha, Sem.run_bind, hC.run_und hi, Result.andThen_ok, hd, getObj, Sem.run, h1]
      refine ⟨_, rfl, ?_⟩
      have := h2.ents.length
      simp only [VR, goInt]
      simp at this
      rw [this]
    · cases h
  · cases h

/-- The entry that an iterator stands at. -/
def aentry (H : AH) (it : AV) : Option AV :=
  match it with
  | .ptr b 0 =>
    match H.get b with
    | some (.miter m _ ver (some k)) =>
      match H.get m with
      | some (.map ps ver') => bif Nat.beq ver ver' then (mget ps k).map fun v => .tuple [.str k, v] else none
      | _ => none
    | _ => none
  | _ => none

theorem EntsR.find {ρ : Names} : ∀ {ps : List (List UInt8 × AV)} {es : List MapEntry}, EntsR ρ ps es → (ps.map (·.1)).Nodup → ∀ (e : MapEntry) (k : List UInt8), e ∈ es → e.key = .string ⟨k.toArray⟩ → ∀ a, mget ps k = some a → VR ρ a e.val
  | [], es, h, _, e, k, he, _, a, ha => by simp [mget] at ha
  | p :: ps, es, h, hn, e, k, he, hk, a, ha => by
    simp only [EntsR] at h
    obtain ⟨e0, es', rfl, hk0, hv0, hr⟩ := h
    simp only [mget, beqL_eq] at ha
    simp only [List.map_cons, List.nodup_cons] at hn
    by_cases hkp : k = p.1
    · simp only [hkp, decide_true, cond_true, Option.some.injEq] at ha
      subst ha
      rcases List.mem_cons.1 he with rfl | he'
      · exact hv0
      · exfalso
        apply hn.1
        have key : ∀ {ps : List (List UInt8 × AV)} {es : List MapEntry}, EntsR ρ ps es → ∀ e ∈ es, e.key = .string ⟨k.toArray⟩ → k ∈ ps.map (·.1) := by
          intro ps
          induction ps with
          | nil => intro es h e he; simp only [EntsR] at h; subst h; cases he
          | cons q qs ih =>
            intro es h e he hke
            simp only [EntsR] at h
            obtain ⟨e1, es1, rfl, hk1, _, hr1⟩ := h
            rcases List.mem_cons.1 he with rfl | he
            · rw [hk1] at hke
              injection hke with hke
              injection hke with hke
              have : q.1 = k := by simpa using congrArg Array.toList hke
              simp [this]
            · exact List.mem_cons_of_mem _ (ih hr1 e he hke)
        rw [← hkp]
        exact key hr e he' hk
    · simp only [hkp, decide_false, cond_false] at ha
      rcases List.mem_cons.1 he with rfl | he'
      · exfalso
        rw [hk0] at hk
        injection hk with hk
        injection hk with hk
        exact hkp (by simpa using (congrArg Array.toList hk).symm)
      · exact EntsR.find hr hn.2 e k he' hk a ha

theorem nodup_find {e : MapEntry} : ∀ {es : List MapEntry}, (es.map (·.born)).Pairwise (· < ·) → e ∈ es → es.find? (fun x => x.born == e.born) = some e
  | [], _, h => by cases h
  | x :: es, hp, h => by
    simp only [List.map_cons, List.pairwise_cons] at hp
    rw [List.find?_cons]
    rcases List.mem_cons.1 h with rfl | h'
    · simp
    · have : x.born < e.born := hp.1 _ (List.mem_map.2 ⟨e, h', rfl⟩)
      have hne : (x.born == e.born) = false := by simp; omega
      rw [hne]
      exact nodup_find hp.2 h'

theorem aentry_ok {P : Program} {N G : Nat} {ρ : Names} {H : AH} {w : World} (hR : R N G ρ H w) {x r : AV} {v : Value} (hx : VR ρ x v) (h : aentry H x = some r) :
    ∃ u, (Instr.entry v).run P w = .ok u w ∧ VR ρ r u := by
  unfold aentry at h
  split at h
  · rename_i b
    split at h
    · rename_i m left ver k hb
      split at h
      · rename_i ps ver' hm
        cases hv : Nat.beq ver ver'
        · rw [hv] at h; cases h
        · rw [hv] at h
          simp only [cond_true, Option.map_eq_some_iff] at h
          obtain ⟨a, ha, rfl⟩ := h
          have hv' := Nat.eq_of_beq_eq_true hv
          subst hv'
          simp only [VR] at hx
          obtain ⟨sg, hsg, rfl⟩ := hx
          obtain ⟨s', hs', _, hb0, since, seen, st, sm, h1, h2, h3⟩ := hR.obj b _ hb
          rw [hsg] at hs'; cases hs'
          obtain ⟨_, es, clock, h4, h5⟩ := hR.map hm h2
          obtain ⟨g1, g2, g3, g4⟩ := h3 ps hm es clock h4
          obtain ⟨e, he, hek, hback⟩ := g4 k rfl
          have hbase := hb0
          unfold Instr.entry
          simp only [hbase, Nat.zero_add, Nat.add_zero, Sem.run_bind, getObj, Sem.run, h1, h4, Result.andThen_ok, hback]
          rw [← Array.find?_toList]
          rw [nodup_find h5.born he]
          simp only [g3, bne_self_eq_false, Bool.false_eq_true, if_false]
          refine ⟨.tuple #[e.key, e.val], rfl, ?_⟩
          simp only [VR]
          exact ⟨[e.key, e.val], rfl, VRs.cons (by simpa [VR] using hek) (VRs.cons (h5.ents.find h5.keys e k he hek a ha) VRs.nil)⟩
      · cases h
    · cases h
  · cases h

end Go.AB
