/- Own abstract heaps and operations: loops over maps, calls, regions, the evaluator; no condition. -/
import Derived.Test.YtapokkpdgfpokaaGreatHeap2
set_option linter.unusedSimpArgs false
set_option linter.unusedVariables false
namespace Go.AB

def kstr (k : List UInt8) : Value := .string ⟨k.toArray⟩

theorem kstr_inj {a b : List UInt8} (h : kstr a = kstr b) : a = b := by
  unfold kstr at h
  injection h with h
  injection h with h
  simpa using congrArg Array.toList h

theorem EntsR.keyList {ρ : Names} : ∀ {ps : List (List UInt8 × AV)} {es : List MapEntry}, EntsR ρ ps es → es.map (·.key) = ps.map fun p => kstr p.1
  | [], es, h => by simp only [EntsR] at h; subst h; rfl
  | p :: ps, es, h => by
    simp only [EntsR] at h
    obtain ⟨e, es', rfl, h1, _, h3⟩ := h
    simp only [List.map_cons, h3.keyList, h1]; rfl

theorem pairwise_nodup {l : List Nat} (h : l.Pairwise (· < ·)) : l.Nodup := h.imp (fun h => by omega)

theorem left_erase {e : MapEntry} {k : List UInt8} (hk : e.key = kstr k) : ∀ {L : List MapEntry} {left : List (List UInt8)}, L.map (·.key) = left.map kstr → (L.map (·.born)).Nodup → left.Nodup → e ∈ L →
    (L.filter fun x => !(x.born == e.born)).map (·.key) = (left.erase k).map kstr
  | [], _, _, _, _, h => by cases h
  | x :: L, [], h, _, _, _ => by simp at h
  | x :: L, y :: left, h, hb, hn, he => by
    simp only [List.map_cons, List.cons.injEq] at h
    simp only [List.map_cons, List.nodup_cons] at hb hn
    obtain ⟨h1, h2⟩ := h
    by_cases hxe : x.born = e.born
    · have hxe2 : x = e := by
        rcases List.mem_cons.1 he with rfl | he
        · rfl
        · exact absurd (hxe ▸ List.mem_map.2 ⟨e, he, rfl⟩) hb.1
      subst hxe2
      have hyk : y = k := kstr_inj (h1.symm.trans hk)
      subst hyk
      rw [List.erase_cons_head, List.filter_cons_of_neg (by simp)]
      rw [List.filter_eq_self.2, h2]
      intro z hz
      have : z.born ≠ x.born := fun e2 => hb.1 (e2 ▸ List.mem_map.2 ⟨z, hz, rfl⟩)
      simp [this]
    · have he' : e ∈ L := by
        rcases List.mem_cons.1 he with rfl | he
        · exact absurd rfl hxe
        · exact he
      have hne : y ≠ k := by
        intro e2
        subst e2
        have : e.key ∈ L.map (·.key) := List.mem_map.2 ⟨e, he', rfl⟩
        rw [h2, hk] at this
        obtain ⟨z, hz, hzk⟩ := List.mem_map.1 this
        exact hn.1 (kstr_inj hzk ▸ hz)
      rw [List.filter_cons_of_pos (by simp [hxe]), List.erase_cons_tail (by simpa using hne)]
      simp only [List.map_cons, h1, left_erase hk h2 hb.2 hn.2 he']

def arange (C : Ctx) (H : AH) (t : TypeId) (x : AV) : Option (AV × AH) :=
  match C.ti t with
  | none => none
  | some i =>
    match i.d, x with
    | .string, .str s => some (.ptr H.next 0, H.alloc (.siter s 0))
    | .map _ _, .map m => match H.get m with
      | some (.map ps ver) => bif Nat.blt ver H.next then some (.ptr H.next 0, H.alloc (.miter m (ps.map (·.1)) ver none)) else none
      | _ => none
    | _, _ => none

theorem arange_ok {C : Ctx} (hC : C.OK) {N : Bd} {G : Nat} {ρ : Names} {H H' : AH} {w : World} (hR : R N G ρ H w) {t : TypeId} {x r : AV} {v : Value} (hx : VR ρ x v) (h : arange C H t x = some (r, H')) :
    Did C.P N G ρ H w (Instr.range t v) (fun ρ' v => VR ρ' r v) H' := by
  unfold arange at h
  split at h
  · cases h
  · rename_i i hi
    have hnew : ρ H.next = none := hR.fresh _ (Nat.le_refl _)
    have hN := hR.size
    split at h
    · rename_i s hd
      simp only [Option.some.injEq, Prod.mk.injEq] at h
      obtain ⟨rfl, rfl⟩ := h
      simp only [VR] at hx
      subst hx
      let sg : Seg := ⟨w.heap.size, 0, 0⟩
      obtain ⟨r1, r2⟩ := hR.alloc (.stringIter ⟨s.toArray⟩ 0) w.drawn (.siter s 0) sg rfl rfl rfl ((NewObj.siter (ρ := ρ.put H.next sg) (s := sg) s rfl).or hR rfl _) (fun m l v c e => by cases e)
      refine ⟨.pointer (some ⟨w.heap.size, 0, none⟩), _, _, ?_, ?_, r1, r2⟩
      · unfold Instr.range
        simp only [Sem.run_bind, hC.run_und hi, hd, Result.andThen_ok, Sem.run_pure, run_newObj]
      · simp only [VR]; exact ⟨sg, Names.put_same _ _ _, rfl⟩
    · rename_i kt et m hd
      split at h
      · rename_i ps ver hm
        cases hc : Nat.blt ver H.next
        · rw [hc] at h; cases h
        · rw [hc] at h
          simp only [cond_true, Option.some.injEq, Prod.mk.injEq] at h
          obtain ⟨rfl, rfl⟩ := h
          simp only [VR] at hx
          obtain ⟨sm, hsm, rfl⟩ := hx
          obtain ⟨hNm, es, clock, h0, h1⟩ := hR.map hm hsm
          let sg : Seg := ⟨w.heap.size, 0, 0⟩
          have hmne : m ≠ H.next := by have := hR.lt hsm; omega
          have hsmlt : sm.blk < w.heap.size := by
            rcases Nat.lt_or_ge sm.blk w.heap.size with h | h
            · exact h
            · rw [Array.getElem?_eq_none h] at h0; cases h0
          have hor : OR N.n (ρ.put H.next sg) (H.alloc (.miter m (ps.map (·.1)) ver none)) { w with heap := w.heap.push (.mapIter (some sm.blk) clock #[] clock), drawn := w.drawn } sg (.miter m (ps.map (·.1)) ver none) := by
            refine ⟨hN, rfl, clock, #[], clock, sm, by simp [sg], ?_, ?_⟩
            · exact Names.put_ext hnew _ _ hsm
            · intro ps' hps' es' clock' hes'
              rw [AH.get_alloc, if_neg hmne, hm] at hps'
              injection hps' with hps'
              injection hps' with hps' _
              subst hps'
              have hes'' : w.heap[sm.blk]? = some (.map es' clock') := by
                have : (w.heap.push (.mapIter (some sm.blk) clock #[] clock))[sm.blk]? = w.heap[sm.blk]? := by rw [Array.getElem?_push, if_neg (by omega)]
                rw [← this]; exact hes'
              rw [h0] at hes''
              injection hes'' with hes''
              injection hes'' with e1 e2
              subst e1; subst e2
              refine ⟨h1.old, ?_, rfl, fun k e => by cases e⟩
              unfold leftKeys
              rw [List.filter_eq_self.2 (by intro a _; simp), h1.ents.keyList, List.map_map]
              rfl
          obtain ⟨r1, r2⟩ := hR.alloc _ w.drawn _ sg rfl rfl rfl hor (fun m' l v c e => by
            injection e with e1 e2 e3 e4
            subst e3
            exact Nat.le_of_ble_eq_true hc)
          refine ⟨.pointer (some ⟨w.heap.size, 0, none⟩), _, _, ?_, ?_, r1, r2⟩
          · unfold Instr.range
            simp only [Sem.run_bind, hC.run_und hi, hd, Result.andThen_ok, getObj, Sem.run, h0, Sem.run_pure, run_newObj]
          · simp only [VR]; exact ⟨sg, Names.put_same _ _ _, rfl⟩
      · cases h
    · cases h

/-- **A step of an iterator over a map**: it ends where nothing is left; else it comes to one of those that are left, whichever. -/
theorem next_any {P : Program} {N : Bd} {G : Nat} {ρ : Names} {H : AH} {w : World} (hR : R N G ρ H w) {b m ver : Nat} {left : List (List UInt8)} {cur : Option (List UInt8)} {ps : List (List UInt8 × AV)} (hb : H.get b = some (.miter m left ver cur)) (hm : H.get m = some (.map ps ver)) {v : Value} (hv : VR ρ (.ptr b 0) v) (ty : TypeId) :
    (left = [] → (Instr.next v false ty).run P w = .ok (.tuple #[.bool false]) w) ∧
    (left ≠ [] → ∃ k a u w', k ∈ left ∧ mget ps k = some a ∧ (Instr.next v false ty).run P w = .ok u w' ∧ VR ρ (.tuple [.bool true, .str k, a]) u ∧ R N G ρ (H.set b (.miter m (left.erase k) ver (some k))) w' ∧ Fr ρ H w ρ (H.set b (.miter m (left.erase k) ver (some k))) w') := by
  simp only [VR] at hv
  obtain ⟨sg, hsg, rfl⟩ := hv
  obtain ⟨s', hs', hNb, hb0, since, seen, st, sm, h1, h2, h3⟩ := hR.obj b _ hb
  rw [hsg] at hs'; cases hs'
  obtain ⟨hNm, es, clock, h4, h5⟩ := hR.map hm h2
  obtain ⟨g1, g2, g3, g4⟩ := h3 ps hm es clock h4
  subst g3
  have hgone : (!seen.isEmpty && !es.isEmpty && es.all fun x => decide (x.born ≥ st)) = false := by
    by_cases he : es = #[]
    · subst he; simp
    · have hpos : 0 < es.size := by
        rcases Nat.eq_zero_or_pos es.size with h | h
        · exact absurd (Array.eq_empty_of_size_eq_zero h) he
        · exact h
      have : (es.all fun x => decide (x.born ≥ st)) = false := by
        rw [Array.all_eq_false]
        refine ⟨0, hpos, ?_⟩
        have := h5.old es[0] (Array.getElem_mem_toList hpos)
        simp; omega
      simp [this]
  let L := es.filter fun e => !seen.contains e.born
  have hLl : L.toList = es.toList.filter fun e => !seen.contains e.born := by simp [L]
  have hold : L.filter (fun e => decide (e.born < since)) = L := by
    apply Array.ext'
    rw [Array.toList_filter, List.filter_eq_self.2]
    intro e he
    rw [hLl] at he
    simpa using g1 e ((List.mem_filter.1 he).1)
  have hnew : L.filter (fun e => decide (e.born ≥ since)) = #[] := by
    apply Array.ext'
    rw [Array.toList_filter, List.filter_eq_nil_iff.2]
    intro e he
    rw [hLl] at he
    have := g1 e ((List.mem_filter.1 he).1)
    simp; omega
  have hkeys : L.toList.map (·.key) = left.map kstr := by rw [hLl]; exact g2
  have hbase : sg.base + 0 = 0 := by omega
  have hrun0 : (Instr.next (.pointer (some ⟨sg.blk, sg.base + 0, none⟩)) false ty).run P w =
      (do
        let candidates := (if L.isEmpty then #[none] else #[]) ++ (L ++ #[]).map some
        match candidates[← choose (.mapNext candidates.size)]? with
        | some (some e) =>
          setObj sg.blk (.mapIter (some sm.blk) since (seen.push e.born) st)
          pure (.tuple #[.bool true, e.key, e.val])
        | some none => pure (.tuple #[.bool false])
        | none => stuck "Next: no such candidate" : Sem Value).run P w := by
    unfold Instr.next
    simp only [hbase, Sem.run_bind, getObj, Sem.run, h1, h4, Result.andThen_ok]
    rw [if_neg (by rw [hgone]; simp)]
    simp only [L] at hold hnew
    simp only [hold, hnew, Sem.run_bind]
    rfl
  constructor
  · intro hl
    subst hl
    have hL0 : L = #[] := by
      apply Array.ext'
      exact List.map_eq_nil_iff.1 hkeys
    rw [hrun0, hL0]
    simp [Question.forced]
  · intro hl
    have hLne : L.isEmpty = false := by
      cases hc : L.isEmpty
      · rfl
      · have : L = #[] := by simpa using hc
        rw [this] at hkeys
        simp at hkeys
        exact absurd hkeys.symm (by simpa using hl)
    have hLpos : 0 < L.size := by
      rcases Nat.eq_zero_or_pos L.size with h | h
      · rw [Array.eq_empty_of_size_eq_zero h] at hLne; simp at hLne
      · exact h
    -- whichever is drawn
    obtain ⟨i, d, hd0, hi, hch⟩ : ∃ i d, w.drawn ≤ d ∧ i < L.size ∧ (choose (.mapNext L.size)).run P w = .ok i { w with drawn := d } := by
      rw [run_choose]
      simp only [Question.forced]
      by_cases h1 : L.size ≤ 1
      · exact ⟨0, w.drawn, Nat.le_refl _, hLpos, by simp [h1]⟩
      · exact ⟨_, w.drawn + 1, Nat.le_succ _, Nat.mod_lt _ hLpos, by simp [h1, Question.cut]; rfl⟩
    let e := L[i]
    have heL : e ∈ L.toList := Array.getElem_mem_toList hi
    have heE : e ∈ es.toList := by rw [hLl] at heL; exact (List.mem_filter.1 heL).1
    have hek : e.key ∈ left.map kstr := hkeys ▸ List.mem_map.2 ⟨e, heL, rfl⟩
    obtain ⟨k, hk, hke⟩ := List.mem_map.1 hek
    have hbnd : (L.toList.map (·.born)).Nodup := by
      rw [hLl]
      exact (List.Sublist.map _ List.filter_sublist).nodup (pairwise_nodup h5.born)
    have hln : left.Nodup := by
      have h6 : (left.map kstr).Nodup := by
        rw [← hkeys, hLl]
        refine List.Sublist.nodup (List.Sublist.map _ List.filter_sublist) ?_
        rw [h5.ents.keyList]
        have h7 := h5.keys
        have : (ps.map fun p => kstr p.1) = (ps.map (·.1)).map kstr := by rw [List.map_map]; rfl
        rw [this]
        exact List.Pairwise.map _ (fun a b hab h => hab (kstr_inj h)) h7
      exact List.Pairwise.of_map kstr (fun a b hab h => hab (by rw [h])) h6
    have hget : ∃ a, mget ps k = some a := by
      cases hg : mget ps k with
      | some a => exact ⟨a, rfl⟩
      | none =>
        exfalso
        apply mget_none_keys hg
        have : e.key ∈ es.toList.map (·.key) := List.mem_map.2 ⟨e, heE, rfl⟩
        rw [h5.ents.keyList] at this
        obtain ⟨p, hp, hpk⟩ := List.mem_map.1 this
        have : p.1 = k := kstr_inj (hpk.trans hke.symm)
        exact List.mem_map.2 ⟨p, hp, this⟩
    obtain ⟨a, ha⟩ := hget
    have hva : VR ρ a e.val := h5.ents.find h5.keys e k heE hke.symm a ha
    let w' : World := { w with heap := w.heap.setIfInBounds sg.blk (.mapIter (some sm.blk) since (seen.push e.born) st), drawn := d }
    have hblt : sg.blk < w.heap.size := by
      rcases Nat.lt_or_ge sg.blk w.heap.size with h | h
      · exact h
      · rw [Array.getElem?_eq_none h] at h1; cases h1
    have hmb : m ≠ b := by intro e2; subst e2; rw [hb] at hm; cases hm
    have hsmne : sm.blk ≠ sg.blk := by
      intro e2
      exact hmb (hR.inj m b _ _ sm sg hm hb rfl rfl h2 hsg e2)
    have hother : ∀ q, q ≠ sg.blk → w'.heap[q]? = w.heap[q]? := fun q hq => by
      simp only [w']
      rw [Array.getElem?_setIfInBounds_ne (fun e => hq e.symm)]
    have hor : OR N.n ρ ⟨H.t.set b (.miter m (left.erase k) ver (some k)), H.next⟩ w' sg (.miter m (left.erase k) ver (some k)) := by
      refine ⟨hNb, hb0, since, seen.push e.born, st, sm, by simp [w', hblt], h2, ?_⟩
      intro ps' hps' es' clock' hes'
      have hg2 : AH.get ⟨H.t.set b (.miter m (left.erase k) ver (some k)), H.next⟩ m = H.get m := by
        have := AH.get_set H b (.miter m (left.erase k) ver (some k)) m
        rw [if_neg hmb] at this; exact this
      rw [hg2, hm] at hps'
      injection hps' with hps'
      injection hps' with hps' _
      subst hps'
      rw [hother _ hsmne, h4] at hes'
      injection hes' with hes'
      injection hes' with e1 e2
      subst e1; subst e2
      refine ⟨g1, ?_, rfl, fun k' hk' => ?_⟩
      · have hflt : leftKeys es.toList (seen.push e.born) = (L.toList.filter fun x => !(x.born == e.born)).map (·.key) := by
          unfold leftKeys
          rw [hLl, List.filter_filter]
          congr 1
          apply List.filter_congr
          intro x _
          rw [Array.contains_push]
          cases seen.contains x.born <;> cases (x.born == e.born) <;> rfl
        rw [hflt]
        exact left_erase hke.symm hkeys hbnd hln heL
      · simp only [Option.some.injEq] at hk'
        subst hk'
        exact ⟨e, heE, hke.symm, by simp⟩
    obtain ⟨r1, r2⟩ := hR.write (w' := w') (o' := .miter m (left.erase k) ver (some k)) hb rfl hsg rfl (by simp [w']) hother rfl rfl rfl H.next (Nat.le_refl _) hor
      (fun m' l v c e => by injection e with e1 e2 e3 e4; subst e3; exact hR.vers b _ _ _ _ hb) (fun q m' l v c _ _ _ ps' => by simp) hd0
    refine ⟨k, a, .tuple #[.bool true, e.key, e.val], w', hk, ha, ?_, ?_, r1, r2⟩
    · rw [hrun0]
      simp only [hLne, Bool.false_eq_true, if_false, Array.append_empty, Array.empty_append, Array.size_map, Sem.run_bind, hch, Result.andThen_ok]
      have : (L.map some)[i]? = some (some e) := by simp [hi, e]
      simp only [this, Sem.run_bind, setObj, Sem.run, h1, Result.andThen_ok, Sem.run_pure]
      rfl
    · simp only [VR]
      exact ⟨[.bool true, e.key, e.val], rfl, VRs.cons (by simp [VR]) (VRs.cons (by simp only [VR]; exact hke.symm) (VRs.cons hva VRs.nil))⟩

theorem decode_ascii {s : List UInt8} {pos : Nat} {c : UInt8} (h : s[pos]? = some c) (hc : c.toNat < 128) : Utf8.decode ⟨s.toArray⟩ pos = (c.toNat, 1) := by
  have hlt : pos < s.length := by
    rcases Nat.lt_or_ge pos s.length with h1 | h1
    · exact h1
    · rw [List.getElem?_eq_none h1] at h; cases h
  have e : ((ByteArray.mk s.toArray).get! (pos + 0)).toNat = c.toNat := by
    congr 1
    show (s.toArray)[pos + 0]! = c
    rw [Nat.add_zero, getElem!_pos _ _ (by simpa using hlt)]
    rw [List.getElem?_eq_getElem hlt] at h
    simpa using h
  unfold Utf8.decode
  simp only [e]
  rw [if_pos hc]

def anext (H : AH) (it : AV) (isString : Bool) : Option (AV × AH) :=
  match it with
  | .ptr b 0 =>
    match H.get b, isString with
    | some (.siter s pos), true =>
      match s[pos]? with
      | none => some (.tuple [.bool false], H)
      | some c => bif Nat.blt c.toNat 128 then some (.tuple [.bool true, .int .i64 pos, .int .i32 c.toNat], H.set b (.siter s (pos + 1))) else none
    | some (.miter m left ver _), false =>
      match H.get m with
      | some (.map ps ver') =>
        bif Nat.beq ver ver' then
          match left with
          | [] => some (.tuple [.bool false], H)
          | [k] => (mget ps k).map fun a => (.tuple [.bool true, .str k, a], H.set b (.miter m [] ver (some k)))
          | _ => none
        else none
      | _ => none
    | _, _ => none
  | _ => none

theorem anext_ok {P : Program} {N : Bd} {G : Nat} {ρ : Names} {H H' : AH} {w : World} (hR : R N G ρ H w) {x r : AV} {v : Value} {iss : Bool} (hx : VR ρ x v) (h : anext H x iss = some (r, H')) (ty : TypeId) :
    Did P N G ρ H w (Instr.next v iss ty) (fun ρ' v => VR ρ' r v) H' := by
  unfold anext at h
  split at h
  · rename_i b
    split at h
    · rename_i s pos hb
      have hx0 := hx
      simp only [VR] at hx
      obtain ⟨sg, hsg, rfl⟩ := hx
      obtain ⟨s', hs', hN, hb0, h1⟩ := hR.obj b _ hb
      rw [hsg] at hs'; cases hs'
      have hbase : sg.base + 0 = 0 := by omega
      have hsz : (ByteArray.mk s.toArray).size = s.length := by simp [ByteArray.size]
      split at h
      · rename_i hp
        simp only [Option.some.injEq, Prod.mk.injEq] at h
        obtain ⟨rfl, rfl⟩ := h
        have hlt : ¬ pos < s.length := by
          intro h1; rw [List.getElem?_eq_getElem h1] at hp; cases hp
        refine ⟨.tuple #[.bool false], w, ρ, ?_, by simp only [VR]; exact ⟨[.bool false], rfl, VRs.cons (by simp [VR]) VRs.nil⟩, hR, Fr.refl _ _ _⟩
        unfold Instr.next
        simp only [hbase, Sem.run_bind, getObj, Sem.run, h1, Result.andThen_ok, hsz, hlt, if_false, Sem.run_pure]
      · rename_i c hp
        cases hc : Nat.blt c.toNat 128
        · rw [hc] at h; cases h
        · rw [hc] at h
          simp only [cond_true, Option.some.injEq, Prod.mk.injEq] at h
          obtain ⟨rfl, rfl⟩ := h
          have hlt : pos < s.length := by
            rcases Nat.lt_or_ge pos s.length with h1 | h1
            · exact h1
            · rw [List.getElem?_eq_none h1] at hp; cases hp
          have hdec := decode_ascii hp (Nat.le_of_ble_eq_true hc)
          let w' : World := { w with heap := w.heap.setIfInBounds sg.blk (.stringIter ⟨s.toArray⟩ (pos + 1)) }
          have hblt : sg.blk < w.heap.size := by
            rcases Nat.lt_or_ge sg.blk w.heap.size with h | h
            · exact h
            · rw [Array.getElem?_eq_none h] at h1; cases h1
          obtain ⟨r1, r2⟩ := hR.write (w' := w') (o' := .siter s (pos + 1)) hb rfl hsg rfl (by simp [w']) (fun q hq => by simp only [w']; rw [Array.getElem?_setIfInBounds_ne (fun e => hq e.symm)]) rfl rfl rfl H.next (Nat.le_refl _)
            ⟨hN, hb0, by simp [w', hblt]⟩ (fun m l v c e => by cases e) (fun q m l v c _ _ _ ps => by simp)
          refine ⟨.tuple #[.bool true, goInt pos, .int .i32 c.toNat], w', ρ, ?_, ?_, r1, r2⟩
          · unfold Instr.next
            simp only [hbase, Sem.run_bind, getObj, Sem.run, h1, Result.andThen_ok, hsz, hlt, if_true, hdec, setObj, Sem.run_pure]
            rfl
          · simp only [VR]
            exact ⟨[.bool true, goInt pos, .int .i32 c.toNat], rfl, VRs.cons (by simp [VR]) (VRs.cons (by simp [VR, goInt]) (VRs.cons (by simp [VR]) VRs.nil))⟩
    · rename_i m left ver cur hb
      split at h
      · rename_i ps ver' hm
        cases hv : Nat.beq ver ver'
        · rw [hv] at h; cases h
        · rw [hv] at h
          simp only [cond_true] at h
          have := Nat.eq_of_beq_eq_true hv
          subst this
          obtain ⟨n1, n2⟩ := next_any (P := P) hR hb hm hx ty
          split at h
          · simp only [Option.some.injEq, Prod.mk.injEq] at h
            obtain ⟨rfl, rfl⟩ := h
            exact ⟨_, w, ρ, n1 rfl, by simp only [VR]; exact ⟨[.bool false], rfl, VRs.cons (by simp [VR]) VRs.nil⟩, hR, Fr.refl _ _ _⟩
          · rename_i k
            simp only [Option.map_eq_some_iff, Prod.mk.injEq] at h
            obtain ⟨a, ha, rfl, rfl⟩ := h
            obtain ⟨k', a', u, w', hk', ha', g1, g2, g3, g4⟩ := n2 (by simp)
            simp only [List.mem_singleton] at hk'
            subst hk'
            rw [ha] at ha'
            simp only [Option.some.injEq] at ha'
            subst ha'
            simp only [List.erase_cons_head] at g3 g4
            exact ⟨u, w', ρ, g1, g2, g3, g4⟩
          · cases h
      · cases h
    · cases h
  · cases h

end Go.AB

namespace Go.AB

/-- What is called: functions with a body, and others. -/
structure Fns where
  call : FuncId → List AV → AH → Option (AV × AH)
  ext : FuncId → List AV → AH → Option (AV × AH)

structure Fns.OK (C : Ctx) (N : Bd) (G : Nat) (F : Fns) : Prop where
  call : ∀ f args H r H', F.call f args H = some (r, H') → (∃ g, C.P.funcs[f]? = some g ∧ g.body.isSome = true ∧ (g.name == "runtime.NumGoroutine") = false) ∧
    ∀ ρ w vs, R N G ρ H w → VRs ρ args vs → Calls C.P f ⟨vs⟩ w fun e w' => ∃ v ρ', e = .returned v ∧ VR ρ' r v ∧ R N G ρ' H' w' ∧ Fr ρ H w ρ' H' w'
  ext : ∀ f args H r H', F.ext f args H = some (r, H') → ∀ ρ w vs, R N G ρ H w → VRs ρ args vs →
    ∃ v w' ρ', (callFunc f ⟨vs⟩).run C.P w = .ok (.value v) w' ∧ VR ρ' r v ∧ R N G ρ' H' w' ∧ Fr ρ H w ρ' H' w'

def chainOp (C : Ctx) (F : Fns) (H : AH) (ev : Operand → AV) (o : Oper) : Option (AV × AH) :=
  match o.op with
  | .store t x a => (astore C H t (ev x) (ev a)).map fun H' => (.tuple [], H')
  | .mapUpdate t m k x => (amapUpdate C H t (ev m) (ev k) (ev x)).map fun H' => (.tuple [], H')
  | .insert t m k x => (amapUpdate C H t (ev m) (ev k) (ev x)).map fun H' => (.tuple [], H')
  | .range t x => arange C H t (ev x)
  | .next it s => anext H (ev it) s
  | .call c => match c.callee with
    | .builtin .append => aappend C H c.argTypes.toList (c.args.toList.map ev)
    | .builtin .copy => acopy C H c.argTypes.toList (c.args.toList.map ev)
    | .builtin .clear => aclear C H c.argTypes.toList (c.args.toList.map ev)
    | .builtin .delete => adelete C H c.argTypes.toList (c.args.toList.map ev)
    | .value f => match ev f with
      | .func f fs cs => match F.call f (fs ++ c.args.toList.map ev ++ cs) H with
        | some r => some r
        | none => F.ext f (fs ++ c.args.toList.map ev ++ cs) H
      | _ => none
    | _ => none
  | _ => none

/-- Behind an operation: its value in its temporary. -/
def OpWp (P : Program) (N : Bd) (G : Nat) (ρ : Names) (H : AH) (w : World) (o : Oper) (a : Act) (r : AV) (H' : AH) : Prop :=
  ∀ (next : Act → World → Prop) (Q : Exit → Act → World → Prop), (∀ v w' ρ', VR ρ' r v → R N G ρ' H' w' → Fr ρ H w ρ' H' w' → next (a.put o.dst v) w') → o.wp P a w next Q

theorem opWp_value {P : Program} {N : Bd} {G : Nat} {ρ ρ' : Names} {H H' : AH} {w w' : World} {o : Oper} {a : Act} {r : AV} {v : Value} (hrun : (execOp a.eval o).run P w = .ok (.value v) w') (hv : VR ρ' r v) (hR : R N G ρ' H' w') (hF : Fr ρ H w ρ' H' w') :
    OpWp P N G ρ H w o a r H' := by
  intro next Q h
  unfold Oper.wp
  rw [hrun]
  exact h v w' ρ' hv hR hF

theorem opWp_skip {P : Program} {N : Bd} {G : Nat} {ρ ρ' : Names} {H H' : AH} {w w' : World} {o : Oper} {a : Act} (hrun : (execOp a.eval o).run P w = .ok .skip w') (hR : R N G ρ' H' w') (hF : Fr ρ H w ρ' H' w') :
    OpWp P N G ρ H w o a (.tuple []) H' := by
  intro next Q h
  unfold Oper.wp
  rw [hrun]
  exact h undef w' ρ' (by simp only [VR, undef]; exact ⟨[], rfl, VRs.nil⟩) hR hF

theorem chainOp_ok {C : Ctx} (hC : C.OK) {N : Bd} {G : Nat} {F : Fns} (hF : F.OK C N G) {ρ : Names} {H H' : AH} {w : World} (hR : R N G ρ H w) {ev : Operand → AV} {a : Act} (hev : VEv ρ ev a.eval) {o : Oper} {r : AV} (h : chainOp C F H ev o = some (r, H')) :
    OpWp C.P N G ρ H w o a r H' := by
  obtain ⟨dst, op, type, pos, after, guard⟩ := o
  cases op <;> simp only [chainOp, reduceCtorEq] at h
  case store t x b =>
    simp only [Option.map_eq_some_iff, Prod.mk.injEq] at h
    obtain ⟨H1, h, rfl, rfl⟩ := h
    obtain ⟨u, w', ρ', h1, _, h3, h4⟩ := astore_ok hC hR (hev x) (hev b) h
    exact opWp_skip (by simp only [execOp, Sem.run_bind, h1, Result.andThen_ok, Sem.run_pure]) h3 h4
  case mapUpdate t m k x =>
    simp only [Option.map_eq_some_iff, Prod.mk.injEq] at h
    obtain ⟨H1, h, rfl, rfl⟩ := h
    obtain ⟨u, w', ρ', h1, _, h3, h4⟩ := amapUpdate_ok hC hR (hev m) (hev k) (hev x) h
    exact opWp_skip (by simp only [execOp, Sem.run_bind, h1, Result.andThen_ok, Sem.run_pure]) h3 h4
  case insert t m k x =>
    simp only [Option.map_eq_some_iff, Prod.mk.injEq] at h
    obtain ⟨H1, h, rfl, rfl⟩ := h
    obtain ⟨u, w', ρ', h1, _, h3, h4⟩ := amapUpdate_ok hC hR (hev m) (hev k) (hev x) h
    exact opWp_skip (by simp only [execOp, Sem.run_bind, h1, Result.andThen_ok, Sem.run_pure]) h3 h4
  case range t x =>
    obtain ⟨u, w', ρ', h1, h2, h3, h4⟩ := arange_ok hC hR (hev x) h
    exact opWp_value (by simp only [execOp, Sem.run_bind, h1, Result.andThen_ok, Sem.run_pure]) h2 h3 h4
  case next it s =>
    obtain ⟨u, w', ρ', h1, h2, h3, h4⟩ := anext_ok (P := C.P) hR (hev it) h type
    exact opWp_value (by simp only [execOp, Sem.run_bind, h1, Result.andThen_ok, Sem.run_pure]) h2 h3 h4
  case call c =>
    obtain ⟨callee, ⟨args⟩, ⟨ats⟩⟩ := c
    have hargs : (Array.mk args).map a.eval = ⟨args.map a.eval⟩ := by apply Array.ext'; simp
    cases callee <;> simp only [reduceCtorEq] at h
    case value f =>
      have hf := hev f
      split at h
      · rename_i g fs cs hg
        rw [hg] at hf
        simp only [VR] at hf
        obtain ⟨us, vs, hfv, hus, hvs⟩ := hf
        have hall := (hus.append (hev.list args)).append hvs
        have hexec : (execOp a.eval { dst, op := .call { callee := .value f, args := ⟨args⟩, argTypes := ⟨ats⟩ }, type, pos, after, guard }).run C.P w = (callFunc g ⟨us ++ args.map a.eval ++ vs⟩).run C.P w := by
          simp only [execOp, resolve, hargs, Deferred.ofValue, hfv, Sem.run_bind, Sem.run_pure, Result.andThen_ok, invoke]
          simp
        split at h
        · rename_i q hq
          simp only [Option.some.injEq] at h
          subst h
          obtain ⟨⟨fn, hfn, hbody, hname⟩, hcall⟩ := hF.call _ _ _ _ _ hq
          intro next Q hn
          unfold Oper.wp
          rw [hexec]
          have : (callFunc g ⟨us ++ args.map a.eval ++ vs⟩).run C.P w = .ok (.enter g ⟨us ++ args.map a.eval ++ vs⟩) w := by
            unfold callFunc
            have hb : fn.body.isNone = false := by
              cases hb : fn.body with
              | none => rw [hb] at hbody; cases hbody
              | some _ => rfl
            simp only [Sem.run_bind, run_program, Result.andThen_ok, hfn, hname, Bool.false_eq_true, if_false, hb, Sem.run_pure]
          rw [this, Oper.upon_enter]
          refine (hcall ρ w _ hR hall).mono ?_
          rintro e w' ⟨v, ρ', rfl, hv, hR', hF'⟩
          exact hn v w' ρ' hv hR' hF'
        · obtain ⟨v, w', ρ', h1, h2, h3, h4⟩ := hF.ext _ _ _ _ _ h ρ w _ hR hall
          exact opWp_value (hexec.trans h1) h2 h3 h4
      · cases h
    case builtin b =>
      have run : ∀ x : Sem Value, (∀ cs : Array Bool, builtin b ⟨ats⟩ type cs ⟨args.map a.eval⟩ = (do pure (.value (← x)))) →
          Did C.P N G ρ H w x (fun ρ' v => VR ρ' r v) H' → OpWp C.P N G ρ H w { dst, op := .call { callee := .builtin b, args := ⟨args⟩, argTypes := ⟨ats⟩ }, type, pos, after, guard } a r H' := by
        rintro x hx ⟨v, w', ρ', h1, h2, h3, h4⟩
        refine opWp_value (v := v) ?_ h2 h3 h4
        simp only [execOp, resolve, hargs, Sem.run_bind, Sem.run_pure, Result.andThen_ok, invoke]
        rw [hx]
        simp only [Sem.run_bind, h1, Result.andThen_ok, Sem.run_pure]
      cases b <;> simp only [reduceCtorEq] at h
      case append => exact run _ (fun _ => rfl) (aappend_ok hC hR (hev.list args) h)
      case copy => exact run _ (fun _ => rfl) (acopy_ok hC hR (hev.list args) h)
      case clear => exact run _ (fun _ => rfl) (aclear_ok hC hR (hev.list args) h)
      case delete => exact run _ (fun _ => rfl) (adelete_ok hC hR (hev.list args) h)

/-! ### Temporaries -/
structure AR (ρ : Names) (T : PT AV) (n : Nat) (a : Act) : Prop where
  defers : a.defers = []
  size : a.tmps.size = n
  vals : ∀ d v, T.get d = some v → ∃ x, a.tmps[d]? = some x ∧ VR ρ v x

def aeval (G : Nat) (T : PT AV) : Operand → AV
  | .tmp t => match T.get t with
    | some v => v
    | none => .junk
  | .const v => ofVal v
  | .global g => bif Nat.blt g G then .ptr g 0 else .junk
  | .func f => .func f [] []

theorem AR.eval {N : Bd} {G : Nat} {ρ : Names} {H : AH} {w : World} (hR : R N G ρ H w) {T : PT AV} {n : Nat} {a : Act} (h : AR ρ T n a) : VEv ρ (aeval G T) a.eval := by
  intro x
  cases x with
  | tmp t =>
    simp only [aeval, Act.eval]
    cases ht : T.get t with
    | none => simp [VR]
    | some v =>
      obtain ⟨y, hy, hr⟩ := h.vals t v ht
      simp only [Array.getD_eq_getD_getElem?, hy, Option.getD_some]
      exact hr
  | const v => exact VR.ofVal ρ v
  | global g =>
    simp only [aeval, Act.eval]
    cases hg : Nat.blt g G
    · simp [VR]
    · obtain ⟨room, hs⟩ := hR.glob g (Nat.le_of_ble_eq_true hg)
      simp only [cond_true, VR]
      exact ⟨_, hs, rfl⟩
  | func f => simp only [aeval, Act.eval, VR]; exact ⟨[], [], rfl, VRs.nil, VRs.nil⟩

theorem AR.ext {ρ ρ' : Names} (he : Ext ρ ρ') {T : PT AV} {n : Nat} {a : Act} (h : AR ρ T n a) : AR ρ' T n a :=
  ⟨h.defers, h.size, fun d v hd => let ⟨x, h1, h2⟩ := h.vals d v hd; ⟨x, h1, h2.ext he⟩⟩

def aput (n : Nat) (T : PT AV) (dst : Option Tmp) (v : AV) : PT AV :=
  match dst with
  | none => T
  | some d => bif Nat.blt d n then T.set d v else T

theorem AR.put {ρ : Names} {T : PT AV} {n : Nat} {a : Act} (h : AR ρ T n a) {v : AV} {x : Value} (hv : VR ρ v x) (dst : Option Tmp) : AR ρ (aput n T dst v) n (a.put dst x) := by
  cases dst with
  | none => exact h
  | some d =>
    simp only [aput, Act.put]
    cases hd : Nat.blt d n
    · have hge : n ≤ d := by
        rcases Nat.lt_or_ge d n with h | h
        · have : Nat.blt d n = true := Nat.ble_eq_true_of_le h
          rw [this] at hd; cases hd
        · exact h
      simp only [cond_false]
      refine ⟨h.defers, by simp [h.size], fun k v hk => ?_⟩
      obtain ⟨y, hy, hr⟩ := h.vals k v hk
      refine ⟨y, ?_, hr⟩
      show (a.tmps.setIfInBounds d x)[k]? = some y
      rw [Array.setIfInBounds, dif_neg (by rw [h.size]; omega)]; exact hy
    · have hlt : d < n := Nat.le_of_ble_eq_true hd
      simp only [cond_true]
      refine ⟨h.defers, by simp [h.size], fun k u hk => ?_⟩
      rw [PT.get_set] at hk
      show ∃ y, (a.tmps.setIfInBounds d x)[k]? = some y ∧ VR ρ u y
      split at hk
      · rename_i e
        subst e
        simp only [Option.some.injEq] at hk
        subst hk
        exact ⟨x, by simp [h.size, hlt], hv⟩
      · rename_i hne
        obtain ⟨y, hy, hr⟩ := h.vals k u hk
        exact ⟨y, by rw [Array.getElem?_setIfInBounds_ne (fun e => hne e.symm)]; exact hy, hr⟩

/-- Is the operation wanted? none: it is not known. -/
def awanted (ops : Array Oper) (T : PT AV) (o : Oper) : Option Bool :=
  match o.guard with
  | none => some true
  | some (j, want) => match (ops[j]?).bind (·.dst) with
    | none => some false
    | some d => match T.get d with
      | some (.bool b) => some (b == want)
      | some (.tuple []) => some false
      | _ => none

theorem awanted_ok {ρ : Names} {T : PT AV} {n : Nat} {a : Act} (h : AR ρ T n a) {ops : Array Oper} {o : Oper} {b : Bool} (hb : awanted ops T o = some b) : Region.wanted o (yielded ops a.tmps) = b := by
  unfold awanted at hb
  unfold Region.wanted
  split at hb
  · rename_i hg; rw [hg]; simpa using hb
  · rename_i j want hg
    rw [hg]
    simp only
    unfold yielded
    split at hb
    · rename_i hd
      rw [hd]
      simp at hb; subst hb; rfl
    · rename_i d hd
      rw [hd]
      simp only [Option.bind_some]
      split at hb
      · rename_i c hc
        obtain ⟨x, hx, hr⟩ := h.vals d _ hc
        simp only [VR] at hr; subst hr
        rw [hx]
        simp only [Option.some.injEq] at hb
        subst hb
        cases c <;> cases want <;> rfl
      · rename_i hc
        obtain ⟨x, hx, hr⟩ := h.vals d _ hc
        simp only [VR, VRs] at hr
        obtain ⟨vs, rfl, rfl⟩ := hr
        rw [hx]
        simp at hb; subst hb; rfl
      · cases hb

/-! ### One operation, whatever its kind -/
def evOp (C : Ctx) (F : Fns) (H : AH) (ev : Operand → AV) (o : Oper) : Option (AV × AH) :=
  match pureOp C ev o with
  | some v => some (v, H)
  | none => match readOp C H ev o with
    | some v => some (v, H)
    | none => match newOp C ev o with
      | some (ao, mk) => some (mk H.next, H.alloc ao)
      | none => chainOp C F H ev o

theorem evOp_ok {C : Ctx} (hC : C.OK) {N : Bd} {G : Nat} {F : Fns} (hF : F.OK C N G) {ρ : Names} {H H' : AH} {w : World} (hR : R N G ρ H w) {ev : Operand → AV} {a : Act} (hev : VEv ρ ev a.eval) {o : Oper} {r : AV} (h : evOp C F H ev o = some (r, H')) :
    OpWp C.P N G ρ H w o a r H' := by
  unfold evOp at h
  split at h
  · rename_i v hv
    simp only [Option.some.injEq, Prod.mk.injEq] at h
    obtain ⟨rfl, rfl⟩ := h
    obtain ⟨u, hu, hr⟩ := pureOp_ok hC hev hv w
    exact opWp_value hu hr hR (Fr.refl _ _ _)
  · split at h
    · rename_i v hv
      simp only [Option.some.injEq, Prod.mk.injEq] at h
      obtain ⟨rfl, rfl⟩ := h
      obtain ⟨u, w', hu, hr, hR', hF'⟩ := readOp_ok hC hR hev hv
      exact opWp_value hu hr hR' hF'
    · split at h
      · rename_i ao mk hn
        simp only [Option.some.injEq, Prod.mk.injEq] at h
        obtain ⟨rfl, rfl⟩ := h
        obtain ⟨v, ob, d, s, hm⟩ := newOp_ok hC (w := w) hev hn H.next (hR.fresh _ (Nat.le_refl _))
        obtain ⟨h1, h2⟩ := hm.alloc hR
        exact opWp_value hm.run hm.val h1 h2
      · exact chainOp_ok hC hF hR hev h

/-! ### A region in the order of the text -/
def evOps (C : Ctx) (F : Fns) (G n : Nat) (ops : Array Oper) : List Oper → PT AV → AH → Option (PT AV × AH)
  | [], T, H => some (T, H)
  | o :: rest, T, H =>
    match awanted ops T o with
    | none => none
    | some false => evOps C F G n ops rest (aput n T o.dst (.tuple [])) H
    | some true =>
      match evOp C F H (aeval G T) o with
      | none => none
      | some (v, H') => evOps C F G n ops rest (aput n T o.dst v) H'

theorem evOps_ok {C : Ctx} (hC : C.OK) {N : Bd} {G : Nat} {F : Fns} (hF : F.OK C N G) {n : Nat} {ops : Array Oper} : ∀ {l : List Oper} {T T' : PT AV} {H H' : AH}, evOps C F G n ops l T H = some (T', H') → ∀ {ρ : Names} {w : World} {a : Act}, R N G ρ H w → AR ρ T n a →
    ∀ (Q : Exit → Act → World → Prop), (∀ ρ' a' w', AR ρ' T' n a' → R N G ρ' H' w' → Fr ρ H w ρ' H' w' → Q .normal a' w') → wpList C.P ops Q l a w
  | [], T, T', H, H', h, ρ, w, a, hR, hA, Q, hQ => by
    simp only [evOps, Option.some.injEq, Prod.mk.injEq] at h
    obtain ⟨rfl, rfl⟩ := h
    exact hQ ρ a w hA hR (Fr.refl _ _ _)
  | o :: rest, T, T', H, H', h, ρ, w, a, hR, hA, Q, hQ => by
    simp only [evOps] at h
    split at h
    · cases h
    · rename_i hw
      have hw' := awanted_ok hA hw
      unfold wpList
      rw [hw']
      simp only [Bool.false_eq_true, if_false]
      exact evOps_ok hC hF h hR (hA.put (by simp only [VR, undef]; exact ⟨[], rfl, VRs.nil⟩) o.dst) Q hQ
    · rename_i hw
      have hw' := awanted_ok hA hw
      split at h
      · cases h
      · rename_i v H1 hop
        unfold wpList
        rw [hw']
        simp only [if_true]
        refine .inl (evOp_ok hC hF hR (hA.eval hR) hop _ _ fun x w1 ρ1 hx hR1 hF1 => ?_)
        exact evOps_ok hC hF h hR1 ((hA.ext (hR.ext hF1)).put hx o.dst) Q fun ρ2 a2 w2 hA2 hR2 hF2 => hQ ρ2 a2 w2 hA2 hR2 (hF1.trans hF2)

end Go.AB

namespace Go.AB

mutual
def AV.beq : AV → AV → Bool
  | .bool a, .bool b => a == b
  | .int k a, .int j b => decide (k = j) && decide (a = b)
  | .str a, .str b => beqL a b
  | .nilp, .nilp => true
  | .ptr a b, .ptr c d => Nat.beq a c && Nat.beq b d
  | .nils, .nils => true
  | .slice a b c (.ex d) e, .slice a' b' c' (.ex d') e' => Nat.beq a a' && Nat.beq b b' && Nat.beq c c' && Nat.beq d d' && Nat.beq e e'
  | .slice a b c (.lo d) e, .slice a' b' c' (.lo d') e' => Nat.beq a a' && Nat.beq b b' && Nat.beq c c' && Nat.beq d d' && Nat.beq e e'
  | .empty a, .empty b => Nat.beq a b
  | .nilm, .nilm => true
  | .map a, .map b => Nat.beq a b
  | .func f fs as, .func g gs bs => Nat.beq f g && AV.beqs fs gs && AV.beqs as bs
  | .nilf, .nilf => true
  | .iface t a, .iface u b => Nat.beq t u && AV.beq a b
  | .nili, .nili => true
  | .agg as, .agg bs => AV.beqs as bs
  | .tuple as, .tuple bs => AV.beqs as bs
  | _, _ => false
def AV.beqs : List AV → List AV → Bool
  | [], [] => true
  | a :: as, b :: bs => AV.beq a b && AV.beqs as bs
  | _, _ => false
end

mutual
theorem AV.beq_eq : ∀ a b : AV, AV.beq a b = true → a = b
  | .bool a, b, h => by cases b <;> simp [AV.beq] at h; simp [h]
  | .int k a, b, h => by cases b <;> simp [AV.beq] at h; simp [h]
  | .str a, b, h => by cases b <;> simp [AV.beq, beqL_eq] at h; simp [h]
  | .nilp, b, h => by cases b <;> simp [AV.beq] at h; rfl
  | .ptr _ _, b, h => by cases b <;> simp [AV.beq] at h; simp [h]
  | .nils, b, h => by cases b <;> simp [AV.beq] at h; rfl
  | .slice _ _ _ (.ex _) _, b, h => by cases b with
    | slice _ _ _ c _ => cases c <;> simp [AV.beq] at h; simp [h]
    | _ => simp [AV.beq] at h
  | .slice _ _ _ (.lo _) _, b, h => by cases b with
    | slice _ _ _ c _ => cases c <;> simp [AV.beq] at h; simp [h]
    | _ => simp [AV.beq] at h
  | .empty _, b, h => by cases b <;> simp [AV.beq] at h; simp [h]
  | .nilm, b, h => by cases b <;> simp [AV.beq] at h; rfl
  | .map _, b, h => by cases b <;> simp [AV.beq] at h; simp [h]
  | .func f fs as, b, h => by
    cases b <;> simp [AV.beq] at h
    rw [h.1.1, AV.beqs_eq _ _ h.1.2, AV.beqs_eq _ _ h.2]
  | .nilf, b, h => by cases b <;> simp [AV.beq] at h; rfl
  | .iface t a, b, h => by
    cases b <;> simp [AV.beq] at h
    rw [h.1, AV.beq_eq _ _ h.2]
  | .nili, b, h => by cases b <;> simp [AV.beq] at h; rfl
  | .agg as, b, h => by
    cases b <;> simp [AV.beq] at h
    rw [AV.beqs_eq _ _ h]
  | .tuple as, b, h => by
    cases b <;> simp [AV.beq] at h
    rw [AV.beqs_eq _ _ h]
  | .junk, b, h => by cases b <;> simp [AV.beq] at h
theorem AV.beqs_eq : ∀ a b : List AV, AV.beqs a b = true → a = b
  | [], b, h => by cases b <;> simp [AV.beqs] at h; rfl
  | a :: as, b, h => by
    cases b <;> simp [AV.beqs] at h
    rw [AV.beq_eq _ _ h.1, AV.beqs_eq _ _ h.2]
end

/-! ### A region that draws -/
/-- New blocks beside a heap: those that are selected, by their reserved names. -/
def addNews (n0 : Nat) (sel : Nat → Bool) : List (Nat × AO) → AH → AH
  | [], H => H
  | (a, ao) :: l, H => addNews n0 sel l (bif sel a then H.set (n0 + a) ao else H)

/-- A stage: the heap behind some of the operations that act, all that those waited for, which they are. -/
structure Stage where
  H : AH
  cm : Nat
  done : Nat

inductive Kind where
  | skip
  | pure
  | read
  | new (ao : AO)
  | chain (H' : AH)

structure Row where
  o : Oper
  i : Nat
  anc : Nat
  T : PT AV
  s : Stage
  v : AV
  kd : Kind

def stageOf (r : Row) : Stage :=
  match r.kd with
  | .chain H' => ⟨H', r.s.cm ||| r.anc, r.s.done ||| 2 ^ r.i⟩
  | _ => r.s

/-- What lies in memory for an operation: of the new blocks those that it waits for. -/
def viewOf (n0 : Nat) (news : List (Nat × AO)) (anc : Nat) (s : Stage) : AH := addNews n0 (fun a => anc.testBit a && !s.cm.testBit a) news s.H

def mkRow (C : Ctx) (F : Fns) (G n0 : Nat) (ops : Array Oper) (news : List (Nat × AO)) (i anc : Nat) (T : PT AV) (s : Stage) (o : Oper) : Option Row :=
  match awanted ops T o with
  | none => none
  | some false => some ⟨o, i, anc, T, s, .tuple [], .skip⟩
  | some true =>
    match pureOp C (aeval G T) o with
    | some v => some ⟨o, i, anc, T, s, v, .pure⟩
    | none =>
      match readOp C (viewOf n0 news anc s) (aeval G T) o with
      | some v => some ⟨o, i, anc, T, s, v, .read⟩
      | none =>
        match newOp C (aeval G T) o with
        | some (ao, mk) => some ⟨o, i, anc, T, s, mk (n0 + i), .new ao⟩
        | none =>
          match chainOp C F (viewOf n0 news anc s) (aeval G T) o with
          | some (v, H') => bif Nat.beq (s.done &&& anc) s.done then some ⟨o, i, anc, T, s, v, .chain H'⟩ else none
          | none => none

def newsOf (r : Row) : List (Nat × AO) :=
  match r.kd with
  | .new ao => [(r.i, ao)]
  | _ => []

def mkRows (C : Ctx) (F : Fns) (G n n0 : Nat) (ops : Array Oper) : List (Oper × Nat) → Nat → List (Nat × AO) → PT AV → Stage → Option (List Row × List (Nat × AO) × PT AV × Stage)
  | [], _, news, T, s => some ([], news, T, s)
  | (o, anc) :: rest, i, news, T, s =>
    match mkRow C F G n0 ops news i anc T s o with
    | none => none
    | some r =>
      match mkRows C F G n n0 ops rest (i + 1) (news ++ newsOf r) (aput n T o.dst r.v) (stageOf r) with
      | none => none
      | some (rs, x) => some (r :: rs, x)

def isChain : Kind → Bool
  | .chain _ => true
  | _ => false

def isRead : Kind → Bool
  | .read => true
  | _ => false

/-- A read yields the same at every stage at which it may come up. -/
def readAt (C : Ctx) (G n0 : Nat) (news : List (Nat × AO)) (chs : Nat) (r : Row) (s : Stage) : Bool :=
  bif Nat.beq (s.done &&& (r.anc &&& chs)) (r.anc &&& chs) && !s.cm.testBit r.i then
    match readOp C (viewOf n0 news r.anc s) (aeval G r.T) r.o with
    | some v => AV.beq v r.v
    | none => false
  else true

def allStages (s0 : Stage) (rs : List Row) : List Stage := s0 :: (rs.filter fun r => isChain r.kd).map stageOf

def PT.every {α : Type} (p : α → Bool) : PT α → Bool
  | .leaf => true
  | .node l v r => (match v with
    | some a => p a
    | none => true) && PT.every p l && PT.every p r

def notMap : AO → Bool
  | .map _ _ => false
  | _ => true

def plain : AO → Bool
  | .cells false _ => true
  | .map _ _ => true
  | _ => false

/-- No iterator goes over a new block that is not yet merged; asked only where a map is among the new blocks. -/
def mitOk (n0 len : Nat) (news : List (Nat × AO)) (st : Stage) : Bool :=
  (news.all fun p => notMap p.2) || st.H.t.every fun o => match o with
    | .miter m _ _ _ => Nat.blt m n0 || Nat.ble (n0 + len) m || st.cm.testBit (m - n0)
    | _ => true

def evDraw (C : Ctx) (F : Fns) (G n : Nat) (ops : Array Oper) (T : PT AV) (H : AH) : Option (PT AV × AH) :=
  let l := ops.toList
  let anc := (Region.before ops).toList
  let n0 := H.next
  let s0 : Stage := ⟨⟨H.t, n0 + l.length⟩, 0, 0⟩
  match mkRows C F G n n0 ops (l.zip anc) 0 [] T s0 with
  | none => none
  | some (rs, news, T', s) =>
    bif (news.all fun p => plain p.2) && ((allStages s0 rs).all fun st => mitOk n0 l.length news st) && (rs.filter fun r => isRead r.kd).all fun r => (allStages s0 rs).all fun st => readAt C G n0 news s.done r st then
      some (T', addNews n0 (fun a => !s.cm.testBit a) news s.H)
    else none

/-! ### Code -/
inductive AEx where
  | normal
  | exit (id : Nat)
  | ret

def evC (C : Ctx) (F : Fns) (G n : Nat) : Nat → Code → PT AV → AH → Option (AEx × PT AV × AH)
  | 0, _, _, _ => none
  | fuel + 1, c, T, H =>
    match c with
    | .skip => some (.normal, T, H)
    | .label _ => some (.normal, T, H)
    | .exit id => some (.exit id, T, H)
    | .ret => some (.ret, T, H)
    | .seq a b => match evC C F G n fuel a T H with
      | some (.normal, T', H') => evC C F G n fuel b T' H'
      | r => r
    | .cond c a b => match aeval G T c with
      | .bool true => evC C F G n fuel a T H
      | .bool false => evC C F G n fuel b T H
      | _ => none
    | .block id b => match evC C F G n fuel b T H with
      | some (.exit i, T', H') => if i = id then some (.normal, T', H') else some (.exit i, T', H')
      | r => r
    | .loop b => match evC C F G n fuel b T H with
      | some (.normal, T', H') => evC C F G n fuel (.loop b) T' H'
      | r => r
    | .scope b => evC C F G n fuel b T H
    | .region _ ops draw =>
      match (bif draw then evDraw C F G n ops T H else evOps C F G n ops ops.toList T H) with
      | some (T', H') => some (.normal, T', H')
      | none => none
    | _ => none

def aresult (C : Ctx) (T : PT AV) (H : AH) : ResultVar → Option AV
  | .tmp t => T.get t
  | .cell a t => match T.get a with
    | some p => aload C H t p
    | none => none

def aresults (C : Ctx) (T : PT AV) (H : AH) : List ResultVar → Option (List AV)
  | [] => some []
  | r :: rs => match aresult C T H r, aresults C T H rs with
    | some a, some as => some (a :: as)
    | _, _ => none

def one : List AV → AV
  | [a] => a
  | as => .tuple as

def evFn (C : Ctx) (F : Fns) (G fuel : Nat) (g : Func) (args : List AV) (H : AH) : Option (AV × AH) :=
  match g.body with
  | none => none
  | some c => bif Nat.ble args.length g.ntmps then
      match evC C F G g.ntmps fuel c (PT.ofList .leaf 0 args) H with
      | some (.exit _, _, _) => none
      | some (_, T, H') => (aresults C T H' g.results.toList).map fun as => (one as, H')
      | none => none
    else none

def fnOk (g : Func) : Bool := g.body.isSome && !(g.name == "runtime.NumGoroutine")

/-- Calls, so deep at most. What 'known' answers is taken as it is. -/
def evCall (C : Ctx) (known : FuncId → Option (List AV → AH → Option (AV × AH))) (ext : FuncId → List AV → AH → Option (AV × AH)) (G fuel : Nat) : Nat → FuncId → List AV → AH → Option (AV × AH)
  | 0, _, _, _ => none
  | d + 1, f, args, H =>
    match known f with
    | some k => k args H
    | none =>
      match C.fn f with
      | none => none
      | some g => bif fnOk g then evFn C ⟨evCall C known ext G fuel d, ext⟩ G fuel g args H else none

end Go.AB

namespace Go.AB

/-! ### Which operations an operation waits for -/
theorem foldl_push_get {α β : Type} (f : Array β → α → β) : ∀ (l : List α) (acc : Array β) (i : Nat), i < l.length →
    ∃ pre : Array β, (l.foldl (fun acc o => acc.push (f acc o)) acc)[acc.size + i]? = (l[i]?).map (fun o => f pre o) ∧ pre.size = acc.size + i ∧ (∀ k, k < pre.size → pre[k]? = (l.foldl (fun acc o => acc.push (f acc o)) acc)[k]?)
  | [], acc, i, h => by simp at h
  | o :: l, acc, i, h => by
    have keep : ∀ (l : List α) (acc : Array β) (k : Nat), k < acc.size → (l.foldl (fun acc o => acc.push (f acc o)) acc)[k]? = acc[k]? := by
      intro l
      induction l with
      | nil => intro acc k _; rfl
      | cons o l ih =>
        intro acc k hk
        simp only [List.foldl_cons]
        rw [ih _ _ (by simp; omega), Array.getElem?_push, if_neg (by omega)]
    cases i with
    | zero =>
      refine ⟨acc, ?_, by simp, ?_⟩
      · simp only [List.foldl_cons, Nat.add_zero]
        rw [keep _ _ _ (by simp)]
        simp
      · intro k hk
        rw [keep _ _ _ hk]
    | succ i =>
      obtain ⟨pre, h1, h2, h3⟩ := foldl_push_get f l (acc.push (f acc o)) i (by simpa using h)
      refine ⟨pre, ?_, by rw [h2]; simp; omega, fun k hk => ?_⟩
      · simp only [List.foldl_cons]
        rw [show acc.size + (i + 1) = (acc.push (f acc o)).size + i by simp; omega]
        simpa using h1
      · simpa using h3 k hk

/-- What an operation waits for, it waits for by way of an edge of its own. -/
theorem before_spec (ops : Array Oper) {i j : Nat} (h : ((Region.before ops).getD i 0).testBit j = true) :
    ∃ o, ops[i]? = some o ∧ ∃ e ∈ o.after, Region.binds .any e = true ∧ (e.on = j ∨ ((Region.before ops).getD e.on 0).testBit j = true ∧ e.on < i) := by
  have hsz : (Region.before ops).size = ops.size := by
    unfold Region.before
    rw [← Array.foldl_toList]
    have : ∀ (l : List Oper) (acc : Array Nat) (f : Array Nat → Oper → Nat), (l.foldl (fun acc o => acc.push (f acc o)) acc).size = acc.size + l.length := by
      intro l
      induction l with
      | nil => intro acc f; simp
      | cons o l ih => intro acc f; simp only [List.foldl_cons]; rw [ih]; simp; omega
    rw [this]; simp
  by_cases hi : i < ops.size
  · unfold Region.before at h ⊢
    rw [← Array.foldl_toList] at h ⊢
    obtain ⟨pre, h1, h2, h3⟩ := foldl_push_get (fun acc (o : Oper) => o.after.foldl (fun s e => if Region.binds .any e then s ||| 2 ^ e.on ||| acc.getD e.on 0 else s) 0) ops.toList #[] i (by simpa using hi)
    simp only [List.size_toArray, List.length_nil, Nat.zero_add] at h1 h2
    have ho : ops[i]? = some ops[i] := by simp [hi]
    have hol : ops.toList[i]? = some ops[i] := by simp [hi]
    rw [hol] at h1
    refine ⟨ops[i], ho, ?_⟩
    rw [Array.getD_eq_getD_getElem?, h1] at h
    simp only [Option.map_some, Option.getD_some] at h
    rw [← Array.foldl_toList] at h
    have key : ∀ (l : List Edge) (s0 : Nat), (l.foldl (fun s e => if Region.binds .any e then s ||| 2 ^ e.on ||| pre.getD e.on 0 else s) s0).testBit j = true → s0.testBit j = true ∨ ∃ e ∈ l, Region.binds .any e = true ∧ (e.on = j ∨ (pre.getD e.on 0).testBit j = true) := by
      intro l
      induction l with
      | nil => intro s0 h; exact .inl h
      | cons e l ih =>
        intro s0 h
        simp only [List.foldl_cons] at h
        rcases ih _ h with h | ⟨e', he', r⟩
        · split at h
          · rename_i hb
            simp only [Nat.testBit_or, Bool.or_eq_true] at h
            rcases h with (h | h) | h
            · exact .inl h
            · right
              refine ⟨e, by simp, hb, .inl ?_⟩
              rw [Nat.testBit_two_pow] at h
              simpa using h
            · exact .inr ⟨e, by simp, hb, .inr h⟩
          · exact .inl h
        · exact .inr ⟨e', by simp [he'], r⟩
    rcases key _ _ h with h | ⟨e, he, hb, h⟩
    · simp at h
    · refine ⟨e, Array.mem_toList_iff.1 he, hb, ?_⟩
      rcases h with h | h
      · exact .inl h
      · right
        have hlt : e.on < pre.size := by
          rcases Nat.lt_or_ge e.on pre.size with h' | h'
          · exact h'
          · rw [Array.getD_eq_getD_getElem?, Array.getElem?_eq_none h'] at h; simp at h
        refine ⟨?_, by omega⟩
        rw [Array.getD_eq_getD_getElem?, ← h3 e.on hlt, ← Array.getD_eq_getD_getElem?]
        exact h
  · rw [Array.getD_eq_getD_getElem?, Array.getElem?_eq_none (by omega)] at h
    simp at h

/-! ### What is asked of a region's text -/
def tmpsOf (ops : Array Oper) (o : Oper) : List Nat :=
  o.dst.toList ++ (o.op.operands.toList.filterMap fun | .tmp t => some t | _ => none) ++
  (match o.guard with
   | some (g, _) => ((ops[g]?).bind (·.dst)).toList
   | none => [])

def memB (d : Nat) : List Nat → Bool
  | [] => false
  | x :: l => Nat.beq d x || memB d l

theorem memB_iff {d : Nat} : ∀ {l : List Nat}, memB d l = true ↔ d ∈ l
  | [] => by simp [memB]
  | x :: l => by
    simp only [memB, Bool.or_eq_true, memB_iff, List.mem_cons]
    constructor
    · rintro (h | h)
      · exact .inl (Nat.eq_of_beq_eq_true h)
      · exact .inr h
    · rintro (h | h)
      · exact .inl (by subst h; exact Nat.beq_refl _)
      · exact .inr h

def clash (a b : Option Nat × List Nat) : Bool :=
  (match a.1 with
   | some d => memB d b.2
   | none => false) ||
  (match b.1 with
   | some d => memB d a.2
   | none => false)

/-- Each pair of operations of which one writes what the other names is in order. -/
def pairsOk (x : Option Nat × List Nat) (i : Nat) : List ((Option Nat × List Nat) × Nat) → Bool
  | [] => true
  | (y, anc) :: l => (!clash x y || anc.testBit i) && pairsOk x i l

def allPairs : Nat → List ((Option Nat × List Nat) × Nat) → Bool
  | _, [] => true
  | i, (x, _) :: l => pairsOk x i l && allPairs (i + 1) l

def edgesOk : Nat → List Oper → Bool
  | _, [] => true
  | i, o :: l => (o.after.toList.all fun e => !Region.binds .any e || Nat.blt e.on i) && edgesOk (i + 1) l

def drawOK (ops : Array Oper) : Bool :=
  edgesOk 0 ops.toList && allPairs 0 ((ops.toList.map fun o => (o.dst, tmpsOf ops o)).zip (Region.before ops).toList) && (ops.toList.all fun o => match o.op with | .select .. => false | _ => true) && Nat.beq (Region.before ops).size ops.size

def codeOK : Code → Bool
  | .region _ ops d => !d || drawOK ops
  | .seq a b => codeOK a && codeOK b
  | .cond _ a b => codeOK a && codeOK b
  | .block _ b => codeOK b
  | .loop b => codeOK b
  | .scope b => codeOK b
  | _ => true

theorem edgesOk_spec : ∀ {l : List Oper} {i : Nat}, edgesOk i l = true → ∀ k o, l[k]? = some o → ∀ e ∈ o.after, Region.binds .any e = true → e.on < i + k
  | [], i, _, k, o, h, _, _, _ => by simp at h
  | o :: l, i, h, k, o', hk, e, he, hb => by
    simp only [edgesOk, Bool.and_eq_true] at h
    cases k with
    | zero =>
      simp at hk; subst hk
      have := List.all_eq_true.1 h.1 e (Array.mem_toList_iff.2 he)
      simp only [hb, Bool.not_true, Bool.false_or] at this
      exact Nat.le_of_ble_eq_true this
    | succ k =>
      have := edgesOk_spec h.2 k o' (by simpa using hk) e he hb
      omega

theorem pairsOk_spec {x : Option Nat × List Nat} {i : Nat} : ∀ {l : List ((Option Nat × List Nat) × Nat)}, pairsOk x i l = true → ∀ (k : Nat) (y : Option Nat × List Nat) (anc : Nat), l[k]? = some (y, anc) → clash x y = true → anc.testBit i = true
  | [], _, k, y, anc, h, _ => by simp at h
  | (y, anc) :: l, h, k, y', anc', hk, hc => by
    simp only [pairsOk, Bool.and_eq_true] at h
    cases k with
    | zero =>
      simp at hk
      obtain ⟨rfl, rfl⟩ := hk
      have := h.1
      rw [hc] at this
      simpa using this
    | succ k => exact pairsOk_spec h.2 k y' anc' (by simpa using hk) hc

theorem allPairs_spec : ∀ {l : List ((Option Nat × List Nat) × Nat)} {i0 : Nat}, allPairs i0 l = true → ∀ (i j : Nat) (x y : Option Nat × List Nat) (ax ay : Nat), i < j → l[i]? = some (x, ax) → l[j]? = some (y, ay) → clash x y = true → ay.testBit (i0 + i) = true
  | [], _, _, i, j, _, _, _, _, _, h, _, _ => by simp at h
  | (x0, a0) :: l, i0, h, i, j, x, y, ax, ay, hij, hi, hj, hc => by
    simp only [allPairs, Bool.and_eq_true] at h
    obtain ⟨j, rfl⟩ : ∃ j', j = j' + 1 := ⟨j - 1, by omega⟩
    cases i with
    | zero =>
      simp at hi
      obtain ⟨rfl, rfl⟩ := hi
      exact pairsOk_spec h.1 j y ay (by simpa using hj) hc
    | succ i =>
      have := allPairs_spec h.2 i j x y ax ay (by omega) (by simpa using hi) (by simpa using hj) hc
      rwa [show i0 + (i + 1) = i0 + 1 + i by omega]

/-- What a region's text bears. -/
structure DrawOK (ops : Array Oper) : Prop where
  edges : ∀ k o, ops[k]? = some o → ∀ e ∈ o.after, Region.binds .any e = true → e.on < k
  pairs : ∀ i j a b, i < j → ops[i]? = some a → ops[j]? = some b → clash (a.dst, tmpsOf ops a) (b.dst, tmpsOf ops b) = true → ((Region.before ops).getD j 0).testBit i = true
  size : (Region.before ops).size = ops.size
  nosel : ∀ (j : Nat) (o : Oper) cs b, ops[j]? = some o → o.op ≠ .select cs b

theorem drawOK_spec {ops : Array Oper} (h : drawOK ops = true) : DrawOK ops := by
  simp only [drawOK, Bool.and_eq_true] at h
  obtain ⟨⟨⟨h1, h2⟩, h3⟩, h4⟩ := h
  have hsz := Nat.eq_of_beq_eq_true h4
  refine ⟨fun k o hk e he hb => ?_, fun i j a b hij ha hb hc => ?_, hsz, fun j o cs b ho e => ?_⟩
  · have := edgesOk_spec h1 k o (by simpa using hk) e he hb
    omega
  · have hj : j < ops.size := by
      rcases Nat.lt_or_ge j ops.size with h | h
      · exact h
      · rw [Array.getElem?_eq_none h] at hb; cases hb
    have gi : ((ops.toList.map fun o => (o.dst, tmpsOf ops o)).zip (Region.before ops).toList)[i]? = some ((a.dst, tmpsOf ops a), (Region.before ops).getD i 0) := by
      rw [List.getElem?_zip_eq_some]
      refine ⟨by rw [List.getElem?_map]; simp [ha], ?_⟩
      rw [Array.getD_eq_getD_getElem?]
      have : i < (Region.before ops).size := by omega
      simp [this]
    have gj : ((ops.toList.map fun o => (o.dst, tmpsOf ops o)).zip (Region.before ops).toList)[j]? = some ((b.dst, tmpsOf ops b), (Region.before ops).getD j 0) := by
      rw [List.getElem?_zip_eq_some]
      refine ⟨by rw [List.getElem?_map]; simp [hb], ?_⟩
      rw [Array.getD_eq_getD_getElem?]
      have : j < (Region.before ops).size := by omega
      simp [this]
    have := allPairs_spec h2 i j _ _ _ _ hij gi gj hc
    simpa using this
  · have := List.all_eq_true.1 h3 o (List.mem_of_getElem? (by simpa using ho))
    rw [e] at this
    simp at this

/-! ### What an operation's value hangs on: its own operands -/
section
variable {C : Ctx} {ev ev' : Operand → AV} {o : Oper}

theorem pureOp_congr (h : ∀ x ∈ o.op.operands, ev x = ev' x) : pureOp C ev o = pureOp C ev' o := by
  obtain ⟨dst, op, type, pos, after, guard⟩ := o
  have pairs : ∀ ps : Array (Nat × Operand), (∀ x ∈ (ps.toList.map (·.2)).toArray, ev x = ev' x) → (ps.toList.map fun p => (p.1, ev p.2)) = (ps.toList.map fun p => (p.1, ev' p.2)) := fun ps hp =>
    List.map_congr_left fun p hm => by rw [hp p.2 (by simp; exact ⟨p.1, by simpa using hm⟩)]
  have list : ∀ l : List Operand, (∀ x ∈ l, ev x = ev' x) → l.map ev = l.map ev' := fun l hl => List.map_congr_left hl
  cases op <;> simp only [Op.operands] at h <;> simp only [pureOp]
  case build t ps => rw [pairs ps h]
  case makeFunc fn first cap => rw [list first.toList (fun x hx => h x (by simp; left; simpa using hx)), list cap.toList (fun x hx => h x (by simp; right; simpa using hx))]
  case slice t x lo hi mx =>
    have e1 : lo.map ev = lo.map ev' := by cases lo with | none => rfl | some y => simp [h y (by simp)]
    have e2 : hi.map ev = hi.map ev' := by cases hi with | none => rfl | some y => simp [h y (by simp)]
    have e3 : mx.map ev = mx.map ev' := by cases mx with | none => rfl | some y => simp [h y (by simp)]
    rw [h x (by simp), e1, e2, e3]
  case call c =>
    obtain ⟨callee, args, ats⟩ := c
    cases callee <;> simp only [Call.operands] at h ⊢
    case builtin b => rw [list args.toList (fun x hx => h x (by simpa using hx))]
  all_goals (try rw [h _ (by simp)])
  all_goals (try rw [h _ (by simp)])
  all_goals (try rw [h _ (by simp)])

theorem readOp_congr {H : AH} (h : ∀ x ∈ o.op.operands, ev x = ev' x) : readOp C H ev o = readOp C H ev' o := by
  obtain ⟨dst, op, type, pos, after, guard⟩ := o
  cases op <;> simp only [Op.operands] at h <;> simp only [readOp]
  case slice t x lo hi mx =>
    have e1 : lo.map ev = lo.map ev' := by cases lo with | none => rfl | some y => simp [h y (by simp)]
    have e2 : hi.map ev = hi.map ev' := by cases hi with | none => rfl | some y => simp [h y (by simp)]
    have e3 : mx.map ev = mx.map ev' := by cases mx with | none => rfl | some y => simp [h y (by simp)]
    rw [h x (by simp), e1, e2, e3]
  case call c =>
    obtain ⟨callee, ⟨args⟩, ⟨ats⟩⟩ := c
    cases callee <;> simp only [Call.operands] at h ⊢
    case builtin b =>
      cases b <;> simp only
      cases ats <;> cases args <;> simp only
      rw [h _ (by simp)]
  all_goals (try rw [h _ (by simp)])
  all_goals (try rw [h _ (by simp)])

theorem newOp_congr (h : ∀ x ∈ o.op.operands, ev x = ev' x) : newOp C ev o = newOp C ev' o := by
  obtain ⟨dst, op, type, pos, after, guard⟩ := o
  have pairs : ∀ ps : Array (Nat × Operand), (∀ x ∈ (ps.toList.map (·.2)).toArray, ev x = ev' x) → (ps.toList.map fun p => (p.1, ev p.2)) = (ps.toList.map fun p => (p.1, ev' p.2)) := fun ps hp =>
    List.map_congr_left fun p hm => by rw [hp p.2 (by simp; exact ⟨p.1, by simpa using hm⟩)]
  cases op <;> simp only [Op.operands] at h <;> simp only [newOp]
  case buildSlice t n ps => rw [pairs ps h]
  case makeMap t r =>
    cases r with
    | none => rfl
    | some x => simp only; rw [h x (by simp)]
  all_goals (try rw [h _ (by simp)])
  all_goals (try rw [h _ (by simp)])

theorem chainOp_congr {F : Fns} {H : AH} (h : ∀ x ∈ o.op.operands, ev x = ev' x) : chainOp C F H ev o = chainOp C F H ev' o := by
  obtain ⟨dst, op, type, pos, after, guard⟩ := o
  have list : ∀ l : List Operand, (∀ x ∈ l, ev x = ev' x) → l.map ev = l.map ev' := fun l hl => List.map_congr_left hl
  cases op <;> simp only [Op.operands] at h <;> simp only [chainOp]
  case call c =>
    obtain ⟨callee, args, ats⟩ := c
    cases callee <;> simp only [Call.operands] at h ⊢
    case builtin b => rw [list args.toList (fun x hx => h x (by simpa using hx))]; cases b <;> rfl
    case value f => rw [list args.toList (fun x hx => h x (by simp; right; simpa using hx)), h f (by simp)]
  all_goals (try rw [h _ (by simp)])
  all_goals (try rw [h _ (by simp)])
  all_goals (try rw [h _ (by simp)])
end

end Go.AB

namespace Go.AB

theorem R.sub {N : Bd} {G : Nat} {ρ : Names} {H Hs : AH} {w : World} (hR : R N G ρ H w) (hg : ∀ b o, Hs.get b = some o → H.get b = some o) (hn : Hs.next = H.next) : R N G ρ Hs w where
  size := hR.size
  glob := hR.glob
  obj b o hb := by
    obtain ⟨s, h1, h2⟩ := hR.obj b o (hg _ _ hb)
    exact ⟨s, h1, h2.keep (fun _ _ h => h) rfl (fun m l v c _ sm ps _ h => ⟨hg _ _ h, rfl⟩)⟩
  inj b b' o o' s s' h1 h2 := hR.inj b b' o o' s s' (hg _ _ h1) (hg _ _ h2)
  fresh b hb := hR.fresh b (hn ▸ hb)
  gn := hn ▸ hR.gn
  vers b m l v c hb := by rw [hn]; exact hR.vers b m l v c (hg _ _ hb)
  flat := hR.flat
  draws := hR.draws

/-- **A step in a sub-heap leaves the other blocks.** -/
theorem R.union {N : Bd} {G : Nat} {ρ ρ' : Names} {H Hs H' H2 : AH} {w w' : World} (hR : R N G ρ H w) (hg : ∀ b o, Hs.get b = some o → H.get b = some o) (hn : Hs.next = H.next)
    (hR' : R N G ρ' H' w') (hF : Fr ρ Hs w ρ' H' w') (hn2 : H2.next = H'.next)
    (h2 : ∀ b o, H2.get b = some o → H'.get b = some o ∨ (H.get b = some o ∧ Hs.get b = none ∧ o.rw = true ∧ ∀ m l v c, o ≠ .miter m l v c))
    (hm : ∀ b m l v c, H'.get b = some (.miter m l v c) → ∀ ps, H2.get m = some (.map ps v) → H'.get m = some (.map ps v)) :
    R N G ρ' H2 w' ∧ Fr ρ H w ρ' H2 w' := by
  have hRs := hR.sub hg hn
  have hext := hRs.ext hF
  have rest : ∀ b o, H.get b = some o → Hs.get b = none → o.rw = true → ∃ s, ρ b = some s ∧ ρ' b = some s ∧ OR N.n ρ H w s o ∧ s.blk < w.heap.size ∧ w'.heap[s.blk]? = w.heap[s.blk]? := by
    intro b o hb hnone hrw
    obtain ⟨s, hs, ho⟩ := hR.obj b o hb
    refine ⟨s, hs, hext _ _ hs, ho, ho.lt, hF.keep _ ho.lt fun b1 o1 s1 g1 g2 g3 e => ?_⟩
    have := hR.inj b1 b o1 o s1 s (hg _ _ g1) hb g2 hrw g3 hs e
    subst this
    rw [hnone] at g1; cases g1
  refine ⟨⟨hR'.size, hR'.glob, ?_, ?_, fun b hb => hR'.fresh b (hn2 ▸ hb), hn2 ▸ hR'.gn, ?_, hR'.flat, hR'.draws⟩, ⟨fun b hb => hF.same b (hn ▸ hb), by rw [hn2, ← hn]; exact hF.next, hF.size, ?_, ?_, ?_, hF.os, hF.tape, hF.output⟩⟩
  · intro b o hb
    rcases h2 b o hb with h | ⟨h, h0, hrw, hnm⟩
    · obtain ⟨s, h1, h3⟩ := hR'.obj b o h
      refine ⟨s, h1, h3.keep (fun _ _ h => h) rfl fun m l v c e sm ps hsm hg2 => ⟨?_, rfl⟩⟩
      subst e
      exact hm b m l v c h ps hg2
    · obtain ⟨s, _, h1, h3, _, h4⟩ := rest b o h h0 hrw
      exact ⟨s, h1, h3.keep hext h4 fun m l v c e => absurd e (hnm m l v c)⟩
  · have mixed : ∀ b b' o o' s s', H'.get b = some o → o.rw = true → ρ' b = some s → H.get b' = some o' → Hs.get b' = none → o'.rw = true → ρ' b' = some s' → s.blk = s'.blk → False := by
      intro b b' o o' s s' g1 r1 e1 g2 h0 r2 e2 he
      obtain ⟨t, ht, ht', _, hlt, _⟩ := rest b' o' g2 h0 r2
      rw [e2] at ht'; cases ht'
      rcases hF.own b o s g1 r1 e1 with h | ⟨b0, o0, s0, f1, f2, f3, f4⟩
      · omega
      · have := hR.inj b0 b' o0 o' s0 s' (hg _ _ f1) g2 f2 r2 f3 ht (f4.trans he)
        subst this
        rw [h0] at f1; cases f1
    intro b b' o o' s s' g1 g2 r1 r2 e1 e2 he
    rcases h2 b o g1 with h | ⟨h, h0, hrw, _⟩ <;> rcases h2 b' o' g2 with h' | ⟨h', h0', hrw', _⟩
    · exact hR'.inj b b' o o' s s' h h' r1 r2 e1 e2 he
    · exact (mixed b b' o o' s s' h r1 e1 h' h0' r2 e2 he).elim
    · exact (mixed b' b o' o s' s h' r2 e2 h h0 r1 e1 he.symm).elim
    · obtain ⟨t, ht, ht', _⟩ := rest b o h h0 hrw
      obtain ⟨t2, ht2, ht2', _⟩ := rest b' o' h' h0' hrw'
      rw [e1] at ht'; cases ht'
      rw [e2] at ht2'; cases ht2'
      exact hR.inj b b' o o' s s' h h' r1 r2 ht ht2 he
  · intro b m l v c hb
    rw [hn2]
    rcases h2 b _ hb with h | ⟨_, _, _, hnm⟩
    · exact hR'.vers b m l v c h
    · exact absurd rfl (hnm m l v c)
  · intro k hk hno
    exact hF.keep k hk fun b o s g1 g2 g3 => hno b o s (hg _ _ g1) g2 g3
  · intro b o s hb r1 e1
    rcases h2 b o hb with h | ⟨h, h0, hrw, _⟩
    · rcases hF.own b o s h r1 e1 with h | ⟨b0, o0, s0, f1, f2, f3, f4⟩
      · exact .inl h
      · exact .inr ⟨b0, o0, s0, hg _ _ f1, f2, f3, f4⟩
    · obtain ⟨t, ht, ht', _⟩ := rest b o h h0 hrw
      rw [e1] at ht'; cases ht'
      exact .inr ⟨b, o, s, h, r1, ht, rfl⟩
  · intro b o hlt hb
    rcases h2 b o hb with h | ⟨h, _⟩
    · obtain ⟨o0, h0⟩ := hF.dom b o (hn ▸ hlt) h
      exact ⟨o0, hg _ _ h0⟩
    · exact ⟨o, h⟩

/-- A new object by a reserved name. 'dom' of the frame is for the names that are not reserved: so the frame starts behind. -/
theorem R.allocAt {N : Bd} {G : Nat} {ρ : Names} {H H2 : AH} {w : World} (hR : R N G ρ H w) (ob : Obj) (d : Nat) (o : AO) (s : Seg) (b : Nat) (hb : ρ b = none) (hlt : b < H.next) (hs : s.blk = w.heap.size) (hz : s.base = 0)
    (hget : ∀ k, H2.get k = if k = b then some o else H.get k) (hn : H2.next = H.next)
    (ho : OR N.n (ρ.put b s) H2 { w with heap := w.heap.push ob, drawn := d } s o) (hv : ∀ m l v c, o ≠ .miter m l v c) (hd : w.drawn ≤ d := by first | exact Nat.le_refl _ | omega | (simp; done)) :
    R N G (ρ.put b s) H2 { w with heap := w.heap.push ob, drawn := d } := by
  have hext : Ext ρ (ρ.put b s) := Names.put_ext hb
  have hold : ∀ k, k < w.heap.size → (w.heap.push ob)[k]? = w.heap[k]? := fun k hk => by rw [Array.getElem?_push, if_neg (by omega)]
  have hother : ∀ k, k ≠ b → (ρ.put b s) k = ρ k := fun k hk => by simp [Names.put, hk]
  refine ⟨by have := hR.size; simp; omega, ?_, ?_, ?_, ?_, by rw [hn]; exact hR.gn, ?_, fun k t hk hN => (by
      by_cases e : k = b
      · subst e; rw [Names.put_same] at hk; cases hk; exact hz
      · rw [hother k e] at hk; exact hR.flat k t hk hN), Nat.le_trans hR.draws hd⟩
  · intro g hg
    obtain ⟨room, h⟩ := hR.glob g hg
    exact ⟨room, hext _ _ h⟩
  · intro k ok hk
    rw [hget] at hk
    split at hk
    · cases hk; subst_vars; exact ⟨s, Names.put_same _ _ _, ho⟩
    · rename_i hne
      obtain ⟨t, h1, h2⟩ := hR.obj k ok hk
      refine ⟨t, hext _ _ h1, h2.keep hext (hold _ h2.lt) fun m l v c e sm ps hm hg => ?_⟩
      rw [hget] at hg
      split at hg
      · rename_i hmn; subst hmn; rw [hb] at hm; cases hm
      · refine ⟨hg, hold _ ?_⟩
        obtain ⟨t', h3, h4⟩ := hR.obj m _ hg
        rw [hm] at h3; cases h3; exact h4.lt
  · intro k k' o1 o2 s1 s2 h1 h2 r1 r2 e1 e2 he
    rw [hget] at h1 h2
    split at h1 <;> split at h2
    · subst_vars; rfl
    · rename_i hk hk'
      subst hk
      rw [Names.put_same] at e1; cases e1
      rw [hother _ hk'] at e2
      obtain ⟨t, h3, h4⟩ := hR.obj k' _ h2
      rw [e2] at h3; cases h3
      have := h4.lt; omega
    · rename_i hk hk'
      subst hk'
      rw [Names.put_same] at e2; cases e2
      rw [hother _ hk] at e1
      obtain ⟨t, h3, h4⟩ := hR.obj k _ h1
      rw [e1] at h3; cases h3
      have := h4.lt; omega
    · rename_i hk hk'
      rw [hother _ hk] at e1
      rw [hother _ hk'] at e2
      exact hR.inj k k' o1 o2 s1 s2 h1 h2 r1 r2 e1 e2 he
  · intro k hk
    rw [hn] at hk
    rw [hother k (by omega)]; exact hR.fresh k hk
  · intro k m l v c hk
    rw [hget] at hk
    rw [hn]
    split at hk
    · cases hk; exact absurd rfl (hv m l v c)
    · exact hR.vers k m l v c hk

theorem PT.every_get {α : Type} {p : α → Bool} : ∀ {t : PT α}, t.every p = true → ∀ k a, t.get k = some a → p a = true
  | .leaf, _, k, a, h => by simp [PT.get] at h
  | .node l v r, h, k, a, hk => by
    simp only [PT.every, Bool.and_eq_true] at h
    cases k with
    | zero => simp only [PT.get] at hk; rw [hk] at h; exact h.1.1
    | succ m =>
      simp only [PT.get] at hk
      cases hm : Nat.beq (m % 2) 0
      · rw [hm] at hk; exact PT.every_get h.2 _ a hk
      · rw [hm] at hk; exact PT.every_get h.1.2 _ a hk

/-! ### New blocks beside a heap -/
def pick (n0 : Nat) (sel : Nat → Bool) (b : Nat) : List (Nat × AO) → Option AO
  | [] => none
  | (a, ao) :: l => match pick n0 sel b l with
    | some x => some x
    | none => bif sel a && Nat.beq (n0 + a) b then some ao else none

theorem addNews_next {n0 : Nat} {sel : Nat → Bool} : ∀ (l : List (Nat × AO)) (H : AH), (addNews n0 sel l H).next = H.next
  | [], H => rfl
  | (a, ao) :: l, H => by
    simp only [addNews]
    rw [addNews_next l]
    cases sel a <;> rfl

theorem addNews_get {n0 : Nat} {sel : Nat → Bool} (b : Nat) : ∀ (l : List (Nat × AO)) (H : AH), (addNews n0 sel l H).get b = match pick n0 sel b l with
    | some x => some x
    | none => H.get b
  | [], H => rfl
  | (a, ao) :: l, H => by
    simp only [addNews, pick]
    rw [addNews_get b l]
    cases pick n0 sel b l with
    | some x => rfl
    | none =>
      cases hs : sel a
      · rfl
      · simp only [cond_true, Bool.true_and, AH.get_set]
        by_cases e : b = n0 + a
        · subst e; simp
        · rw [if_neg e]
          have : Nat.beq (n0 + a) b = false := by
            cases h : Nat.beq (n0 + a) b
            · rfl
            · exact absurd (Nat.eq_of_beq_eq_true h).symm e
          rw [this]; rfl

theorem pick_some {n0 : Nat} {sel : Nat → Bool} {b : Nat} {x : AO} : ∀ {l : List (Nat × AO)}, pick n0 sel b l = some x → ∃ a, (a, x) ∈ l ∧ sel a = true ∧ b = n0 + a
  | [], h => by simp [pick] at h
  | (a, ao) :: l, h => by
    simp only [pick] at h
    split at h
    · rename_i y hy
      simp only [Option.some.injEq] at h; subst h
      obtain ⟨c, h1, h2, h3⟩ := pick_some hy
      exact ⟨c, by simp [h1], h2, h3⟩
    · cases hc : (sel a && Nat.beq (n0 + a) b)
      · rw [hc] at h; cases h
      · rw [hc] at h
        simp only [cond_true, Option.some.injEq] at h; subst h
        simp only [Bool.and_eq_true] at hc
        exact ⟨a, by simp, hc.1, (Nat.eq_of_beq_eq_true hc.2).symm⟩

theorem pick_none {n0 : Nat} {sel : Nat → Bool} {b : Nat} : ∀ {l : List (Nat × AO)}, pick n0 sel b l = none → ∀ a x, (a, x) ∈ l → sel a = true → b ≠ n0 + a
  | [], _, a, x, hm, _ => by simp at hm
  | (a0, ao) :: l, h, a, x, hm, hs => by
    simp only [pick] at h
    split at h
    · cases h
    · rename_i hy
      rcases List.mem_cons.1 hm with e | hm
      · cases e
        intro e
        subst e
        rw [hs] at h
        simp at h
      · exact pick_none hy a x hm hs

/-- Keyed once each. -/
def Once (l : List (Nat × AO)) : Prop := ∀ a x y, (a, x) ∈ l → (a, y) ∈ l → x = y

theorem pick_congr {n0 : Nat} {sel sel' : Nat → Bool} {b : Nat} : ∀ {l : List (Nat × AO)}, (∀ a x, (a, x) ∈ l → sel a = sel' a) → pick n0 sel b l = pick n0 sel' b l
  | [], _ => rfl
  | (a, ao) :: l, h => by
    simp only [pick]
    rw [pick_congr (fun a x hm => h a x (by simp [hm])), h a ao (by simp)]

theorem addNews_append {n0 : Nat} {sel : Nat → Bool} : ∀ (l : List (Nat × AO)) {l' : List (Nat × AO)} (H : AH), (∀ a x, (a, x) ∈ l' → sel a = false) → addNews n0 sel (l ++ l') H = addNews n0 sel l H
  | [], [], H, _ => rfl
  | [], (a, ao) :: l', H, h => by
    have := addNews_append (n0 := n0) (sel := sel) [] (l' := l') H fun a x hm => h a x (by simp [hm])
    simp only [List.nil_append, addNews] at this ⊢
    rw [h a ao (by simp)]
    exact this
  | (a, ao) :: l, l', H, h => by
    simp only [List.cons_append, addNews]
    exact addNews_append l _ h

end Go.AB

namespace Go.AB

theorem Fr.allocAt {ρ0 ρ : Names} {H0 H H2 : AH} {w0 w : World} (hF : Fr ρ0 H0 w0 ρ H w) (ob : Obj) (d : Nat) (o : AO) (s : Seg) (b : Nat) (hb : H0.next ≤ b) (hs : s.blk = w.heap.size)
    (hget : ∀ k, H2.get k = if k = b then some o else H.get k) (hn : H2.next = H.next) : Fr ρ0 H0 w0 (ρ.put b s) H2 { w with heap := w.heap.push ob, drawn := d } where
  same k hk := by
    have : k ≠ b := by omega
    rw [show (ρ.put b s) k = ρ k by simp [Names.put, this]]
    exact hF.same k hk
  next := by rw [hn]; exact hF.next
  size := by have := hF.size; simp; omega
  keep k hk hno := by
    have := hF.size
    show (w.heap.push ob)[k]? = _
    rw [Array.getElem?_push, if_neg (by omega)]
    exact hF.keep k hk hno
  own k o1 s1 g1 r1 e1 := by
    rw [hget] at g1
    have := hF.size
    split at g1
    · rename_i hk
      subst hk
      rw [Names.put_same] at e1; cases e1
      left; omega
    · rename_i hk
      rw [show (ρ.put b s) k = ρ k by simp [Names.put, hk]] at e1
      exact hF.own k o1 s1 g1 r1 e1
  dom k o1 hk g1 := by
    rw [hget, if_neg (by omega)] at g1
    exact hF.dom k o1 hk g1
  os := hF.os
  tape := hF.tape
  output := hF.output

def Tof (rs : List Row) (T' : PT AV) (k : Nat) : PT AV :=
  match rs[k]? with
  | some r => r.T
  | none => T'

def Sof (rs : List Row) (s' : Stage) (k : Nat) : Stage :=
  match rs[k]? with
  | some r => r.s
  | none => s'

def KindOK (C : Ctx) (F : Fns) (G n0 : Nat) (ops : Array Oper) (news : List (Nat × AO)) (r : Row) : Prop :=
  (r.kd = .skip ∧ awanted ops r.T r.o = some false ∧ r.v = .tuple []) ∨
  (awanted ops r.T r.o = some true ∧ (
    (r.kd = .pure ∧ pureOp C (aeval G r.T) r.o = some r.v) ∨
    (r.kd = .read ∧ readOp C (viewOf n0 news r.anc r.s) (aeval G r.T) r.o = some r.v) ∨
    (∃ ao mk, r.kd = .new ao ∧ newOp C (aeval G r.T) r.o = some (ao, mk) ∧ r.v = mk (n0 + r.i)) ∨
    (∃ H', r.kd = .chain H' ∧ chainOp C F (viewOf n0 news r.anc r.s) (aeval G r.T) r.o = some (r.v, H') ∧ r.s.done &&& r.anc = r.s.done)))

theorem mkRow_spec {C : Ctx} {F : Fns} {G n0 : Nat} {ops : Array Oper} {news : List (Nat × AO)} {i anc : Nat} {T : PT AV} {s : Stage} {o : Oper} {r : Row} (h : mkRow C F G n0 ops news i anc T s o = some r) :
    r.o = o ∧ r.i = i ∧ r.anc = anc ∧ r.T = T ∧ r.s = s ∧ KindOK C F G n0 ops news r := by
  unfold mkRow at h
  split at h
  · cases h
  · rename_i hw
    simp only [Option.some.injEq] at h; subst h
    exact ⟨rfl, rfl, rfl, rfl, rfl, .inl ⟨rfl, hw, rfl⟩⟩
  · rename_i hw
    split at h
    · rename_i v hv
      simp only [Option.some.injEq] at h; subst h
      exact ⟨rfl, rfl, rfl, rfl, rfl, .inr ⟨hw, .inl ⟨rfl, hv⟩⟩⟩
    · split at h
      · rename_i v hv
        simp only [Option.some.injEq] at h; subst h
        exact ⟨rfl, rfl, rfl, rfl, rfl, .inr ⟨hw, .inr (.inl ⟨rfl, hv⟩)⟩⟩
      · split at h
        · rename_i ao mk hv
          simp only [Option.some.injEq] at h; subst h
          exact ⟨rfl, rfl, rfl, rfl, rfl, .inr ⟨hw, .inr (.inr (.inl ⟨ao, mk, rfl, hv, rfl⟩))⟩⟩
        · split at h
          · rename_i v H' hv
            cases hb : Nat.beq (s.done &&& anc) s.done
            · rw [hb] at h; cases h
            · rw [hb] at h
              simp only [cond_true, Option.some.injEq] at h; subst h
              exact ⟨rfl, rfl, rfl, rfl, rfl, .inr ⟨hw, .inr (.inr (.inr ⟨H', rfl, hv, Nat.eq_of_beq_eq_true hb⟩))⟩⟩
          · cases h

theorem mkRows_spec {C : Ctx} {F : Fns} {G n n0 : Nat} {ops : Array Oper} : ∀ {l : List (Oper × Nat)} {i : Nat} {news nw : List (Nat × AO)} {T T' : PT AV} {s s' : Stage} {rs : List Row},
    mkRows C F G n n0 ops l i news T s = some (rs, nw, T', s') →
    rs.length = l.length ∧ nw = news ++ rs.flatMap newsOf ∧ Tof rs T' 0 = T ∧ Sof rs s' 0 = s ∧
    ∀ k o anc, l[k]? = some (o, anc) → ∃ r, rs[k]? = some r ∧ mkRow C F G n0 ops (news ++ (rs.take k).flatMap newsOf) (i + k) anc (Tof rs T' k) (Sof rs s' k) o = some r ∧
      Tof rs T' (k + 1) = aput n (Tof rs T' k) o.dst r.v ∧ Sof rs s' (k + 1) = stageOf r
  | [], i, news, nw, T, T', s, s', rs, h => by
    simp only [mkRows, Option.some.injEq, Prod.mk.injEq] at h
    obtain ⟨rfl, rfl, rfl, rfl⟩ := h
    refine ⟨rfl, by simp, rfl, rfl, fun k o anc hk => by simp at hk⟩
  | (o, anc) :: l, i, news, nw, T, T', s, s', rs, h => by
    simp only [mkRows] at h
    split at h
    · cases h
    · rename_i r hr
      split at h
      · cases h
      · rename_i rs' x hx
        obtain ⟨nw', T'', s''⟩ := x
        simp only [Option.some.injEq, Prod.mk.injEq] at h
        obtain ⟨rfl, rfl, rfl, rfl⟩ := h
        obtain ⟨h1, h2, h3, h4, h5⟩ := mkRows_spec hx
        obtain ⟨g1, g2, g3, g4, g5, _⟩ := mkRow_spec hr
        refine ⟨by simp [h1], by rw [h2]; simp, by simp [Tof, g4], by simp [Sof, g5], fun k o' anc' hk => ?_⟩
        cases k with
        | zero =>
          simp at hk
          obtain ⟨rfl, rfl⟩ := hk
          refine ⟨r, by simp, ?_, ?_, ?_⟩
          · simpa [Tof, Sof, g4, g5] using hr
          · have : Tof (r :: rs') T'' (0 + 1) = Tof rs' T'' 0 := by simp [Tof]
            rw [this, h3]; simp [Tof, g4]
          · have : Sof (r :: rs') s'' (0 + 1) = Sof rs' s'' 0 := by simp [Sof]
            rw [this, h4]
        | succ k =>
          obtain ⟨r', q1, q2, q3, q4⟩ := h5 k o' anc' (by simpa using hk)
          refine ⟨r', by simpa using q1, ?_, ?_, ?_⟩
          · have e1 : Tof (r :: rs') T'' (k + 1) = Tof rs' T'' k := by simp [Tof]
            have e2 : Sof (r :: rs') s'' (k + 1) = Sof rs' s'' k := by simp [Sof]
            rw [e1, e2, show i + (k + 1) = i + 1 + k by omega]
            simpa using q2
          · have e1 : Tof (r :: rs') T'' (k + 1) = Tof rs' T'' k := by simp [Tof]
            have e2 : Tof (r :: rs') T'' (k + 1 + 1) = Tof rs' T'' (k + 1) := by simp [Tof]
            rw [e1, e2]; exact q3
          · have e2 : Sof (r :: rs') s'' (k + 1 + 1) = Sof rs' s'' (k + 1) := by simp [Sof]
            rw [e2]; exact q4

/-- An operation waits for earlier ones alone. -/
theorem anc_lt {ops : Array Oper} (hD : DrawOK ops) : ∀ (i j : Nat), ((Region.before ops).getD i 0).testBit j = true → j < i := by
  intro i
  induction i using Nat.strongRecOn with
  | ind i ih =>
    intro j h
    obtain ⟨o, ho, e, he, hb, h⟩ := before_spec ops h
    have := hD.edges i o ho e he hb
    rcases h with h | ⟨h, _⟩
    · omega
    · have := ih e.on (by omega) j h; omega

/-- The facts of a region's rows. -/
structure Facts (C : Ctx) (F : Fns) (G n n0 : Nat) (ops : Array Oper) (T0 T' : PT AV) (s0 s' : Stage) (rs : List Row) (news : List (Nat × AO)) : Prop where
  len : rs.length = ops.size
  T0 : Tof rs T' 0 = T0
  S0 : Sof rs s' 0 = s0
  row : ∀ k r, rs[k]? = some r → ops[k]? = some r.o ∧ r.i = k ∧ r.anc = (Region.before ops).getD k 0 ∧ r.T = Tof rs T' k ∧ r.s = Sof rs s' k ∧ KindOK C F G n0 ops news r ∧
    Tof rs T' (k + 1) = aput n (Tof rs T' k) r.o.dst r.v ∧ Sof rs s' (k + 1) = stageOf r
  isNew : ∀ (a : Nat) (x : AO), (a, x) ∈ news → ∃ r, rs[a]? = some r ∧ r.kd = .new x
  inNew : ∀ (a : Nat) (r : Row) (x : AO), rs[a]? = some r → r.kd = .new x → (a, x) ∈ news

theorem mem_newsOf {r : Row} {a : Nat} {x : AO} : (a, x) ∈ newsOf r ↔ a = r.i ∧ r.kd = .new x := by
  unfold newsOf
  split
  · rename_i ao h
    simp only [List.mem_singleton, Prod.mk.injEq, h, Kind.new.injEq]
    constructor
    · rintro ⟨rfl, rfl⟩; exact ⟨rfl, rfl⟩
    · rintro ⟨rfl, rfl⟩; exact ⟨rfl, rfl⟩
  · rename_i h
    simp only [List.not_mem_nil, false_iff, not_and]
    intro _ e
    exact h x e

theorem facts {C : Ctx} {F : Fns} {G n n0 : Nat} {ops : Array Oper} (hD : DrawOK ops) {T0 T' : PT AV} {s0 s' : Stage} {rs : List Row} {news : List (Nat × AO)}
    (h : mkRows C F G n n0 ops (ops.toList.zip (Region.before ops).toList) 0 [] T0 s0 = some (rs, news, T', s')) : Facts C F G n n0 ops T0 T' s0 s' rs news := by
  obtain ⟨h1, h2, h3, h4, h5⟩ := mkRows_spec h
  simp only [List.nil_append] at h2 h5
  have hlen : rs.length = ops.size := by rw [h1, List.length_zip]; have := hD.size; simp [this]
  have hzip : ∀ k o, ops[k]? = some o → (ops.toList.zip (Region.before ops).toList)[k]? = some (o, (Region.before ops).getD k 0) := by
    intro k o ho
    have hk : k < ops.size := (Array.getElem?_eq_some_iff.1 ho).1
    rw [List.getElem?_zip_eq_some]
    refine ⟨by simpa using ho, ?_⟩
    rw [Array.getD_eq_getD_getElem?]
    have : k < (Region.before ops).size := by have := hD.size; omega
    simp [this]
  have base : ∀ (k : Nat) (r : Row), rs[k]? = some r → ∃ o, ops[k]? = some o ∧ mkRow C F G n0 ops ((rs.take k).flatMap AB.newsOf) k ((Region.before ops).getD k 0) (Tof rs T' k) (Sof rs s' k) o = some r ∧
      Tof rs T' (k + 1) = aput n (Tof rs T' k) o.dst r.v ∧ Sof rs s' (k + 1) = stageOf r := by
    intro k r hr
    have hk : k < rs.length := (List.getElem?_eq_some_iff.1 hr).1
    have hk' : k < ops.size := by omega
    have ho : ops[k]? = some ops[k] := by simp [hk']
    obtain ⟨r', g1, g2, g3, g4⟩ := h5 k _ _ (hzip k _ ho)
    rw [hr] at g1; cases g1
    rw [Nat.zero_add] at g2
    exact ⟨_, ho, g2, g3, g4⟩
  have hi : ∀ (k : Nat) (r : Row), rs[k]? = some r → r.i = k := fun k r hr => let ⟨_, _, h, _⟩ := base k r hr; (mkRow_spec h).2.1
  refine ⟨hlen, h3, h4, fun k r hr => ?_, fun a x hm => ?_, fun a r x hr hx => ?_⟩
  · obtain ⟨o, ho, hm, hT, hS⟩ := base k r hr
    obtain ⟨q1, q2, q3, q4, q5, q6⟩ := mkRow_spec hm
    subst q1
    refine ⟨ho, q2, q3, q4, q5, ?_, hT, hS⟩
    have hview : viewOf n0 ((rs.take k).flatMap AB.newsOf) r.anc r.s = viewOf n0 news r.anc r.s := by
      unfold viewOf
      have : news = (rs.take k).flatMap AB.newsOf ++ (rs.drop k).flatMap AB.newsOf := by rw [← List.flatMap_append, List.take_append_drop, h2]
      rw [this]
      refine (addNews_append _ _ fun a x hm => ?_).symm
      obtain ⟨r2, hr2, hm2⟩ := List.mem_flatMap.1 hm
      obtain ⟨j, hj⟩ := List.getElem?_of_mem hr2
      rw [List.getElem?_drop] at hj
      have e := (mem_newsOf.1 hm2).1
      rw [hi _ _ hj] at e
      cases hb : r.anc.testBit a
      · rfl
      · rw [q3] at hb
        have := anc_lt hD k a hb
        omega
    unfold KindOK at q6 ⊢
    rw [hview] at q6
    exact q6
  · rw [h2] at hm
    obtain ⟨r, hr, hm⟩ := List.mem_flatMap.1 hm
    obtain ⟨j, hj⟩ := List.getElem?_of_mem hr
    obtain ⟨e, hk⟩ := mem_newsOf.1 hm
    rw [hi j r hj] at e
    subst e
    exact ⟨r, hj, hk⟩
  · rw [h2]
    exact List.mem_flatMap.2 ⟨r, List.mem_of_getElem? hr, mem_newsOf.2 ⟨(hi a r hr).symm, hx⟩⟩

section
variable {C : Ctx} {F : Fns} {G n n0 : Nat} {ops : Array Oper} {T0 T' : PT AV} {s0 s' : Stage} {rs : List Row} {news : List (Nat × AO)}

theorem Facts.once (f : Facts C F G n n0 ops T0 T' s0 s' rs news) : Once news := by
  intro a x y hx hy
  obtain ⟨r, h1, h2⟩ := f.isNew a x hx
  obtain ⟨r', h3, h4⟩ := f.isNew a y hy
  rw [h1] at h3; cases h3
  rw [h2] at h4; cases h4; rfl

/-- Between two places without a chain row the stage is the same. -/
theorem Facts.stage_same (f : Facts C F G n n0 ops T0 T' s0 s' rs news) {p : Nat} : ∀ (d : Nat), p + d ≤ rs.length → (∀ k r, p ≤ k → k < p + d → rs[k]? = some r → isChain r.kd = false) → Sof rs s' (p + d) = Sof rs s' p
  | 0, _, _ => rfl
  | d + 1, hd, h => by
    have hk : p + d < rs.length := by omega
    have hr : rs[p + d]? = some rs[p + d] := List.getElem?_eq_getElem hk
    obtain ⟨_, _, _, _, hs, _, _, hS⟩ := f.row _ _ hr
    rw [← Nat.add_assoc, hS]
    have := h (p + d) _ (by omega) (by omega) hr
    unfold stageOf
    split
    · rename_i H' hc; rw [hc] at this; cases this
    · rw [hs]
      exact Facts.stage_same f d (by omega) fun k r h1 h2 h3 => h k r h1 (by omega) h3

theorem Facts.stage_eq (f : Facts C F G n n0 ops T0 T' s0 s' rs news) {p q : Nat} (hp : p ≤ rs.length) (hq : q ≤ rs.length) (h : ∀ k r, rs[k]? = some r → isChain r.kd = true → (k < p ↔ k < q)) : Sof rs s' p = Sof rs s' q := by
  rcases Nat.le_total p q with h1 | h1
  · obtain ⟨d, rfl⟩ := Nat.le.dest h1
    refine (f.stage_same d hq fun k r g1 g2 g3 => ?_).symm
    cases hc : isChain r.kd
    · rfl
    · have := h k r g3 hc; omega
  · obtain ⟨d, rfl⟩ := Nat.le.dest h1
    refine f.stage_same d hp fun k r g1 g2 g3 => ?_
    cases hc : isChain r.kd
    · rfl
    · have := h k r g3 hc; omega

/-- A stage's place among all. -/
theorem Facts.stage_mem (f : Facts C F G n n0 ops T0 T' s0 s' rs news) : ∀ p, p ≤ rs.length → Sof rs s' p ∈ allStages s0 rs
  | 0, _ => by rw [f.S0]; simp [allStages]
  | p + 1, hp => by
    have hr : rs[p]? = some rs[p] := List.getElem?_eq_getElem (by omega)
    obtain ⟨_, _, _, _, hs, _, _, hS⟩ := f.row _ _ hr
    cases hc : isChain (rs[p]).kd
    · rw [f.stage_same (p := p) 1 hp fun k r g1 g2 g3 => by
        obtain rfl : k = p := by omega
        rw [hr] at g3; cases g3; exact hc]
      exact Facts.stage_mem f p (by omega)
    · rw [hS]
      unfold allStages
      simp only [List.mem_cons, List.mem_map, List.mem_filter]
      exact .inr ⟨_, ⟨List.mem_of_getElem? hr, hc⟩, rfl⟩

theorem Facts.stage_bits (f : Facts C F G n n0 ops T0 T' s0 s' rs news) (h0 : s0.cm = 0) (h1 : s0.done = 0) : ∀ p, p ≤ rs.length →
    (∀ j, (Sof rs s' p).done.testBit j = true ↔ j < p ∧ ∃ r, rs[j]? = some r ∧ isChain r.kd = true) ∧
    (∀ j, (Sof rs s' p).cm.testBit j = true → ∃ k r, k < p ∧ rs[k]? = some r ∧ isChain r.kd = true ∧ r.anc.testBit j = true)
  | 0, _ => by
    rw [f.S0, h0, h1]
    simp
  | p + 1, hp => by
    have hr : rs[p]? = some rs[p] := List.getElem?_eq_getElem (by omega)
    obtain ⟨_, hi, _, _, hs, _, _, hS⟩ := f.row _ _ hr
    obtain ⟨g1, g2⟩ := Facts.stage_bits f h0 h1 p (by omega)
    rw [hS]
    unfold stageOf
    split
    · rename_i H' hc
      have hch : isChain (rs[p]).kd = true := by rw [hc]; rfl
      simp only [Nat.testBit_or, Bool.or_eq_true, hs, hi]
      refine ⟨fun j => ?_, fun j hj => ?_⟩
      · rw [g1, Nat.testBit_two_pow]
        constructor
        · rintro (⟨h, r⟩ | h)
          · exact ⟨by omega, r⟩
          · simp at h; subst h; exact ⟨by omega, _, hr, hch⟩
        · rintro ⟨h, r⟩
          by_cases e : p = j
          · right; simpa using e
          · left; exact ⟨by omega, r⟩
      · rcases hj with h | h
        · obtain ⟨k, r, h1, h2⟩ := g2 j h
          exact ⟨k, r, by omega, h2⟩
        · exact ⟨p, _, by omega, hr, hch, h⟩
    · rename_i hc
      have hch : isChain (rs[p]).kd = false := by
        cases hk : (rs[p]).kd with
        | chain H' => exact absurd hk (hc H')
        | _ => rfl
      rw [hs]
      refine ⟨fun j => ?_, fun j hj => ?_⟩
      · rw [g1]
        constructor
        · rintro ⟨h, r⟩; exact ⟨by omega, r⟩
        · rintro ⟨h, r, h2, h3⟩
          refine ⟨?_, r, h2, h3⟩
          by_cases e : j = p
          · subst e; rw [hr] at h2; cases h2; rw [hch] at h3; cases h3
          · omega
      · obtain ⟨k, r, h1, h2⟩ := g2 j hj
        exact ⟨k, r, by omega, h2⟩

/-- Between two places without a writer of a temporary it holds the same. -/
theorem Facts.tmp_same (f : Facts C F G n n0 ops T0 T' s0 s' rs news) {d p : Nat} : ∀ (k : Nat), p + k ≤ rs.length → (∀ j r, p ≤ j → j < p + k → rs[j]? = some r → r.o.dst ≠ some d) → (Tof rs T' (p + k)).get d = (Tof rs T' p).get d
  | 0, _, _ => rfl
  | k + 1, hk, h => by
    have hr : rs[p + k]? = some rs[p + k] := List.getElem?_eq_getElem (by omega)
    obtain ⟨_, _, _, _, _, _, hT, _⟩ := f.row _ _ hr
    rw [← Nat.add_assoc, hT, ← Facts.tmp_same f k (by omega) fun j r h1 h2 h3 => h j r h1 (by omega) h3]
    have := h (p + k) _ (by omega) (by omega) hr
    unfold aput
    split
    · rfl
    · rename_i e he
      rw [he] at this
      cases Nat.blt e n
      · rfl
      · simp only [cond_true, PT.get_set]
        rw [if_neg (fun e' => this (by rw [e']))]

theorem Facts.tmp_lt (f : Facts C F G n n0 ops T0 T' s0 s' rs news) (h0 : ∀ d v, T0.get d = some v → d < n) : ∀ p, p ≤ rs.length → ∀ d v, (Tof rs T' p).get d = some v → d < n
  | 0, _, d, v, h => by rw [f.T0] at h; exact h0 d v h
  | p + 1, hp, d, v, h => by
    have hr : rs[p]? = some rs[p] := List.getElem?_eq_getElem (by omega)
    obtain ⟨_, _, _, _, _, _, hT, _⟩ := f.row _ _ hr
    rw [hT] at h
    unfold aput at h
    split at h
    · exact Facts.tmp_lt f h0 p (by omega) d v h
    · rename_i e he
      cases hb : Nat.blt e n
      · rw [hb] at h; exact Facts.tmp_lt f h0 p (by omega) d v h
      · rw [hb] at h
        simp only [cond_true, PT.get_set] at h
        split at h
        · rename_i e'; rw [e']; exact Nat.le_of_ble_eq_true hb
        · exact Facts.tmp_lt f h0 p (by omega) d v h
end

end Go.AB

namespace Go.AB

theorem aeval_ok {N : Bd} {G : Nat} {ρ : Names} {H : AH} {w : World} (hR : R N G ρ H w) {T : PT AV} {a : Act} (x : Operand) (h : ∀ t, x = .tmp t → ∀ v, T.get t = some v → ∃ y, a.tmps[t]? = some y ∧ VR ρ v y) : VR ρ (aeval G T x) (a.eval x) := by
  cases x with
  | tmp t =>
    simp only [aeval, Act.eval]
    cases ht : T.get t with
    | none => simp [VR]
    | some v =>
      obtain ⟨y, hy, hr⟩ := h t rfl v ht
      simp only [Array.getD_eq_getD_getElem?, hy, Option.getD_some]
      exact hr
  | const v => exact VR.ofVal ρ v
  | global g =>
    simp only [aeval, Act.eval]
    cases hg : Nat.blt g G
    · simp [VR]
    · obtain ⟨room, hs⟩ := hR.glob g (Nat.le_of_ble_eq_true hg)
      simp only [cond_true, VR]
      exact ⟨_, hs, rfl⟩
  | func f => simp only [aeval, Act.eval, VR]; exact ⟨[], [], rfl, VRs.nil, VRs.nil⟩

theorem awanted_ok' {ρ : Names} {T : PT AV} {a : Act} {ops : Array Oper} {o : Oper} {b : Bool} (hb : awanted ops T o = some b)
    (h : ∀ j want d, o.guard = some (j, want) → (ops[j]?).bind (·.dst) = some d → ∀ v, T.get d = some v → ∃ x, a.tmps[d]? = some x ∧ VR ρ v x) : Region.wanted o (yielded ops a.tmps) = b := by
  unfold awanted at hb
  unfold Region.wanted
  split at hb
  · rename_i hg; rw [hg]; simpa using hb
  · rename_i j want hg
    rw [hg]
    simp only
    unfold yielded
    split at hb
    · rename_i hd
      rw [hd]
      simp at hb; subst hb; rfl
    · rename_i d hd
      rw [hd]
      simp only [Option.bind_some]
      split at hb
      · rename_i c hc
        obtain ⟨x, hx, hr⟩ := h j want d hg hd _ hc
        simp only [VR] at hr; subst hr
        rw [hx]
        simp only [Option.some.injEq] at hb
        subst hb
        cases c <;> cases want <;> rfl
      · rename_i hc
        obtain ⟨x, hx, hr⟩ := h j want d hg hd _ hc
        simp only [VR, VRs] at hr
        obtain ⟨vs, rfl, rfl⟩ := hr
        rw [hx]
        simp at hb; subst hb; rfl
      · cases hb

theorem addNews_iff {n0 : Nat} {sel : Nat → Bool} {news : List (Nat × AO)} {H : AH} (ho : Once news) (hold : ∀ a x o, (a, x) ∈ news → sel a = true → H.get (n0 + a) ≠ some o) (b : Nat) (o : AO) :
    (addNews n0 sel news H).get b = some o ↔ H.get b = some o ∨ ∃ a, (a, o) ∈ news ∧ sel a = true ∧ b = n0 + a := by
  rw [addNews_get]
  cases hp : pick n0 sel b news with
  | some x =>
    obtain ⟨a, h1, h2, h3⟩ := pick_some hp
    simp only [Option.some.injEq]
    constructor
    · rintro rfl; exact .inr ⟨a, h1, h2, h3⟩
    · rintro (h | ⟨a', g1, g2, g3⟩)
      · subst h3; exact absurd h (hold a x o h1 h2)
      · obtain rfl : a = a' := by omega
        exact ho a x o h1 g1
  | none =>
    simp only
    constructor
    · exact .inl
    · rintro (h | ⟨a, g1, g2, g3⟩)
      · exact h
      · exact absurd g3 (pick_none hp a o g1 g2)

def curH (n0 : Nat) (news : List (Nat × AO)) (S : Nat → Bool) (s : Stage) : AH := addNews n0 (fun j => S j && !s.cm.testBit j) news s.H

section
variable {C : Ctx} {F : Fns} {N : Bd} {G n n0 : Nat} {ops : Array Oper} {T0 T' : PT AV} {s0 s' : Stage} {rs : List Row} {news : List (Nat × AO)}

/-- What holds when just the operations in S are done. -/
structure Inv (N : Bd) (G n n0 : Nat) (T' : PT AV) (s' : Stage) (rs : List Row) (news : List (Nat × AO)) (ρ0 : Names) (H0 : AH) (w0 : World) (S : Nat → Bool) (ρ : Names) (a : Act) (w : World) (p : Nat) : Prop where
  ple : p ≤ rs.length
  chain : ∀ (k : Nat) (r : Row), rs[k]? = some r → isChain r.kd = true → (S k = true ↔ k < p)
  closed : ∀ (k : Nat) (r : Row), rs[k]? = some r → S k = true → ∀ j, r.anc.testBit j = true → S j = true
  names : ∀ j, j < rs.length → S j = false → ρ (n0 + j) = none
  rd : R N G ρ (curH n0 news S (Sof rs s' p)) w
  fr : Fr ρ0 H0 w0 ρ (curH n0 news S (Sof rs s' p)) w
  old : ∀ j, j < rs.length → ∀ o, (Sof rs s' p).H.get (n0 + j) = some o → (Sof rs s' p).cm.testBit j = true
  hi : n0 + rs.length ≤ (Sof rs s' p).H.next
  defers : a.defers = []
  size : a.tmps.size = n
  vals : ∀ k, k ≤ rs.length → ∀ d, (∀ (j : Nat) (r : Row), rs[j]? = some r → r.o.dst = some d → (S j = true ↔ j < k)) → ∀ v, (Tof rs T' k).get d = some v → ∃ x, a.tmps[d]? = some x ∧ VR ρ v x

/-- All that is known of a region, beside its rows. -/
structure Known (C : Ctx) (F : Fns) (G n n0 : Nat) (ops : Array Oper) (T0 T' : PT AV) (s0 s' : Stage) (rs : List Row) (news : List (Nat × AO)) : Prop where
  f : Facts C F G n n0 ops T0 T' s0 s' rs news
  D : DrawOK ops
  cm0 : s0.cm = 0
  done0 : s0.done = 0
  tmp0 : ∀ d v, T0.get d = some v → d < n
  plain : ∀ (a : Nat) (x : AO), (a, x) ∈ news → plain x = true
  mit : ∀ p, p ≤ rs.length → mitOk n0 rs.length news (Sof rs s' p) = true
  reads : ∀ (i : Nat) (r : Row), rs[i]? = some r → isRead r.kd = true → ∀ p, p ≤ rs.length → (Nat.beq ((Sof rs s' p).done &&& (r.anc &&& s'.done)) (r.anc &&& s'.done) && !(Sof rs s' p).cm.testBit r.i) = true →
    readOp C (viewOf n0 news r.anc (Sof rs s' p)) (aeval G r.T) r.o = some r.v
  last : Sof rs s' rs.length = s'

variable {ρ0 : Names} {H0 : AH} {w0 : World} {S S' : Nat → Bool} {ρ ρ' : Names} {a : Act} {w w' : World} {p i : Nat} {r : Row}

theorem clash_of {d : Nat} {x y : Option Nat} {l m : List Nat} (h : x = some d) (hm : d ∈ m) : clash (x, l) (y, m) = true := by
  subst h
  simp only [clash, Bool.or_eq_true]
  exact .inl (memB_iff.2 hm)

theorem clash_of' {d : Nat} {x y : Option Nat} {l m : List Nat} (h : y = some d) (hm : d ∈ l) : clash (x, l) (y, m) = true := by
  subst h
  simp only [clash, Bool.or_eq_true]
  exact .inr (memB_iff.2 hm)

theorem dst_mem {ops : Array Oper} {o : Oper} {d : Nat} (h : o.dst = some d) : d ∈ tmpsOf ops o := by
  unfold tmpsOf
  rw [h]; simp

/-- What an operation that may come now finds in its temporaries. -/
theorem Inv.sees (h : Inv N G n n0 T' s' rs news ρ0 H0 w0 S ρ a w p) (K : Known C F G n n0 ops T0 T' s0 s' rs news) (hr : rs[i]? = some r) (hi : S i = false) (hanc : ∀ j, r.anc.testBit j = true → S j = true)
    {d : Nat} (hd : d ∈ tmpsOf ops r.o) {v : AV} (hv : r.T.get d = some v) : ∃ x, a.tmps[d]? = some x ∧ VR ρ v x := by
  obtain ⟨ho, _, ha, hT, _⟩ := K.f.row i r hr
  have hlt : i < rs.length := (List.getElem?_eq_some_iff.1 hr).1
  refine h.vals i (by omega) d (fun j rj hj hdj => ?_) v (hT ▸ hv)
  obtain ⟨hoj, _, haj, _⟩ := K.f.row j rj hj
  constructor
  · intro hs
    rcases Nat.lt_trichotomy j i with h1 | h1 | h1
    · exact h1
    · subst h1; rw [hi] at hs; cases hs
    · have := K.D.pairs i j _ _ h1 ho hoj (clash_of' hdj hd)
      rw [← haj] at this
      have := h.closed j rj hj hs i this
      rw [hi] at this; cases this
  · intro hji
    have := K.D.pairs j i _ _ hji hoj ho (clash_of hdj hd)
    rw [← ha] at this
    exact hanc j this

/-- The next state's bookkeeping. -/
theorem Inv.next (h : Inv N G n n0 T' s' rs news ρ0 H0 w0 S ρ a w p) (K : Known C F G n n0 ops T0 T' s0 s' rs news) (hr : rs[i]? = some r) (hi : S i = false) (hanc : ∀ j, r.anc.testBit j = true → S j = true)
    (hSi : S' i = true) (hS : ∀ j, j ≠ i → S' j = S j) {x : Value} (hx : VR ρ' r.v x) (hext : Ext ρ ρ') {p' : Nat} (hp' : p' ≤ rs.length)
    (hch : ∀ (k : Nat) (r : Row), rs[k]? = some r → isChain r.kd = true → (S' k = true ↔ k < p'))
    (hnames : ∀ j, j < rs.length → S' j = false → ρ' (n0 + j) = none)
    (hR : R N G ρ' (curH n0 news S' (Sof rs s' p')) w') (hF : Fr ρ0 H0 w0 ρ' (curH n0 news S' (Sof rs s' p')) w')
    (hold : ∀ j, j < rs.length → ∀ o, (Sof rs s' p').H.get (n0 + j) = some o → (Sof rs s' p').cm.testBit j = true) (hhi : n0 + rs.length ≤ (Sof rs s' p').H.next) :
    Inv N G n n0 T' s' rs news ρ0 H0 w0 S' ρ' (a.put r.o.dst x) w' p' := by
  obtain ⟨ho, _, ha, hT, _, _, hTn, _⟩ := K.f.row i r hr
  have hlt : i < rs.length := (List.getElem?_eq_some_iff.1 hr).1
  have mono : ∀ j, S j = true → S' j = true := fun j hj => by
    by_cases e : j = i
    · subst e; exact hSi
    · rw [hS j e]; exact hj
  refine ⟨hp', hch, ?_, hnames, hR, hF, hold, hhi, ?_, ?_, ?_⟩
  · intro k rk hk hs j hj
    by_cases e : k = i
    · subst e
      rw [hr] at hk; cases hk
      exact mono j (hanc j hj)
    · rw [hS k e] at hs
      exact mono j (h.closed k rk hk hs j hj)
  · cases hd : r.o.dst <;> exact h.defers
  · cases hd : r.o.dst
    · exact h.size
    · simp [Act.put, h.size]
  · intro k hk d hw v hv
    by_cases hd : r.o.dst = some d
    · have hik : i < k := (hw i r hr hd).1 hSi
      have hsame : (Tof rs T' k).get d = (Tof rs T' (i + 1)).get d := by
        have := K.f.tmp_same (d := d) (p := i + 1) (k - (i + 1)) (by omega) fun j rj h1 h2 h3 h4 => by
          have hjs := (hw j rj h3 h4).2 (by omega)
          rw [hS j (by omega)] at hjs
          obtain ⟨hoj, _, haj, _⟩ := K.f.row j rj h3
          have := K.D.pairs i j _ _ (by omega) ho hoj (clash_of hd (dst_mem h4))
          rw [← haj] at this
          have := h.closed j rj h3 hjs i this
          rw [hi] at this; cases this
        rwa [show i + 1 + (k - (i + 1)) = k by omega] at this
      have hdn : d < n := K.f.tmp_lt K.tmp0 k hk d v hv
      rw [hsame, hTn, hd] at hv
      have hb : Nat.blt d n = true := Nat.ble_eq_true_of_le hdn
      simp only [aput, hb, cond_true, PT.get_set, if_true, Option.some.injEq] at hv
      subst hv
      refine ⟨x, ?_, hx⟩
      rw [hd]
      simp [Act.put, h.size, hdn]
    · have hkeep : (a.put r.o.dst x).tmps[d]? = a.tmps[d]? := by
        cases he : r.o.dst with
        | none => rfl
        | some e =>
          simp only [Act.put]
          rw [Array.getElem?_setIfInBounds_ne]
          intro e'; subst e'; exact hd he
      rw [hkeep]
      obtain ⟨y, hy, hr'⟩ := h.vals k hk d (fun j rj hj hdj => by
        have hne : j ≠ i := by
          rintro rfl
          rw [hr] at hj; cases hj
          exact hd hdj
        rw [← hS j hne]
        exact hw j rj hj hdj) v hv
      exact ⟨y, hy, hr'.ext hext⟩

theorem Inv.cm_S (h : Inv N G n n0 T' s' rs news ρ0 H0 w0 S ρ a w p) (K : Known C F G n n0 ops T0 T' s0 s' rs news) {j : Nat} (hj : (Sof rs s' p).cm.testBit j = true) : S j = true := by
  obtain ⟨k, r, h1, h2, h3, h4⟩ := (K.f.stage_bits K.cm0 K.done0 p h.ple).2 j hj
  exact h.closed k r h2 ((h.chain k r h2 h3).2 h1) j h4

/-- The heap that lies there, by its names. -/
theorem Inv.get_iff (h : Inv N G n n0 T' s' rs news ρ0 H0 w0 S ρ a w p) (K : Known C F G n n0 ops T0 T' s0 s' rs news) (sel : Nat → Bool) (hsel : ∀ j, sel j = true → (Sof rs s' p).cm.testBit j = false) (b : Nat) (o : AO) :
    (addNews n0 sel news (Sof rs s' p).H).get b = some o ↔ (Sof rs s' p).H.get b = some o ∨ ∃ j, (j, o) ∈ news ∧ sel j = true ∧ b = n0 + j := by
  refine addNews_iff K.f.once (fun j x o' hm hs e => ?_) b o
  obtain ⟨r, hr, _⟩ := K.f.isNew j x hm
  have := h.old j (List.getElem?_eq_some_iff.1 hr).1 o' e
  rw [hsel j hs] at this; cases this

theorem plain_spec {x : AO} (h : plain x = true) : x.rw = true ∧ ∀ m l v c, x ≠ .miter m l v c := by
  cases x with
  | cells ro vs => cases ro <;> simp [plain, AO.rw] at *
  | map ps v => simp [AO.rw]
  | siter s p => simp [plain] at h
  | miter m l v c => simp [plain] at h
  | full vs => simp [plain] at h

/-- No iterator goes over a new block beside. -/
theorem mit_spec {st : Stage} {len : Nat} (h : mitOk n0 len news st = true) {b m : Nat} {l : List (List UInt8)} {v : Nat} {c : Option (List UInt8)} (hb : st.H.get b = some (.miter m l v c)) {j : Nat} {ps : List (List UInt8 × AV)} {v' : Nat} (hj : (j, AO.map ps v') ∈ news) (hlt : j < len) (hcm : st.cm.testBit j = false) : m ≠ n0 + j := by
  rintro rfl
  simp only [mitOk, Bool.or_eq_true] at h
  rcases h with h | h
  · have := List.all_eq_true.1 h _ hj
    simp [notMap] at this
  · have := PT.every_get h b _ hb
    simp only [Bool.or_eq_true] at this
    rcases this with (h | h) | h
    · have : n0 + j < n0 := Nat.le_of_ble_eq_true h
      omega
    · have := Nat.le_of_ble_eq_true h
      omega
    · rw [show n0 + j - n0 = j by omega, hcm] at h; cases h

/-- What an operation waits for lies there. -/
theorem Inv.view (h : Inv N G n n0 T' s' rs news ρ0 H0 w0 S ρ a w p) (K : Known C F G n n0 ops T0 T' s0 s' rs news) (hanc : ∀ j, r.anc.testBit j = true → S j = true) (b : Nat) (o : AO) (hb : (viewOf n0 news r.anc (Sof rs s' p)).get b = some o) : (curH n0 news S (Sof rs s' p)).get b = some o := by
  unfold viewOf at hb
  unfold curH
  rw [h.get_iff K _ (fun j hj => by simp at hj; exact hj.2)] at hb ⊢
  rcases hb with hb | ⟨j, h1, h2, h3⟩
  · exact .inl hb
  · refine .inr ⟨j, h1, ?_, h3⟩
    simp only [Bool.and_eq_true] at h2 ⊢
    exact ⟨hanc j h2.1, h2.2⟩

theorem viewOf_next {anc : Nat} {s : Stage} : (viewOf n0 news anc s).next = s.H.next := addNews_next _ _
theorem curH_next {s : Stage} : (curH n0 news S s).next = s.H.next := addNews_next _ _

/-- A step that reads, and does no more. -/
theorem Inv.readBack (h : Inv N G n n0 T' s' rs news ρ0 H0 w0 S ρ a w p) (K : Known C F G n n0 ops T0 T' s0 s' rs news) (hanc : ∀ j, r.anc.testBit j = true → S j = true)
    (hR : R N G ρ (viewOf n0 news r.anc (Sof rs s' p)) w') (hF : Fr ρ (viewOf n0 news r.anc (Sof rs s' p)) w ρ (viewOf n0 news r.anc (Sof rs s' p)) w') :
    R N G ρ (curH n0 news S (Sof rs s' p)) w' ∧ Fr ρ (curH n0 news S (Sof rs s' p)) w ρ (curH n0 news S (Sof rs s' p)) w' := by
  have hview := fun b o => h.view K hanc b o
  have vget := fun b o => h.get_iff K (fun a => r.anc.testBit a && !(Sof rs s' p).cm.testBit a) (fun j hj => by simp at hj; exact hj.2) b o
  have cget := fun b o => h.get_iff K (fun j => S j && !(Sof rs s' p).cm.testBit j) (fun j hj => by simp at hj; exact hj.2) b o
  refine h.rd.union hview (by rw [viewOf_next, curH_next]) hR hF (by rw [viewOf_next, curH_next]) (fun b o hb => ?_) (fun b m l v c hb ps hm => ?_)
  · cases hv : (viewOf n0 news r.anc (Sof rs s' p)).get b with
    | some o' =>
      have := hview b o' hv
      rw [hb] at this; cases this
      exact .inl rfl
    | none =>
      right
      refine ⟨hb, rfl, ?_⟩
      rcases (cget b o).1 hb with h1 | ⟨j, h1, _⟩
      · have := (vget b o).2 (.inl h1)
        unfold viewOf at hv
        rw [hv] at this; cases this
      · exact plain_spec (K.plain j o h1)
  · rcases (cget m _).1 hm with h1 | ⟨j, h1, h2, h3⟩
    · exact (vget m _).2 (.inl h1)
    · exfalso
      rcases (vget b _).1 hb with g1 | ⟨j', g1, _⟩
      · simp only [Bool.and_eq_true, Bool.not_eq_true'] at h2
        obtain ⟨r', hr', _⟩ := K.f.isNew j _ h1
        exact mit_spec (K.mit p h.ple) g1 h1 (List.getElem?_eq_some_iff.1 hr').1 h2.2 h3
      · exact (plain_spec (K.plain j' _ g1)).2 _ _ _ _ rfl

/-- A new block. -/
theorem Inv.newAt (h : Inv N G n n0 T' s' rs news ρ0 H0 w0 S ρ a w p) (K : Known C F G n n0 ops T0 T' s0 s' rs news) (hr : rs[i]? = some r) (hi : S i = false) (hSi : S' i = true) (hS : ∀ j, j ≠ i → S' j = S j) {ao : AO} (hk : r.kd = .new ao) (k : Nat) :
    (curH n0 news S' (Sof rs s' p)).get k = if k = n0 + i then some ao else (curH n0 news S (Sof rs s' p)).get k := by
  have hmem := K.f.inNew i r ao hr hk
  have hcm : (Sof rs s' p).cm.testBit i = false := by
    cases hc : (Sof rs s' p).cm.testBit i
    · rfl
    · have := h.cm_S K hc; rw [hi] at this; cases this
  have cget := fun b o => h.get_iff K (fun j => S j && !(Sof rs s' p).cm.testBit j) (fun j hj => by simp at hj; exact hj.2) b o
  have cget' := fun b o => h.get_iff K (fun j => S' j && !(Sof rs s' p).cm.testBit j) (fun j hj => by simp at hj; exact hj.2) b o
  split
  · rename_i e
    subst e
    exact (cget' _ _).2 (.inr ⟨i, hmem, by simp [hSi, hcm], rfl⟩)
  · rename_i e
    apply Option.ext
    intro o
    unfold curH
    rw [cget, cget']
    constructor
    · rintro (h1 | ⟨j, h1, h2, h3⟩)
      · exact .inl h1
      · have hj : j ≠ i := by rintro rfl; exact e h3
        rw [hS j hj] at h2
        exact .inr ⟨j, h1, h2, h3⟩
    · rintro (h1 | ⟨j, h1, h2, h3⟩)
      · exact .inl h1
      · have hj : j ≠ i := by rintro rfl; exact e h3
        rw [← hS j hj] at h2
        exact .inr ⟨j, h1, h2, h3⟩

/-- A step that makes no new block, and is none of the chain. -/
theorem Inv.sameH (h : Inv N G n n0 T' s' rs news ρ0 H0 w0 S ρ a w p) (K : Known C F G n n0 ops T0 T' s0 s' rs news) (hr : rs[i]? = some r) (hS : ∀ j, j ≠ i → S' j = S j) (hk : ∀ ao, r.kd ≠ .new ao) (k : Nat) :
    (curH n0 news S' (Sof rs s' p)).get k = (curH n0 news S (Sof rs s' p)).get k := by
  have cget := fun b o => h.get_iff K (fun j => S j && !(Sof rs s' p).cm.testBit j) (fun j hj => by simp at hj; exact hj.2) b o
  have cget' := fun b o => h.get_iff K (fun j => S' j && !(Sof rs s' p).cm.testBit j) (fun j hj => by simp at hj; exact hj.2) b o
  have hne : ∀ j x, (j, x) ∈ news → j ≠ i := by
    rintro j x hm rfl
    obtain ⟨r', h1, h2⟩ := K.f.isNew j x hm
    rw [hr] at h1; cases h1
    exact hk x h2
  apply Option.ext
  intro o
  unfold curH
  rw [cget, cget']
  constructor
  · rintro (h1 | ⟨j, h1, h2, h3⟩)
    · exact .inl h1
    · rw [hS j (hne j o h1)] at h2
      exact .inr ⟨j, h1, h2, h3⟩
  · rintro (h1 | ⟨j, h1, h2, h3⟩)
    · exact .inl h1
    · rw [← hS j (hne j o h1)] at h2
      exact .inr ⟨j, h1, h2, h3⟩

/-- **One operation that may come now.** -/
theorem Inv.step (hC : C.OK) (hF : F.OK C N G) (h : Inv N G n H0.next T' s' rs news ρ0 H0 w0 S ρ a w p) (K : Known C F G n H0.next ops T0 T' s0 s' rs news) (hr : rs[i]? = some r) (hi : S i = false) (hanc : ∀ j, r.anc.testBit j = true → S j = true)
    (hSi : S' i = true) (hS : ∀ j, j ≠ i → S' j = S j) {Q : Exit → Act → World → Prop} {next : Act → World → Prop}
    (hnext : ∀ ρ' a' w' p', Inv N G n H0.next T' s' rs news ρ0 H0 w0 S' ρ' a' w' p' → next a' w') : wpOp C.P ops Q i next a w := by
  obtain ⟨ho, hri, ha, hT, hs, hkind, hTn, hSn⟩ := K.f.row i r hr
  have hlt : i < rs.length := (List.getElem?_eq_some_iff.1 hr).1
  have sees := fun (d : Nat) (hd : d ∈ tmpsOf ops r.o) (v : AV) (hv : r.T.get d = some v) => h.sees K hr hi hanc hd hv
  have hwant : ∀ b, awanted ops r.T r.o = some b → Region.wanted r.o (yielded ops a.tmps) = b := fun b hb =>
    awanted_ok' (ρ := ρ) hb fun j want d hg hd v hv => sees d (by unfold tmpsOf; rw [hg]; simp [hd]) v hv
  obtain ⟨ev, hev1, hev2⟩ : ∃ ev : Operand → AV, (∀ x ∈ r.o.op.operands, aeval G r.T x = ev x) ∧ VEv ρ ev a.eval := by
    classical
    refine ⟨fun x => if x ∈ r.o.op.operands then aeval G r.T x else .junk, fun x hx => by simp [hx], fun x => ?_⟩
    simp only
    split
    · rename_i hx
      refine aeval_ok h.rd x fun t ht v hv => sees t ?_ v hv
      subst ht
      unfold tmpsOf
      simp only [List.mem_append, List.mem_filterMap]
      exact .inl (.inr ⟨_, Array.mem_toList_iff.2 hx, rfl⟩)
    · simp [VR]
  have names' : ∀ j, j < rs.length → S' j = false → ρ (H0.next + j) = none := fun j hj hn => by
    have hne : j ≠ i := by rintro rfl; rw [hSi] at hn; cases hn
    rw [hS j hne] at hn
    exact h.names j hj hn
  have chain' : isChain r.kd = false → ∀ (k : Nat) (r : Row), rs[k]? = some r → isChain r.kd = true → (S' k = true ↔ k < p) := fun hc k rk hk hck => by
    have hne : k ≠ i := by rintro rfl; rw [hr] at hk; cases hk; rw [hc] at hck; cases hck
    rw [hS k hne]
    exact h.chain k rk hk hck
  -- a step that leaves the heap's names
  have quiet : isChain r.kd = false → (∀ ao, r.kd ≠ .new ao) → ∀ (x : Value) (w' : World), VR ρ r.v x → R N G ρ (curH H0.next news S (Sof rs s' p)) w' → Fr ρ (curH H0.next news S (Sof rs s' p)) w ρ (curH H0.next news S (Sof rs s' p)) w' → next (a.put r.o.dst x) w' := by
    intro hc hn x w' hx hR' hF'
    have hg := h.sameH K hr hS hn
    have hnx : (curH H0.next news S' (Sof rs s' p)).next = (curH H0.next news S (Sof rs s' p)).next := by rw [curH_next, curH_next]
    exact hnext ρ _ w' p (h.next K hr hi hanc hSi hS hx (fun _ _ h => h) h.ple (chain' hc) names' (hR'.congr hg hnx) ((h.fr.trans hF').congr hg hnx) h.old h.hi)
  unfold wpOp
  rw [ho]
  simp only
  rcases hkind with ⟨hk, hw, hv⟩ | ⟨hw, hkind⟩
  · rw [hwant _ hw]
    simp only [Bool.false_eq_true, if_false]
    exact quiet (by rw [hk]; rfl) (fun ao e => by rw [hk] at e; cases e) undef w (by rw [hv]; simp only [VR, undef]; exact ⟨[], rfl, VRs.nil⟩) h.rd (Fr.refl _ _ _)
  · rw [hwant _ hw]
    simp only [if_true]
    left
    rcases hkind with ⟨hk, hv⟩ | ⟨hk, hv⟩ | ⟨ao, mk, hk, hv, hv2⟩ | ⟨H', hk, hv, hdone⟩
    · rw [pureOp_congr hev1] at hv
      obtain ⟨u, hu, hru⟩ := pureOp_ok hC hev2 hv w
      unfold Oper.wp
      rw [hu]
      exact quiet (by rw [hk]; rfl) (fun ao e => by rw [hk] at e; cases e) u w hru h.rd (Fr.refl _ _ _)
    · have hcond : (Nat.beq ((Sof rs s' p).done &&& (r.anc &&& s'.done)) (r.anc &&& s'.done) && !(Sof rs s' p).cm.testBit r.i) = true := by
        simp only [Bool.and_eq_true, Bool.not_eq_true']
        refine ⟨?_, ?_⟩
        · have : (Sof rs s' p).done &&& (r.anc &&& s'.done) = r.anc &&& s'.done := by
            apply Nat.eq_of_testBit_eq
            intro j
            simp only [Nat.testBit_and]
            cases h1 : r.anc.testBit j
            · simp
            · cases h2 : s'.done.testBit j
              · simp
              · simp only [Bool.and_true, Bool.true_and]
                rw [← K.last] at h2
                obtain ⟨hjl, rj, hj, hcj⟩ := ((K.f.stage_bits K.cm0 K.done0 rs.length (Nat.le_refl _)).1 j).1 h2
                exact ((K.f.stage_bits K.cm0 K.done0 p h.ple).1 j).2 ⟨(h.chain j rj hj hcj).1 (hanc j h1), rj, hj, hcj⟩
          rw [this]; exact Nat.beq_refl _
        · rw [hri]
          cases hc : (Sof rs s' p).cm.testBit i
          · rfl
          · have := h.cm_S K hc; rw [hi] at this; cases this
      have hv' := K.reads i r hr (by rw [hk]; rfl) p h.ple hcond
      rw [readOp_congr hev1] at hv'
      have hRs := h.rd.sub (h.view K hanc) (by rw [viewOf_next, curH_next])
      obtain ⟨u, w', hu, hru, hR', hF'⟩ := readOp_ok hC hRs hev2 hv'
      obtain ⟨h1, h2⟩ := h.readBack K hanc hR' hF'
      unfold Oper.wp
      rw [hu]
      exact quiet (by rw [hk]; rfl) (fun ao e => by rw [hk] at e; cases e) u w' hru h1 h2
    · rw [newOp_congr hev1] at hv
      have hnm := h.names i hlt hi
      obtain ⟨v, ob, d, s, hm⟩ := newOp_ok hC (w := w) hev2 hv (H0.next + i) hnm
      have hg := h.newAt K hr hi hSi hS hk
      have hnx : (curH H0.next news S' (Sof rs s' p)).next = (curH H0.next news S (Sof rs s' p)).next := by rw [curH_next, curH_next]
      have hR' := h.rd.allocAt (H2 := curH H0.next news S' (Sof rs s' p)) ob d ao s (H0.next + i) hnm (by rw [curH_next]; have := h.hi; omega) hm.blk hm.obj.base hg hnx (hm.obj.or h.rd hm.blk d) (fun m l v c => hm.obj.nomiter m l v c) hm.drew
      have hF' := h.fr.allocAt (H2 := curH H0.next news S' (Sof rs s' p)) ob d ao s (H0.next + i) (by omega) hm.blk hg hnx
      unfold Oper.wp
      rw [hm.run]
      refine hnext _ _ _ p (h.next K hr hi hanc hSi hS (x := v) (by rw [hv2, hri]; exact hm.val) (Names.put_ext hnm) h.ple (chain' (by rw [hk]; rfl)) (fun j hj hn => ?_) hR' hF' h.old h.hi)
      have hne : j ≠ i := by rintro rfl; rw [hSi] at hn; cases hn
      rw [show (ρ.put (H0.next + i) s) (H0.next + j) = ρ (H0.next + j) by simp [Names.put, hne]]
      exact names' j hj hn
    · have hcr : isChain r.kd = true := by rw [hk]; rfl
      -- the stage is the one that the evaluator had
      have hdn : ∀ (k : Nat) (rk : Row), rs[k]? = some rk → isChain rk.kd = true → k < i → r.anc.testBit k = true := by
        intro k rk hk' hck hki
        have h1 := ((K.f.stage_bits K.cm0 K.done0 i (by omega)).1 k).2 ⟨hki, rk, hk', hck⟩
        rw [← hs, ← hdone, Nat.testBit_and] at h1
        simp only [Bool.and_eq_true] at h1
        exact h1.2
      have hpi : ∀ (k : Nat) (rk : Row), rs[k]? = some rk → isChain rk.kd = true → (k < p ↔ k < i) := by
        intro k rk hk' hck
        rw [← h.chain k rk hk' hck]
        constructor
        · intro hsk
          rcases Nat.lt_trichotomy k i with h1 | h1 | h1
          · exact h1
          · subst h1; rw [hi] at hsk; cases hsk
          · obtain ⟨_, _, _, _, hsk', hkk, _⟩ := K.f.row k rk hk'
            have hdk : rk.s.done &&& rk.anc = rk.s.done := by
              rcases hkk with ⟨e, _⟩ | ⟨_, ⟨e, _⟩ | ⟨e, _⟩ | ⟨_, _, e, _⟩ | ⟨_, _, _, e⟩⟩
              · rw [e] at hck; cases hck
              · rw [e] at hck; cases hck
              · rw [e] at hck; cases hck
              · rw [e] at hck; cases hck
              · exact e
            have h2 := ((K.f.stage_bits K.cm0 K.done0 k (by have := (List.getElem?_eq_some_iff.1 hk').1; omega)).1 i).2 ⟨h1, r, hr, hcr⟩
            rw [← hsk', ← hdk, Nat.testBit_and] at h2
            simp only [Bool.and_eq_true] at h2
            have := h.closed k rk hk' hsk i h2.2
            rw [hi] at this; cases this
        · intro hki
          exact hanc k (hdn k rk hk' hck hki)
      have hst : Sof rs s' p = r.s := by rw [hs]; exact K.f.stage_eq h.ple (by omega) hpi
      have hn : Sof rs s' (i + 1) = ⟨H', r.s.cm ||| r.anc, r.s.done ||| 2 ^ r.i⟩ := by rw [hSn]; unfold stageOf; rw [hk]
      rw [chainOp_congr hev1] at hv
      have hview := h.view K hanc
      have hRs := h.rd.sub hview (by rw [viewOf_next, curH_next])
      rw [← hst] at hv
      refine chainOp_ok hC hF hRs hev2 hv _ _ fun x w' ρ' hx hR' hF' => ?_
      have vget := fun b o => h.get_iff K (fun a => r.anc.testBit a && !(Sof rs s' p).cm.testBit a) (fun j hj => by simp at hj; exact hj.2) b o
      have cget := fun b o => h.get_iff K (fun j => S j && !(Sof rs s' p).cm.testBit j) (fun j hj => by simp at hj; exact hj.2) b o
      have old' : ∀ j, j < rs.length → ∀ o, H'.get (H0.next + j) = some o → (r.s.cm ||| r.anc).testBit j = true := by
        intro j hj o ho'
        obtain ⟨o0, h0⟩ := hF'.dom (H0.next + j) o (by rw [viewOf_next]; have := h.hi; omega) ho'
        rw [Nat.testBit_or, Bool.or_eq_true]
        rcases (vget _ _).1 h0 with h1 | ⟨j', _, h2, h3⟩
        · rw [← hst]; exact .inl (h.old j hj o0 h1)
        · obtain rfl : j = j' := by omega
          simp only [Bool.and_eq_true] at h2
          exact .inr h2.1
      have nget : ∀ b o, (curH H0.next news S' (Sof rs s' (i + 1))).get b = some o ↔ H'.get b = some o ∨ ∃ j, (j, o) ∈ news ∧ (S' j && !(r.s.cm ||| r.anc).testBit j) = true ∧ b = H0.next + j := by
        intro b o
        unfold curH
        rw [hn]
        refine addNews_iff K.f.once (fun j y o' hm hsj e => ?_) b o
        obtain ⟨rj, hrj, _⟩ := K.f.isNew j y hm
        have := old' j (List.getElem?_eq_some_iff.1 hrj).1 o' e
        simp only [this, Bool.not_true, Bool.and_false] at hsj
        cases hsj
      obtain ⟨hR2, hF2⟩ := h.rd.union (H2 := curH H0.next news S' (Sof rs s' (i + 1))) hview (by rw [viewOf_next, curH_next]) hR' hF' (by rw [curH_next, hn]) (fun b o hb => by
          rcases (nget b o).1 hb with h1 | ⟨j, h1, h2, h3⟩
          · exact .inl h1
          · right
            simp only [Nat.testBit_or, Bool.and_eq_true, Bool.not_eq_true', Bool.or_eq_false_iff] at h2
            obtain ⟨g1, g2, g3⟩ := h2
            have hne : j ≠ i := by
              rintro rfl
              obtain ⟨rj, hrj, hkj⟩ := K.f.isNew j o h1
              rw [hr] at hrj; cases hrj
              rw [hk] at hkj; cases hkj
            rw [hS j hne] at g1
            refine ⟨(cget b o).2 (.inr ⟨j, h1, by rw [hst]; simp [g1, g2], h3⟩), ?_, plain_spec (K.plain j o h1)⟩
            cases hv' : (viewOf H0.next news r.anc (Sof rs s' p)).get b with
            | none => rfl
            | some o' =>
              exfalso
              rcases (vget b o').1 hv' with q1 | ⟨j', _, q2, q3⟩
              · subst h3
                obtain ⟨rj, hrj, _⟩ := K.f.isNew j o h1
                have := h.old j (List.getElem?_eq_some_iff.1 hrj).1 o' q1
                rw [hst, g2] at this; cases this
              · obtain rfl : j = j' := by omega
                simp [g3] at q2)
        (fun b m l v c hb ps hm => by
          rcases (nget m _).1 hm with h1 | ⟨j, h1, h2, h3⟩
          · exact h1
          · exfalso
            obtain ⟨rj, hrj, _⟩ := K.f.isNew j _ h1
            refine mit_spec (K.mit (i + 1) (by omega)) (b := b) (by rw [hn]; exact hb) h1 (List.getElem?_eq_some_iff.1 hrj).1 ?_ h3
            rw [hn]
            simp only [Bool.and_eq_true, Bool.not_eq_true'] at h2
            exact h2.2)
      refine hnext ρ' _ w' (i + 1) (h.next K hr hi hanc hSi hS hx (hRs.ext hF') (by omega) (fun k rk hk' hck => ?_) (fun j hj hnj => ?_) hR2 (h.fr.trans hF2) (by rw [hn]; exact old') ?_)
      · by_cases e : k = i
        · subst e; simp [hSi]
        · rw [hS k e, h.chain k rk hk' hck, hpi k rk hk' hck]; omega
      · rw [hF'.same _ (by rw [viewOf_next]; have := h.hi; omega)]
        exact names' j hj hnj
      · rw [hn]
        have := hF'.next
        rw [viewOf_next] at this
        have := h.hi
        show _ ≤ H'.next
        omega

/-- All that a region's evaluation has looked at. -/
theorem readAt_spec {chs : Nat} {st : Stage} (h : readAt C G n0 news chs r st = true) (hc : (Nat.beq (st.done &&& (r.anc &&& chs)) (r.anc &&& chs) && !st.cm.testBit r.i) = true) :
    readOp C (viewOf n0 news r.anc st) (aeval G r.T) r.o = some r.v := by
  unfold readAt at h
  rw [hc] at h
  simp only [cond_true] at h
  split at h
  · rename_i v hv'
    have e := AV.beq_eq _ _ h
    subst e
    exact hv'
  · cases h

theorem knownP {H : AH} (hD : DrawOK ops) {T : PT AV} (ht : ∀ d v, T.get d = some v → d < n)
    (hrows : mkRows C F G n H.next ops (ops.toList.zip (Region.before ops).toList) 0 [] T ⟨⟨H.t, H.next + ops.toList.length⟩, 0, 0⟩ = some (rs, news, T', s'))
    (hplain : ∀ (a : Nat) (x : AO), (a, x) ∈ news → plain x = true) (hmit : ∀ st ∈ allStages ⟨⟨H.t, H.next + ops.toList.length⟩, 0, 0⟩ rs, mitOk H.next ops.toList.length news st = true)
    (hread : ∀ r ∈ rs, isRead r.kd = true → ∀ st ∈ allStages ⟨⟨H.t, H.next + ops.toList.length⟩, 0, 0⟩ rs, (Nat.beq (st.done &&& (r.anc &&& s'.done)) (r.anc &&& s'.done) && !st.cm.testBit r.i) = true →
      readOp C (viewOf H.next news r.anc st) (aeval G r.T) r.o = some r.v) :
    Known C F G n H.next ops T T' ⟨⟨H.t, H.next + ops.toList.length⟩, 0, 0⟩ s' rs news := by
  have f := facts hD hrows
  have hl : rs.length = ops.toList.length := by rw [f.len]; simp
  refine ⟨f, hD, rfl, rfl, ht, hplain, fun p hp => ?_, fun i r hr hk p hp => ?_, ?_⟩
  · rw [hl]
    exact hmit _ (f.stage_mem p hp)
  · exact hread r (List.mem_of_getElem? hr) hk _ (f.stage_mem p hp)
  · unfold Sof
    rw [List.getElem?_eq_none (Nat.le_refl _)]

theorem known {H : AH} (hD : DrawOK ops) {T : PT AV} (ht : ∀ d v, T.get d = some v → d < n)
    (hrows : mkRows C F G n H.next ops (ops.toList.zip (Region.before ops).toList) 0 [] T ⟨⟨H.t, H.next + ops.toList.length⟩, 0, 0⟩ = some (rs, news, T', s'))
    (hplain : (news.all fun p => plain p.2) = true) (hmit : ((allStages ⟨⟨H.t, H.next + ops.toList.length⟩, 0, 0⟩ rs).all fun st => mitOk H.next ops.toList.length news st) = true)
    (hread : ((rs.filter fun r => isRead r.kd).all fun r => (allStages ⟨⟨H.t, H.next + ops.toList.length⟩, 0, 0⟩ rs).all fun st => readAt C G H.next news s'.done r st) = true) :
    Known C F G n H.next ops T T' ⟨⟨H.t, H.next + ops.toList.length⟩, 0, 0⟩ s' rs news := by
  refine knownP hD ht hrows (fun a x hm => List.all_eq_true.1 hplain _ hm) (fun st hst => List.all_eq_true.1 hmit st hst) fun r hr hk st hst hc => ?_
  have := List.all_eq_true.1 hread r (List.mem_filter.2 ⟨hr, hk⟩)
  exact readAt_spec (List.all_eq_true.1 this st hst) hc

theorem Inv.start {H : AH} {T : PT AV} (K : Known C F G n H.next ops T T' ⟨⟨H.t, H.next + ops.toList.length⟩, 0, 0⟩ s' rs news) (hR : R N G ρ H w) (hA : AR ρ T n a) (d : Nat) (hd : w.drawn ≤ d := by omega) :
    Inv N G n H.next T' s' rs news ρ H w (fun _ => false) ρ a { w with drawn := d } 0 := by
  have hl : rs.length = ops.toList.length := by rw [K.f.len]; simp
  have h0 : Sof rs s' 0 = ⟨⟨H.t, H.next + ops.toList.length⟩, 0, 0⟩ := K.f.S0
  have hcur : curH H.next news (fun _ => false) (Sof rs s' 0) = ⟨H.t, H.next + ops.toList.length⟩ := by
    rw [h0]
    unfold curH
    exact addNews_append [] (l' := news) _ fun _ _ _ => rfl
  refine ⟨Nat.zero_le _, fun k r _ _ => by simp, fun k r _ h => (by simp at h), fun j _ _ => hR.fresh _ (by omega), ?_, ?_, ?_, ?_, hA.defers, hA.size, ?_⟩
  · rw [hcur]; exact (hR.bump (n := H.next + ops.toList.length) (by omega)).drawn d
  · rw [hcur]; exact (Fr.bump (n := H.next + ops.toList.length) (by omega)).trans (Fr.drawn d)
  · intro j hj o ho
    rw [h0] at ho
    have := hR.dom_lt (show H.get (H.next + j) = some o from ho)
    omega
  · rw [h0, hl]; exact Nat.le_refl _
  · intro k hk d hw v hv
    have := K.f.tmp_same (d := d) (p := 0) k (by omega) fun j rj _ h2 h3 h4 => by
      have := (hw j rj h3 h4).2 (by omega)
      cases this
    rw [Nat.zero_add] at this
    rw [this, K.f.T0] at hv
    exact hA.vals d v hv

/-- The operations in any order. -/
theorem Inv.any (hC : C.OK) (hF : F.OK C N G) {H : AH} {T : PT AV} (K : Known C F G n H.next ops T T' s0 s' rs news) {Q : Exit → Act → World → Prop}
    (hQ : ∀ ρ' a' w', AR ρ' T' n a' → R N G ρ' (addNews H.next (fun a => !s'.cm.testBit a) news s'.H) w' → Fr ρ0 H w0 ρ' (addNews H.next (fun a => !s'.cm.testBit a) news s'.H) w' → Q .normal a' w') :
    ∀ (fuel : Nat) (listed : Array Bool) (ρ : Names) (a : Act) (w : World) (p : Nat), listed.size = ops.size → listed.toList.count false = fuel →
      Inv N G n H.next T' s' rs news ρ0 H w0 (fun j => listed.getD j false) ρ a w p → wpAny C.P .any ops Q fuel listed a w := by
  have fin : ∀ (listed : Array Bool) (ρ : Names) (a : Act) (w : World) (p : Nat), listed.size = ops.size → Inv N G n H.next T' s' rs news ρ0 H w0 (fun j => listed.getD j false) ρ a w p → (∀ j, j < ops.size → listed.getD j false = true) → Q .normal a w := by
    intro listed ρ a w p hsz h hall
    have hlen := K.f.len
    have hall' : ∀ (j : Nat) (r : Row), rs[j]? = some r → listed.getD j false = true := fun j r hr => hall j (by have := (List.getElem?_eq_some_iff.1 hr).1; omega)
    have hp : Sof rs s' p = s' := by
      refine Eq.trans ?_ K.last
      refine K.f.stage_eq h.ple (Nat.le_refl _) fun k r hr hc => ?_
      have h1 := (h.chain k r hr hc).1 (hall' k r hr)
      have h2 := (List.getElem?_eq_some_iff.1 hr).1
      exact ⟨fun _ => h2, fun _ => h1⟩
    have hcur : ∀ k, (addNews H.next (fun a => !s'.cm.testBit a) news s'.H).get k = (curH H.next news (fun j => listed.getD j false) (Sof rs s' p)).get k := by
      intro k
      rw [hp]
      unfold curH
      rw [addNews_get, addNews_get, pick_congr (sel := fun a => !s'.cm.testBit a) (sel' := fun j => listed.getD j false && !s'.cm.testBit j) fun a x hm => by
        obtain ⟨r, hr, _⟩ := K.f.isNew a x hm
        simp only [hall' a r hr, Bool.true_and]]
    have hnx : (addNews H.next (fun a => !s'.cm.testBit a) news s'.H).next = (curH H.next news (fun j => listed.getD j false) (Sof rs s' p)).next := by rw [curH_next, addNews_next, hp]
    refine hQ ρ a w ⟨h.defers, h.size, fun d v hv => ?_⟩ (h.rd.congr hcur hnx) (h.fr.congr hcur hnx)
    refine h.vals rs.length (Nat.le_refl _) d (fun j r hr _ => ?_) v ?_
    · have := (List.getElem?_eq_some_iff.1 hr).1
      exact ⟨fun _ => this, fun _ => hall' j r hr⟩
    · unfold Tof
      rw [List.getElem?_eq_none (Nat.le_refl _)]
      exact hv
  have all_of_ready : ∀ (listed : Array Bool), listed.size = ops.size → Region.ready .any ops listed = [] → ∀ j, j < ops.size → listed.getD j false = true := by
    intro listed hsz hr j
    induction j using Nat.strongRecOn with
    | ind j ih =>
      intro hj
      cases hb : listed.getD j false
      · exfalso
        have : j ∈ Region.ready .any ops listed := by
          rw [mem_ready]
          refine ⟨?_, ops[j], by simp [hj], fun e he hbd => ?_⟩
          · rw [Array.getD_eq_getD_getElem?] at hb ⊢
            have : j < listed.size := by omega
            simp only [Array.getElem?_eq_getElem this, Option.getD_some] at hb ⊢
            exact hb
          · have := K.D.edges j _ (by simp [hj]) e he hbd
            exact ih e.on this (by omega)
        rw [hr] at this; cases this
      · rfl
  intro fuel
  induction fuel with
  | zero =>
    intro listed ρ a w p hsz hc h
    have hall : ∀ j, j < ops.size → listed.getD j false = true := by
      intro j hj
      cases hb : listed.getD j false
      · exfalso
        rw [Array.getD_eq_getD_getElem?] at hb
        have hlt : j < listed.size := by omega
        simp only [Array.getElem?_eq_getElem hlt, Option.getD_some] at hb
        have : false ∈ listed.toList := by rw [← hb]; simp
        rw [List.count_eq_zero] at hc
        exact hc this
      · rfl
    refine ⟨?_, fin listed ρ a w p hsz h hall⟩
    rw [List.eq_nil_iff_forall_not_mem]
    intro j hj
    obtain ⟨h1, o, ho, _⟩ := mem_ready.1 hj
    have hjs : j < ops.size := (Array.getElem?_eq_some_iff.1 ho).1
    have h2 := hall j hjs
    rw [Array.getD_eq_getD_getElem?] at h1 h2
    have hlt : j < listed.size := by omega
    simp only [Array.getElem?_eq_getElem hlt, Option.getD_some] at h1 h2
    rw [h1] at h2; cases h2
  | succ fuel ih =>
    intro listed ρ a w p hsz hc h
    refine ⟨fun hr => fin listed ρ a w p hsz h (all_of_ready listed hsz hr), fun i hi => ?_⟩
    obtain ⟨h1, o, ho, hedges⟩ := mem_ready.1 hi
    have his : i < ops.size := (Array.getElem?_eq_some_iff.1 ho).1
    have hlt : i < listed.size := by omega
    have hfalse : listed.getD i false = false := by
      rw [Array.getD_eq_getD_getElem?] at h1 ⊢
      simp only [Array.getElem?_eq_getElem hlt, Option.getD_some] at h1 ⊢
      exact h1
    have hlen := K.f.len
    have hr : rs[i]? = some rs[i] := List.getElem?_eq_getElem (by omega)
    obtain ⟨hro, _, ha, _⟩ := K.f.row i _ hr
    rw [ho] at hro; cases hro
    have hanc : ∀ j, (rs[i]).anc.testBit j = true → listed.getD j false = true := by
      intro j hj
      rw [ha] at hj
      obtain ⟨o', ho', e, he, hb, hon⟩ := before_spec ops hj
      rw [ho] at ho'; cases ho'
      have hS := hedges e he hb
      rcases hon with rfl | ⟨hon, hei⟩
      · exact hS
      · have hre : rs[e.on]? = some rs[e.on] := List.getElem?_eq_getElem (by omega)
        obtain ⟨_, _, hae, _⟩ := K.f.row e.on _ hre
        exact h.closed e.on _ hre hS j (by rw [hae]; exact hon)
    have hset : ∀ j, (listed.setIfInBounds i true).getD j false = if j = i then true else listed.getD j false := by
      intro j
      split
      · rename_i e
        subst e
        rw [Array.getD_eq_getD_getElem?]; simp [hlt]
      · rename_i e
        exact getD_set_ne false (fun e' => e e'.symm)
    refine h.step (S' := fun j => (listed.setIfInBounds i true).getD j false) hC hF K hr hfalse hanc (by simp only [hset, if_true]) (fun j hj => by simp only [hset, if_neg hj]) fun ρ' a' w' p' h' => ?_
    refine ih _ ρ' a' w' p' (by simp [hsz]) ?_ h'
    have hget : listed.toList[i]'(by simpa using hlt) = false := by
      rw [Array.getD_eq_getD_getElem?] at hfalse
      simp only [Array.getElem?_eq_getElem hlt, Option.getD_some] at hfalse
      simpa using hfalse
    rw [Array.setIfInBounds, dif_pos hlt]
    simp only [Array.toList_set]
    rw [List.count_set (by simpa using hlt)]
    rw [hget, hc]
    simp

/-- **A region that draws its order**, its rows known. -/
theorem draw_known (hC : C.OK) (hF : F.OK C N G) {T T1 : PT AV} {H : AH} (hT : (∀ d v, T.get d = some v → d < n) → Known C F G n H.next ops T T1 ⟨⟨H.t, H.next + ops.toList.length⟩, 0, 0⟩ s' rs news) {id : Nat} (hR : R N G ρ H w) (hA : AR ρ T n a)
    (Q : Exit → Act → World → Prop) (hQ : ∀ ρ' a' w', AR ρ' T1 n a' → R N G ρ' (addNews H.next (fun a => !s'.cm.testBit a) news s'.H) w' → Fr ρ H w ρ' (addNews H.next (fun a => !s'.cm.testBit a) news s'.H) w' → Q .normal a' w') : (Code.region id ops true).wp C.P Q a w := by
  have ht : ∀ d v, T.get d = some v → d < n := fun d v hd => by
    obtain ⟨x, hx, _⟩ := hA.vals d v hd
    have := (Array.getElem?_eq_some_iff.1 hx).1
    rw [hA.size] at this; exact this
  have K := hT ht
  refine wp_region_any hC.mixed (Inv.any hC hF K hQ ops.size _ ρ a _ 0 (by simp) (by simp) ?_)
  have := Inv.start (w := w) K hR hA (w.drawn + 1)
  have e : (fun j => (Array.replicate ops.size false).getD j false) = fun _ => false := by
    funext j
    rw [Array.getD_eq_getD_getElem?]
    by_cases hj : j < ops.size
    · simp [hj]
    · simp [hj]
  rw [e]
  exact this

/-- **A region that draws its order.** -/
theorem evDraw_ok (hC : C.OK) (hF : F.OK C N G) (hD : DrawOK ops) {T T1 : PT AV} {H H' : AH} (h : evDraw C F G n ops T H = some (T1, H')) {id : Nat} (hR : R N G ρ H w) (hA : AR ρ T n a)
    (Q : Exit → Act → World → Prop) (hQ : ∀ ρ' a' w', AR ρ' T1 n a' → R N G ρ' H' w' → Fr ρ H w ρ' H' w' → Q .normal a' w') : (Code.region id ops true).wp C.P Q a w := by
  unfold evDraw at h
  simp only at h
  split at h
  · cases h
  · rename_i rs news T2 s hrows
    have cond_some : ∀ {b : Bool} {x y : PT AV × AH}, (bif b then some x else none) = some y → b = true ∧ x = y := by
      intro b x y hb
      cases b
      · cases hb
      · exact ⟨rfl, Option.some.inj hb⟩
    have h := cond_some h
    simp only [Bool.and_eq_true, Prod.mk.injEq] at h
    obtain ⟨⟨h1, h2⟩, h3⟩ := h.1
    obtain ⟨rfl, rfl⟩ := h.2
    exact draw_known hC hF (fun ht => known (F := F) hD ht hrows h1 h2 h3) hR hA Q hQ
end

end Go.AB
