/- Iterators over strings and maps. -/
import Derived.Test.YtgihociajfgohaaGreatDoorAb13
namespace Go.AB
set_option linter.unusedSimpArgs false

def kstr (k : List UInt8) : Value := .string ⟨k.toArray⟩

theorem kstr_inj {a b : List UInt8} (h : kstr a = kstr b) : a = b := by
  unfold kstr at h
  injection h with h
  injection h with h
  simpa using congrArg Array.toList h

theorem EntsR.keyList {ρ : Names} : ∀ {ps : List (List UInt8 × AV)} {es : List MapEntry}, EntsR ρ ps es → es.map (·.key) = ps.map fun p => kstr p.1
  | [], es, h => by simp only [EntsR] at h; subst h; rfl
  | p :: ps, es, h => by
    simp only [EntsR] at h
    obtain ⟨e, es', rfl, h1, _, h3⟩ := h
    simp only [List.map_cons, h3.keyList, h1]; rfl

theorem pairwise_nodup {l : List Nat} (h : l.Pairwise (· < ·)) : l.Nodup := h.imp (fun h => by omega)

theorem left_erase {e : MapEntry} {k : List UInt8} (hk : e.key = kstr k) : ∀ {L : List MapEntry} {left : List (List UInt8)}, L.map (·.key) = left.map kstr → (L.map (·.born)).Nodup → left.Nodup → e ∈ L →
    (L.filter fun x => !(x.born == e.born)).map (·.key) = (left.erase k).map kstr
  | [], _, _, _, _, h => by cases h
  | x :: L, [], h, _, _, _ => by simp at h
  | x :: L, y :: left, h, hb, hn, he => by
    simp only [List.map_cons, List.cons.injEq] at h
    simp only [List.map_cons, List.nodup_cons] at hb hn
    obtain ⟨h1, h2⟩ := h
    by_cases hxe : x.born = e.born
    · have hxe2 : x = e := by
        rcases List.mem_cons.1 he with rfl | he
        · rfl
        · exact absurd (hxe ▸ List.mem_map.2 ⟨e, he, rfl⟩) hb.1
      subst hxe2
      have hyk : y = k := kstr_inj (h1.symm.trans hk)
      subst hyk
      rw [List.erase_cons_head, List.filter_cons_of_neg (by simp)]
      rw [List.filter_eq_self.2, h2]
      intro z hz
      have : z.born ≠ x.born := fun e2 => hb.1 (e2 ▸ List.mem_map.2 ⟨z, hz, rfl⟩)
      simp [this]
    · have he' : e ∈ L := by
        rcases List.mem_cons.1 he with rfl | he
        · exact absurd rfl hxe
        · exact he
      have hne : y ≠ k := by
        intro e2
        subst e2
        have : e.key ∈ L.map (·.key) := List.mem_map.2 ⟨e, he', rfl⟩
        rw [h2, hk] at this
        obtain ⟨z, hz, hzk⟩ := List.mem_map.1 this
        exact hn.1 (kstr_inj hzk ▸ hz)
      rw [List.filter_cons_of_pos (by simp [hxe]), List.erase_cons_tail (by simpa using hne)]
      simp only [List.map_cons, h1, left_erase hk h2 hb.2 hn.2 he']

def arange (C : Ctx) (H : AH) (t : TypeId) (x : AV) : Option (AV × AH) :=
  match C.ti t with
  | none => none
  | some i =>
    match i.d, x with
    | .string, .str s => some (.ptr H.next 0, H.alloc (.siter s 0))
    | .map _ _, .map m => match H.get m with
      | some (.map ps ver) => bif Nat.blt ver H.next then some (.ptr H.next 0, H.alloc (.miter m (ps.map (·.1)) ver none)) else none
      | _ => none
    | _, _ => none

theorem arange_ok {C : Ctx} (hC : C.OK) {N G : Nat} {ρ : Names} {H H' : AH} {w : World} (hR : R N G ρ H w) {t : TypeId} {x r : AV} {v : Value} (hx : VR ρ x v) (h : arange C H t x = some (r, H')) :
    Did C.P N G ρ H w (Instr.range t v) (fun ρ' v => VR ρ' r v) H' := by
  unfold arange at h
  split at h
  · cases h
  · rename_i i hi
    have hnew : ρ H.next = none := hR.fresh _ (Nat.le_refl _)
    have hN := hR.size
    split at h
    · rename_i s hd
      simp only [Option.some.injEq, Prod.mk.injEq] at h
      obtain ⟨rfl, rfl⟩ := h
      simp only [VR] at hx
      subst hx
      let sg : Seg := ⟨w.heap.size, 0, 0⟩
      obtain ⟨r1, r2⟩ := hR.alloc (.stringIter ⟨s.toArray⟩ 0) w.drawn (.siter s 0) sg rfl rfl rfl ((NewObj.siter (ρ := ρ.put H.next sg) (s := sg) s rfl).or hR rfl _) (fun m l v c e => by cases e)
      refine ⟨.pointer (some ⟨w.heap.size, 0, none⟩), _, _, ?_, ?_, r1, r2⟩
      · unfold Instr.range
        simp only [Sem.run_bind, hC.run_und hi, hd, Result.andThen_ok, Sem.run_pure, run_newObj]
      · simp only [VR]; exact ⟨sg, Names.put_same _ _ _, rfl⟩
    · rename_i kt et m hd
      split at h
      · rename_i ps ver hm
        cases hc : Nat.blt ver H.next
        · rw [hc] at h; cases h
        · rw [hc] at h
          simp only [cond_true, Option.some.injEq, Prod.mk.injEq] at h
          obtain ⟨rfl, rfl⟩ := h
          simp only [VR] at hx
          obtain ⟨sm, hsm, rfl⟩ := hx
          obtain ⟨hNm, es, clock, h0, h1⟩ := hR.map hm hsm
          let sg : Seg := ⟨w.heap.size, 0, 0⟩
          have hmne : m ≠ H.next := by have := hR.lt hsm; omega
          have hsmlt : sm.blk < w.heap.size := by
            rcases Nat.lt_or_ge sm.blk w.heap.size with h | h
            · exact h
            · rw [Array.getElem?_eq_none h] at h0; cases h0
          have hor : OR N (ρ.put H.next sg) (H.alloc (.miter m (ps.map (·.1)) ver none)) { w with heap := w.heap.push (.mapIter (some sm.blk) clock #[] clock), drawn := w.drawn } sg (.miter m (ps.map (·.1)) ver none) := by
            refine ⟨hN, rfl, clock, #[], clock, sm, by simp [sg], ?_, ?_⟩
            · exact Names.put_ext hnew _ _ hsm
            · intro ps' hps' es' clock' hes'
              rw [AH.get_alloc, if_neg hmne, hm] at hps'
              injection hps' with hps'
              injection hps' with hps' _
              subst hps'
              have hes'' : w.heap[sm.blk]? = some (.map es' clock') := by
                have : (w.heap.push (.mapIter (some sm.blk) clock #[] clock))[sm.blk]? = w.heap[sm.blk]? := by rw [Array.getElem?_push, if_neg (by omega)]
                rw [← this]; exact hes'
              rw [h0] at hes''
              injection hes'' with hes''
              injection hes'' with e1 e2
              subst e1; subst e2
              refine ⟨h1.old, ?_, rfl, fun k e => by cases e⟩
              unfold leftKeys
              rw [List.filter_eq_self.2 (by intro a _; simp), h1.ents.keyList, List.map_map]
              rfl
          obtain ⟨r1, r2⟩ := hR.alloc _ w.drawn _ sg rfl rfl rfl hor (fun m' l v c e => by
            injection e with e1 e2 e3 e4
            subst e3
            exact Nat.le_of_ble_eq_true hc)
          refine ⟨.pointer (some ⟨w.heap.size, 0, none⟩), _, _, ?_, ?_, r1, r2⟩
          · unfold Instr.range
            simp only [Sem.run_bind, hC.run_und hi, hd, Result.andThen_ok, getObj, Sem.run, h0, Sem.run_pure, run_newObj]
          · simp only [VR]; exact ⟨sg, Names.put_same _ _ _, rfl⟩
      · cases h
    · cases h

/-- **A step of an iterator over a map**: it ends where nothing is left; else it comes to one of those that are left, whichever. -/
theorem next_any {P : Program} {N G : Nat} {ρ : Names} {H : AH} {w : World} (hR : R N G ρ H w) {b m ver : Nat} {left : List (List UInt8)} {cur : Option (List UInt8)} {ps : List (List UInt8 × AV)} (hb : H.get b = some (.miter m left ver cur)) (hm : H.get m = some (.map ps ver)) {v : Value} (hv : VR ρ (.ptr b 0) v) (ty : TypeId) :
    (left = [] → (Instr.next v false ty).run P w = .ok (.tuple #[.bool false]) w) ∧
    (left ≠ [] → ∃ k a u w', k ∈ left ∧ mget ps k = some a ∧ (Instr.next v false ty).run P w = .ok u w' ∧ VR ρ (.tuple [.bool true, .str k, a]) u ∧ R N G ρ (H.set b (.miter m (left.erase k) ver (some k))) w' ∧ Fr ρ H w ρ (H.set b (.miter m (left.erase k) ver (some k))) w') := by
  simp only [VR] at hv
  obtain ⟨sg, hsg, rfl⟩ := hv
  obtain ⟨s', hs', hNb, hb0, since, seen, st, sm, h1, h2, h3⟩ := hR.obj b _ hb
  rw [hsg] at hs'; cases hs'
  obtain ⟨hNm, es, clock, h4, h5⟩ := hR.map hm h2
  obtain ⟨g1, g2, g3, g4⟩ := h3 ps hm es clock h4
  subst g3
  have hgone : (!seen.isEmpty && !es.isEmpty && es.all fun x => decide (x.born ≥ st)) = false := by
    by_cases he : es = #[]
    · subst he; simp
    · have hpos : 0 < es.size := by
        rcases Nat.eq_zero_or_pos es.size with h | h
        · exact absurd (Array.eq_empty_of_size_eq_zero h) he
        · exact h
      have : (es.all fun x => decide (x.born ≥ st)) = false := by
        rw [Array.all_eq_false]
        refine ⟨0, hpos, ?_⟩
        have := h5.old es[0] (Array.getElem_mem_toList hpos)
        simp; omega
      simp [this]
  let L := es.filter fun e => !seen.contains e.born
  have hLl : L.toList = es.toList.filter fun e => !seen.contains e.born := by simp [L]
  have hold : L.filter (fun e => decide (e.born < since)) = L := by
    apply Array.ext'
    rw [Array.toList_filter, List.filter_eq_self.2]
    intro e he
    rw [hLl] at he
    simpa using g1 e ((List.mem_filter.1 he).1)
  have hnew : L.filter (fun e => decide (e.born ≥ since)) = #[] := by
    apply Array.ext'
    rw [Array.toList_filter, List.filter_eq_nil_iff.2]
    intro e he
    rw [hLl] at he
    have := g1 e ((List.mem_filter.1 he).1)
    simp; omega
  have hkeys : L.toList.map (·.key) = left.map kstr := by rw [hLl]; exact g2
  have hbase : sg.base + 0 = 0 := by omega
  have hrun0 : (Instr.next (.pointer (some ⟨sg.blk, sg.base + 0, none⟩)) false ty).run P w =
      (do
        let candidates := (if L.isEmpty then #[none] else #[]) ++ (L ++ #[]).map some
        match candidates[← choose (.mapNext candidates.size)]? with
        | some (some e) =>
          setObj sg.blk (.mapIter (some sm.blk) since (seen.push e.born) st)
          pure (.tuple #[.bool true, e.key, e.val])
        | some none => pure (.tuple #[.bool false])
        | none => stuck "Next: no such candidate" : Sem Value).run P w := by
    unfold Instr.next
    simp only [hbase, Sem.run_bind, getObj, Sem.run, h1, h4, Result.andThen_ok]
    rw [if_neg (by rw [hgone]; simp)]
    simp only [L] at hold hnew
    simp only [hold, hnew, Sem.run_bind]
    rfl
  constructor
  · intro hl
    subst hl
    have hL0 : L = #[] := by
      apply Array.ext'
      exact List.map_eq_nil_iff.1 hkeys
    rw [hrun0, hL0]
    simp [Question.forced]
  · intro hl
    have hLne : L.isEmpty = false := by
      cases hc : L.isEmpty
      · rfl
      · have : L = #[] := by simpa using hc
        rw [this] at hkeys
        simp at hkeys
        exact absurd hkeys.symm (by simpa using hl)
    have hLpos : 0 < L.size := by
      rcases Nat.eq_zero_or_pos L.size with h | h
      · rw [Array.eq_empty_of_size_eq_zero h] at hLne; simp at hLne
      · exact h
    -- whichever is drawn
    obtain ⟨i, d, hi, hch⟩ : ∃ i d, i < L.size ∧ (choose (.mapNext L.size)).run P w = .ok i { w with drawn := d } := by
      rw [run_choose]
      simp only [Question.forced]
      by_cases h1 : L.size ≤ 1
      · exact ⟨0, w.drawn, hLpos, by simp [h1]⟩
      · exact ⟨_, w.drawn + 1, Nat.mod_lt _ hLpos, by simp [h1, Question.cut]; rfl⟩
    let e := L[i]
    have heL : e ∈ L.toList := Array.getElem_mem_toList hi
    have heE : e ∈ es.toList := by rw [hLl] at heL; exact (List.mem_filter.1 heL).1
    have hek : e.key ∈ left.map kstr := hkeys ▸ List.mem_map.2 ⟨e, heL, rfl⟩
    obtain ⟨k, hk, hke⟩ := List.mem_map.1 hek
    have hbnd : (L.toList.map (·.born)).Nodup := by
      rw [hLl]
      exact (List.Sublist.map _ List.filter_sublist).nodup (pairwise_nodup h5.born)
    have hln : left.Nodup := by
      have h6 : (left.map kstr).Nodup := by
        rw [← hkeys, hLl]
        refine List.Sublist.nodup (List.Sublist.map _ List.filter_sublist) ?_
        rw [h5.ents.keyList]
        have h7 := h5.keys
        have : (ps.map fun p => kstr p.1) = (ps.map (·.1)).map kstr := by rw [List.map_map]; rfl
        rw [this]
        exact List.Pairwise.map _ (fun a b hab h => hab (kstr_inj h)) h7
      exact List.Pairwise.of_map kstr (fun a b hab h => hab (by rw [h])) h6
    have hget : ∃ a, mget ps k = some a := by
      cases hg : mget ps k with
      | some a => exact ⟨a, rfl⟩
      | none =>
        exfalso
        apply mget_none_keys hg
        have : e.key ∈ es.toList.map (·.key) := List.mem_map.2 ⟨e, heE, rfl⟩
        rw [h5.ents.keyList] at this
        obtain ⟨p, hp, hpk⟩ := List.mem_map.1 this
        have : p.1 = k := kstr_inj (hpk.trans hke.symm)
        exact List.mem_map.2 ⟨p, hp, this⟩
    obtain ⟨a, ha⟩ := hget
    have hva : VR ρ a e.val := h5.ents.find h5.keys e k heE hke.symm a ha
    let w' : World := { w with heap := w.heap.setIfInBounds sg.blk (.mapIter (some sm.blk) since (seen.push e.born) st), drawn := d }
    have hblt : sg.blk < w.heap.size := by
      rcases Nat.lt_or_ge sg.blk w.heap.size with h | h
      · exact h
      · rw [Array.getElem?_eq_none h] at h1; cases h1
    have hmb : m ≠ b := by intro e2; subst e2; rw [hb] at hm; cases hm
    have hsmne : sm.blk ≠ sg.blk := by
      intro e2
      exact hmb (hR.inj m b _ _ sm sg hm hb rfl rfl h2 hsg e2)
    have hother : ∀ q, q ≠ sg.blk → w'.heap[q]? = w.heap[q]? := fun q hq => by
      simp only [w']
      rw [Array.getElem?_setIfInBounds_ne (fun e => hq e.symm)]
    have hor : OR N ρ ⟨H.t.set b (.miter m (left.erase k) ver (some k)), H.next⟩ w' sg (.miter m (left.erase k) ver (some k)) := by
      refine ⟨hNb, hb0, since, seen.push e.born, st, sm, by simp [w', hblt], h2, ?_⟩
      intro ps' hps' es' clock' hes'
      have hg2 : AH.get ⟨H.t.set b (.miter m (left.erase k) ver (some k)), H.next⟩ m = H.get m := by
        have := AH.get_set H b (.miter m (left.erase k) ver (some k)) m
        rw [if_neg hmb] at this; exact this
      rw [hg2, hm] at hps'
      injection hps' with hps'
      injection hps' with hps' _
      subst hps'
      rw [hother _ hsmne, h4] at hes'
      injection hes' with hes'
      injection hes' with e1 e2
      subst e1; subst e2
      refine ⟨g1, ?_, rfl, fun k' hk' => ?_⟩
      · have hflt : leftKeys es.toList (seen.push e.born) = (L.toList.filter fun x => !(x.born == e.born)).map (·.key) := by
          unfold leftKeys
          rw [hLl, List.filter_filter]
          congr 1
          apply List.filter_congr
          intro x _
          rw [Array.contains_push]
          cases seen.contains x.born <;> cases (x.born == e.born) <;> rfl
        rw [hflt]
        exact left_erase hke.symm hkeys hbnd hln heL
      · simp only [Option.some.injEq] at hk'
        subst hk'
        exact ⟨e, heE, hke.symm, by simp⟩
    obtain ⟨r1, r2⟩ := hR.write (w' := w') (o' := .miter m (left.erase k) ver (some k)) hb rfl hsg rfl (by simp [w']) hother rfl rfl rfl H.next (Nat.le_refl _) hor
      (fun m' l v c e => by injection e with e1 e2 e3 e4; subst e3; exact hR.vers b _ _ _ _ hb) (fun q m' l v c _ _ _ ps' => by simp)
    refine ⟨k, a, .tuple #[.bool true, e.key, e.val], w', hk, ha, ?_, ?_, r1, r2⟩
    · rw [hrun0]
      simp only [hLne, Bool.false_eq_true, if_false, Array.append_empty, Array.empty_append, Array.size_map, Sem.run_bind, hch, Result.andThen_ok]
      have : (L.map some)[i]? = some (some e) := by simp [hi, e]
      simp only [this, Sem.run_bind, setObj, Sem.run, h1, Result.andThen_ok, Sem.run_pure]
      rfl
    · simp only [VR]
      exact ⟨[.bool true, e.key, e.val], rfl, VRs.cons (by simp [VR]) (VRs.cons (by simp only [VR]; exact hke.symm) (VRs.cons hva VRs.nil))⟩

theorem decode_ascii {s : List UInt8} {pos : Nat} {c : UInt8} (h : s[pos]? = some c) (hc : c.toNat < 128) : Utf8.decode ⟨s.toArray⟩ pos = (c.toNat, 1) := by
  have hlt : pos < s.length := by
    rcases Nat.lt_or_ge pos s.length with h1 | h1
    · exact h1
    · rw [List.getElem?_eq_none h1] at h; cases h
  have e : ((ByteArray.mk s.toArray).get! (pos + 0)).toNat = c.toNat := by
    congr 1
    show (s.toArray)[pos + 0]! = c
    rw [Nat.add_zero, getElem!_pos _ _ (by simpa using hlt)]
    rw [List.getElem?_eq_getElem hlt] at h
    simpa using h
  unfold Utf8.decode
  simp only [e]
  rw [if_pos hc]

def anext (H : AH) (it : AV) (isString : Bool) : Option (AV × AH) :=
  match it with
  | .ptr b 0 =>
    match H.get b, isString with
    | some (.siter s pos), true =>
      match s[pos]? with
      | none => some (.tuple [.bool false], H)
      | some c => bif Nat.blt c.toNat 128 then some (.tuple [.bool true, .int .i64 pos, .int .i32 c.toNat], H.set b (.siter s (pos + 1))) else none
    | some (.miter m left ver _), false =>
      match H.get m with
      | some (.map ps ver') =>
        bif Nat.beq ver ver' then
          match left with
          | [] => some (.tuple [.bool false], H)
          | [k] => (mget ps k).map fun a => (.tuple [.bool true, .str k, a], H.set b (.miter m [] ver (some k)))
          | _ => none
        else none
      | _ => none
    | _, _ => none
  | _ => none

theorem anext_ok {P : Program} {N G : Nat} {ρ : Names} {H H' : AH} {w : World} (hR : R N G ρ H w) {x r : AV} {v : Value} {iss : Bool} (hx : VR ρ x v) (h : anext H x iss = some (r, H')) (ty : TypeId) :
    Did P N G ρ H w (Instr.next v iss ty) (fun ρ' v => VR ρ' r v) H' := by
  unfold anext at h
  split at h
  · rename_i b
    split at h
    · rename_i s pos hb
      have hx0 := hx
      simp only [VR] at hx
      obtain ⟨sg, hsg, rfl⟩ := hx
      obtain ⟨s', hs', hN, hb0, h1⟩ := hR.obj b _ hb
      rw [hsg] at hs'; cases hs'
      have hbase : sg.base + 0 = 0 := by omega
      have hsz : (ByteArray.mk s.toArray).size = s.length := by simp [ByteArray.size]
      split at h
      · rename_i hp
        simp only [Option.some.injEq, Prod.mk.injEq] at h
        obtain ⟨rfl, rfl⟩ := h
        have hlt : ¬ pos < s.length := by
          intro h1; rw [List.getElem?_eq_getElem h1] at hp; cases hp
        refine ⟨.tuple #[.bool false], w, ρ, ?_, by simp only [VR]; exact ⟨[.bool false], rfl, VRs.cons (by simp [VR]) VRs.nil⟩, hR, Fr.refl _ _ _⟩
        unfold Instr.next
        simp only [hbase, Sem.run_bind, getObj, Sem.run, h1, Result.andThen_ok, hsz, hlt, if_false, Sem.run_pure]
      · rename_i c hp
        cases hc : Nat.blt c.toNat 128
        · rw [hc] at h; cases h
        · rw [hc] at h
          simp only [cond_true, Option.some.injEq, Prod.mk.injEq] at h
          obtain ⟨rfl, rfl⟩ := h
          have hlt : pos < s.length := by
            rcases Nat.lt_or_ge pos s.length with h1 | h1
            · exact h1
            · rw [List.getElem?_eq_none h1] at hp; cases hp
          have hdec := decode_ascii hp (Nat.le_of_ble_eq_true hc)
          let w' : World := { w with heap := w.heap.setIfInBounds sg.blk (.stringIter ⟨s.toArray⟩ (pos + 1)) }
          have hblt : sg.blk < w.heap.size := by
            rcases Nat.lt_or_ge sg.blk w.heap.size with h | h
            · exact h
            · rw [Array.getElem?_eq_none h] at h1; cases h1
          obtain ⟨r1, r2⟩ := hR.write (w' := w') (o' := .siter s (pos + 1)) hb rfl hsg rfl (by simp [w']) (fun q hq => by simp only [w']; rw [Array.getElem?_setIfInBounds_ne (fun e => hq e.symm)]) rfl rfl rfl H.next (Nat.le_refl _)
            ⟨hN, hb0, by simp [w', hblt]⟩ (fun m l v c e => by cases e) (fun q m l v c _ _ _ ps => by simp)
          refine ⟨.tuple #[.bool true, goInt pos, .int .i32 c.toNat], w', ρ, ?_, ?_, r1, r2⟩
          · unfold Instr.next
            simp only [hbase, Sem.run_bind, getObj, Sem.run, h1, Result.andThen_ok, hsz, hlt, if_true, hdec, setObj, Sem.run_pure]
            rfl
          · simp only [VR]
            exact ⟨[.bool true, goInt pos, .int .i32 c.toNat], rfl, VRs.cons (by simp [VR]) (VRs.cons (by simp [VR, goInt]) (VRs.cons (by simp [VR]) VRs.nil))⟩
    · rename_i m left ver cur hb
      split at h
      · rename_i ps ver' hm
        cases hv : Nat.beq ver ver'
        · rw [hv] at h; cases h
        · rw [hv] at h
          simp only [cond_true] at h
          have := Nat.eq_of_beq_eq_true hv
          subst this
          obtain ⟨n1, n2⟩ := next_any (P := P) hR hb hm hx ty
          split at h
          · simp only [Option.some.injEq, Prod.mk.injEq] at h
            obtain ⟨rfl, rfl⟩ := h
            exact ⟨_, w, ρ, n1 rfl, by simp only [VR]; exact ⟨[.bool false], rfl, VRs.cons (by simp [VR]) VRs.nil⟩, hR, Fr.refl _ _ _⟩
          · rename_i k
            simp only [Option.map_eq_some_iff, Prod.mk.injEq] at h
            obtain ⟨a, ha, rfl, rfl⟩ := h
            obtain ⟨k', a', u, w', hk', ha', g1, g2, g3, g4⟩ := n2 (by simp)
            simp only [List.mem_singleton] at hk'
            subst hk'
            rw [ha] at ha'
            simp only [Option.some.injEq] at ha'
            subst ha'
            simp only [List.erase_cons_head] at g3 g4
            exact ⟨u, w', ρ, g1, g2, g3, g4⟩
          · cases h
      · cases h
    · cases h
  · cases h

end Go.AB
