/- Operations that write: stores, maps, clear, copy. -/
import Derived.Test.YtgihociajfgohaaGreatDoorAb10
namespace Go.AB
set_option linter.unusedSimpArgs false

/-- What a step that writes comes to. -/
def Did (P : Program) (N G : Nat) (ρ : Names) (H : AH) (w : World) {α : Type} (x : Sem α) (val : Names → α → Prop) (H' : AH) : Prop :=
  ∃ v w' ρ', x.run P w = .ok v w' ∧ val ρ' v ∧ R N G ρ' H' w' ∧ Fr ρ H w ρ' H' w'

theorem run_storeCells_ab (P : Program) (blk base : Nat) : ∀ (us : List Value) (i : Nat) (w : World) (c : Array Value) (e : TypeId) (lo hi : Nat), w.heap[blk]? = some (.cells c e (lo, hi)) → base + i + us.length ≤ c.size →
    (∀ j, base + i ≤ j → j < base + i + us.length → (decide (lo ≤ j) && decide (j < hi)) = false) → (∀ u ∈ us, u.oneCell' = true) →
    ∃ w' c', (storeCells ⟨blk, base, none⟩ us i).run P w = .ok () w' ∧ w'.heap.size = w.heap.size ∧ (∀ k, k ≠ blk → w'.heap[k]? = w.heap[k]?) ∧ w'.heap[blk]? = some (.cells c' e (lo, hi)) ∧ c'.size = c.size ∧
      (∀ j, c'[j]? = if base + i ≤ j ∧ j < base + i + us.length then us[j - (base + i)]? else c[j]?) ∧ w'.os = w.os ∧ w'.tape = w.tape ∧ w'.output = w.output
  | [], i, w, c, e, lo, hi, h, _, _, _ => ⟨w, c, rfl, rfl, fun _ _ => rfl, h, rfl, fun j => by rw [if_neg (by simp only [List.length_nil]; omega)], rfl, rfl, rfl⟩
  | u :: us, i, w, c, e, lo, hi, h, hle, hfz, hone => by
    simp only [List.length_cons] at hle hfz
    have ha : (Addr.add ⟨blk, base, none⟩ i) = ⟨blk, base + i, none⟩ := by
      unfold Addr.add; split
      · subst_vars; rfl
      · rfl
    have hlt : base + i < c.size := by omega
    have hcell : w.cell? ⟨blk, base + i, none⟩ = some c[base + i] := by simp [World.cell?, h, hlt]
    have hfro : w.frozen? ⟨blk, base + i, none⟩ = false := by
      simp only [World.frozen?, h]; exact hfz (base + i) (by omega) (by omega)
    have h1 : u.oneCell' = true := hone u (by simp)
    let w1 := w.setCell ⟨blk, base + i, none⟩ u
    have hw1 : w1.heap[blk]? = some (.cells (c.setIfInBounds (base + i) u) e (lo, hi)) := by
      simp [w1, World.setCell, Array.getElem?_modify, h]
    have hother : ∀ k, k ≠ blk → w1.heap[k]? = w.heap[k]? := fun k hk => by
      simp only [w1, World.setCell, Array.getElem?_modify]
      rw [if_neg (fun e => hk e.symm)]
    obtain ⟨w', c', g1, g2, g3, g4, g5, g6, g7, g8, g9⟩ := run_storeCells_ab P blk base us (i + 1) w1 (c.setIfInBounds (base + i) u) e lo hi hw1 (by simp; omega) (fun j a b => hfz j (by omega) (by omega)) (fun x hx => hone x (by simp [hx]))
    refine ⟨w', c', ?_, by rw [g2]; simp [w1, World.setCell], fun k hk => (g3 k hk).trans (hother k hk), g4, by rw [g5]; simp, fun j => ?_, g7, g8, g9⟩
    · simp only [storeCells, Sem.run_bind, ha]
      rw [run_store P w _ u _ h1, hcell]
      simp only [hfro, Bool.false_eq_true, if_false, Result.andThen_ok]
      exact g1
    · rw [g6]
      simp only [List.length_cons]
      by_cases hj : base + (i + 1) ≤ j ∧ j < base + (i + 1) + us.length
      · rw [if_pos hj, if_pos (by omega), show j - (base + i) = (j - (base + (i + 1))) + 1 by omega]; simp
      · rw [if_neg hj]
        by_cases hj2 : j = base + i
        · subst hj2
          rw [if_pos (by omega)]
          simp [hlt]
        · rw [if_neg (by omega)]
          rw [Array.getElem?_setIfInBounds_ne (fun e => hj2 e.symm)]

/-- A row's cells, some of them stored anew. -/
theorem splice_get (vs cs : List AV) (o : Nat) (h : o + cs.length ≤ vs.length) (i : Nat) : (splice vs o cs)[i]? = if o ≤ i ∧ i < o + cs.length then cs[i - o]? else vs[i]? := by
  unfold splice
  have h1 : (vs.take o).length = o := by simp; omega
  by_cases hi : i < o
  · rw [if_neg (by omega), List.append_assoc, List.getElem?_append_left (by omega), List.getElem?_take, if_pos hi]
  · by_cases hi2 : i < o + cs.length
    · rw [if_pos ⟨by omega, hi2⟩, List.append_assoc, List.getElem?_append_right (by omega), h1, List.getElem?_append_left (by omega)]
    · rw [if_neg (by omega), List.getElem?_append_right (by simp; omega), List.getElem?_drop]
      congr 1
      simp only [List.length_append, h1]; omega

theorem splice_length (vs cs : List AV) (o : Nat) (h : o + cs.length ≤ vs.length) : (splice vs o cs).length = vs.length := by
  simp [splice]; omega

/-- **Cells are stored** into a row of the heap. -/
theorem R.storeCells {P : Program} {N G : Nat} {ρ : Names} {H : AH} {w : World} (hR : R N G ρ H w) {b o : Nat} {vs cs : List AV} {us : List Value} {s : Seg} (hb : H.get b = some (.cells false vs)) (hs : ρ b = some s)
    (hc : VRs ρ cs us) (hone : ∀ u ∈ us, u.oneCell' = true) (hle : o + cs.length ≤ vs.length) :
    ∃ w', (storeCells ⟨s.blk, s.base + o, none⟩ us).run P w = .ok () w' ∧ R N G ρ (H.set b (.cells false (splice vs o cs))) w' ∧ Fr ρ H w ρ (H.set b (.cells false (splice vs o cs))) w' := by
  obtain ⟨s', hs', c, e, lo, hi, h1, h2, h3, h4, h5, h6⟩ := hR.obj b _ hb
  rw [hs] at hs'; cases hs'
  obtain ⟨hN, hfz⟩ := h6 rfl
  have hlen := hc.length
  obtain ⟨w', c', g1, g2, g3, g4, g5, g6, g7, g8, g9⟩ := run_storeCells_ab P s.blk (s.base + o) us 0 w c e lo hi h1 (by omega) (fun j a b => notFrozen hfz j (by omega)) hone
  refine ⟨w', g1, ?_⟩
  refine hR.write hb rfl hs rfl g2 (fun k hk => g3 k hk) g7 g8 g9 H.next (Nat.le_refl _) ?_ (fun m l v c e => by cases e) (fun k m l v c _ _ _ ps => by simp)
  refine ⟨c', e, lo, hi, g4, by omega, by rw [splice_length _ _ _ hle]; exact h3, fun i a ha => ?_, h5, fun _ => ⟨hN, by rw [g5]; exact hfz⟩⟩
  rw [splice_get _ _ _ hle] at ha
  rw [g6]
  by_cases hi2 : o ≤ i ∧ i < o + cs.length
  · rw [if_pos hi2] at ha
    rw [if_pos (by omega)]
    obtain ⟨v, hv, hr⟩ := hc.get _ _ ha
    exact ⟨v, by rw [← hv]; congr 1; omega, hr⟩
  · rw [if_neg hi2] at ha
    rw [if_neg (by omega)]
    exact h4 i a ha

def allOne : List AV → Bool
  | [] => true
  | a :: as => a.one && allOne as

theorem allOne_ok {ρ : Names} : ∀ {as : List AV} {vs : List Value}, VRs ρ as vs → allOne as = true → ∀ u ∈ vs, u.oneCell' = true
  | [], vs, h, _, u, hu => by simp only [VRs] at h; subst h; cases hu
  | a :: as, vs, h, ho, u, hu => by
    simp only [VRs] at h
    obtain ⟨v, vs', rfl, h1, h2⟩ := h
    simp only [allOne, Bool.and_eq_true] at ho
    rcases List.mem_cons.1 hu with rfl | hu
    · exact h1.one ho.1
    · exact allOne_ok h2 ho.2 u hu

def astore (C : Ctx) (H : AH) (t : TypeId) (x a : AV) : Option AH :=
  match x with
  | .ptr b o =>
    match H.get b, C.ti t with
    | some (.cells false vs), some i =>
      bif notJunk a && Nat.beq a.cells.length i.size && allOne a.cells && Nat.ble (o + a.cells.length) vs.length then forceList (splice vs o a.cells) (fun l => some (H.set b (.cells false l))) else none
    | _, _ => none
  | _ => none

theorem astore_ok {C : Ctx} (hC : C.OK) {N G : Nat} {ρ : Names} {H H' : AH} {w : World} (hR : R N G ρ H w) {t : TypeId} {x a : AV} {v u : Value} (hx : VR ρ x v) (ha : VR ρ a u) (h : astore C H t x a = some H') :
    Did C.P N G ρ H w (Instr.storeAt t v u) (fun _ _ => True) H' := by
  unfold astore at h
  split at h
  · rename_i b o
    split at h
    · rename_i vs i hb hi
      cases hc : (notJunk a && Nat.beq a.cells.length i.size && allOne a.cells && Nat.ble (o + a.cells.length) vs.length)
      · rw [hc] at h; cases h
      · rw [hc] at h
        simp only [cond_true, forceList_eq, Option.some.injEq] at h
        subst h
        simp only [Bool.and_eq_true] at hc
        obtain ⟨⟨⟨c1, c2⟩, c3⟩, c4⟩ := hc
        have c2 := Nat.eq_of_beq_eq_true c2
        have c4 := Nat.le_of_ble_eq_true c4
        simp only [VR] at hx
        obtain ⟨sg, hsg, rfl⟩ := hx
        have hcs := VR.cells ha c1
        have hl := hcs.length
        obtain ⟨w', g1, g2, g3⟩ := hR.storeCells (P := C.P) hb hsg hcs (allOne_ok hcs c3) c4
        refine ⟨(), w', ρ, ?_, trivial, g2, g3⟩
        unfold Instr.storeAt Instr.sureAddr storeVar
        simp only [Sem.run_bind, Sem.run_pure, Result.andThen_ok, hC.run_size hi]
        rw [if_neg (by simp at hl; omega)]
        exact g1
    · cases h
  · cases h

/-! ### Maps -/
def mset : List (List UInt8 × AV) → List UInt8 → AV → List (List UInt8 × AV)
  | [], k, v => [(k, v)]
  | p :: ps, k, v => bif beqL k p.1 then (k, v) :: ps else p :: mset ps k v

def mdel : List (List UInt8 × AV) → List UInt8 → List (List UInt8 × AV)
  | [], _ => []
  | p :: ps, k => bif beqL k p.1 then ps else p :: mdel ps k

theorem mget_none_keys : ∀ {ps : List (List UInt8 × AV)} {k : List UInt8}, mget ps k = none → k ∉ ps.map (·.1)
  | [], k, _ => by simp
  | p :: ps, k, h => by
    simp only [mget, beqL_eq] at h
    by_cases hk : k = p.1
    · simp [hk] at h
    · simp only [hk, decide_false, cond_false] at h
      simp only [List.map_cons, List.mem_cons, not_or]
      exact ⟨hk, mget_none_keys h⟩

theorem mset_none {ps : List (List UInt8 × AV)} {k : List UInt8} {v : AV} (h : mget ps k = none) : mset ps k v = ps ++ [(k, v)] := by
  induction ps with
  | nil => rfl
  | cons p ps ih =>
    simp only [mget, beqL_eq] at h
    by_cases hk : k = p.1
    · simp [hk] at h
    · simp only [hk, decide_false, cond_false] at h
      simp only [mset, beqL_eq, hk, decide_false, cond_false, List.cons_append, ih h]

theorem mset_keys : ∀ {ps : List (List UInt8 × AV)} {k : List UInt8} {v a : AV}, mget ps k = some a → (mset ps k v).map (·.1) = ps.map (·.1)
  | [], k, v, a, h => by simp [mget] at h
  | p :: ps, k, v, a, h => by
    simp only [mget, beqL_eq] at h
    by_cases hk : k = p.1
    · simp [mset, beqL_eq, hk]
    · simp only [hk, decide_false, cond_false] at h
      simp only [mset, beqL_eq, hk, decide_false, cond_false, List.map_cons, mset_keys h]

theorem EntsR.append {ρ : Names} : ∀ {ps qs : List (List UInt8 × AV)} {es fs : List MapEntry}, EntsR ρ ps es → EntsR ρ qs fs → EntsR ρ (ps ++ qs) (es ++ fs)
  | [], qs, es, fs, h, h' => by simp only [EntsR] at h; subst h; simpa using h'
  | p :: ps, qs, es, fs, h, h' => by
    simp only [EntsR] at h
    obtain ⟨e, es', rfl, h1, h2, h3⟩ := h
    simp only [List.cons_append, EntsR]
    exact ⟨e, es' ++ fs, rfl, h1, h2, h3.append h'⟩

theorem EntsR.modify {ρ : Names} {k : List UInt8} {v : AV} {key val : Value} (hk : key = .string ⟨k.toArray⟩) (hv : VR ρ v val) : ∀ {ps : List (List UInt8 × AV)} {es : List MapEntry} {j : Nat}, EntsR ρ ps es → (ps.map (·.1)).Nodup → (ps.map (·.1))[j]? = some k →
    EntsR ρ (mset ps k v) (es.modify j fun e => { e with key, val })
  | [], es, j, h, _, hj => by simp at hj
  | p :: ps, es, j, h, hn, hj => by
    simp only [EntsR] at h
    obtain ⟨e, es', rfl, h1, h2, h3⟩ := h
    simp only [List.map_cons, List.nodup_cons] at hn
    simp only [mset, beqL_eq]
    cases j with
    | zero =>
      simp at hj
      simp only [hj, decide_true, cond_true, List.modify_zero_cons, EntsR]
      exact ⟨_, es', rfl, hk, hv, h3⟩
    | succ j =>
      simp only [List.map_cons, List.getElem?_cons_succ] at hj
      have hne : ¬ k = p.1 := fun e => hn.1 (e ▸ List.mem_of_getElem? hj)
      simp only [hne, decide_false, cond_false, List.modify_succ_cons, EntsR]
      exact ⟨e, _, rfl, h1, h2, EntsR.modify hk hv h3 hn.2 hj⟩

theorem EntsR.erase {ρ : Names} {k : List UInt8} : ∀ {ps : List (List UInt8 × AV)} {es : List MapEntry} {j : Nat}, EntsR ρ ps es → (ps.map (·.1)).Nodup → (ps.map (·.1))[j]? = some k →
    EntsR ρ (mdel ps k) (es.eraseIdx j)
  | [], es, j, h, _, hj => by simp at hj
  | p :: ps, es, j, h, hn, hj => by
    simp only [EntsR] at h
    obtain ⟨e, es', rfl, h1, h2, h3⟩ := h
    simp only [List.map_cons, List.nodup_cons] at hn
    simp only [mdel, beqL_eq]
    cases j with
    | zero =>
      simp at hj
      simp only [hj, decide_true, cond_true, List.eraseIdx_cons_zero]
      exact h3
    | succ j =>
      simp only [List.map_cons, List.getElem?_cons_succ] at hj
      have hne : ¬ k = p.1 := fun e => hn.1 (e ▸ List.mem_of_getElem? hj)
      simp only [hne, decide_false, cond_false, List.eraseIdx_cons_succ, EntsR]
      exact ⟨e, _, rfl, h1, h2, EntsR.erase h3 hn.2 hj⟩

theorem mdel_keys : ∀ (ps : List (List UInt8 × AV)) (k : List UInt8), ((mdel ps k).map (·.1)).Sublist (ps.map (·.1))
  | [], k => by simp [mdel]
  | p :: ps, k => by
    simp only [mdel]
    cases beqL k p.1
    · simp only [cond_false, List.map_cons]; exact (mdel_keys ps k).cons_cons _
    · simp only [cond_true, List.map_cons]; exact List.sublist_cons_self _ _

theorem mdel_none : ∀ {ps : List (List UInt8 × AV)} {k : List UInt8}, mget ps k = none → mdel ps k = ps
  | [], k, _ => rfl
  | p :: ps, k, h => by
    simp only [mget, beqL_eq] at h
    by_cases hk : k = p.1
    · simp [hk] at h
    · simp only [hk, decide_false, cond_false] at h
      simp only [mdel, beqL_eq, hk, decide_false, cond_false, mdel_none h]

/-- A map's object written anew. -/
theorem R.setMap {N G : Nat} {ρ : Names} {H : AH} {w : World} (hR : R N G ρ H w) {b : Nat} {ps ps' : List (List UInt8 × AV)} {ver : Nat} {s : Seg} (hb : H.get b = some (.map ps ver)) (hs : ρ b = some s) {es : Array MapEntry} {clock : Nat} (hm : MapR ρ ps' es clock) :
    R N G ρ ⟨H.t.set b (.map ps' H.next), H.next + 1⟩ { w with heap := w.heap.setIfInBounds s.blk (.map es clock) } ∧
    Fr ρ H w ρ ⟨H.t.set b (.map ps' H.next), H.next + 1⟩ { w with heap := w.heap.setIfInBounds s.blk (.map es clock) } := by
  obtain ⟨hN, es0, clock0, h0, h1⟩ := hR.map hb hs
  have hlt : s.blk < w.heap.size := by
    rcases Nat.lt_or_ge s.blk w.heap.size with h | h
    · exact h
    · rw [Array.getElem?_eq_none h] at h0; cases h0
  refine hR.write (w' := { w with heap := w.heap.setIfInBounds s.blk (.map es clock) }) (o' := .map ps' H.next) hb rfl hs rfl (by simp) (fun k hk => by simp [Array.getElem?_setIfInBounds_ne (fun e => hk e.symm)]) rfl rfl rfl (H.next + 1) (by omega) ?_ (fun m l v c e => by cases e) (fun k m l v c hk _ _ ps e => ?_)
  · exact ⟨hN, es, clock, by simp [hlt], hm⟩
  · injection e with e1 e2
    have := hR.vers k m l v c hk
    omega

def amapUpdate (C : Ctx) (H : AH) (t : TypeId) (m k v : AV) : Option AH :=
  match C.ti t with
  | none => none
  | some i =>
    match i.d, m, k with
    | .map kt _, .map b, .str s =>
      bif isStrKey C kt then
        match H.get b with
        | some (.map ps _) => some ⟨H.t.set b (.map (mset ps s v) H.next), H.next + 1⟩
        | _ => none
      else none
    | _, _, _ => none

theorem amapUpdate_ok {C : Ctx} (hC : C.OK) {N G : Nat} {ρ : Names} {H H' : AH} {w : World} (hR : R N G ρ H w) {t : TypeId} {m k v : AV} {m' k' v' : Value} (hm : VR ρ m m') (hk : VR ρ k k') (hv : VR ρ v v') (h : amapUpdate C H t m k v = some H') :
    Did C.P N G ρ H w (Instr.mapUpdate t m' k' v') (fun _ _ => True) H' := by
  unfold amapUpdate at h
  split at h
  · cases h
  · rename_i i hi
    split at h
    · rename_i kt et b s hd
      cases hkey : isStrKey C kt
      · rw [hkey] at h; cases h
      · rw [hkey] at h
        simp only [cond_true] at h
        obtain ⟨ki, hki, hkd⟩ := isStrKey_some hkey
        split at h
        · rename_i ps ver hb
          simp only [Option.some.injEq] at h; subst h
          simp only [VR] at hm hk
          obtain ⟨sg, hsg, rfl⟩ := hm
          subst hk
          obtain ⟨hN, es, clock, h0, h1⟩ := hR.map hb hsg
          obtain ⟨f, hf, hq⟩ := findKey_string hC hki hkd s h1.ents w
          have hck := checkKey_string hC hki hkd false 9999 ⟨s.toArray⟩ w
          cases hg : mget ps s with
          | none =>
            rw [hg] at hq
            subst hq
            have hm' : MapR ρ (mset ps s v) (es.push { key := .string ⟨s.toArray⟩, val := v', born := clock }) (clock + 1) := by
              rw [mset_none hg]
              refine ⟨?_, ?_, ?_, ?_⟩
              · rw [Array.toList_push]
                exact h1.ents.append (by simp only [EntsR]; exact ⟨_, [], rfl, rfl, hv, rfl⟩)
              · rw [List.map_append, List.nodup_append]
                refine ⟨h1.keys, by simp, ?_⟩
                intro a ha b hb2
                simp at hb2
                subst hb2
                intro e; subst e
                exact mget_none_keys hg ha
              · rw [Array.toList_push, List.map_append, List.pairwise_append]
                refine ⟨h1.born, by simp, ?_⟩
                intro a ha b hb2
                simp at hb2; subst hb2
                obtain ⟨e, he, rfl⟩ := List.mem_map.1 ha
                exact h1.old e he
              · intro e he
                rw [Array.toList_push] at he
                rcases List.mem_append.1 he with he | he
                · have := h1.old e he; omega
                · simp at he; subst he; simp
            obtain ⟨r1, r2⟩ := hR.setMap hb hsg hm'
            refine ⟨(), _, ρ, ?_, trivial, r1, r2⟩
            unfold Instr.mapUpdate
            simp only [Sem.run_bind, hC.run_und hi, hd, Result.andThen_ok, getObj, Sem.run, h0, hck, hf, setObj]
          | some a =>
            rw [hg] at hq
            obtain ⟨j, u, e, rfl, hu, he, hev, hkj⟩ := hq
            have hjlt : j < es.toList.length := by
              rcases Nat.lt_or_ge j es.toList.length with h | h
              · exact h
              · rw [List.getElem?_eq_none h] at he; cases he
            have hkeyj : e.key = .string ⟨s.toArray⟩ := by
              have key : ∀ {ps : List (List UInt8 × AV)} {es : List MapEntry} {j : Nat}, EntsR ρ ps es → ∀ e, es[j]? = some e → (ps.map (·.1))[j]? = some s → e.key = .string ⟨s.toArray⟩ := by
                intro ps
                induction ps with
                | nil => intro es j h e he hj; simp at hj
                | cons p ps ih =>
                  intro es j h e he hj
                  simp only [EntsR] at h
                  obtain ⟨e0, es', rfl, k1, k2, k3⟩ := h
                  cases j with
                  | zero => simp at he hj; subst he; rw [k1, hj]
                  | succ j => exact ih k3 e (by simpa using he) (by simpa using hj)
              exact key h1.ents e he hkj
            have hes : (es.modify j fun e => { e with key := .string ⟨s.toArray⟩, val := v' }).toList = es.toList.modify j fun e => { e with key := .string ⟨s.toArray⟩, val := v' } := by
              simp [Array.toList_modify]
            have hm' : MapR ρ (mset ps s v) (es.modify j fun e => { e with key := .string ⟨s.toArray⟩, val := v' }) clock := by
              refine ⟨?_, by rw [mset_keys hg]; exact h1.keys, ?_, ?_⟩
              · rw [hes]
                exact EntsR.modify rfl hv h1.ents h1.keys hkj
              · rw [hes]
                have : (es.toList.modify j fun e => { e with key := .string ⟨s.toArray⟩, val := v' }).map (·.born) = es.toList.map (·.born) := by
                  apply List.ext_getElem?
                  intro n
                  rw [List.getElem?_map, List.getElem?_map, List.getElem?_modify]
                  by_cases hn : j = n
                  · subst hn; cases es.toList[j]? <;> simp
                  · cases es.toList[n]? <;> simp [hn]
                rw [this]; exact h1.born
              · intro x hx
                rw [hes] at hx
                obtain ⟨n, hn⟩ := List.getElem?_of_mem hx
                rw [List.getElem?_modify] at hn
                cases hy : es.toList[n]? with
                | none => rw [hy] at hn; simp at hn
                | some y =>
                  rw [hy] at hn
                  have := h1.old y (List.mem_of_getElem? hy)
                  by_cases hjn : j = n
                  · simp [hjn] at hn; subst hn; exact this
                  · simp [hjn] at hn; subst hn; exact this
            obtain ⟨r1, r2⟩ := hR.setMap hb hsg hm'
            refine ⟨(), _, ρ, ?_, trivial, r1, r2⟩
            unfold Instr.mapUpdate
            have he' : es[j]? = some e := by simpa using he
            simp only [Sem.run_bind, hC.run_und hi, hd, Result.andThen_ok, getObj, Sem.run, h0, hck, hf, he', Option.map_some, Option.getD_some, hkeyj]
            unfold Instr.keyThatStays
            have hsb : Instr.sameBits 10000 (Value.string ⟨s.toArray⟩) (Value.string ⟨s.toArray⟩) = true := by
              have : ((ByteArray.mk s.toArray) == ByteArray.mk s.toArray) = true := by rw [beqB]; simp
              exact this
            simp only [hsb, if_true, Sem.run_pure, Result.andThen_ok, setObj, Sem.run, h0]
        · cases h
    · cases h

end Go.AB
