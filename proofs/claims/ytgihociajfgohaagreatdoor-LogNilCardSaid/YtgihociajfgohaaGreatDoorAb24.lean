/- Sorted keys of a map: what the library's contract says of an abstract heap. -/
import Derived.Test.YtgihociajfgohaaGreatDoorAb23
namespace Go.AB
set_option linter.unusedSimpArgs false

theorem EntsR.keys {ρ : Names} : ∀ {ps : List (List UInt8 × AV)} {es : List MapEntry}, EntsR ρ ps es → es.map (·.key) = ps.map fun p => Value.string ⟨p.1.toArray⟩
  | [], es, h => by simp only [EntsR] at h; simp [h]
  | p :: ps, es, h => by
    simp only [EntsR] at h
    obtain ⟨e, es', rfl, hk, _, hr⟩ := h
    simp [hk, EntsR.keys hr]

/-- What is asked of an element: nothing. -/
def anyElem : Value → Option (DataW Unit × List MemPlace) := fun _ => some (.nil, [])

theorem mapKey_str {P : Program} {k : TypeId} (hk : P.underlying k = some .string) (x : List UInt8) (hx : x.length ≤ maxLen) : keyOf P k (.string ⟨x.toArray⟩) = some (.string x) := by
  have : (ByteArray.mk x.toArray).size ≤ maxLen := by show x.toArray.size ≤ maxLen; simpa using hx
  simp [keyOf, hk, mapKey, this]

theorem rg_keys {P : Program} {k : TypeId} (hk : P.underlying k = some .string) {ρ : Names} : ∀ {ps : List (List UInt8 × AV)} {es : List MapEntry}, EntsR ρ ps es → (∀ p ∈ ps, p.1.length ≤ maxLen) →
    (es.map (WideElems.rg P k anyElem)).map (fun p => strOf p.1) = ps.map (·.1) ∧ ∀ x ∈ es, ∃ y, WideElems.rd P k anyElem x = some y
  | [], es, h, _ => by simp only [EntsR] at h; simp [h]
  | p :: ps, es, h, hl => by
    simp only [EntsR] at h
    obtain ⟨e, es', rfl, hke, _, hr⟩ := h
    obtain ⟨h1, h2⟩ := rg_keys hk hr fun q hq => hl q (by simp [hq])
    have hrd : WideElems.rd P k anyElem e = some (.string p.1, .nil) := by
      simp [WideElems.rd, hke, mapKey_str hk p.1 (hl p (by simp)), anyElem]
    refine ⟨?_, fun x hx => ?_⟩
    · rw [List.map_cons, List.map_cons, h1]
      simp [WideElems.rg, hrd, strOf]
    · rcases List.mem_cons.1 hx with rfl | hx
      · exact ⟨_, hrd⟩
      · exact h2 x hx

theorem ownsMap_of {P : Program} {k : TypeId} (hk : P.underlying k = some .string) {ρ : Names} {ps : List (List UInt8 × AV)} {es : Array MapEntry} {clock b : Nat} {w : World} (hb : w.heap[b]? = some (.map es clock)) (hm : MapR ρ ps es clock)
    (hl : ∀ p ∈ ps, p.1.length ≤ maxLen) (hn : ps.length ≤ maxLen) :
    ∃ D0 : DataW Unit, w.ownsMap P k anyElem b es.size D0 ∧ (strKeys D0).Perm (ps.map (·.1)) ∧ Maps.size D0 = ps.length := by
  obtain ⟨h1, h2⟩ := rg_keys hk hm.ents hl
  have hlen : es.size = ps.length := by
    have := congrArg List.length hm.ents.keys
    simpa using this
  have hperm := foldr_insert_perm (es.toList.map (WideElems.rg P k anyElem))
  refine ⟨.map ((es.toList.map (WideElems.rg P k anyElem)).foldr DataW.insert []), ⟨es, clock, hb, ⟨by omega, ⟨hm.old, ?_, ?_⟩, h2⟩, Nat.le_refl _, rfl⟩, ?_, ?_⟩
  · exact hm.born.imp (fun h e => by omega)
  · rw [hm.ents.keys]
    have := hm.keys
    rw [List.nodup_iff_pairwise_ne] at this ⊢
    rw [List.pairwise_map] at this ⊢
    refine this.imp fun hne e => hne ?_
    injection e with e
    have := congrArg (fun b : ByteArray => b.data.toList) e
    simpa using this
  · rw [← h1]
    exact hperm.map _
  · show List.length _ = _
    rw [hperm.length_eq]
    simp [hlen]

def bigLen : Nat := 9223372036854775807

def lensOk : List (List UInt8 × AV) → Bool
  | [] => true
  | p :: ps => Nat.ble p.1.length bigLen && lensOk ps

theorem lensOk_spec : ∀ {ps : List (List UInt8 × AV)}, lensOk ps = true → ∀ p ∈ ps, p.1.length ≤ maxLen
  | [], _, p, hp => by simp at hp
  | q :: ps, h, p, hp => by
    simp only [lensOk, Bool.and_eq_true] at h
    rcases List.mem_cons.1 hp with rfl | hp
    · have := Nat.le_of_ble_eq_true h.1
      unfold bigLen at this
      unfold maxLen
      omega
    · exact lensOk_spec h.2 p hp

def specSorted (it : Nat) (args : List AV) (H : AH) : Option (AV × AH) :=
  match args with
  | [.func g [] [.ptr b 0]] => bif Nat.beq g it then
    match H.get b with
    | some (.cells false (.map m :: _)) =>
      match H.get m with
      | some (.map ps _) =>
        bif lensOk ps && Nat.ble (ps.length * 16) 140737488355328 then
          match isortK (ps.map (·.1)) with
          | [] => some (.nils, H)
          | k :: ks => some (.slice H.next 0 (k :: ks).length (.lo (k :: ks).length) 1, H.alloc (.cells false ((k :: ks).map .str)))
        else none
      | _ => none
    | _ => none
    else none
  | _ => none

theorem R.below {N G : Nat} {ρ : Names} {H : AH} {w w' : World} (hR : R N G ρ H w) (hb : Go.RowKit.Below w.heap.size w w') : R N G ρ H w' ∧ Fr ρ H w ρ H w' := by
  refine ⟨⟨Nat.le_trans hR.size hb.size, hR.glob, fun b o hbo => ?_, hR.inj, hR.fresh, hR.gn, hR.vers, hR.flat⟩, ⟨fun _ _ => rfl, Nat.le_refl _, hb.size, fun k hk _ => hb.block k hk, fun b o s h1 h2 h3 => .inr ⟨b, o, s, h1, h2, h3, rfl⟩, fun _ o _ h => ⟨o, h⟩, hb.os, hb.tape, hb.output⟩⟩
  obtain ⟨s, h1, h2⟩ := hR.obj b o hbo
  refine ⟨s, h1, h2.keep (fun _ _ h => h) (hb.block _ h2.lt) fun m l v c _ sm ps hsm hg => ⟨hg, hb.block _ ?_⟩⟩
  obtain ⟨s', h3, h4⟩ := hR.obj m _ hg
  rw [hsm] at h3; cases h3
  exact h4.lt

theorem specSorted_ok {P : Program} {f it : FuncId} {kt : TypeId} (hk : P.underlying kt = some .string)
    (hcon : ∀ (Bm b nn : Nat) (D0 : DataW Unit) (w : World), Bm < w.heap.size → w.cell? ⟨Bm, 0, none⟩ = some (.map (some b)) → w.ownsMap P kt anyElem b nn D0 → Maps.size D0 ≤ maxLen → Maps.size D0 * 16 ≤ 140737488355328 →
      Calls P f #[.func (.func it) #[] #[.pointer (some ⟨Bm, 0, none⟩)]] w fun e w' => ∃ (v : Value) (ss : List (List UInt8)), e = .returned v ∧ ss.Perm (strKeys D0) ∧
        w'.ownsRow w.heap.size kt 1 v ss.length ((ss.mergeSort (fun x y => decide (x ≤ y))).map Go.Proofs.encStr) ∧ (v = .slice none 0 0 ↔ ss = []) ∧ Go.RowKit.Below w.heap.size w w')
    {N G : Nat} {ρ : Names} {H H' : AH} {w : World} {args : List AV} {vs : List Value} {r : AV} (h : specSorted it args H = some (r, H')) (hR : R N G ρ H w) (hv : VRs ρ args vs) :
    Calls P f ⟨vs⟩ w fun e w' => ∃ v ρ', e = .returned v ∧ VR ρ' r v ∧ R N G ρ' H' w' ∧ Fr ρ H w ρ' H' w' := by
  unfold specSorted at h
  split at h
  · rename_i g b
    cases hg : Nat.beq g it
    · rw [hg] at h; cases h
    · rw [hg] at h
      obtain rfl := Nat.eq_of_beq_eq_true hg
      simp only [cond_true] at h
      simp only [VRs, VR] at hv
      obtain ⟨fv, vs', rfl, ⟨us, cs, rfl, rfl, ⟨cv, cs', rfl, ⟨s, hs, rfl⟩, rfl⟩⟩, rfl⟩ := hv
      split at h
      · rename_i m rest hgb
        split at h
        · rename_i ps ver hgm
          cases hc : (lensOk ps && Nat.ble (ps.length * 16) 140737488355328)
          · rw [hc] at h; cases h
          · rw [hc] at h
            simp only [cond_true] at h
            simp only [Bool.and_eq_true] at hc
            have hl := lensOk_spec hc.1
            have hn := Nat.le_of_ble_eq_true hc.2
            obtain ⟨s', hs', c, e, lo, hi, g1, g2, g3, g4, g5, g6⟩ := hR.obj b _ hgb
            rw [hs] at hs'; cases hs'
            have hbase : s.base = 0 := hR.flat b s hs (g6 rfl).1
            obtain ⟨cell, hcell, hcr⟩ := g4 0 (.map m) (by simp)
            simp only [VR] at hcr
            obtain ⟨sm, hsm, rfl⟩ := hcr
            obtain ⟨hNm, es, clock, k0, k1⟩ := hR.map hgm hsm
            obtain ⟨D0, q1, q2, q3⟩ := ownsMap_of hk k0 k1 hl (by unfold maxLen; omega)
            have hlt : s.blk < w.heap.size := by
              rcases Nat.lt_or_ge s.blk w.heap.size with h | h
              · exact h
              · rw [Array.getElem?_eq_none h] at g1; cases g1
            have hcl : w.cell? ⟨s.blk, 0, none⟩ = some (.map (some sm.blk)) := by
              rw [hbase] at hcell
              simp only [World.cell?, g1]
              simpa using hcell
            have hargs : (⟨[.func (.func g) ⟨[]⟩ ⟨[.pointer (some ⟨s.blk, s.base + 0, none⟩)]⟩]⟩ : Array Value) = #[.func (.func g) #[] #[.pointer (some ⟨s.blk, 0, none⟩)]] := by rw [hbase]
            rw [hargs]
            refine (hcon s.blk sm.blk es.size D0 w hlt hcl q1 (by rw [q3]; unfold maxLen; omega) (by rw [q3]; exact hn)).mono ?_
            rintro e' w' ⟨v, ss, rfl, hperm, hrow, hnil, hbl⟩
            have hsorted := mergeSort_isortK (hperm.trans q2)
            rw [hsorted] at hrow
            have hlen : ss.length = (isortK (ps.map (·.1))).length := by
              rw [(isortK_perm _).length_eq, (hperm.trans q2).length_eq]
            split at h
            · rename_i hks
              simp only [Option.some.injEq, Prod.mk.injEq] at h
              obtain ⟨rfl, rfl⟩ := h
              rw [hks] at hlen
              have hss : ss = [] := List.eq_nil_of_length_eq_zero hlen
              obtain ⟨r1, r2⟩ := hR.below hbl
              exact ⟨v, ρ, rfl, by simp only [VR]; exact hnil.2 hss, r1, r2⟩
            · rename_i k ks hks
              simp only [Option.some.injEq, Prod.mk.injEq] at h
              obtain ⟨rfl, rfl⟩ := h
              rw [hks] at hlen hrow
              obtain ⟨_, hrow⟩ := hrow
              rcases hrow with ⟨_, h0⟩ | ⟨gb, cap, cur, rfl, hge, hgb', hle, hcap, hsz, htake⟩
              · rw [hlen] at h0; simp at h0
              · rw [hlen] at hle htake
                simp only [Nat.mul_one] at htake hsz
                have hnew : ρ H.next = none := hR.fresh _ (Nat.le_refl _)
                let sg : Seg := ⟨gb, 0, cap⟩
                have hor : OR N (ρ.put H.next sg) (H.alloc (.cells false ((k :: ks).map .str))) w' sg (.cells false ((k :: ks).map .str)) := by
                  refine ⟨cur, kt, 0, 0, hgb', by show 0 + cap ≤ cur.size; omega, by show ((k :: ks).map AV.str).length ≤ cap; simpa using hle, fun i a ha => ?_, fun e => (by cases e), fun _ => ⟨by show N ≤ gb; have := hR.size; omega, .inl rfl⟩⟩
                  rw [List.getElem?_map, Option.map_eq_some_iff] at ha
                  obtain ⟨x, hx, rfl⟩ := ha
                  have hi : i < (k :: ks).length := (List.getElem?_eq_some_iff.1 hx).1
                  have : (cur.toList.take (k :: ks).length)[i]? = some (Go.Proofs.encStr x) := by rw [htake, List.getElem?_map, hx]; rfl
                  rw [List.getElem?_take, if_pos hi] at this
                  exact ⟨Go.Proofs.encStr x, by show cur[0 + i]? = _; rw [Nat.zero_add]; simpa using this, by simp only [VR]⟩
                obtain ⟨r1, r2⟩ := hR.adopt hbl (.cells false ((k :: ks).map .str)) sg hge rfl rfl hor (fun m l v c e => by cases e)
                refine ⟨_, _, rfl, ?_, r1, r2⟩
                simp only [VR, hlen]
                exact ⟨sg, cap, Names.put_same _ _ _, rfl, hle, hle, by show 0 + cap * 1 ≤ cap; omega⟩
        · cases h
      · cases h
  · cases h

end Go.AB
