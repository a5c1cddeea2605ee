/- Files: a call walked; the plain law of FilesFuse; two disks in a heap; no condition. -/
import Derived.Test.YtdenmkbbmkdnpaaFuseArgs
import Derived.Test.YtdenmkbbmkdnpaaKeepsArgs
set_option linter.unusedSimpArgs false
set_option linter.unusedVariables false
open Go Go.AB Go.Proofs
namespace Go.Proofs.Ytdenmkbbmkdnpaa
set_option maxRecDepth 100000

theorem NoteAt.keep1 {H K : AH} {fv : AV} {nt : Note} (h : NoteAt H fv nt) (hk : ∀ b y, H.get b = some (.cells false [y]) → K.get b = some (.cells false [y])) : NoteAt K fv nt := by
  cases nt with
  | make n f =>
    obtain ⟨bf, bn, rfl, h1, h2⟩ := h
    exact ⟨bf, bn, rfl, hk _ _ h1, hk _ _ h2⟩
  | ren a b =>
    obtain ⟨bf, bn, rfl, h1, h2⟩ := h
    exact ⟨bf, bn, rfl, hk _ _ h1, hk _ _ h2⟩
  | rem n =>
    obtain ⟨bn, rfl, h2⟩ := h
    exact ⟨bn, rfl, hk _ _ h2⟩

/-- What is a disk's, single cells and bytes beside, stay. -/
def Stays1 (H K : AH) (A : Nat → Prop) : Prop := (∀ b x, H.get b = some x → (A b ∨ (∃ y, x = .cells false [y]) ∨ kind x = 4) → K.get b = some x) ∧ H.next ≤ K.next

theorem DA.keep1 {H K : AH} {d : Nat} {φ : Nat → Nat} {M : DM} {A A' : Nat → Prop} {nb sb : Nat} {cv : AV} {v1 v2 : Nat} (h : DA H d φ M A nb sb cv v1 v2) (hs : Stays1 H K A) (hA : ∀ b, A b → A' b) : DA K d φ M A' nb sb cv v1 v2 where
  core := hs.1 _ _ h.core (.inl h.ad)
  now := hs.1 _ _ h.now (.inl h.an)
  ver1 := Nat.lt_of_lt_of_le h.ver1 hs.2
  sf := hs.1 _ _ h.sf (.inl h.asf)
  ver2 := Nat.lt_of_lt_of_le h.ver2 hs.2
  notes := by
    rcases h.notes with h1 | ⟨cb, ws, e, h0, h4, h5, h6⟩
    · exact .inl h1
    · refine .inr ⟨cb, ws, e, h0, hs.1 _ _ h4 (.inl (h.ac _ _ _ _ _ e)), h5, fun i nt hi => ?_⟩
      obtain ⟨fv, h7, h8⟩ := h6 i nt hi
      exact ⟨fv, h7, h8.keep1 fun b y hb => hs.1 b _ hb (.inr (.inl ⟨y, rfl⟩))⟩
  ne := h.ne
  ad := hA _ h.ad
  an := hA _ h.an
  asf := hA _ h.asf
  ac b o n c z e := hA _ (h.ac b o n c z e)
  files i p hi := by
    obtain ⟨h1, bv, h2, h3⟩ := h.files i p hi
    exact ⟨hA _ h1, bv, hs.1 _ _ h2 (.inl h1), h3.keep fun b x hb hx => hs.1 b x hb (.inr (.inr hx))⟩
  inj := h.inj
theorem DiskAt.keep1 {H K : AH} {d : Nat} {M : DM} {A A' : Nat → Prop} (h : DiskAt H d M A) (hs : Stays1 H K A) (hA : ∀ b, A b → A' b) : DiskAt K d M A' := by
  obtain ⟨φ, nb, sb, cv, v1, v2, h⟩ := h
  exact ⟨φ, nb, sb, cv, v1, v2, h.keep1 hs hA⟩

theorem cv22b {H : AH} {v : AV} {l : List UInt8} (h : BX H v l) : convOp tC H 22 9 v = some (.str l, H) := by
  have := cv22_9 H v (by
    rcases h with ⟨rfl, _⟩ | ⟨rfl, _⟩ | ⟨b, o, c, ro, vs, rfl, _⟩
    · exact fun s h => by cases h
    · exact fun s h => by cases h
    · exact fun s h => by cases h)
  rw [h.bytes.str] at this
  exact this

/-- An answer in its box. -/
def ansO (s : Nm) (e : Int) : AO := .cells false [.str s, .int .i64 e]
theorem ans_stays {H : AH} {b : Nat} {s s' : Nm} {e e' : Int} {A : Nat → Prop} (h : H.get b = some (ansO s e)) (hA : ¬ A b) : Stays1 H (H.set b (ansO s' e')) A := ⟨fun c x hc hx => by
  rw [AH.get_set]
  split
  · rename_i he
    subst he
    rw [h] at hc
    cases hc
    rcases hx with hx | ⟨y, hx⟩ | hx
    · exact absurd hx hA
    · simp [ansO] at hx
    · simp [ansO, kind, kindV, isU8] at hx
  · exact hc, Nat.le_refl _⟩

def callM (M : DM) (k : Nat) (a : ActM) : (Nm × Int) × DM :=
  match k with
  | 0 => (([], (M.make a.name).1), (M.make a.name).2)
  | 1 => (([], (M.append a.name a.bytes).1), (M.append a.name a.bytes).2)
  | 2 => (([], (M.sync a.name).1), (M.sync a.name).2)
  | 3 => (([], M.syncNames.1), M.syncNames.2)
  | 4 => (([], (M.rename a.name a.to).1), (M.rename a.name a.to).2)
  | 5 => (([], (M.remove a.name).1), (M.remove a.name).2)
  | _ => ((M.readB a.name, M.readE a.name), M.op (nameOK a.name))

theorem bd51 (s : Nm) (e : Int) : abuild tC 51 [(0, .str s), (1, .int .i64 e)] = some (.agg [.str s, .int .i64 e]) := by kernel_rfl
theorem st51 {H : AH} {b : Nat} {s s' : Nm} {e e' : Int} (h : H.get b = some (ansO s e)) : astore tC H 51 (.ptr b 0) (.agg [.str s', .int .i64 e']) = some (H.set b (ansO s' e')) := astore_agg ti51 h rfl rfl (by simp)
theorem al51 (F : Fns) (H : AH) (ev : Operand → AV) (dst : Option Tmp) (ty : TypeId) (pos : String) (after : Array Edge) (guard : Option (Nat × Bool)) : evOp tC F H ev { dst, op := .alloc 51, type := ty, pos, after, guard } = some (.ptr H.next 0, H.alloc (ansO [] 0)) := evOp_alloc ti51 rfl rfl

theorem fnPost_cell {T : PT AV} {H : AH} {t : Nat} {ty : TypeId} {Q : AV → AH → Prop} {p a : AV} (h : T.get t = some p) (h2 : aload tC H ty p = some a) (hq : Q a H) : fnPost tC [.cell t ty] Q .ret T H := ⟨[a], by simp only [aresults, aresult, h, h2], hq⟩
theorem ld51a {H : AH} {b : Nat} {s : Nm} {e : Int} (h : H.get b = some (ansO s e)) : aload tC H 51 (.ptr b 0) = some (.agg [.str s, .int .i64 e]) := by
  rw [ld51]; simp only [cellsAt, h, ansO]; rfl

set_option maxHeartbeats 8000000 in
theorem call25 (N : Nat) (H : AH) {d : Nat} {M : DM} {A : Nat → Prop} {k : Nat} {a : ActM} {vb vp : AV} {c : List AV} (hA : ∀ b, A b → b < H.next) (h : DiskAt H d M A) (ok : M.OK) (hlen : M.notes.length ≤ 1000000) (hu : M.used < 1000000000) (hfl : ∀ i, (M.file i).1.length ≤ 1000000000) (hr : 0 ≤ M.room) (hr2 : M.room < 1000000000000)
    (hv : ActV H a vb vp c) (hb3 : a.bytes.length ≤ 3000) (hk : pickM a.kind 9 = k) (h6 : k ≠ 6) (h7 : k ≠ 7) :
    AC tC N 0 25 [.ptr d 0, .agg c] H fun r K => r = .agg [.str (callM M k a).1.1, .int .i64 (callM M k a).1.2] ∧ DiskAt K d (callM M k a).2 (AddR A H.next K.next) ∧ Apart H K A := by
  refine AC.wf0 fun hwf => ?_
  obtain ⟨rfl, hB, hP⟩ := hv
  refine AC.by (n := 84) (rs := [.cell 4 51]) tOK fn25 rfl rfl rfl rfl ?_
  have e0 : (PT.ofList .leaf 0 [AV.ptr d 0, .agg [.int .i64 a.kind, .str a.name, .str a.to, vb, .int .i64 a.n, vp]]).get 0 = some (.ptr d 0) := rfl
  have e1 : (PT.ofList .leaf 0 [AV.ptr d 0, .agg [.int .i64 a.kind, .str a.name, .str a.to, vb, .int .i64 a.n, vp]]).get 1 = some (.agg [.int .i64 a.kind, .str a.name, .str a.to, vb, .int .i64 a.n, vp]) := rfl
  generalize hH1 : (H.alloc (.cells false [.int .i64 a.kind, .str a.name, .str a.to, vb, .int .i64 a.n, vp])).alloc (ansO [] 0) = H1
  have n1 : H1.next = H.next + 2 := by rw [← hH1]; rfl
  have g1 : H1.get H.next = some (.cells false [.int .i64 a.kind, .str a.name, .str a.to, vb, .int .i64 a.n, vp]) := by rw [← hH1, AH.get_alloc, if_neg (by simp), AH.get_alloc, if_pos rfl]
  have g2 : H1.get (H.next + 1) = some (ansO [] 0) := by rw [← hH1, AH.get_alloc, if_pos (by simp)]
  have hs1 : ∀ b x, H.get b = some x → H1.get b = some x := fun b x hb => by
    have := hwf b x hb
    rw [← hH1, AH.get_alloc, if_neg (by simp; omega), AH.get_alloc, if_neg (by omega)]; exact hb
  have hD1 : DiskAt H1 d M A := h.keep ⟨fun b x hb _ => hs1 b x hb, by omega⟩ fun _ => id
  with_reducible repeat' (first
    | refine AW.seq ?_
    | refine AW.region ?_
    | refine AOs.nil ?_
    | refine andThen_normal ?_
    | ((first
        | refine AOs.op1E tOK (by with_unfolding_all rfl) ?_
        ); refine Step.mk (by simp only [evOp_fieldAddr, evOp_load, evOp_boxC, boxC_agg, aeval, PT.get_set, Nat.reduceEqDiff, reduceIte, cellAt, Option.map_some, List.getElem?_cons_zero, Nat.add_zero, eq_self, ld3, fa47_0, e1, al51, AH.next_alloc, hH1, g1]; rfl) ?_)
    | fail "stop")
  refine AOs.callQ tOK (fs := []) (cs := []) rfl fn23 ok23 rfl (by simp only [List.map_cons, List.map_nil, List.nil_append, List.append_nil, aeval, ofVal, PT.get_set, Nat.reduceEqDiff, reduceIte] <;> rfl) (pick23 N H1 (x := a.kind) (m := 9) (by omega) (by omega)) ?_
  rintro r K ⟨rfl, rfl⟩
  rw [hk]
  have hk9 : k < 9 := by rw [← hk]; exact pickM_lt (by omega)
  have hAn : ¬ A (H.next + 1) := fun e => by have := hA _ e; omega
  match k, hk9, h6, h7 with
  | 0, _, _, _ =>
    with_reducible repeat' (first
      | refine AW.seq ?_
      | refine AW.region ?_
      | refine AW.block ?_
      | refine AOs.nil ?_
      | refine andThen_normal ?_
      | refine AW.condT (by simp only [aeval, PT.get_set, Nat.reduceEqDiff, reduceIte]; rfl) (by first | rfl | decide | assumption) ?_
      | ((first
          | refine AOs.op1E tOK (by with_unfolding_all rfl) ?_
          ); refine Step.mk (by simp only [evOp_move, evOp_assign, evOp_binOp, evOp_fieldAddr, evOp_load, aeval, ofVal, PT.get_set, Nat.reduceEqDiff, reduceIte, cellAt, Option.map_some, abin_eql, decide_true, List.getElem?_cons_zero, List.getElem?_cons_succ, Nat.zero_add, eq_self, Int.cast_ofNat_Int, ld9, fa47_1, e0, g1]; rfl) ?_)
      | fail "stop")
    refine AOs.callQ tOK (fs := []) (cs := []) rfl fn8 ok8 rfl (by simp only [List.map_cons, List.map_nil, List.nil_append, List.append_nil, aeval, PT.get_set, Nat.reduceEqDiff, reduceIte] <;> rfl) (make8 N K (n := a.name) (fun b hb => by have := hA b hb; omega) hD1 ok hlen) ?_
    rintro r K1 ⟨rfl, hD, ap⟩
    have hAK := ap.1 _ _ g2 (.inl hAn)
    have hst := st51 (s' := []) (e' := (M.make a.name).1) hAK
    have hbd := bd51 [] (M.make a.name).1
    with_reducible repeat' (first
      | refine AOs.nil ?_
      | refine AW.ret ?_
      | refine andThen_normal ?_
      | refine andThen_ret ?_
      | refine inBlock_ret ?_
      | ((first
          | refine AOs.op1E tOK (by with_unfolding_all rfl) ?_
          | refine AOs.op0E tOK ?_
          ); refine Step.mk (by simp only [evOp_build, evOp_store, aeval, ofVal, PT.get_set, Nat.reduceEqDiff, reduceIte, List.map_cons, List.map_nil, Option.map_some, nblt, eq_self, Int.cast_ofNat_Int, hbd, hst]; rfl) ?_)
      | fail "stop")
    have hge : (K1.set (H.next + 1) (ansO ([]) ((M.make a.name).1))).get (H.next + 1) = some (ansO ([]) ((M.make a.name).1)) := by rw [AH.get_set, if_pos rfl]
    refine fnPost_cell (by first | (simp only [PT.get_set, Nat.reduceEqDiff, reduceIte]; rfl) | simp only [PT.get_set, Nat.reduceEqDiff, reduceIte]) (ld51a hge) ⟨rfl, hD.keep1 (ans_stays hAK fun e => by
      rcases e with e | e
      · exact hAn e
      · omega) (fun b hb => hb.imp id fun hb => ⟨by omega, hb.2⟩), fun b x hb hx => ?_, ?_⟩
    · have := hwf b x hb
      rw [AH.get_set, if_neg (by omega)]
      exact ap.1 b x (hs1 b x hb) hx
    · have := ap.2
      show H.next ≤ K1.next
      omega
  | 1, _, _, _ =>
    with_reducible repeat' (first
      | refine AW.seq ?_
      | refine AW.region ?_
      | refine AW.block ?_
      | refine AOs.nil ?_
      | refine andThen_normal ?_
      | refine AW.condT (by simp only [aeval, PT.get_set, Nat.reduceEqDiff, reduceIte]; rfl) (by first | rfl | decide | assumption) ?_
      | refine AW.condF (by simp only [aeval, PT.get_set, Nat.reduceEqDiff, reduceIte]; rfl) (by first | rfl | decide | assumption) ?_
      | refine AW.drawT tOK (by with_unfolding_all rfl) (by simp only [pickAll, Nat.reduceAdd]; rfl) ?_
      | ((first
          | refine DN.fl1E (by with_unfolding_all rfl) (by with_unfolding_all rfl) ?_
          | refine DN.rd1E (by kernel_rfl) (by with_unfolding_all rfl) ?_
          ); refine Step.mk (by simp only [evOp_move, evOp_fieldAddr, evOp_load, aeval, PT.get_set, Nat.reduceEqDiff, reduceIte, cellAt, Option.map_some, List.getElem?_cons_zero, List.getElem?_cons_succ, Nat.zero_add, eq_self, Int.cast_ofNat_Int, ld9, ld22, fa47_1, fa47_3, e0, g1]; rfl) ?_; refine Same.mk ?_)
      | ((first
          | refine AOs.op1E tOK (by with_unfolding_all rfl) ?_
          ); refine Step.mk (by simp only [evOp_assign, evOp_binOp, aeval, ofVal, PT.get_set, Nat.reduceEqDiff, reduceIte, Option.map_some, abin_eql, decide_true, decide_false, eq_self, Int.cast_ofNat_Int, Int.reduceEq]; rfl) ?_)
      | fail "stop")
    refine DN.callP tOK (fs := []) (cs := []) rfl fn10 ok10 rfl (by simp only [List.map_cons, List.map_nil, List.nil_append, List.append_nil, aeval, PT.get_set, Nat.reduceEqDiff, reduceIte] <;> rfl) (own10 N K (hB.keep fun b x hb _ => hs1 b x hb).bytes (by omega)) ?_
    rintro r K2 ⟨o2, k2, n2⟩
    have g1' := k2 _ _ g1
    constructor
    · repeat' (first | exact good_nil | refine good_cons ?_ ?_ | exact good_of (by kernel_rfl) rfl (by simp only [evOp_load, aeval, PT.get_set, Nat.reduceEqDiff, reduceIte, cellAt, Option.map_some, List.getElem?_cons_zero, List.getElem?_cons_succ, eq_self, Int.cast_ofNat_Int, ld9, ld22, g1'] <;> rfl) 1)
    have hD2 : DiskAt K2 d M A := hD1.keep ⟨fun b x hb _ => k2 b x hb, n2⟩ fun _ => id
    refine DN.call tOK (fs := []) (cs := []) rfl fn9 ok9 rfl (by simp only [List.map_cons, List.map_nil, List.nil_append, List.append_nil, aeval, PT.get_set, Nat.reduceEqDiff, reduceIte] <;> rfl) (append9 N K2 (n := a.name) hD2 ok o2 (by omega) (by omega) (fun i => Nat.le_trans (Nat.add_le_add_right (hfl i) _) (by omega)) hr hr2) (by with_unfolding_all rfl) ?_
    rintro r K3 ⟨rfl, hD, ap2⟩
    have ap : Apart K K3 A := ⟨fun b x hb hx => ap2.1 b x (k2 b x hb) hx, by have := ap2.2; omega⟩
    have hAK := ap.1 _ _ g2 (.inl hAn)
    have hst := st51 (s' := []) (e' := (M.append a.name a.bytes).1) hAK
    have hbd := bd51 [] (M.append a.name a.bytes).1
    with_reducible repeat' (first
      | refine AW.ret ?_
      | refine andThen_normal ?_
      | refine andThen_ret ?_
      | refine inBlock_ret ?_
      | refine DN.nil tOK ?_
      | ((first
          | refine DN.fl1E (by with_unfolding_all rfl) (by with_unfolding_all rfl) ?_
          ); refine Step.mk (by simp only [evOp_build, aeval, ofVal, PT.get_set, Nat.reduceEqDiff, reduceIte, List.map_cons, List.map_nil, Option.map_some, nblt, eq_self, Int.cast_ofNat_Int, hbd]; rfl) ?_; refine Same.mk ?_)
      | ((first
          | refine DN.act0E tOK (by kernel_rfl) (by with_unfolding_all rfl) ?_
          ); refine Step.mk (by simp only [evOp_store, aeval, PT.get_set, Nat.reduceEqDiff, reduceIte, Option.map_some, eq_self, Int.cast_ofNat_Int, hst]; rfl) ?_)
      | fail "stop")
    have hge : (K3.set (H.next + 1) (ansO ([]) ((M.append a.name a.bytes).1))).get (H.next + 1) = some (ansO ([]) ((M.append a.name a.bytes).1)) := by rw [AH.get_set, if_pos rfl]
    refine fnPost_cell (by first | (simp only [PT.get_set, Nat.reduceEqDiff, reduceIte]; rfl) | simp only [PT.get_set, Nat.reduceEqDiff, reduceIte]) (ld51a hge) ⟨rfl, hD.keep1 (ans_stays hAK fun e => by
      rcases e with e | e
      · exact hAn e
      · omega) (fun b hb => hb.imp id fun hb => ⟨by omega, hb.2⟩), fun b x hb hx => ?_, ?_⟩
    · have := hwf b x hb
      rw [AH.get_set, if_neg (by omega)]
      exact ap.1 b x (hs1 b x hb) hx
    · have := ap.2
      show H.next ≤ K3.next
      omega
  | 2, _, _, _ =>
    with_reducible repeat' (first
      | refine AW.seq ?_
      | refine AW.region ?_
      | refine AW.block ?_
      | refine AOs.nil ?_
      | refine andThen_normal ?_
      | refine AW.condT (by simp only [aeval, PT.get_set, Nat.reduceEqDiff, reduceIte]; rfl) (by first | rfl | decide | assumption) ?_
      | refine AW.condF (by simp only [aeval, PT.get_set, Nat.reduceEqDiff, reduceIte]; rfl) (by first | rfl | decide | assumption) ?_
      | ((first
          | refine AOs.op1E tOK (by with_unfolding_all rfl) ?_
          ); refine Step.mk (by simp only [evOp_move, evOp_assign, evOp_binOp, evOp_fieldAddr, evOp_load, aeval, ofVal, PT.get_set, Nat.reduceEqDiff, reduceIte, cellAt, Option.map_some, abin_eql, decide_true, decide_false, List.getElem?_cons_zero, List.getElem?_cons_succ, Nat.zero_add, eq_self, Int.cast_ofNat_Int, Int.reduceEq, ld9, fa47_1, e0, g1]; rfl) ?_)
      | fail "stop")
    refine AOs.callQ tOK (fs := []) (cs := []) rfl fn11 ok11 rfl (by simp only [List.map_cons, List.map_nil, List.nil_append, List.append_nil, aeval, PT.get_set, Nat.reduceEqDiff, reduceIte] <;> rfl) (sync11 N K (n := a.name) hD1 ok) ?_
    rintro r K1 ⟨rfl, hD, ap⟩
    have hAK := ap.1 _ _ g2 (.inl hAn)
    have hst := st51 (s' := []) (e' := (M.sync a.name).1) hAK
    have hbd := bd51 [] (M.sync a.name).1
    with_reducible repeat' (first
      | refine AOs.nil ?_
      | refine AW.ret ?_
      | refine andThen_normal ?_
      | refine andThen_ret ?_
      | refine inBlock_ret ?_
      | ((first
          | refine AOs.op1E tOK (by with_unfolding_all rfl) ?_
          | refine AOs.op0E tOK ?_
          ); refine Step.mk (by simp only [evOp_build, evOp_store, aeval, ofVal, PT.get_set, Nat.reduceEqDiff, reduceIte, List.map_cons, List.map_nil, Option.map_some, nblt, eq_self, Int.cast_ofNat_Int, hbd, hst]; rfl) ?_)
      | fail "stop")
    have hge : (K1.set (H.next + 1) (ansO ([]) ((M.sync a.name).1))).get (H.next + 1) = some (ansO ([]) ((M.sync a.name).1)) := by rw [AH.get_set, if_pos rfl]
    refine fnPost_cell (by first | (simp only [PT.get_set, Nat.reduceEqDiff, reduceIte]; rfl) | simp only [PT.get_set, Nat.reduceEqDiff, reduceIte]) (ld51a hge) ⟨rfl, hD.keep1 (ans_stays hAK fun e => by
      rcases e with e | e
      · exact hAn e
      · omega) (fun b hb => hb.imp id fun hb => ⟨by omega, hb.2⟩), fun b x hb hx => ?_, ?_⟩
    · have := hwf b x hb
      rw [AH.get_set, if_neg (by omega)]
      exact ap.1 b x (hs1 b x hb) hx
    · have := ap.2
      show H.next ≤ K1.next
      omega
  | 3, _, _, _ =>
    with_reducible repeat' (first
      | refine AW.seq ?_
      | refine AW.region ?_
      | refine AW.block ?_
      | refine AOs.nil ?_
      | refine andThen_normal ?_
      | refine AW.condT (by simp only [aeval, PT.get_set, Nat.reduceEqDiff, reduceIte]; rfl) (by first | rfl | decide | assumption) ?_
      | refine AW.condF (by simp only [aeval, PT.get_set, Nat.reduceEqDiff, reduceIte]; rfl) (by first | rfl | decide | assumption) ?_
      | ((first
          | refine AOs.op1E tOK (by with_unfolding_all rfl) ?_
          ); refine Step.mk (by simp only [evOp_move, evOp_assign, evOp_binOp, aeval, ofVal, PT.get_set, Nat.reduceEqDiff, reduceIte, Option.map_some, abin_eql, decide_true, decide_false, eq_self, Int.cast_ofNat_Int, Int.reduceEq, e0]; rfl) ?_)
      | fail "stop")
    refine AOs.callQ tOK (fs := []) (cs := []) rfl fn12 ok12 rfl (by simp only [List.map_cons, List.map_nil, List.nil_append, List.append_nil, aeval, PT.get_set, Nat.reduceEqDiff, reduceIte] <;> rfl) (syncNames12 N K hD1 ok hlen) ?_
    rintro r K1 ⟨rfl, hD, ap⟩
    have hAK := ap.1 _ _ g2 (.inl hAn)
    have hst := st51 (s' := []) (e' := M.syncNames.1) hAK
    have hbd := bd51 [] M.syncNames.1
    with_reducible repeat' (first
      | refine AOs.nil ?_
      | refine AW.ret ?_
      | refine andThen_normal ?_
      | refine andThen_ret ?_
      | refine inBlock_ret ?_
      | ((first
          | refine AOs.op1E tOK (by with_unfolding_all rfl) ?_
          | refine AOs.op0E tOK ?_
          ); refine Step.mk (by simp only [evOp_build, evOp_store, aeval, ofVal, PT.get_set, Nat.reduceEqDiff, reduceIte, List.map_cons, List.map_nil, Option.map_some, nblt, eq_self, Int.cast_ofNat_Int, hbd, hst]; rfl) ?_)
      | fail "stop")
    have hge : (K1.set (H.next + 1) (ansO ([]) (M.syncNames.1))).get (H.next + 1) = some (ansO ([]) (M.syncNames.1)) := by rw [AH.get_set, if_pos rfl]
    refine fnPost_cell (by first | (simp only [PT.get_set, Nat.reduceEqDiff, reduceIte]; rfl) | simp only [PT.get_set, Nat.reduceEqDiff, reduceIte]) (ld51a hge) ⟨rfl, hD.keep1 (ans_stays hAK fun e => by
      rcases e with e | e
      · exact hAn e
      · omega) (fun b hb => hb.imp id fun hb => ⟨by omega, hb.2⟩), fun b x hb hx => ?_, ?_⟩
    · have := hwf b x hb
      rw [AH.get_set, if_neg (by omega)]
      exact ap.1 b x (hs1 b x hb) hx
    · have := ap.2
      show H.next ≤ K1.next
      omega
  | 4, _, _, _ =>
    with_reducible repeat' (first
      | refine AW.seq ?_
      | refine AW.region ?_
      | refine AW.block ?_
      | refine AOs.nil ?_
      | refine andThen_normal ?_
      | refine AW.condT (by simp only [aeval, PT.get_set, Nat.reduceEqDiff, reduceIte]; rfl) (by first | rfl | decide | assumption) ?_
      | refine AW.condF (by simp only [aeval, PT.get_set, Nat.reduceEqDiff, reduceIte]; rfl) (by first | rfl | decide | assumption) ?_
      | ((first
          | refine AOs.op1E tOK (by with_unfolding_all rfl) ?_
          ); refine Step.mk (by simp only [evOp_move, evOp_assign, evOp_binOp, evOp_fieldAddr, evOp_load, aeval, ofVal, PT.get_set, Nat.reduceEqDiff, reduceIte, cellAt, Option.map_some, abin_eql, decide_true, decide_false, List.getElem?_cons_zero, List.getElem?_cons_succ, Nat.zero_add, eq_self, Int.cast_ofNat_Int, Int.reduceEq, ld9, fa47_1, fa47_2, e0, g1]; rfl) ?_)
      | fail "stop")
    refine AOs.callQ tOK (fs := []) (cs := []) rfl fn13 ok13 rfl (by simp only [List.map_cons, List.map_nil, List.nil_append, List.append_nil, aeval, PT.get_set, Nat.reduceEqDiff, reduceIte] <;> rfl) (rename13 N K (n := a.name) (n' := a.to) hD1 ok hlen) ?_
    rintro r K1 ⟨rfl, hD, ap⟩
    have hAK := ap.1 _ _ g2 (.inl hAn)
    have hst := st51 (s' := []) (e' := (M.rename a.name a.to).1) hAK
    have hbd := bd51 [] (M.rename a.name a.to).1
    with_reducible repeat' (first
      | refine AOs.nil ?_
      | refine AW.ret ?_
      | refine andThen_normal ?_
      | refine andThen_ret ?_
      | refine inBlock_ret ?_
      | ((first
          | refine AOs.op1E tOK (by with_unfolding_all rfl) ?_
          | refine AOs.op0E tOK ?_
          ); refine Step.mk (by simp only [evOp_build, evOp_store, aeval, ofVal, PT.get_set, Nat.reduceEqDiff, reduceIte, List.map_cons, List.map_nil, Option.map_some, nblt, eq_self, Int.cast_ofNat_Int, hbd, hst]; rfl) ?_)
      | fail "stop")
    have hge : (K1.set (H.next + 1) (ansO ([]) ((M.rename a.name a.to).1))).get (H.next + 1) = some (ansO ([]) ((M.rename a.name a.to).1)) := by rw [AH.get_set, if_pos rfl]
    refine fnPost_cell (by first | (simp only [PT.get_set, Nat.reduceEqDiff, reduceIte]; rfl) | simp only [PT.get_set, Nat.reduceEqDiff, reduceIte]) (ld51a hge) ⟨rfl, hD.keep1 (ans_stays hAK fun e => by
      rcases e with e | e
      · exact hAn e
      · omega) (fun b hb => hb.imp id fun hb => ⟨by omega, hb.2⟩), fun b x hb hx => ?_, ?_⟩
    · have := hwf b x hb
      rw [AH.get_set, if_neg (by omega)]
      exact ap.1 b x (hs1 b x hb) hx
    · have := ap.2
      show H.next ≤ K1.next
      omega
  | 5, _, _, _ =>
    with_reducible repeat' (first
      | refine AW.seq ?_
      | refine AW.region ?_
      | refine AW.block ?_
      | refine AOs.nil ?_
      | refine andThen_normal ?_
      | refine AW.condT (by simp only [aeval, PT.get_set, Nat.reduceEqDiff, reduceIte]; rfl) (by first | rfl | decide | assumption) ?_
      | refine AW.condF (by simp only [aeval, PT.get_set, Nat.reduceEqDiff, reduceIte]; rfl) (by first | rfl | decide | assumption) ?_
      | ((first
          | refine AOs.op1E tOK (by with_unfolding_all rfl) ?_
          ); refine Step.mk (by simp only [evOp_move, evOp_assign, evOp_binOp, evOp_fieldAddr, evOp_load, aeval, ofVal, PT.get_set, Nat.reduceEqDiff, reduceIte, cellAt, Option.map_some, abin_eql, decide_true, decide_false, List.getElem?_cons_zero, List.getElem?_cons_succ, Nat.zero_add, eq_self, Int.cast_ofNat_Int, Int.reduceEq, ld9, fa47_1, e0, g1]; rfl) ?_)
      | fail "stop")
    refine AOs.callQ tOK (fs := []) (cs := []) rfl fn39 ok39 rfl (by simp only [List.map_cons, List.map_nil, List.nil_append, List.append_nil, aeval, PT.get_set, Nat.reduceEqDiff, reduceIte] <;> rfl) (remove39 N K (n := a.name) hD1 ok hlen) ?_
    rintro r K1 ⟨rfl, hD, ap⟩
    have hAK := ap.1 _ _ g2 (.inl hAn)
    have hst := st51 (s' := []) (e' := (M.remove a.name).1) hAK
    have hbd := bd51 [] (M.remove a.name).1
    with_reducible repeat' (first
      | refine AOs.nil ?_
      | refine AW.ret ?_
      | refine andThen_normal ?_
      | refine andThen_ret ?_
      | refine inBlock_ret ?_
      | ((first
          | refine AOs.op1E tOK (by with_unfolding_all rfl) ?_
          | refine AOs.op0E tOK ?_
          ); refine Step.mk (by simp only [evOp_build, evOp_store, aeval, ofVal, PT.get_set, Nat.reduceEqDiff, reduceIte, List.map_cons, List.map_nil, Option.map_some, nblt, eq_self, Int.cast_ofNat_Int, hbd, hst]; rfl) ?_)
      | fail "stop")
    have hge : (K1.set (H.next + 1) (ansO ([]) ((M.remove a.name).1))).get (H.next + 1) = some (ansO ([]) ((M.remove a.name).1)) := by rw [AH.get_set, if_pos rfl]
    refine fnPost_cell (by first | (simp only [PT.get_set, Nat.reduceEqDiff, reduceIte]; rfl) | simp only [PT.get_set, Nat.reduceEqDiff, reduceIte]) (ld51a hge) ⟨rfl, hD.keep1 (ans_stays hAK fun e => by
      rcases e with e | e
      · exact hAn e
      · omega) (fun b hb => hb.imp id fun hb => ⟨by omega, hb.2⟩), fun b x hb hx => ?_, ?_⟩
    · have := hwf b x hb
      rw [AH.get_set, if_neg (by omega)]
      exact ap.1 b x (hs1 b x hb) hx
    · have := ap.2
      show H.next ≤ K1.next
      omega
  | 8, _, _, _ =>
    with_reducible repeat' (first
      | refine AW.seq ?_
      | refine AW.region ?_
      | refine AW.block ?_
      | refine AOs.nil ?_
      | refine AW.skip ?_
      | refine andThen_normal ?_
      | refine inBlock_normal ?_
      | refine AW.condF (by simp only [aeval, PT.get_set, Nat.reduceEqDiff, reduceIte]; rfl) (by first | rfl | decide | assumption) ?_
      | ((first
          | refine AOs.op1E tOK (by with_unfolding_all rfl) ?_
          ); refine Step.mk (by simp only [evOp_move, evOp_assign, evOp_binOp, evOp_fieldAddr, evOp_load, aeval, ofVal, PT.get_set, Nat.reduceEqDiff, reduceIte, cellAt, Option.map_some, abin_eql, decide_false, List.getElem?_cons_zero, List.getElem?_cons_succ, Nat.zero_add, eq_self, Int.cast_ofNat_Int, Int.reduceEq, ld9, fa47_1, e0, g1]; rfl) ?_)
      | fail "stop")
    refine AOs.callQ tOK (fs := []) (cs := []) rfl fn20 ok20 rfl (by simp only [List.map_cons, List.map_nil, List.nil_append, List.append_nil, aeval, PT.get_set, Nat.reduceEqDiff, reduceIte] <;> rfl) (read20 N K (n := a.name) hD1 ok (fun i => Nat.le_trans (hfl i) (by omega))) ?_
    rintro r K1 ⟨⟨bv, rfl, hbv⟩, hD, ap⟩
    have hcv := cv22b (.inr hbv)
    with_reducible repeat' (first
      | refine AW.seq ?_
      | refine AW.region ?_
      | refine AOs.nil ?_
      | refine andThen_normal ?_
      | ((first
          | refine AOs.op1E tOK (by with_unfolding_all rfl) ?_
          ); refine Step.mk (by simp only [evOp_move, evOp_assign, evOp_build, evOp_extract, evOp_convert, aeval, PT.get_set, Nat.reduceEqDiff, reduceIte, List.map_cons, List.map_nil, Option.map_some, List.getElem?_cons_zero, List.getElem?_cons_succ, nblt, eq_self, Int.cast_ofNat_Int, hcv]; rfl) ?_)
      | fail "stop")
    have hAK := ap.1 _ _ g2 (.inl hAn)
    have hst := st51 (s' := (M.readB a.name)) (e' := (M.readE a.name)) hAK
    have hbd := bd51 (M.readB a.name) (M.readE a.name)
    with_reducible repeat' (first
      | refine AOs.nil ?_
      | refine AW.ret ?_
      | refine andThen_normal ?_
      | ((first
          | refine AOs.op1E tOK (by with_unfolding_all rfl) ?_
          | refine AOs.op0E tOK ?_
          ); refine Step.mk (by simp only [evOp_build, evOp_store, aeval, PT.get_set, Nat.reduceEqDiff, reduceIte, List.map_cons, List.map_nil, Option.map_some, nblt, eq_self, Int.cast_ofNat_Int, hbd, hst]; rfl) ?_)
      | fail "stop")
    have hge : (K1.set (H.next + 1) (ansO ((M.readB a.name)) ((M.readE a.name)))).get (H.next + 1) = some (ansO ((M.readB a.name)) ((M.readE a.name))) := by rw [AH.get_set, if_pos rfl]
    refine fnPost_cell (by first | (simp only [PT.get_set, Nat.reduceEqDiff, reduceIte]; rfl) | simp only [PT.get_set, Nat.reduceEqDiff, reduceIte]) (ld51a hge) ⟨rfl, hD.keep1 (ans_stays hAK fun e => by
      rcases e with e | e
      · exact hAn e
      · omega) (fun b hb => hb.imp id fun hb => ⟨by omega, hb.2⟩), fun b x hb hx => ?_, ?_⟩
    · have := hwf b x hb
      rw [AH.get_set, if_neg (by omega)]
      exact ap.1 b x (hs1 b x hb) hx
    · have := ap.2
      show H.next ≤ K1.next
      omega
end Go.Proofs.Ytdenmkbbmkdnpaa

open Go Go.AB Go.Proofs
namespace Go.Proofs.Ytdenmkbbmkdnpaa

theorem nameOK_len {s : Nm} (h : nameOK s = true) : s.length ≤ 24 := by
  simp only [nameOK, Bool.and_eq_true, decide_eq_true_eq] at h
  exact h.1.2
theorem err_ok {M : DM} {ok : Bool} (h : M.err ok = 0) : ok = true := by
  cases ok with
  | true => rfl
  | false => simp [DM.err, opM] at h

/-- Bounds of a disk behind i calls. -/
structure MB (M : DM) (i : Nat) : Prop where
  ok : M.OK
  room : M.room = 1048576
  keys : ∀ p ∈ M.now, p.1.length ≤ 24
  ents : M.now.length ≤ i
  notes : M.notes.length ≤ i
  files : ∀ (j : Nat) p, M.files[j]? = some p → p.1.length ≤ 3000 * i

theorem MB.mono {M : DM} {i j : Nat} (h : MB M i) (hij : i ≤ j) : MB M j := ⟨h.ok, h.room, h.keys, Nat.le_trans h.ents hij, Nat.le_trans h.notes hij, fun k p hp => Nat.le_trans (h.files k p hp) (Nat.mul_le_mul_left _ hij)⟩
theorem MB.op {M : DM} {i : Nat} (h : MB M i) (b : Bool) : MB (M.op b) i := ⟨h.ok.op b, h.room, h.keys, h.ents, h.notes, h.files⟩

theorem lenSum_le {g : Nm → Nat} {B : Nat} (h : ∀ k, g k ≤ B) : ∀ l : List Nm, lenSum g l ≤ l.length * B
  | [] => by simp [lenSum]
  | a :: l => by
    have ih := lenSum_le h l
    have := h a
    simp only [lenSum, List.map_cons, List.sum_cons, List.length_cons, Nat.succ_mul] at ih ⊢
    omega
theorem MB.used {M : DM} {i : Nat} (h : MB M i) : M.used ≤ i * (3000 * i) := by
  have h1 := lenSum_le (g := M.lenOf) (B := 3000 * i) (fun k => by
    unfold DM.lenOf
    split
    · exact files_le h.files _
    · omega) (M.now.map (·.1))
  rw [List.length_map] at h1
  exact Nat.le_trans h1 (Nat.mul_le_mul_right _ h.ents)

/-- One more file. -/
theorem OK_file {M : DM} (h : M.OK) {E : Ents} {l : List Note} {fs : List (Nm × Nat)} {n : Nat} (hn : M.files.length ≤ n) (hfs : fs.length = n) (hE : ∀ p ∈ E, p.2 < n) (hl : ∀ m i, Note.make m i ∈ l → i < n)
    (hs : ∀ (i : Nat) p, fs[i]? = some p → p.2 ≤ p.1.length) : ({ M with now := E, notes := l, files := fs } : DM).OK :=
  ⟨fun p hp => by rw [hfs]; exact hE p hp, fun p hp => by rw [hfs]; exact Nat.lt_of_lt_of_le (h.sf p hp) hn, fun m i hi => by rw [hfs]; exact hl m i hi, h.f1, h.f2, hs⟩

theorem MB.make {M : DM} {i : Nat} (h : MB M i) (n : Nm) : MB (M.make n).2 (i + 1) := by
  unfold DM.make
  split
  · exact (h.op _).mono (by omega)
  · rename_i he
    split
    · exact (h.op _).mono (by omega)
    · have hn := err_ok (Decidable.not_not.1 he)
      refine ⟨OK_file (h.ok.op _) (n := M.files.length + 1) (by show M.files.length ≤ _; omega) (by simp) (fun p hp => ?_) (fun m j hj => ?_) (fun j p hp => ?_), h.room, fun p hp => ?_, ?_, ?_, fun j p hp => ?_⟩
      · rcases setN_mem hp with rfl | hp
        · simp
        · have := h.ok.now p hp; omega
      · rcases List.mem_append.1 hj with hj | hj
        · have := h.ok.notes m j hj; omega
        · simp at hj; omega
      · rcases Nat.lt_or_ge j M.files.length with hlt | hge
        · rw [List.getElem?_append_left hlt] at hp; exact h.ok.safe j p hp
        · rw [List.getElem?_append_right hge] at hp
          have := List.mem_of_getElem? hp
          simp at this; subst this; simp
      · rcases setN_mem hp with rfl | hp
        · exact nameOK_len hn
        · exact h.keys p hp
      · exact Nat.le_trans (setN_len _ _ _) (by have := h.ents; omega)
      · simp; exact h.notes
      · show p.1.length ≤ _
        rcases Nat.lt_or_ge j M.files.length with hlt | hge
        · have hp' : (M.files ++ [(([] : Nm), 0)])[j]? = some p := hp
          rw [List.getElem?_append_left hlt] at hp'
          have := h.files j p hp'; omega
        · have hp' : (M.files ++ [(([] : Nm), 0)])[j]? = some p := hp
          rw [List.getElem?_append_right hge] at hp'
          have := List.mem_of_getElem? hp'
          simp at this; subst this; simp

/-- A file's bytes and what is safe of them are told anew. -/
theorem MB.set {M : DM} {i j L : Nat} (h : MB M i) {k : Nat} {b : Nm} {s : Nat} (hs : s ≤ b.length) (hb : b.length ≤ 3000 * j) (hij : i ≤ j) (ok : Bool) : MB { M.op ok with files := M.files.set k (b, s) } j := by
  refine ⟨⟨fun p hp => ?_, fun p hp => ?_, fun m q hq => ?_, (h.ok.op ok).f1, (h.ok.op ok).f2, fun q p hp => ?_⟩, h.room, h.keys, Nat.le_trans h.ents hij, Nat.le_trans h.notes hij, fun q p hp => ?_⟩
  · show p.2 < (M.files.set k (b, s)).length
    rw [List.length_set]; exact h.ok.now p hp
  · show p.2 < (M.files.set k (b, s)).length
    rw [List.length_set]; exact h.ok.sf p hp
  · show q < (M.files.set k (b, s)).length
    rw [List.length_set]; exact h.ok.notes m q hq
  · have hp' : (M.files.set k (b, s))[q]? = some p := hp
    rw [List.getElem?_set] at hp'
    split at hp'
    · split at hp'
      · cases hp'; exact hs
      · cases hp'
    · exact h.ok.safe q p hp'
  · have hp' : (M.files.set k (b, s))[q]? = some p := hp
    rw [List.getElem?_set] at hp'
    split at hp'
    · split at hp'
      · cases hp'; exact hb
      · cases hp'
    · exact Nat.le_trans (h.files q p hp') (Nat.mul_le_mul_left _ hij)

theorem file_safe {M : DM} (h : M.OK) (i : Nat) : (M.file i).2 ≤ (M.file i).1.length := by
  unfold DM.file
  cases hf : M.files[i]? with
  | none => simp
  | some p => exact h.safe i p hf

theorem MB.append {M : DM} {i : Nat} (h : MB M i) (n : Nm) {b : Nm} (hb : b.length ≤ 3000) : MB (M.append n b).2 (i + 1) := by
  unfold DM.append
  split
  · exact (h.op _).mono (by omega)
  · split
    · exact (h.op _).mono (by omega)
    · rename_i k hk
      split
      · exact (h.op _).mono (by omega)
      · have h1 := file_safe h.ok k
        have h2 := files_le h.files k
        exact h.set (L := 0) (by simp; omega) (by simp; omega) (by omega) _
theorem MB.sync {M : DM} {i : Nat} (h : MB M i) (n : Nm) : MB (M.sync n).2 (i + 1) := by
  unfold DM.sync
  split
  · exact (h.op _).mono (by omega)
  · split
    · exact (h.op _).mono (by omega)
    · rename_i k hk
      have h2 := files_le h.files k
      exact h.set (L := 0) (Nat.le_refl _) (by omega) (by omega) _
theorem MB.syncNames {M : DM} {i : Nat} (h : MB M i) : MB M.syncNames.2 (i + 1) := by
  unfold DM.syncNames
  split
  · exact (h.op _).mono (by omega)
  · have hk := (h.ok.op true)
    refine ⟨⟨hk.now, fun p hp => ?_, fun m q hq => by simp [DM.keep] at hq, hk.f1, hk.f2, hk.safe⟩, h.room, h.keys, by have := h.ents; show M.now.length ≤ _; omega, by simp [DM.keep], fun j p hp => by have := h.files j p hp; omega⟩
    refine doAll_fits (P := fun p => p.2 < M.files.length) (fun nt hn => ?_) hk.sf p hp
    have hn := List.mem_of_mem_take hn
    cases nt with
    | make n i => exact hk.notes n i hn
    | ren a b => exact fun n i h => h
    | rem n => trivial
theorem MB.noted {M : DM} {i : Nat} (h : MB M i) {nt : Note} (h1 : nt.fits fun p => p.2 < M.files.length) (h2 : nt.fits fun p => p.1.length ≤ 24) (h3 : (nt.do M.now).length ≤ i + 1) (hm : ∀ m j, nt = .make m j → j < M.files.length) (ok : Bool) :
    MB { M.op ok with now := nt.do M.now, notes := M.notes ++ [nt] } (i + 1) := by
  have hk := h.ok.op ok
  refine ⟨⟨Note.do_fits h1 h.ok.now, h.ok.sf, fun m j hj => ?_, hk.f1, hk.f2, h.ok.safe⟩, h.room, Note.do_fits h2 h.keys, h3, by simp; exact h.notes, fun j p hp => by have := h.files j p hp; omega⟩
  rcases List.mem_append.1 hj with hj | hj
  · exact h.ok.notes m j hj
  · simp at hj; exact hm m j hj.symm
theorem MB.remove {M : DM} {i : Nat} (h : MB M i) (n : Nm) : MB (M.remove n).2 (i + 1) := by
  unfold DM.remove
  split
  · exact (h.op _).mono (by omega)
  · split
    · exact (h.op _).mono (by omega)
    · exact h.noted (nt := .rem n) trivial trivial (by have := delN_len M.now n; have := h.ents; show (delN M.now n).length ≤ _; omega) (fun m j e => by cases e) _
theorem MB.rename {M : DM} {i : Nat} (h : MB M i) (n n' : Nm) : MB (M.rename n n').2 (i + 1) := by
  unfold DM.rename
  split
  · exact (h.op _).mono (by omega)
  · rename_i he
    split
    · exact (h.op _).mono (by omega)
    · split
      · exact (h.op _).mono (by omega)
      · have hn := err_ok (Decidable.not_not.1 he)
        rw [Bool.and_eq_true] at hn
        exact h.noted (nt := .ren n n') (fun _ _ h => h) (fun _ _ _ => nameOK_len hn.2) (Nat.le_trans (Note.do_len _ _) (by have := h.ents; omega)) (fun m j e => by cases e) _

theorem MB.call {M : DM} {i k : Nat} (h : MB M i) {a : ActM} (ha : a.few) : MB (callM M k a).2 (i + 1) := by
  unfold callM
  split
  · exact h.make _
  · exact h.append _ ha.2.2.1
  · exact h.sync _
  · exact h.syncNames
  · exact h.rename _ _
  · exact h.remove _
  · exact (h.op _).mono (by omega)

/-- The second disk is the first with a fuse. -/
structure Rel (a b : DM) : Prop where
  room : b.room = a.room
  now : b.now = a.now
  sf : b.sf = a.sf
  notes : b.notes = a.notes
  files : b.files = a.files
  fa : a.fuse = -1
  oa : a.off = false
  ob : b.off = false

/-- A disk whose fuse is out just now. -/
def DM.out (M : DM) : DM := { M with fuse := -1, off := true }

theorem Rel.err {a b : DM} (h : Rel a b) (ok : Bool) : (b.err ok = 12 ∧ b.op ok = b.out) ∨ (b.err ok = a.err ok ∧ (a.err ok = 0 ∨ a.err ok = 2) ∧ Rel (a.op ok) (b.op ok)) := by
  have e1 : ∀ ok, a.err ok = if ok = false then 2 else 0 := fun ok => by
    simp only [DM.err, opM, h.fa, h.oa]; cases ok <;> rfl
  have e2 : a.op ok = a := by
    obtain ⟨h1, h2⟩ : (opM ok a.fuse a.off).2.1 = a.fuse ∧ (opM ok a.fuse a.off).2.2 = a.off := by
      rw [h.fa, h.oa]; cases ok <;> exact ⟨rfl, rfl⟩
    unfold DM.op
    rw [h1, h2]
  cases ok with
  | false =>
    refine .inr ⟨by simp [e1, DM.err, opM], .inr (by simp [e1]), ?_⟩
    rw [e2]
    exact ⟨h.room, h.now, h.sf, h.notes, h.files, h.fa, h.oa, by simp [DM.op, opM, h.ob]⟩
  | true =>
    by_cases h0 : b.fuse = 0
    · exact .inl ⟨by simp [DM.err, opM, h.ob, h0], by simp [DM.op, opM, h.ob, h0, DM.out]⟩
    · refine .inr ⟨?_, .inl (by simp [e1]), ?_⟩
      · rw [e1]
        simp only [DM.err, opM, h.ob, h0]
        by_cases h1 : 0 < b.fuse <;> simp [h1]
      · rw [e2]
        refine ⟨h.room, h.now, h.sf, h.notes, h.files, h.fa, h.oa, ?_⟩
        simp only [DM.op, opM, h.ob, h0]
        by_cases h1 : 0 < b.fuse <;> simp [h1]

theorem Rel.file {a b : DM} (h : Rel a b) (i : Nat) : b.file i = a.file i := by unfold DM.file; rw [h.files]
theorem Rel.used {a b : DM} (h : Rel a b) : b.used = a.used := by
  unfold DM.used
  rw [h.now]
  congr 1
  funext k
  unfold DM.lenOf
  rw [h.now]
  cases getN a.now k with
  | none => rfl
  | some i => simp only [h.file]
theorem Rel.names {a b : DM} (h : Rel a b) : b.names = a.names := by unfold DM.names; rw [h.now]

/-- What a call may come to. -/
def Come (a b : DM) (x y : (Nm × Int) × DM) : Prop := (y.1.2 = 12 ∧ y.2 = b.out) ∨ (y.1.2 ≠ 12 ∧ y.1 = x.1 ∧ Rel x.2 y.2)

section
variable {a b : DM}
theorem two_ne {ok : Bool} (h : a.err ok = 0 ∨ a.err ok = 2) : a.err ok ≠ 12 := by rcases h with h | h <;> rw [h] <;> decide

theorem Rel.make (h : Rel a b) (n : Nm) : Come a b (([], (a.make n).1), (a.make n).2) (([], (b.make n).1), (b.make n).2) := by
  unfold DM.make
  rcases h.err (nameOK n) with ⟨h1, h2⟩ | ⟨h1, h2, h3⟩
  · exact .inl (by rw [h1, h2]; simp)
  · refine .inr ?_
    rw [h1, h.now]
    have h4 := two_ne h2
    split
    · exact ⟨h4, rfl, h3⟩
    · split
      · exact ⟨(by decide : (7 : Int) ≠ 12), rfl, h3⟩
      · exact ⟨(by decide : (0 : Int) ≠ 12), rfl, h3.room, by show setN a.now n b.files.length = setN a.now n a.files.length; rw [h.files], h3.sf, by show b.notes ++ [.make n b.files.length] = _; rw [h.notes, h.files], by show b.files ++ _ = _; rw [h.files], h3.fa, h3.oa, h3.ob⟩
theorem Rel.append (h : Rel a b) (n c : Nm) : Come a b (([], (a.append n c).1), (a.append n c).2) (([], (b.append n c).1), (b.append n c).2) := by
  unfold DM.append
  rcases h.err (nameOK n) with ⟨h1, h2⟩ | ⟨h1, h2, h3⟩
  · exact .inl (by rw [h1, h2]; simp)
  · refine .inr ?_
    rw [h1, h.now, h.room, h.used]
    have h4 := two_ne h2
    split
    · exact ⟨h4, rfl, h3⟩
    · cases getN a.now n with
      | none => exact ⟨(by decide : (6 : Int) ≠ 12), rfl, h3⟩
      | some i =>
        simp only
        split
        · exact ⟨(by decide : (11 : Int) ≠ 12), rfl, h3⟩
        · exact ⟨(by decide : (0 : Int) ≠ 12), rfl, h3.room, h3.now, h3.sf, h3.notes, by show b.files.set i _ = _; rw [h.files, h.file], h3.fa, h3.oa, h3.ob⟩
theorem Rel.sync (h : Rel a b) (n : Nm) : Come a b (([], (a.sync n).1), (a.sync n).2) (([], (b.sync n).1), (b.sync n).2) := by
  unfold DM.sync
  rcases h.err (nameOK n) with ⟨h1, h2⟩ | ⟨h1, h2, h3⟩
  · exact .inl (by rw [h1, h2]; simp)
  · refine .inr ?_
    rw [h1, h.now]
    have h4 := two_ne h2
    split
    · exact ⟨h4, rfl, h3⟩
    · cases getN a.now n with
      | none => exact ⟨(by decide : (6 : Int) ≠ 12), rfl, h3⟩
      | some i => exact ⟨(by decide : (0 : Int) ≠ 12), rfl, h3.room, h3.now, h3.sf, h3.notes, by show b.files.set i _ = _; rw [h.files, h.file], h3.fa, h3.oa, h3.ob⟩
theorem Rel.syncNames (h : Rel a b) : Come a b (([], a.syncNames.1), a.syncNames.2) (([], b.syncNames.1), b.syncNames.2) := by
  unfold DM.syncNames
  rcases h.err true with ⟨h1, h2⟩ | ⟨h1, h2, h3⟩
  · exact .inl (by rw [h1, h2]; simp)
  · refine .inr ?_
    rw [h1]
    have h4 := two_ne h2
    split
    · exact ⟨h4, rfl, h3⟩
    · exact ⟨(by decide : (0 : Int) ≠ 12), rfl, h3.room, h3.now, by show doAll ((b.op true).notes.take b.notes.length) (b.op true).sf = _; rw [h3.notes, h3.sf, h.notes]; rfl, rfl, h3.files, h3.fa, h3.oa, h3.ob⟩
theorem Rel.rename (h : Rel a b) (n m : Nm) : Come a b (([], (a.rename n m).1), (a.rename n m).2) (([], (b.rename n m).1), (b.rename n m).2) := by
  unfold DM.rename
  rcases h.err (nameOK n && nameOK m) with ⟨h1, h2⟩ | ⟨h1, h2, h3⟩
  · exact .inl (by rw [h1, h2]; simp)
  · refine .inr ?_
    rw [h1, h.now]
    have h4 := two_ne h2
    split
    · exact ⟨h4, rfl, h3⟩
    · split
      · exact ⟨(by decide : (6 : Int) ≠ 12), rfl, h3⟩
      · split
        · exact ⟨(by decide : (0 : Int) ≠ 12), rfl, h3⟩
        · exact ⟨(by decide : (0 : Int) ≠ 12), rfl, h3.room, by show (Note.ren n m).do a.now = _; rfl, h3.sf, by show b.notes ++ _ = _; rw [h.notes], h3.files, h3.fa, h3.oa, h3.ob⟩
theorem Rel.remove (h : Rel a b) (n : Nm) : Come a b (([], (a.remove n).1), (a.remove n).2) (([], (b.remove n).1), (b.remove n).2) := by
  unfold DM.remove
  rcases h.err (nameOK n) with ⟨h1, h2⟩ | ⟨h1, h2, h3⟩
  · exact .inl (by rw [h1, h2]; simp)
  · refine .inr ?_
    rw [h1, h.now]
    have h4 := two_ne h2
    split
    · exact ⟨h4, rfl, h3⟩
    · split
      · exact ⟨(by decide : (6 : Int) ≠ 12), rfl, h3⟩
      · exact ⟨(by decide : (0 : Int) ≠ 12), rfl, h3.room, rfl, h3.sf, by show b.notes ++ _ = _; rw [h.notes], h3.files, h3.fa, h3.oa, h3.ob⟩
theorem Rel.read (h : Rel a b) (n : Nm) : Come a b ((a.readB n, a.readE n), a.op (nameOK n)) ((b.readB n, b.readE n), b.op (nameOK n)) := by
  unfold DM.readB DM.readE
  rcases h.err (nameOK n) with ⟨h1, h2⟩ | ⟨h1, h2, h3⟩
  · exact .inl (by rw [h1, h2]; simp)
  · refine .inr ?_
    rw [h1, h.now]
    have h4 := two_ne h2
    split
    · exact ⟨h4, rfl, h3⟩
    · cases getN a.now n with
      | none => exact ⟨(by decide : (6 : Int) ≠ 12), rfl, h3⟩
      | some i => exact ⟨(by decide : (0 : Int) ≠ 12), by simp only [h.file], h3⟩

theorem Rel.call (h : Rel a b) (k : Nat) (c : ActM) : Come a b (callM a k c) (callM b k c) := by
  unfold callM
  split
  · exact h.make _
  · exact h.append _ _
  · exact h.sync _
  · exact h.syncNames
  · exact h.rename _ _
  · exact h.remove _
  · exact h.read _
end

theorem off_op {M : DM} (h : M.off = true) (ok : Bool) : M.op ok = M ∧ (M.err ok = 12 ∨ M.err ok = 2) := by
  cases M
  simp only at h
  subst h
  cases ok <;> simp [DM.op, DM.err, opM]
theorem off_call {M : DM} (h : M.off = true) (k : Nat) (c : ActM) : (callM M k c).2 = M ∧ ((callM M k c).1.2 = 12 ∨ (callM M k c).1.2 = 2) := by
  have ne : ∀ ok, M.err ok ≠ 0 := fun ok => by rcases (off_op h ok).2 with e | e <;> rw [e] <;> decide
  unfold callM
  split <;> simp only [DM.make, DM.append, DM.sync, DM.syncNames, DM.rename, DM.remove, DM.readE, ne_eq, ne, not_false_eq_true, if_true] <;> exact off_op h _
end Go.Proofs.Ytdenmkbbmkdnpaa

open Go Go.AB Go.Proofs
namespace Go.Proofs.Ytdenmkbbmkdnpaa
set_option maxRecDepth 100000

/-- Sorted keys, in a new block. -/
theorem sorted35f (N : Nat) (H : AH) {b m : Nat} {rest : List AV} {E : Ents} {v : Nat} (hb : H.get b = some (.cells false (.map m :: rest))) (hm : H.get m = some (.map (ents E) v)) (hl : ∀ p ∈ E, p.1.length ≤ 1000000) (hn : E.length ≤ 1000000) :
    AC tC N 0 35 [.func 45 [] [.ptr b 0]] H fun r K => StrsAt K r (isortK (E.map (·.1))) ∧ (∀ b x, H.get b = some x → K.get b = some x) ∧ H.next ≤ K.next ∧ ∀ b o n c z, r = .slice b o n c z → H.next ≤ b := fun ρ w vs hR hv => by
  have hwf := hR.wf
  have hc : (lensOk (ents E) && Nat.ble ((ents E).length * 16) 140737488355328) = true := by
    rw [lensOk_ents hl, Bool.true_and]
    refine Nat.ble_eq_true_of_le ?_
    simp only [ents, List.length_map]; omega
  have hk : (ents E).map (·.1) = E.map (·.1) := ents_keys E
  cases hs : isortK (E.map (·.1)) with
  | nil =>
    have he : specSorted 45 [.func 45 [] [.ptr b 0]] H = some (.nils, H) := by
      simp only [specSorted, Nat.beq_refl, cond_true, hb, hm, hc, hk, hs]
    refine (specSorted_ok (P := Try.prog) (kt := 9) Try.underlying9 (fun Bm b nn D0 w => Try.sortedAt anyElem Bm b nn D0 w) he hR hv).mono ?_
    rintro e w' ⟨u, ρ', h1, h2, h3, h4⟩
    exact ⟨u, ρ', _, _, ⟨.inl ⟨rfl, rfl⟩, fun _ _ h => h, Nat.le_refl _, fun _ _ _ _ _ e => by cases e⟩, h1, h2, h3, h4⟩
  | cons k ks =>
    have he : specSorted 45 [.func 45 [] [.ptr b 0]] H = some (.slice H.next 0 (k :: ks).length (.lo (k :: ks).length) 1, H.alloc (.cells false ((k :: ks).map .str))) := by
      simp only [specSorted, Nat.beq_refl, cond_true, hb, hm, hc, hk, hs]
    refine (specSorted_ok (P := Try.prog) (kt := 9) Try.underlying9 (fun Bm b nn D0 w => Try.sortedAt anyElem Bm b nn D0 w) he hR hv).mono ?_
    rintro e w' ⟨u, ρ', h1, h2, h3, h4⟩
    refine ⟨u, ρ', _, _, ⟨.inr ⟨H.next, _, false, _, rfl, by rw [AH.get_alloc, if_pos rfl], fun i s hi => by rw [List.getElem?_map, hi]; rfl⟩, fun b x hx => ?_, by simp, fun _ _ _ _ _ e => by cases e; exact Nat.le_refl _⟩, h1, h2, h3, h4⟩
    rw [AH.get_alloc, if_neg (by have := hwf b x hx; omega)]; exact hx

set_option maxHeartbeats 1000000 in
theorem names24f (N : Nat) (H : AH) {d : Nat} {M : DM} {A : Nat → Prop} (h : DiskAt H d M A) (hl : ∀ p ∈ M.now, p.1.length ≤ 1000000) (hn : M.now.length ≤ 1000000) :
    AC tC N 0 24 [.ptr d 0] H fun r K => StrsAt K r M.names ∧ (∀ b x, H.get b = some x → K.get b = some x) ∧ H.next ≤ K.next ∧ ∀ b o n c z, r = .slice b o n c z → H.next ≤ b := by
  refine AC.wf0 fun hwf => ?_
  obtain ⟨φ, nb, sb, cv, v1, v2, h⟩ := h
  refine AC.by (n := 12) (rs := [.tmp 2]) tOK fn24 rfl rfl rfl rfl ?_
  have e0 : (PT.ofList .leaf 0 [AV.ptr d 0]).get 0 = some (.ptr d 0) := rfl
  have hc : H.get d = _ := h.core
  have hnow : H.get nb = _ := h.now
  with_reducible repeat' (first
    | refine AW.seq ?_
    | refine AW.region ?_
    | refine AOs.nil ?_
    | refine andThen_normal ?_
    | ((first
        | refine AOs.op1E tOK (by with_unfolding_all rfl) ?_
        ); refine Step.mk (by simp only [evOp_move, evOp_assign, aeval, ofVal, PT.get_set, Nat.reduceEqDiff, reduceIte, e0]; rfl) ?_)
    | fail "stop")
  refine AOs.callQ tOK (fs := []) (cs := []) rfl fn34 ok34 rfl (by simp only [List.map_cons, List.map_nil, List.nil_append, List.append_nil, aeval, PT.get_set, Nat.reduceEqDiff, reduceIte] <;> rfl) (made34 N _ h.core) ?_
  rintro r K ⟨rfl, rfl⟩
  with_reducible repeat' (first
    | refine AW.seq ?_
    | refine AW.region ?_
    | refine AOs.nil ?_
    | refine AW.skip ?_
    | refine andThen_normal ?_
    | refine AW.condF (by simp only [aeval, PT.get_set, Nat.reduceEqDiff, reduceIte]; rfl) (by first | rfl | decide | assumption) ?_
    | ((first
        | refine AOs.op1E tOK (by with_unfolding_all rfl) ?_
        ); refine Step.mk (by simp only [evOp_move, evOp_nilCheck, evOp_not, evOp_fieldAddr, evOp_load, aeval, PT.get_set, Nat.reduceEqDiff, reduceIte, cellAt, Option.map_some, Bool.not_true, List.getElem?_cons_zero, List.getElem?_cons_succ, Nat.zero_add, eq_self, ld56, fa59_1, e0, hc]; rfl) ?_)
    | fail "stop")
  refine AOs.callQ tOK (fs := []) (cs := []) rfl fn36 ok36 rfl (by simp only [List.map_cons, List.map_nil, List.nil_append, List.append_nil, aeval, PT.get_set, Nat.reduceEqDiff, reduceIte] <;> rfl) (keys36 N K nb) ?_
  rintro r K1 ⟨rfl, rfl⟩
  have hw := hwf _ _ hnow
  have hst : ∀ b x, K.get b = some x → (K.alloc (.cells false [.map nb])).get b = some x := fun b x hx => by
    rw [AH.get_alloc, if_neg (by have := hwf b x hx; omega)]; exact hx
  refine AOs.callQ tOK (fs := []) (cs := []) rfl fn35 ok35 rfl (by simp only [List.map_cons, List.map_nil, List.nil_append, List.append_nil, aeval, PT.get_set, Nat.reduceEqDiff, reduceIte] <;> rfl) (sorted35f N (K.alloc (.cells false [.map nb])) (b := K.next) (rest := []) (by rw [AH.get_alloc, if_pos rfl]) (hst _ _ hnow) (mapE_names hl) (by rw [mapE_len]; exact hn)) ?_
  rintro r K2 ⟨h1, h2, h3, h4⟩
  rw [mapE_keys] at h1
  with_reducible repeat' (first
    | refine AOs.nil ?_
    | refine AW.ret ?_
    | refine andThen_normal ?_
    | ((first
        | refine AOs.op1E tOK (by with_unfolding_all rfl) ?_
        ); refine Step.mk (by simp only [evOp_assign, aeval, PT.get_set, Nat.reduceEqDiff, reduceIte, eq_self]; rfl) ?_)
    | fail "stop")
  exact fnPost_ret1 (by first | (simp only [PT.get_set, Nat.reduceEqDiff, reduceIte]; rfl) | simp only [PT.get_set, Nat.reduceEqDiff, reduceIte]) ⟨h1, fun b x hx => h2 b x (hst b x hx), by simp at h3; omega, fun b o n c z e => by have := h4 b o n c z e; simp at this; omega⟩

theorem StrsAt.keep {H K : AH} {v : AV} {l : List Nm} (h : StrsAt H v l) (hk : ∀ b o n c z, v = .slice b o n c z → ∀ x, H.get b = some x → K.get b = some x) : StrsAt K v l := by
  rcases h with h | ⟨b, c, ro, ws, rfl, h1, h2⟩
  · exact .inl h
  · exact .inr ⟨b, c, ro, ws, rfl, hk _ _ _ _ _ rfl _ h1, h2⟩

set_option maxHeartbeats 2000000 in
theorem texts26 (N : Nat) (H : AH) {v u : AV} {l : List Nm} (h1 : StrsAt H v l) (h2 : StrsAt H u l) (hl : l.length ≤ 1000000) : AC tC N 0 26 [v, u] H fun r K => r = .bool true ∧ K = H := by
  refine AC.by (n := 26) (rs := [.tmp 4]) tOK fn26 rfl rfl rfl rfl ?_
  have e0 : (PT.ofList .leaf 0 [v, u]).get 0 = some v := rfl
  have e1 : (PT.ofList .leaf 0 [v, u]).get 1 = some u := rfl
  have l1 := h1.len
  have l2 := h2.len
  with_reducible repeat' (first
    | refine AW.seq ?_
    | refine AW.region ?_
    | refine AW.block ?_
    | refine AOs.nil ?_
    | refine AW.skip ?_
    | refine andThen_normal ?_
    | refine AW.condF (by simp only [aeval, PT.get_set, Nat.reduceEqDiff, reduceIte]; rfl) (by first | rfl | decide | assumption) ?_
    | ((first
        | refine AOs.op1E tOK (by with_unfolding_all rfl) ?_
        ); refine Step.mk (by simp only [evOp_move, evOp_assign, evOp_binOp, evOp_len, aeval, ofVal, PT.get_set, Nat.reduceEqDiff, reduceIte, Option.map_some, abin_neq, decide_true, Bool.not_true, eq_self, al48, e0, e1, l1, l2]; rfl) ?_)
    | fail "stop")
  refine AW.loop (fun m T K => K = H ∧ T.get 0 = some v ∧ T.get 1 = some u ∧ ∃ i : Nat, i ≤ l.length ∧ m = l.length - i ∧ T.get 5 = some (.int .i64 (i : Nat))) ?_ (l.length - 0)
    ⟨rfl, by simp [PT.get_set, e0], by simp [PT.get_set, e1], 0, by omega, rfl, by simp [PT.get_set]⟩
  rintro m T K ⟨rfl, g0, g1, i, hi, rfl, g5⟩
  by_cases hlt : i < l.length
  · have hd := lt_int hlt
    obtain ⟨s, hs⟩ : ∃ s, l[i]? = some s := ⟨_, List.getElem?_eq_getElem hlt⟩
    rcases h1 with ⟨_, h1⟩ | ⟨b, c, ro, ws, rfl, hb, hw⟩
    · rw [h1] at hlt; simp at hlt
    rcases h2 with ⟨_, h2⟩ | ⟨b', c', ro', ws', rfl, hb', hw'⟩
    · rw [h2] at hlt; simp at hlt
    have q1 : ws[i * 1]? = some (.str s) := by rw [Nat.mul_one]; exact hw i s hs
    have q2 : ws'[i * 1]? = some (.str s) := by rw [Nat.mul_one]; exact hw' i s hs
    with_reducible repeat' (first
      | refine AW.seq ?_
      | refine AW.region ?_
      | refine AW.block ?_
      | refine AOs.nil ?_
      | refine AW.skip ?_
      | refine andThen_normal ?_
      | refine inBlock_normal ?_
      | refine AW.condT (by simp only [aeval, PT.get_set, Nat.reduceEqDiff, reduceIte]; rfl) (by first | rfl | decide | assumption) ?_
      | refine AW.condF (by simp only [aeval, PT.get_set, Nat.reduceEqDiff, reduceIte]; rfl) (by first | rfl | decide | assumption) ?_
      | refine AW.drawT tOK (by with_unfolding_all rfl) (by simp only [pickAll, Nat.reduceAdd]; rfl) ?_
      | refine DN.nil tOK ?_
      | ((first
          | refine DN.fl1E (by with_unfolding_all rfl) (by with_unfolding_all rfl) ?_
          | refine DN.rd1E (by kernel_rfl) (by with_unfolding_all rfl) ?_
          ); refine Step.mk (by simp only [evOp_move, evOp_binOp, evOp_indexAddr, evOp_load, aeval, PT.get_set, Nat.reduceEqDiff, reduceIte, cellAt, Option.map_some, abin_neqS, decide_true, Bool.not_true, Nat.zero_add, eq_self, ld9, ix48, g0, g1, g5, hlt, hb, hb', q1, q2]; rfl) ?_; refine Same.mk ?_)
      | ((first
          | refine AOs.op1E tOK (by with_unfolding_all rfl) ?_
          ); refine Step.mk (by simp only [evOp_move, evOp_assign, evOp_binOp, evOp_len, aeval, ofVal, PT.get_set, Nat.reduceEqDiff, reduceIte, Option.map_some, abin_add, abin_lss, eq_self, al48, g0, g5, l1, hd, wrap64_succ (show i < 9223372036854775807 by omega)]; rfl) ?_)
      | fail "stop")
    exact ⟨l.length - (i + 1), by omega, rfl, by simp only [PT.get_set, Nat.reduceEqDiff, reduceIte, g0], by simp only [PT.get_set, Nat.reduceEqDiff, reduceIte, g1], i + 1, by omega, rfl, by simp only [PT.get_set, Nat.reduceEqDiff, reduceIte]⟩
  · have hd := nlt_int hlt
    with_reducible repeat' (first
      | refine AW.seq ?_
      | refine AW.region ?_
      | refine AOs.nil ?_
      | refine AW.exit ?_
      | refine AW.ret ?_
      | refine andThen_normal ?_
      | refine andThen_exit ?_
      | refine inBlock_hit ?_
      | refine AW.condF (by simp only [aeval, PT.get_set, Nat.reduceEqDiff, reduceIte]; rfl) (by first | rfl | decide | assumption) ?_
      | ((first
          | refine AOs.op1E tOK (by with_unfolding_all rfl) ?_
          ); refine Step.mk (by simp only [evOp_move, evOp_assign, evOp_binOp, evOp_len, aeval, ofVal, PT.get_set, Nat.reduceEqDiff, reduceIte, Option.map_some, abin_lss, eq_self, al48, g0, g5, l1, hd]; rfl) ?_)
      | fail "stop")
    exact fnPost_ret1 (by first | (simp only [PT.get_set, Nat.reduceEqDiff, reduceIte]; rfl) | simp only [PT.get_set, Nat.reduceEqDiff, reduceIte]) ⟨rfl, rfl⟩

/-- Two disks that were made since. -/
structure Two (H K : AH) (da db : Nat) (Ma Mb : DM) (A B : Nat → Prop) : Prop where
  a : DiskAt K da Ma A
  b : DiskAt K db Mb B
  dis : ∀ x, A x → ¬ B x
  ra : ∀ x, A x → H.next ≤ x ∧ x < K.next
  rb : ∀ x, B x → H.next ≤ x ∧ x < K.next
  keep : ∀ b x, H.get b = some x → K.get b = some x
  next : H.next ≤ K.next

section
variable {H K L : AH} {da db : Nat} {Ma Mb M' : DM} {A B : Nat → Prop}
theorem Two.opB (h : Two H K da db Ma Mb A B) (hw : WF H) (hd : DiskAt L db M' (AddR B K.next L.next)) (ap : Apart K L B) : Two H L da db Ma M' A (AddR B K.next L.next) where
  a := h.a.keep ⟨fun b x hb hx => ap.1 b x hb (hx.imp (h.dis b) id), ap.2⟩ fun _ => id
  b := hd
  dis x hx e := by
    rcases e with e | e
    · exact h.dis x hx e
    · have := (h.ra x hx).2; omega
  ra x hx := by have := h.ra x hx; have := ap.2; omega
  rb x hx := by
    have := ap.2; have := h.next
    rcases hx with hx | hx
    · have := h.rb x hx; omega
    · omega
  keep b x hb := ap.1 b x (h.keep b x hb) (.inl fun e => by have := h.rb b e; have := hw b x hb; omega)
  next := Nat.le_trans h.next ap.2
theorem Two.opA (h : Two H K da db Ma Mb A B) (hw : WF H) (hd : DiskAt L da M' (AddR A K.next L.next)) (ap : Apart K L A) : Two H L da db M' Mb (AddR A K.next L.next) B where
  a := hd
  b := h.b.keep ⟨fun b x hb hx => ap.1 b x hb (hx.imp (fun e e' => h.dis b e' e) id), ap.2⟩ fun _ => id
  dis x hx e := by
    rcases hx with hx | hx
    · exact h.dis x hx e
    · have := (h.rb x e).2; omega
  ra x hx := by
    have := ap.2; have := h.next
    rcases hx with hx | hx
    · have := h.ra x hx; omega
    · omega
  rb x hx := by have := h.rb x hx; have := ap.2; omega
  keep b x hb := ap.1 b x (h.keep b x hb) (.inl fun e => by have := h.ra b e; have := hw b x hb; omega)
  next := Nat.le_trans h.next ap.2
theorem Two.more (h : Two H K da db Ma Mb A B) (hk : ∀ b x, K.get b = some x → L.get b = some x) (hn : K.next ≤ L.next) : Two H L da db Ma Mb A B where
  a := h.a.keep ⟨fun b x hb _ => hk b x hb, hn⟩ fun _ => id
  b := h.b.keep ⟨fun b x hb _ => hk b x hb, hn⟩ fun _ => id
  dis := h.dis
  ra x hx := by have := h.ra x hx; omega
  rb x hx := by have := h.rb x hx; omega
  keep b x hb := hk b x (h.keep b x hb)
  next := Nat.le_trans h.next hn
/-- An answer in a new box. -/
theorem Two.ans (h : Two H K da db Ma Mb A B) (hwK : WF K) (hw : WF H) (s : Nm) (e : Int) : Two H ((K.alloc (ansO [] 0)).set K.next (ansO s e)) da db Ma Mb A B :=
  h.more (fun b x hb => by
    have := hwK b x hb
    rw [AH.get_set, if_neg (by omega), AH.get_alloc, if_neg (by omega)]; exact hb) (by show K.next ≤ K.next + 1; omega)
end

theorem eq4 (cst : Bool) (a b : Bool) : abin tC .eql 4 cst (.bool a) (.bool b) = some (.bool (a == b)) := by
  simp only [abin, eqRes, aeq, ti4, Option.map_some]
theorem aeq9 (s : Nm) : aeq tC 7 9 (.str s) (.str s) = some true := by simp only [aeq, ti9, beqL_eq, decide_true]
theorem aeq26 (e : Int) : aeq tC 7 26 (.int .i64 e) (.int .i64 e) = some true := by simp [aeq, ti26]
theorem aeq51 (s : Nm) (e : Int) : aeq tC 8 51 (.agg [.str s, .int .i64 e]) (.agg [.str s, .int .i64 e]) = some true := by
  rw [aeq]
  simp only [ti51, cond_true]
  simp [aeqGo, apart, ti9, ti26, TI.agg, aeq9, aeq26]
theorem ne51 (cst : Bool) (s : Nm) (e : Int) : abin tC .neq 51 cst (.agg [.str s, .int .i64 e]) (.agg [.str s, .int .i64 e]) = some (.bool false) := by
  simp only [abin, aeq51, eqRes, Option.map_some, Bool.not_true]
end Go.Proofs.Ytdenmkbbmkdnpaa
