/- Log: a crash of a disk; no condition. -/
import Derived.Test.YtgihociajfgohaaGreatDoorDisk4
set_option linter.unusedSimpArgs false
set_option linter.unusedVariables false
open Go Go.AB Go.Proofs
namespace Go.Proofs.YtgihociajfgohaaGreatDoor
set_option maxRecDepth 100000

/-- Integers in a row. -/
def IntsAt (H : AH) (v : AV) (l : List Int) : Prop :=
  (lenOfAV v = some 0 ∧ l = []) ∨ ∃ b o c ro vs, v = .slice b o l.length (.lo c) 1 ∧ l ≠ [] ∧ l.length ≤ c ∧ H.get b = some (.cells ro vs) ∧ ∀ (i : Nat) x, l[i]? = some x → vs[o + i]? = some (.int .i64 x)

theorem IntsAt.len {H : AH} {v : AV} {l : List Int} (h : IntsAt H v l) : lenOfAV v = some l.length := by
  rcases h with ⟨h, rfl⟩ | ⟨b, o, c, ro, vs, rfl, _⟩
  · exact h
  · rfl

theorem IntsAt.keep {H K : AH} {v : AV} {l : List Int} (h : IntsAt H v l) (hk : ∀ b o n c z, v = .slice b o n c z → ∀ x, H.get b = some x → K.get b = some x) : IntsAt K v l := by
  rcases h with h | ⟨b, o, c, ro, vs, e, h1, h2, h3, h4⟩
  · exact .inl h
  · exact .inr ⟨b, o, c, ro, vs, e, h1, h2, hk _ _ _ _ _ e _ h3, h4⟩

/-- The first one, and the rest. -/
theorem IntsAt.cut {H : AH} {v : AV} {x : Int} {l : List Int} (h : IntsAt H v (x :: l)) : ∃ b o c ro vs u, v = .slice b o (l.length + 1) (.lo c) 1 ∧ H.get b = some (.cells ro vs) ∧ vs[o]? = some (.int .i64 x) ∧ aslice tC 40 v (some (.int .i64 1)) none none = some u ∧ IntsAt H u l ∧ (∀ b' o n c z, u = .slice b' o n c z → b' = b) := by
  rcases h with ⟨_, h⟩ | ⟨b, o, c, ro, vs, rfl, h1, h2, h3, h4⟩
  · cases h
  · simp only [List.length_cons] at h2
    have h0 := h4 0 x rfl
    rw [Nat.add_zero] at h0
    have hb : bnd (some (AV.int .i64 1)) 0 = some 1 := rfl
    by_cases hc : c = 1
    · have hl : l = [] := List.eq_nil_of_length_eq_zero (by omega)
      subst hl; subst hc
      refine ⟨b, o, 1, ro, vs, .empty b, rfl, h3, h0, ?_, .inl ⟨rfl, rfl⟩, fun _ _ _ _ _ e => by cases e⟩
      simp only [aslice, ti40, ti3, hb, show bnd none ([x] : List Int).length = some 1 from rfl]
      simp [nbeq, nble]
    · refine ⟨b, o, c, ro, vs, .slice b (o + 1) l.length (.lo (c - 1)) 1, rfl, h3, h0, ?_, ?_, fun _ _ _ _ _ e => by cases e; rfl⟩
      · simp only [aslice, ti40, ti3, bnd, List.length_cons]
        simp [nbeq, nble, hc, h2]
      · by_cases hl : l = []
        · subst hl; exact .inl ⟨rfl, rfl⟩
        · exact .inr ⟨b, o + 1, c - 1, ro, vs, rfl, hl, by omega, h3, fun i y hy => by
            have := h4 (i + 1) y (by simpa using hy)
            rwa [show o + (i + 1) = o + 1 + i by omega] at this⟩

/-- How much of a file is there behind a crash. -/
def crashCut (f : Nm × Nat) (x : Int) : Nat := f.2 + (max 0 x).toNat % (f.1.length - f.2 + 1)
theorem crashCut_le {f : Nm × Nat} (h : f.2 ≤ f.1.length) (x : Int) : f.2 ≤ crashCut f x ∧ crashCut f x ≤ f.1.length := by
  have := Nat.mod_lt (max 0 x).toNat (show 0 < f.1.length - f.2 + 1 by omega)
  unfold crashCut; omega

abbrev CSt := List (Nm × Nat) × Ents × List Int
def crashStep (sf : Ents) (st : CSt) (s : Nm) : CSt := match getN sf s with
  | none => st
  | some i => (st.1 ++ [((((st.1[i]?).getD ([], 0)).1).take (crashCut ((st.1[i]?).getD ([], 0)) (st.2.2.headD 0)), crashCut ((st.1[i]?).getD ([], 0)) (st.2.2.headD 0))], setN st.2.1 s st.1.length, st.2.2.tail)

def DM.kept (M : DM) (ch : Int) : DM := M.keep ((max 0 ch).toNat % (M.notes.length + 1))
def DM.crashSt (M : DM) (ch : Int) (parts : List Int) : CSt := (isortK ((M.kept ch).sf.map (·.1))).foldl (crashStep (M.kept ch).sf) (M.files, [], parts)
def DM.crash (M : DM) (ch : Int) (parts : List Int) : DM := { M.kept ch with files := (M.crashSt ch parts).1, now := (M.crashSt ch parts).2.1, sf := (M.crashSt ch parts).2.1, fuse := -1, off := false }

theorem tmod_nat (a : Int) (n : Nat) : (max 0 a).tmod (n : Int) = (((max 0 a).toNat % n : Nat) : Int) := by
  have h : max 0 a = ((max 0 a).toNat : Int) := by omega
  rw [h, Int.toNat_natCast]
  exact (Int.ofNat_tmod _ _).symm

theorem setN_mem {E : Ents} {k : Nm} {f : Nat} {p : Nm × Nat} (h : p ∈ setN E k f) : p = (k, f) ∨ p ∈ E := by
  induction E with
  | nil => simp [setN] at h; exact .inl h
  | cons q E ih =>
    simp only [setN] at h
    split at h
    · rcases List.mem_cons.1 h with h | h
      · exact .inl h
      · exact .inr (List.mem_cons_of_mem _ h)
    · rcases List.mem_cons.1 h with h | h
      · exact .inr (by rw [h]; exact List.mem_cons_self)
      · exact (ih h).imp id (List.mem_cons_of_mem _)

/-- The files of a crash in the midst of it. -/
structure CI (n L : Nat) (st : CSt) : Prop where
  len : n ≤ st.1.length
  now : ∀ p ∈ st.2.1, p.2 < st.1.length
  safe : ∀ (i : Nat) p, st.1[i]? = some p → p.2 ≤ p.1.length ∧ p.1.length ≤ L

theorem CI.step {n L : Nat} {st : CSt} (h : CI n L st) {sf : Ents} {s : Nm} (hs : ∀ i, getN sf s = some i → i < n) : CI n L (crashStep sf st s) := by
  unfold crashStep
  cases hg : getN sf s with
  | none => exact h
  | some i =>
    have hi := hs i hg
    have hl := h.len
    have hf := List.getElem?_eq_getElem (l := st.1) (i := i) (by omega)
    have ⟨s1, s2⟩ := h.safe i _ hf
    simp only [hf, Option.getD_some]
    have ⟨c1, c2⟩ := crashCut_le s1 (st.2.2.headD 0)
    refine ⟨by simp; omega, fun p hp => ?_, fun j p hj => ?_⟩
    · rcases setN_mem hp with rfl | hp
      · simp
      · have := h.now p hp; simp; omega
    · by_cases hjl : j < st.1.length
      · rw [List.getElem?_append_left hjl] at hj; exact h.safe j p hj
      · rw [List.getElem?_append_right (by omega)] at hj
        have : j - st.1.length = 0 := by
          have := (List.getElem?_eq_some_iff.1 hj).1
          simp at this; omega
        rw [this] at hj
        simp only [List.getElem?_cons_zero, Option.some.injEq] at hj
        subst hj
        simp only [List.length_take]
        omega

theorem isortK_mem {s : Nm} {l : List Nm} : s ∈ isortK l ↔ s ∈ l := (isortK_perm l).mem_iff

theorem getN_of_mem {E : Ents} {s : Nm} (h : s ∈ E.map (·.1)) : ∃ i, getN E s = some i := by
  induction E with
  | nil => simp at h
  | cons p E ih =>
    simp only [getN]
    by_cases hk : s = p.1
    · exact ⟨p.2, by rw [if_pos hk]⟩
    · rw [if_neg hk]
      rcases List.mem_cons.1 h with h | h
      · exact absurd h hk
      · exact ih h

/-- The names are told anew. -/
theorem DA.setNow {H K : AH} {d : Nat} {φ : Nat → Nat} {M : DM} {A : Nat → Prop} {nb sb : Nat} {cv : AV} {v1 v2 : Nat} (h : DA H d φ M A nb sb cv v1 v2) {E : Ents} {v : Nat} (hn : K.get nb = some (.map (ents (mapE φ E)) v)) (hv : v < K.next)
    (hk : ∀ b x, H.get b = some x → b ≠ nb → K.get b = some x) (hnx : H.next ≤ K.next) : DA K d φ { M with now := E } A nb sb cv v v2 := by
  have hne : ∀ b x, H.get b = some x → kind x ≠ 1 → b ≠ nb := fun b x hb hx => ne_of_kind hb h.now (by rw [kind_map]; exact hx)
  have hck := core_kind (room := M.room) (nb := nb) (sb := sb) (fuse := M.fuse) (off := M.off) h.notes
  exact {
    core := hk _ _ h.core (hne _ _ h.core (by rw [hck]; decide))
    now := hn
    ver1 := hv
    sf := hk _ _ h.sf (fun e => h.ne e.symm)
    ver2 := Nat.lt_of_lt_of_le h.ver2 hnx
    notes := h.notes.keep (fun b x hb hx => hk b x hb (hne _ _ hb (by omega))) fun b o n c z e x hx => by
      obtain ⟨ws, h3, h4⟩ := h.notes.ofKind e
      exact hk b x hx (hne _ _ hx (by rw [h3] at hx; cases hx; omega))
    ne := h.ne
    ad := h.ad
    an := h.an
    asf := h.asf
    ac := h.ac
    files := fun i p hi => by
      obtain ⟨h1, bv, h2, h3⟩ := h.files i p hi
      exact ⟨h1, bv, hk _ _ h2 (hne _ _ h2 (by rw [h3.ofKind]; decide)), h3.keep fun b x hb hx => hk b x hb (hne _ _ hb (by omega))⟩
    inj := h.inj }

/-- A new map of names. -/
theorem DA.newNow {H K : AH} {d : Nat} {φ : Nat → Nat} {M : DM} {A : Nat → Prop} {nb sb : Nat} {cv : AV} {v1 v2 : Nat} (h : DA H d φ M A nb sb cv v1 v2) {m v : Nat} (hm : K.get m = some (.map [] v)) (hv : v < K.next) (hc : CoreAt K d M.room m sb cv M.fuse M.off)
    (hk : ∀ b x, H.get b = some x → b ≠ d → K.get b = some x) (hnx : H.next ≤ K.next) (hms : m ≠ sb) (ha : A m) : DA K d φ { M with now := [] } A m sb cv v v2 where
  core := hc
  now := hm
  ver1 := hv
  sf := hk _ _ h.sf (h.neD h.sf (by rw [kind_map]; decide))
  ver2 := Nat.lt_of_lt_of_le h.ver2 hnx
  notes := h.notes.keep (fun b x hb hx => hk b x hb (h.neD hb (by omega))) fun b o n c z e x hx => by
    obtain ⟨ws, h3, h4⟩ := h.notes.ofKind e
    exact hk b x hx (h.neD hx (by rw [h3] at hx; cases hx; omega))
  ne := hms
  ad := h.ad
  an := ha
  asf := h.asf
  ac := h.ac
  files i p hi := by
    obtain ⟨h1, bv, h2, h3⟩ := h.files i p hi
    exact ⟨h1, bv, hk _ _ h2 (h.neD h2 (by rw [h3.ofKind]; decide)), h3.keep fun b x hb hx => hk b x hb (h.neD hb (by omega))⟩
  inj := h.inj

/-- A new map of safe names; the fuse and the power. -/
theorem DA.newSf {H K : AH} {d : Nat} {φ : Nat → Nat} {M : DM} {A : Nat → Prop} {nb sb : Nat} {cv : AV} {v1 v2 : Nat} (h : DA H d φ M A nb sb cv v1 v2) {m v : Nat} {E : Ents} {fuse : Int} {off : Bool} (hm : K.get m = some (.map (ents (mapE φ E)) v)) (hv : v < K.next) (hc : CoreAt K d M.room nb m cv fuse off)
    (hk : ∀ b x, H.get b = some x → b ≠ d → K.get b = some x) (hnx : H.next ≤ K.next) (hms : nb ≠ m) (ha : A m) : DA K d φ { M with sf := E, fuse := fuse, off := off } A nb m cv v1 v where
  core := hc
  now := hk _ _ h.now (h.neD h.now (by rw [kind_map]; decide))
  ver1 := Nat.lt_of_lt_of_le h.ver1 hnx
  sf := hm
  ver2 := hv
  notes := h.notes.keep (fun b x hb hx => hk b x hb (h.neD hb (by omega))) fun b o n c z e x hx => by
    obtain ⟨ws, h3, h4⟩ := h.notes.ofKind e
    exact hk b x hx (h.neD hx (by rw [h3] at hx; cases hx; omega))
  ne := hms
  ad := h.ad
  an := h.an
  asf := ha
  ac := h.ac
  files i p hi := by
    obtain ⟨h1, bv, h2, h3⟩ := h.files i p hi
    exact ⟨h1, bv, hk _ _ h2 (h.neD h2 (by rw [h3.ofKind]; decide)), h3.keep fun b x hb hx => hk b x hb (h.neD hb (by omega))⟩
  inj := h.inj
end Go.Proofs.YtgihociajfgohaaGreatDoor

open Go Go.AB Go.Proofs
namespace Go.Proofs.YtgihociajfgohaaGreatDoor
set_option maxRecDepth 100000

theorem ix40z {b o len z : Nat} {c : ACap} {k : IntKind} (h : 0 < len) : aindexAddr tC 40 (.slice b o len c z) (.int k 0) = some (.ptr b (o + 0 * 1)) := ix40 b o len z 0 c k h
theorem bd87_2 (r : AV) (n : Int) (hr : r.one = true) : abuild tC 87 [(0, r), (1, .int .i64 n)] = some (.agg [r, .int .i64 n]) := by
  cases r <;> first | (cases hr; done) | kernel_rfl

theorem tmodN (cst : Bool) (t : TypeId) (x : Int) (n : Nat) (hn : 0 < n) : abin tC .rem t cst (.int .i64 (max 0 x)) (.int .i64 (n : Int)) = some (.int .i64 (((max 0 x).toNat % n : Nat) : Int)) := by
  rw [abin_rem (by omega), tmod_nat]

set_option maxHeartbeats 4000000 in
theorem crash14 (N : Nat) (H : AH) {d : Nat} {M : DM} {A : Nat → Prop} (h : DiskAt H d M A) (ok : M.OK) (hlen : M.notes.length ≤ 1000000) (hfl : ∀ (i : Nat) p, M.files[i]? = some p → p.1.length ≤ 1000000000000) {ch : Int} {parts : List Int} {v : AV}
    (hkeys : ∀ p ∈ (M.kept ch).sf, p.1.length ≤ 1000000) (hsfn : (M.kept ch).sf.length ≤ 1000000) (hsfo : ∀ p ∈ (M.kept ch).sf, p.2 < M.files.length) (hp : IntsAt H v parts) (hpA : ∀ b o n c z, v = .slice b o n c z → ¬ A b) :
    AC tC N 0 26 [.ptr d 0, .int .i64 ch, v] H fun r K => r = .int .i64 0 ∧ DiskAt K d (M.crash ch parts) (AddR A H.next K.next) ∧ Apart H K A := by
  refine AC.wf0 fun hwf => ?_
  obtain ⟨φ, nb, sb, cv, v1, v2, h⟩ := h
  refine AC.by (n := 104) (rs := [.tmp 6]) tOK fn26 rfl rfl rfl rfl ?_
  have e0 : (PT.ofList .leaf 0 [AV.ptr d 0, .int .i64 ch, v]).get 0 = some (.ptr d 0) := rfl
  have e1 : (PT.ofList .leaf 0 [AV.ptr d 0, .int .i64 ch, v]).get 1 = some (.int .i64 ch) := rfl
  have e2 : (PT.ofList .leaf 0 [AV.ptr d 0, .int .i64 ch, v]).get 2 = some v := rfl
  have hc : H.get d = _ := h.core
  have hcl := h.notes.len
  rw [List.length_map] at hcl
  have hw1 := wrap64_succ (show M.notes.length < 9223372036854775807 by omega)
  have hrem := fun cst t => tmodN cst t ch (M.notes.length + 1) (by omega)
  with_reducible repeat' (first
 | refine AW.seq ?_
 | refine AW.region ?_
 | refine AOs.nil ?_
 | refine andThen_normal ?_
 | ((first
 | refine AOs.op1E tOK (by with_unfolding_all rfl) ?_
 ); refine Step.mk (by simp only [evOp_move, evOp_assign, aeval, ofVal, PT.get_set, Nat.reduceEqDiff, reduceIte, e0]; rfl) ?_)
 | fail "stop")
  refine AOs.callQ tOK (fs := []) (cs := []) rfl fn37 ok37 rfl (by simp only [List.map_cons, List.map_nil, List.nil_append, List.append_nil, aeval, PT.get_set, Nat.reduceEqDiff, reduceIte] <;> rfl) (made34 N _ h.core) ?_
  rintro r K0 ⟨rfl, rfl⟩
  with_reducible repeat' (first
 | refine AW.seq ?_
 | refine AW.region ?_
 | refine AOs.nil ?_
 | refine AW.skip ?_
 | refine andThen_normal ?_
 | refine AW.condF (by simp only [aeval, PT.get_set, Nat.reduceEqDiff, reduceIte]; rfl) (by first | rfl | decide | assumption) ?_
 | ((first
 | refine AOs.op1E tOK (by with_unfolding_all rfl) ?_
 ); refine Step.mk (by simp only [evOp_move, evOp_nilCheck, evOp_binOp, evOp_not, evOp_fieldAddr, evOp_load, evOp_len, aeval, ofVal, PT.get_set, Nat.reduceEqDiff, reduceIte, cellAt, Option.map_some, abin_add, Bool.not_true, List.getElem?_cons_zero, List.getElem?_cons_succ, Nat.zero_add, eq_self, al73, ld73, fa75_3, e0, e1, hc, hcl, evOp_max2, max2V_int, Option.isSome_some, hw1, hrem]; rfl) ?_)
 | fail "stop")
  have hkn : (max 0 ch).toNat % (M.notes.length + 1) ≤ M.notes.length := by
    have := Nat.mod_lt (max 0 ch).toNat (show 0 < M.notes.length + 1 by omega); omega
  refine AOs.callQ tOK (fs := []) (cs := []) rfl fn50 ok50 rfl (by simp only [List.map_cons, List.map_nil, List.nil_append, List.append_nil, aeval, PT.get_set, Nat.reduceEqDiff, reduceIte] <;> rfl) (keep32 N K0 h hkn hlen).wf ?_
  rintro r K1 ⟨⟨v2', h1, hn1, hk1⟩, hwf1⟩
  have hap1 := Apart.keep h hn1 hk1
  have hpb : ∀ b o n c z, v = .slice b o n c z → ∀ x, K0.get b = some x → K1.get b = some x := fun b o n c z e x hx => hap1.1 b x hx (.inl (hpA b o n c z e))
  have hp1 : IntsAt K1 v parts := hp.keep hpb
  obtain ⟨M1, hM1⟩ : ∃ M1, M1 = M.kept ch := ⟨_, rfl⟩
  have h1 : DA K1 d φ M1 A nb sb .nils v1 v2' := by rw [hM1]; exact h1
  have hM1f : M1.files = M.files := by rw [hM1]; rfl
  rw [← hM1] at hkeys hsfn hsfo
  have hc1 : K1.get d = _ := h1.core
  have hwd := hwf1 _ _ hc1
  have hws := hwf1 _ _ h1.sf
  have nd : ¬ d = K1.next := by omega
  with_reducible repeat' (first
 | refine AW.seq ?_
 | refine AW.region ?_
 | refine AOs.nil ?_
 | refine andThen_normal ?_
 | ((first
 | refine AOs.op1E tOK (by with_unfolding_all rfl) ?_
 | refine AOs.op0E tOK ?_
 ); refine Step.mk (by simp only [evOp_move, evOp_nilCheck, evOp_fieldAddr, evOp_load, evOp_store, evOp_makeMap, storeAt, one_map, aeval, PT.get_set, Nat.reduceEqDiff, reduceIte, cellAt, Option.map_some, List.getElem?_cons_zero, List.getElem?_cons_succ, Nat.zero_add, Nat.reduceLT, Nat.reduceAdd, List.length_cons, List.length_nil, List.set_cons_zero, List.set_cons_succ, AH.get_set, eq_self, ld72, st72, fa75_1, fa75_2, e0, hc1, AH.get_alloc, nd]; rfl) ?_)
 | fail "stop")
  generalize hK2 : (K1.alloc (.map [] 0)).set d (.cells false [.int .i64 M1.room, .map K1.next, .map sb, .nils, .int .i64 M1.fuse, .bool M1.off]) = K2
  have hn2 : K2.next = K1.next + 1 := by rw [← hK2]; rfl
  have hst2 : ∀ b x, K1.get b = some x → b ≠ d → K2.get b = some x := fun b x hb hne => by
    have := hwf1 b x hb
    rw [← hK2, AH.get_set, if_neg hne, AH.get_alloc, if_neg (by omega)]; exact hb
  have hm2 : K2.get K1.next = some (.map [] 0) := by rw [← hK2, AH.get_set, if_neg (fun e => nd e.symm), AH.get_alloc, if_pos rfl]
  have h2 : DA K2 d φ { M1 with now := [] } (AddR A K0.next K2.next) K1.next sb .nils 0 v2' :=
    (h1.keep (K := K1) (A' := AddR A K0.next K2.next) ⟨fun _ _ h _ => h, Nat.le_refl _⟩ fun b hb => .inl hb).newNow hm2 (by omega) (by show K2.get d = _; rw [← hK2, AH.get_set, if_pos rfl]) hst2 (by omega) (by omega) (.inr ⟨by omega, by omega⟩)
  have hc2 : K2.get d = _ := h2.core
  have hs2 : K2.get sb = _ := h2.sf
  with_reducible repeat' (first
 | ((first
 | refine AOs.op1E tOK (by with_unfolding_all rfl) ?_
 ); refine Step.mk (by simp only [evOp_move, evOp_assign, evOp_pick, evOp_build, evOp_nilCheck, evOp_binOp, evOp_not, evOp_fieldAddr, evOp_field, evOp_indexAddr, evOp_index, evOp_extract, evOp_makeFunc, evOp_load, evOp_lookup, evOp_store, evOp_mapUpdate, evOp_insert, evOp_range, evOp_makeMap, evOp_len, evOp_append, evOp_copy, evOp_delete, evOp_slice, evOp_convert, evOp_entry, evOp_boxC, boxC_one, boxC_agg, evOp_cap, rangeMapAt, storeAt, one_bool, one_int, one_str, one_nilp, one_ptr, one_nils, one_slice, one_empty, one_nilm, one_map, one_func, one_nilf, one_iface, one_nili, aeval, ofVal, PT.get_set, Nat.reduceEqDiff, reduceIte, lenOfAV_slice, lenOfAV_nils, lenOfAV_empty, cellAt, cellsAt, mapLenAt, lookAt, mapSetAt, mapDelAt, List.map_cons, List.map_nil, Option.map_some, Option.map_none, List.nil_append, List.append_nil, abin_add, abin_sub, abin_mul, abin_lss, abin_leq, abin_gtr, abin_geq, abin_eql, abin_neq, abin_eqlS, abin_neqS, cond_true, cond_false, decide_true, decide_false, Bool.not_true, Bool.not_false, TI.agg, List.getElem?_cons_zero, List.getElem?_cons_succ, Nat.add_zero, Nat.zero_add, Nat.zero_mul, nbeq, nble, nblt, Nat.reduceLeDiff, Nat.reduceLT, Nat.reduceMul, Nat.reduceAdd, Nat.reduceSub, Bool.and_true, Bool.true_and, Bool.and_false, Bool.false_and, List.length_cons, List.length_nil, List.set_cons_zero, List.set_cons_succ, AH.get_set, AH.next_set, eq_self, Int.ofNat_eq_natCast, Int.cast_ofNat_Int, Int.natCast_zero, Int.reduceEq, Int.reduceLT, Int.reduceLE, Int.reduceNeg, ld3, st3, ld4, st4, ld5, st5, al9, ld9, st9, ld20, st20, ld21, st21, ld24, st24, ld27, ne27a, eq27a, ne27b, eq27b, st27, al28, ix28, bs28, ld28, ne28a, eq28a, ne28b, eq28b, ne28c, eq28c, st28, al32, ix32, bs32, ld32, ne32a, eq32a, ne32b, eq32b, ne32c, eq32c, st32, al37, ix37, bs37, ld37, ne37a, eq37a, ne37b, eq37b, ne37c, eq37c, st37, al40, ix40, bs40, ld40, ne40a, eq40a, ne40b, eq40b, ne40c, eq40c, st40, ld42, ne42a, eq42a, ne42b, eq42b, st42, ld47, st47, ld57, st57, ld60, st60, fa63_0, ld63, fa65_0, fa65_1, fa65_2, fa65_3, fa65_4, fa65_5, ld65, an72, am72, ld72, md72, ms72, lk72, ne72a, eq72a, ne72b, eq72b, st72, al73, ix73, bs73, ld73, ne73a, eq73a, ne73b, eq73b, ne73c, eq73c, st73, fa75_0, fa75_1, fa75_2, fa75_3, fa75_4, fa75_5, ld75, ld83, st83, ld85, ne85a, eq85a, ne85b, eq85b, st85, fa87_0, fa87_1, ld87, ld91, st91, ld96, st96, ld104, st104, al116, ix116, bs116, ld116, ne116a, eq116a, ne116b, eq116b, ne116c, eq116c, st116, ld118, st118, ld119, ix119, cv9_32, cv96_3, cv5_96, cv96_5, cv3_96, cv3_118, e0, e1, e2, hc2]; rfl) ?_)
 | fail "stop")
  refine AOs.callQ tOK (fs := []) (cs := []) rfl fn52 ok52 rfl (by simp only [List.map_cons, List.map_nil, List.nil_append, List.append_nil, aeval, PT.get_set, Nat.reduceEqDiff, reduceIte] <;> rfl) (keys36 N K2 sb).wf ?_
  rintro r K3 ⟨⟨rfl, rfl⟩, hwf3⟩
  have hwf2 : ∀ b x, K2.get b = some x → b < K2.next := fun b x hb => by
    rw [← hK2, AH.get_set] at hb
    split at hb
    · omega
    · rw [AH.get_alloc] at hb
      split at hb
      · omega
      · have := hwf1 b x hb; omega
  have hst3 : ∀ b x, K2.get b = some x → (K2.alloc (.cells false [.map sb])).get b = some x := fun b x hb => by
    rw [AH.get_alloc, if_neg (by have := hwf2 b x hb; omega)]; exact hb
  refine AOs.callQ tOK (fs := []) (cs := []) rfl fn51 ok51 rfl (by simp only [List.map_cons, List.map_nil, List.nil_append, List.append_nil, aeval, PT.get_set, Nat.reduceEqDiff, reduceIte] <;> rfl) (sorted35 N (K2.alloc (.cells false [.map sb])) (b := K2.next) (rest := []) (by rw [AH.get_alloc, if_pos rfl]) (hst3 _ _ hs2) (mapE_names hkeys) (by rw [mapE_len]; exact hsfn)) ?_
  rintro ks K4 ⟨hks, hk4, hn4⟩
  have hn4' : K2.next + 1 ≤ K4.next := hn4
  rw [mapE_keys] at hks
  have hst4 : ∀ b x, K2.get b = some x → K4.get b = some x := fun b x hb => hk4 b x (hst3 b x hb)
  have hkl := hks.len
  have h4 : DA K4 d φ { M1 with now := [] } (AddR A K0.next K4.next) K1.next sb .nils 0 v2' := h2.keep ⟨fun b x hb _ => hst4 b x hb, by omega⟩ fun b hb => by
    rcases hb with hb | ⟨h, h'⟩
    · exact .inl hb
    · exact .inr ⟨h, by omega⟩
  have hap4 : Apart K0 K4 A := ⟨fun b x hb hx => by
    have hb1 := hap1.1 b x hb hx
    have : b ≠ d := by
      rcases hx with hx | hx
      · exact fun e => hx (by rw [e]; exact h1.ad)
      · exact h1.neD hb1 (by omega)
    exact hst4 b x (hst2 b x hb1 this), by omega⟩
  have hpd : ∀ b o n c z, v = .slice b o n c z → b ≠ d := fun b o n c z e e' => hpA b o n c z e (by rw [e']; exact h1.ad)
  have hp4 : IntsAt K4 v parts := hp1.keep fun b o n c z e x hx => hst4 b x (hst2 b x hx (hpd b o n c z e))
  obtain ⟨keys, hkeysD⟩ : ∃ keys, keys = isortK (M1.sf.map (·.1)) := ⟨_, rfl⟩
  rw [← hkeysD] at hks hkl
  have hkeysL : keys.length ≤ 1000000 := by rw [hkeysD, (isortK_perm _).length_eq, List.length_map]; exact hsfn
  with_reducible repeat' (first
 | refine AW.block ?_
 | refine AOs.nil ?_
 | refine andThen_normal ?_
 | ((first
 | refine AOs.op1E tOK (by with_unfolding_all rfl) ?_
 ); refine Step.mk (by simp only [evOp_move, evOp_len, aeval, ofVal, PT.get_set, Nat.reduceEqDiff, reduceIte, Option.map_some, eq_self, al37, hkl]; rfl) ?_)
 | fail "stop")
  obtain ⟨st, hst⟩ : ∃ st : Nat → CSt, ∀ i, st i = (keys.take i).foldl (crashStep M1.sf) (M1.files, [], parts) := ⟨_, fun _ => rfl⟩
  have hst0 : st 0 = (M1.files, [], parts) := by rw [hst]; simp
  have hstS : ∀ i s, keys[i]? = some s → st (i + 1) = crashStep M1.sf (st i) s := fun i s hs => by
    rw [hst, hst, List.take_add_one, hs]; simp [List.foldl_append]
  have hstE : st keys.length = M.crashSt ch parts := by
    rw [hst, List.take_length, hkeysD, hM1]; rfl
  have hM1s : ∀ s i, getN M1.sf s = some i → i < M1.files.length := fun s i hg => by rw [hM1f]; exact hsfo _ (getN_mem hg)
  have hCI : ∀ i, CI M1.files.length 1000000000000 (st i) := by
    intro i
    induction i with
    | zero =>
      rw [hst0]
      exact ⟨Nat.le_refl _, fun p hp => by simp at hp, fun i p hp => ⟨ok.safe i p (by rw [← hM1f]; exact hp), hfl i p (by rw [← hM1f]; exact hp)⟩⟩
    | succ i ih =>
      cases hs : keys[i]? with
      | none =>
        have hle : keys.length ≤ i := by
          rcases Nat.lt_or_ge i keys.length with h | h
          · rw [List.getElem?_eq_getElem h] at hs; cases hs
          · exact h
        have e : st (i + 1) = st i := by rw [hst, hst, List.take_of_length_le (by omega), List.take_of_length_le hle]
        rw [e]; exact ih
      | some s => rw [hstS i s hs]; exact ih.step (hM1s s)
  refine AW.loop (fun m T K => K4.next ≤ K.next ∧ (∀ b x, K4.get b = some x → b ≠ K1.next → K.get b = some x) ∧ T.get 0 = some (.ptr d 0) ∧ T.get 35 = some ks ∧ T.get 36 = some (.int .i64 (keys.length : Nat)) ∧
      ∃ (i : Nat) (ψ : Nat → Nat) (w : Nat) (u : AV), i ≤ keys.length ∧ m = keys.length - i ∧ T.get 37 = some (.int .i64 (i : Nat)) ∧ T.get 2 = some u ∧ IntsAt K4 u (st i).2.2 ∧
        DA K d ψ { M1 with files := (st i).1, now := (st i).2.1 } (AddR A K0.next K.next) K1.next sb .nils w v2') ?_ (keys.length - 0)
    ⟨Nat.le_refl _, fun b x hb _ => hb, by simp [PT.get_set, e0], by simp [PT.get_set], by simp [PT.get_set], 0, φ, 0, v, by omega, rfl, by simp [PT.get_set], by simp [PT.get_set, e2], by rw [hst0]; exact hp4, by rw [hst0]; exact h4⟩
  rintro m T K ⟨hnK, hkK, g0, g35, g36, i, ψ, w, u, hi, rfl, g37, g2, hu, hK⟩
  refine AW.wf0 fun hwfK => ?_
  have hcK : K.get d = _ := hK.core
  have hnowK : K.get K1.next = _ := hK.now
  have hsfK : K.get sb = _ := hK.sf
  by_cases hlt : i < keys.length
  · have hd := lt_int hlt
    obtain ⟨s, hs⟩ : ∃ s, keys[i]? = some s := ⟨_, List.getElem?_eq_getElem hlt⟩
    have hsm : s ∈ M1.sf.map (·.1) := isortK_mem.1 (by rw [← hkeysD]; exact List.mem_of_getElem? hs)
    obtain ⟨j, hj⟩ := getN_of_mem hsm
    have hjl : j < (st i).1.length := Nat.lt_of_lt_of_le (hM1s s j hj) (hCI i).len
    obtain ⟨f, hf⟩ : ∃ f, (st i).1[j]? = some f := ⟨_, List.getElem?_eq_getElem hjl⟩
    obtain ⟨hsafe, hfl1⟩ := (hCI i).safe j f hf
    obtain ⟨kb, kc, kro, kws, rfl, hkb, hkat⟩ : ∃ kb kc kro kws, ks = .slice kb 0 keys.length kc 1 ∧ K4.get kb = some (.cells kro kws) ∧ kws[i * 1]? = some (.str s) := by
      rcases hks with ⟨_, hk0⟩ | ⟨b, c, ro, ws, q1, q2, q3⟩
      · rw [hk0] at hlt; simp at hlt
      · exact ⟨b, c, ro, ws, q1, q2, by rw [Nat.mul_one]; exact q3 i s hs⟩
    have hkbK := hkK kb _ hkb (ne_of_get hkb h4.now (by intro e; cases e))
    obtain ⟨ha, bv, hfc, hfb⟩ := hK.files j f hf
    have hblen := hfb.bytes.len
    have hok1 : ({ M1 with files := (st i).1, now := (st i).2.1 } : DM).OK := by
      refine ⟨(hCI i).now, fun p hp => Nat.lt_of_lt_of_le (by rw [hM1f]; exact hsfo p hp) (hCI i).len, fun n i h => ?_, ?_, ?_, fun j p hp => ((hCI _).safe j p hp).1⟩
      · rw [hM1] at h; simp [DM.kept, DM.keep] at h
      · rw [hM1]; exact ok.f1
      · rw [hM1]; exact ok.f2
    have hw2 : IntKind.i64.wrap ((f.1.length : Int) - (f.2 : Int)) = ((f.1.length - f.2 : Nat) : Int) := by rw [wrap64 (by omega) (by omega)]; omega
    have hw3 := wrap64_succ (show f.1.length - f.2 < 9223372036854775807 by omega)
    cases hx : (st i).2.2 with
    | nil =>
      have hul : lenOfAV u = some 0 := by have := hu.len; rwa [hx] at this
      have hcut := crashCut_le hsafe (0 : Int)
      have hr2 := fun cst t => tmodN cst t (0 : Int) (f.1.length - f.2 + 1) (by omega)
      have hw4 : IntKind.i64.wrap ((f.2 : Int) + (((max 0 (0 : Int)).toNat % (f.1.length - f.2 + 1) : Nat) : Int)) = ((crashCut f (0 : Int) : Nat) : Int) := by
        rw [wrap64 (by omega) (by have := hcut.2; unfold crashCut at this; omega)]; unfold crashCut; omega
      obtain ⟨u2, hsl2, hfb2⟩ := hfb.head hcut.2
      with_reducible repeat' (first
 | refine AW.seq ?_
 | refine AW.region ?_
 | refine AW.block ?_
 | refine AOs.nil ?_
 | refine AW.skip ?_
 | refine andThen_normal ?_
 | refine AW.condT (by simp only [aeval, PT.get_set, Nat.reduceEqDiff, reduceIte, if_true]; rfl) (by first | rfl | decide | assumption) ?_
 | refine AW.condF (by simp only [aeval, PT.get_set, Nat.reduceEqDiff, reduceIte, if_true]; rfl) (by first | rfl | decide | assumption) ?_
 | refine AW.drawT tOK (by with_unfolding_all rfl) (by simp only [pickAll, Nat.reduceAdd]; rfl) ?_
 | refine DN.nil tOK ?_
 | ((first
 | refine DN.fl1E (by with_unfolding_all rfl) (by with_unfolding_all rfl) ?_
 | refine DN.rd1E (by kernel_rfl) (by with_unfolding_all rfl) ?_
 ); refine Step.mk (by simp only [evOp_move, evOp_assign, evOp_nilCheck, evOp_binOp, evOp_fieldAddr, evOp_load, evOp_len, aeval, ofVal, PT.get_set, Nat.reduceEqDiff, reduceIte, cellAt, Option.map_some, abin_add, abin_sub, List.getElem?_cons_zero, List.getElem?_cons_succ, Nat.add_zero, Nat.zero_add, eq_self, ld3, al32, ld32, fa87_0, fa87_1, hfc, hblen, evOp_max2, max2V_int, Option.isSome_some, hw2, hw3, hr2, hw4, if_true]; rfl) ?_; refine Same.mk ?_)
 | ((first
 | refine AOs.op1E tOK (by with_unfolding_all rfl) ?_
 ); refine Step.mk (by simp only [evOp_move, evOp_assign, evOp_nilCheck, evOp_binOp, evOp_fieldAddr, evOp_indexAddr, evOp_load, evOp_lookup, evOp_len, aeval, ofVal, PT.get_set, Nat.reduceEqDiff, reduceIte, cellAt, lookAt, Option.map_some, abin_lss, abin_gtr, decide_false, List.getElem?_cons_zero, List.getElem?_cons_succ, Nat.zero_add, eq_self, Int.cast_ofNat_Int, Int.reduceLT, ld9, ix37, al40, ld72, lk72, fa75_2, g0, g35, g36, g37, g2, hd, hlt, hkbK, hkat, hcK, hsfK, mget_ents, getN_mapE, hj, Option.getD_some, hul, if_true]; rfl) ?_)
 | fail "stop")
      refine AW.drawN tOK (Qs := []) [0, 1, 2, 3, 4, 5, 6, 7, 8, 9, 10, 12, 11, 13, 14, 15] (by kernel_rfl) (by simp only [pickL, List.getElem?_cons_zero, List.getElem?_cons_succ]; rfl) ?_
      with_reducible repeat' (first
 | ((first
 | refine DN.fl1E (by with_unfolding_all rfl) (by with_unfolding_all rfl) ?_
 | refine DN.rd1E (by kernel_rfl) (by with_unfolding_all rfl) ?_
 ); refine Step.mk (by simp only [evOp_move, evOp_nilCheck, evOp_fieldAddr, evOp_load, evOp_slice, aeval, PT.get_set, Nat.reduceEqDiff, reduceIte, cellAt, Option.map_some, Option.map_none, List.getElem?_cons_zero, List.getElem?_cons_succ, Nat.add_zero, Nat.zero_add, eq_self, ld32, ld72, fa75_1, fa87_0, g0, hcK, hfc, hsl2]; rfl) ?_; refine Same.mk ?_)
 | fail "stop")
      refine DN.callP tOK (fs := []) (cs := []) rfl fn53 ok53 rfl (by simp only [List.map_cons, List.map_nil, List.nil_append, List.append_nil, aeval, PT.get_set, Nat.reduceEqDiff, reduceIte] <;> rfl) (clone37 N K hfb2 (by rw [List.length_take]; omega)).wf ?_
      rintro r K5 ⟨⟨hr1, hk5, hn5⟩, hwf5⟩
      have hcK5 := hk5 _ _ hcK
      have hfc5 := hk5 _ _ hfc
      have hnow5 := hk5 _ _ hnowK
      constructor
      · repeat' (first | exact good_nil | refine good_cons ?_ ?_ | exact good_of (by kernel_rfl) rfl (by simp only [evOp_load, evOp_slice, aeval, PT.get_set, Nat.reduceEqDiff, reduceIte, cellAt, Option.map_some, Option.map_none, List.getElem?_cons_zero, List.getElem?_cons_succ, eq_self, ld32, ld72, hcK5, hfc5, hsl2] <;> rfl) 1 | fail "stop")
      have hone := hr1.bytes.one
      have hbd := bd87_2 r (crashCut f (0 : Int) : Nat) hone
      with_reducible repeat' (first
 | ((first
 | refine DN.fl1E (by with_unfolding_all rfl) (by with_unfolding_all rfl) ?_
 | refine DN.rd1E (by kernel_rfl) (by with_unfolding_all rfl) ?_
 ); refine Step.mk (by simp only [evOp_build, evOp_boxC, boxC_agg, aeval, PT.get_set, Nat.reduceEqDiff, reduceIte, List.map_cons, List.map_nil, Option.map_some, nblt, eq_self, hbd]; rfl) ?_; refine Same.mk ?_)
 | fail "stop")
      have hwd5 := hwf5 _ _ hcK5
      have hwf5' := hwf5 _ _ hfc5
      have hwn5 := hwf5 _ _ hnow5
      have q1 : ¬ d = K5.next := by omega
      have q2 : ¬ ψ j = K5.next := by omega
      have q3 : ¬ K1.next = K5.next := by omega
      refine DN.actP tOK (by kernel_rfl) (by simp only [evOp_boxC, boxC_agg, aeval, PT.get_set, Nat.reduceEqDiff, reduceIte, Option.map_some, eq_self]; rfl) rfl ?_ ?_
      · repeat' (first | exact good_nil | refine good_cons ?_ ?_ | exact good_of (by kernel_rfl) rfl (by simp only [evOp_load, evOp_slice, aeval, PT.get_set, Nat.reduceEqDiff, reduceIte, cellAt, Option.map_some, Option.map_none, List.getElem?_cons_zero, List.getElem?_cons_succ, eq_self, ld32, ld72, hcK5, hfc5, hsl2, AH.get_alloc, q1, q2] <;> rfl) 1 | fail "stop")
      with_reducible repeat' (first
 | refine AW.region ?_
 | refine AOs.nil ?_
 | refine andThen_normal ?_
 | refine inBlock_normal ?_
 | refine DN.nil tOK ?_
 | ((first
 | refine AOs.op1E tOK (by with_unfolding_all rfl) ?_
 | refine DN.act0E tOK (by kernel_rfl) (by with_unfolding_all rfl) ?_
 ); refine Step.mk (by simp only [evOp_move, evOp_binOp, evOp_mapUpdate, aeval, ofVal, PT.get_set, Nat.reduceEqDiff, reduceIte, mapSetAt, Option.map_some, abin_add, eq_self, ms72, g37, AH.get_alloc, AH.next_alloc, q3, hnow5]; rfl) ?_)
 | fail "stop")
      have hstp : st (i + 1) = ((st i).1 ++ [(f.1.take (crashCut f (0 : Int)), crashCut f (0 : Int))], setN (st i).2.1 s (st i).1.length, []) := by
        rw [hstS i s hs]
        unfold crashStep
        rw [hj]
        simp only [hf, Option.getD_some, hx, List.headD_nil, List.tail_nil]
      have hfin : ∀ L : AH, L.next = K5.next + 2 → L.get K1.next = some (.map (mset (ents (mapE ψ (st i).2.1)) s (.ptr K5.next 0)) (K5.next + 1)) → L.get K5.next = some (.cells false [r, .int .i64 (crashCut f (0 : Int) : Nat)]) → (∀ b x, K5.get b = some x → b ≠ K1.next → L.get b = some x) →
          K4.next ≤ L.next ∧ (∀ b x, K4.get b = some x → b ≠ K1.next → L.get b = some x) ∧ DA L d (fun k => if k = (st i).1.length then K5.next else ψ k) { M1 with files := (st (i + 1)).1, now := (st (i + 1)).2.1 } (AddR A K0.next L.next) K1.next sb .nils (K5.next + 1) v2' := by
        intro L l1 l2 l3 l4
        have hne5 : ∀ k, k < (st i).1.length → ψ k ≠ K5.next := fun k hk e => by
          obtain ⟨_, bv', z2, _⟩ := hK.files k _ (List.getElem?_eq_getElem hk)
          have := hwf5 _ _ (hk5 _ _ z2)
          omega
        -- without the new name: a heap beside
        have hA := (hK.keep (K := K5.alloc (.cells false [r, .int .i64 (crashCut f (0 : Int) : Nat)])) (A' := AddR A K0.next L.next) ⟨fun b x hb _ => by
          have := hwf5 b x (hk5 b x hb)
          rw [AH.get_alloc, if_neg (by omega)]; exact hk5 b x hb, by simp; omega⟩ fun b hb => by
            rcases hb with hb | ⟨h, h'⟩
            · exact .inl hb
            · exact .inr ⟨h, by omega⟩)
        have hB := hA.addFile (l := f.1.take (crashCut f (0 : Int))) (s := crashCut f (0 : Int)) hok1 (m := K5.next) (bv := r) (by rw [AH.get_alloc, if_pos rfl]) (hr1.keep fun b x hb _ => by
          have := hwf5 b x hb
          rw [AH.get_alloc, if_neg (by omega)]; exact hb) (.inr ⟨by omega, by omega⟩) hne5
        refine ⟨by omega, fun b x hb hne => l4 b x (hk5 b x (hkK b x hb hne)) hne, ?_⟩
        rw [hstp]
        refine hB.setNow (E := setN (st i).2.1 s (st i).1.length) ?_ (by omega) (fun b x hb hne => ?_) (by simp; omega)
        · rw [l2]
          have z1 := mset_ents (mapE ψ (st i).2.1) s K5.next
          have z2 : mapE (fun k => if k = (st i).1.length then K5.next else ψ k) (setN (st i).2.1 s (st i).1.length) = setN (mapE ψ (st i).2.1) s K5.next := by
            rw [← setN_mapE]
            simp only [if_true]
            rw [mapE_congr (hCI i).now fun k hk => if_neg (by omega)]
          rw [z1, z2]
        · rw [AH.get_alloc] at hb
          split at hb
          · rename_i e; rw [e, l3, ← hb]
          · exact l4 b x hb hne
      have hq5 : ¬ K5.next = K1.next := by omega
      obtain ⟨z1, z2, z3⟩ := hfin (⟨(K5.alloc (.cells false [r, .int .i64 (crashCut f (0 : Int) : Nat)])).t.set K1.next (.map (mset (ents (mapE ψ (st i).2.1)) s (.ptr K5.next 0)) (K5.next + 1)), K5.next + 2⟩ : AH) rfl (by rw [get_mkset, if_pos rfl]) (by rw [get_mkset, if_neg hq5, AH.get_alloc, if_pos rfl]) (fun b x hb hne => by
        have := hwf5 b x hb
        rw [get_mkset, if_neg hne, AH.get_alloc, if_neg (by omega)]; exact hb)
      refine ⟨keys.length - (i + 1), by omega, z1, z2, by simp only [PT.get_set, Nat.reduceEqDiff, reduceIte, g0], by simp only [PT.get_set, Nat.reduceEqDiff, reduceIte, g35], by simp only [PT.get_set, Nat.reduceEqDiff, reduceIte, g36], i + 1, _, _, u, by omega, rfl, ?_, by simp only [PT.get_set, Nat.reduceEqDiff, reduceIte, g2], by rw [hstp]; exact (hx ▸ hu), z3⟩
      simp only [PT.get_set, Nat.reduceEqDiff, reduceIte, wrap64_succ (show i < 9223372036854775807 by omega)]
    | cons x l =>
      rw [hx] at hu
      have hul : lenOfAV u = some (l.length + 1) := hu.len
      obtain ⟨pb, po, pc, pro, pvs, u', rfl, hpg, hpv, hpsl, hpi, _⟩ := hu.cut
      have hpgK := hkK pb _ hpg (ne_of_get hpg h4.now (by intro e; cases e))
      have hd2 : decide ((0 : Int) < ((l.length + 1 : Nat) : Int)) = true := by simp
      have hix : ∀ (k : IntKind), aindexAddr tC 40 (.slice pb po (l.length + 1) (.lo pc) 1) (.int k 0) = some (.ptr pb (po + 0 * 1)) := fun k => ix40z (by omega)
      have hcut := crashCut_le hsafe x
      have hr2 := fun cst t => tmodN cst t x (f.1.length - f.2 + 1) (by omega)
      have hw4 : IntKind.i64.wrap ((f.2 : Int) + (((max 0 x).toNat % (f.1.length - f.2 + 1) : Nat) : Int)) = ((crashCut f x : Nat) : Int) := by
        rw [wrap64 (by omega) (by have := hcut.2; unfold crashCut at this; omega)]; unfold crashCut; omega
      obtain ⟨u2, hsl2, hfb2⟩ := hfb.head hcut.2
      with_reducible repeat' (first
 | refine AW.seq ?_
 | refine AW.region ?_
 | refine AW.block ?_
 | refine AOs.nil ?_
 | refine AW.skip ?_
 | refine andThen_normal ?_
 | refine AW.condT (by simp only [aeval, PT.get_set, Nat.reduceEqDiff, reduceIte]; rfl) (by first | rfl | decide | assumption) ?_
 | refine AW.drawT tOK (by with_unfolding_all rfl) (by simp only [pickAll, Nat.reduceAdd]; rfl) ?_
 | refine DN.nil tOK ?_
 | ((first
 | refine DN.fl1E (by with_unfolding_all rfl) (by with_unfolding_all rfl) ?_
 | refine DN.rd1E (by kernel_rfl) (by with_unfolding_all rfl) ?_
 ); refine Step.mk (by simp only [evOp_move, evOp_assign, evOp_nilCheck, evOp_binOp, evOp_fieldAddr, evOp_indexAddr, evOp_load, evOp_len, evOp_slice, aeval, ofVal, PT.get_set, Nat.reduceEqDiff, reduceIte, cellAt, Option.map_some, Option.map_none, abin_add, abin_sub, List.getElem?_cons_zero, List.getElem?_cons_succ, Nat.add_zero, Nat.zero_add, Nat.zero_mul, eq_self, ld3, al32, ld32, fa87_0, fa87_1, g2, hfc, hblen, evOp_max2, max2V_int, Option.isSome_some, hw2, hw3, hr2, hw4, hpgK, hpv, hpsl, hix]; rfl) ?_; refine Same.mk ?_)
 | ((first
 | refine AOs.op1E tOK (by with_unfolding_all rfl) ?_
 ); refine Step.mk (by simp only [evOp_move, evOp_assign, evOp_nilCheck, evOp_binOp, evOp_fieldAddr, evOp_indexAddr, evOp_load, evOp_lookup, evOp_len, aeval, ofVal, PT.get_set, Nat.reduceEqDiff, reduceIte, cellAt, lookAt, Option.map_some, abin_lss, abin_gtr, List.getElem?_cons_zero, List.getElem?_cons_succ, Nat.zero_add, eq_self, ld9, ix37, al40, ld72, lk72, fa75_2, g0, g35, g36, g37, g2, hd, hlt, hkbK, hkat, hcK, hsfK, mget_ents, getN_mapE, hj, Option.getD_some, hul, hd2]; rfl) ?_)
 | fail "stop")
      refine AW.drawN tOK (Qs := []) [0, 1, 2, 3, 4, 5, 6, 7, 8, 9, 10, 12, 11, 13, 14, 15] (by kernel_rfl) (by simp only [pickL, List.getElem?_cons_zero, List.getElem?_cons_succ]; rfl) ?_
      with_reducible repeat' (first
 | ((first
 | refine DN.fl1E (by with_unfolding_all rfl) (by with_unfolding_all rfl) ?_
 | refine DN.rd1E (by kernel_rfl) (by with_unfolding_all rfl) ?_
 ); refine Step.mk (by simp only [evOp_move, evOp_nilCheck, evOp_fieldAddr, evOp_load, evOp_slice, aeval, PT.get_set, Nat.reduceEqDiff, reduceIte, cellAt, Option.map_some, Option.map_none, List.getElem?_cons_zero, List.getElem?_cons_succ, Nat.add_zero, Nat.zero_add, eq_self, ld32, ld72, fa75_1, fa87_0, g0, hcK, hfc, hsl2]; rfl) ?_; refine Same.mk ?_)
 | fail "stop")
      refine DN.callP tOK (fs := []) (cs := []) rfl fn53 ok53 rfl (by simp only [List.map_cons, List.map_nil, List.nil_append, List.append_nil, aeval, PT.get_set, Nat.reduceEqDiff, reduceIte] <;> rfl) (clone37 N K hfb2 (by rw [List.length_take]; omega)).wf ?_
      rintro r K5 ⟨⟨hr1, hk5, hn5⟩, hwf5⟩
      have hcK5 := hk5 _ _ hcK
      have hfc5 := hk5 _ _ hfc
      have hnow5 := hk5 _ _ hnowK
      constructor
      · repeat' (first | exact good_nil | refine good_cons ?_ ?_ | exact good_of (by kernel_rfl) rfl (by simp only [evOp_load, evOp_slice, aeval, PT.get_set, Nat.reduceEqDiff, reduceIte, cellAt, Option.map_some, Option.map_none, List.getElem?_cons_zero, List.getElem?_cons_succ, eq_self, ld32, ld72, hcK5, hfc5, hsl2] <;> rfl) 1 | fail "stop")
      have hone := hr1.bytes.one
      have hbd := bd87_2 r (crashCut f x : Nat) hone
      with_reducible repeat' (first
 | ((first
 | refine DN.fl1E (by with_unfolding_all rfl) (by with_unfolding_all rfl) ?_
 | refine DN.rd1E (by kernel_rfl) (by with_unfolding_all rfl) ?_
 ); refine Step.mk (by simp only [evOp_build, evOp_boxC, boxC_agg, aeval, PT.get_set, Nat.reduceEqDiff, reduceIte, List.map_cons, List.map_nil, Option.map_some, nblt, eq_self, hbd]; rfl) ?_; refine Same.mk ?_)
 | fail "stop")
      have hwd5 := hwf5 _ _ hcK5
      have hwf5' := hwf5 _ _ hfc5
      have hwn5 := hwf5 _ _ hnow5
      have q1 : ¬ d = K5.next := by omega
      have q2 : ¬ ψ j = K5.next := by omega
      have q3 : ¬ K1.next = K5.next := by omega
      refine DN.actP tOK (by kernel_rfl) (by simp only [evOp_boxC, boxC_agg, aeval, PT.get_set, Nat.reduceEqDiff, reduceIte, Option.map_some, eq_self]; rfl) rfl ?_ ?_
      · repeat' (first | exact good_nil | refine good_cons ?_ ?_ | exact good_of (by kernel_rfl) rfl (by simp only [evOp_load, evOp_slice, aeval, PT.get_set, Nat.reduceEqDiff, reduceIte, cellAt, Option.map_some, Option.map_none, List.getElem?_cons_zero, List.getElem?_cons_succ, eq_self, ld32, ld72, hcK5, hfc5, hsl2, AH.get_alloc, q1, q2] <;> rfl) 1 | fail "stop")
      with_reducible repeat' (first
 | refine AW.region ?_
 | refine AOs.nil ?_
 | refine andThen_normal ?_
 | refine inBlock_normal ?_
 | refine DN.nil tOK ?_
 | ((first
 | refine AOs.op1E tOK (by with_unfolding_all rfl) ?_
 | refine DN.act0E tOK (by kernel_rfl) (by with_unfolding_all rfl) ?_
 ); refine Step.mk (by simp only [evOp_move, evOp_binOp, evOp_mapUpdate, aeval, ofVal, PT.get_set, Nat.reduceEqDiff, reduceIte, mapSetAt, Option.map_some, abin_add, eq_self, ms72, g37, AH.get_alloc, AH.next_alloc, q3, hnow5]; rfl) ?_)
 | fail "stop")
      have hstp : st (i + 1) = ((st i).1 ++ [(f.1.take (crashCut f x), crashCut f x)], setN (st i).2.1 s (st i).1.length, l) := by
        rw [hstS i s hs]
        unfold crashStep
        rw [hj]
        simp only [hf, Option.getD_some, hx, List.headD_cons, List.tail_cons]
      have hfin : ∀ L : AH, L.next = K5.next + 2 → L.get K1.next = some (.map (mset (ents (mapE ψ (st i).2.1)) s (.ptr K5.next 0)) (K5.next + 1)) → L.get K5.next = some (.cells false [r, .int .i64 (crashCut f x : Nat)]) → (∀ b x, K5.get b = some x → b ≠ K1.next → L.get b = some x) →
          K4.next ≤ L.next ∧ (∀ b x, K4.get b = some x → b ≠ K1.next → L.get b = some x) ∧ DA L d (fun k => if k = (st i).1.length then K5.next else ψ k) { M1 with files := (st (i + 1)).1, now := (st (i + 1)).2.1 } (AddR A K0.next L.next) K1.next sb .nils (K5.next + 1) v2' := by
        intro L l1 l2 l3 l4
        have hne5 : ∀ k, k < (st i).1.length → ψ k ≠ K5.next := fun k hk e => by
          obtain ⟨_, bv', z2, _⟩ := hK.files k _ (List.getElem?_eq_getElem hk)
          have := hwf5 _ _ (hk5 _ _ z2)
          omega
        -- without the new name: a heap beside
        have hA := (hK.keep (K := K5.alloc (.cells false [r, .int .i64 (crashCut f x : Nat)])) (A' := AddR A K0.next L.next) ⟨fun b x hb _ => by
          have := hwf5 b x (hk5 b x hb)
          rw [AH.get_alloc, if_neg (by omega)]; exact hk5 b x hb, by simp; omega⟩ fun b hb => by
            rcases hb with hb | ⟨h, h'⟩
            · exact .inl hb
            · exact .inr ⟨h, by omega⟩)
        have hB := hA.addFile (l := f.1.take (crashCut f x)) (s := crashCut f x) hok1 (m := K5.next) (bv := r) (by rw [AH.get_alloc, if_pos rfl]) (hr1.keep fun b x hb _ => by
          have := hwf5 b x hb
          rw [AH.get_alloc, if_neg (by omega)]; exact hb) (.inr ⟨by omega, by omega⟩) hne5
        refine ⟨by omega, fun b x hb hne => l4 b x (hk5 b x (hkK b x hb hne)) hne, ?_⟩
        rw [hstp]
        refine hB.setNow (E := setN (st i).2.1 s (st i).1.length) ?_ (by omega) (fun b x hb hne => ?_) (by simp; omega)
        · rw [l2]
          have z1 := mset_ents (mapE ψ (st i).2.1) s K5.next
          have z2 : mapE (fun k => if k = (st i).1.length then K5.next else ψ k) (setN (st i).2.1 s (st i).1.length) = setN (mapE ψ (st i).2.1) s K5.next := by
            rw [← setN_mapE]
            simp only [if_true]
            rw [mapE_congr (hCI i).now fun k hk => if_neg (by omega)]
          rw [z1, z2]
        · rw [AH.get_alloc] at hb
          split at hb
          · rename_i e; rw [e, l3, ← hb]
          · exact l4 b x hb hne
      have hq5 : ¬ K5.next = K1.next := by omega
      obtain ⟨z1, z2, z3⟩ := hfin (⟨(K5.alloc (.cells false [r, .int .i64 (crashCut f x : Nat)])).t.set K1.next (.map (mset (ents (mapE ψ (st i).2.1)) s (.ptr K5.next 0)) (K5.next + 1)), K5.next + 2⟩ : AH) rfl (by rw [get_mkset, if_pos rfl]) (by rw [get_mkset, if_neg hq5, AH.get_alloc, if_pos rfl]) (fun b x hb hne => by
        have := hwf5 b x hb
        rw [get_mkset, if_neg hne, AH.get_alloc, if_neg (by omega)]; exact hb)
      refine ⟨keys.length - (i + 1), by omega, z1, z2, by simp only [PT.get_set, Nat.reduceEqDiff, reduceIte, g0], by simp only [PT.get_set, Nat.reduceEqDiff, reduceIte, g35], by simp only [PT.get_set, Nat.reduceEqDiff, reduceIte, g36], i + 1, _, _, u', by omega, rfl, ?_, by simp only [PT.get_set, Nat.reduceEqDiff, reduceIte, g2], by rw [hstp]; exact hpi, z3⟩
      simp only [PT.get_set, Nat.reduceEqDiff, reduceIte, wrap64_succ (show i < 9223372036854775807 by omega)]
  · have hd := nlt_int hlt
    obtain rfl : i = keys.length := by omega
    have hdK := hwfK _ _ hcK
    have hnn : ¬ d = K.next := by omega
    with_reducible repeat' (first
 | refine AW.seq ?_
 | refine AW.region ?_
 | refine AOs.nil ?_
 | refine AW.exit ?_
 | refine andThen_normal ?_
 | refine andThen_exit ?_
 | refine inBlock_hit ?_
 | refine AW.condF (by simp only [aeval, PT.get_set, reduceIte]; rfl) (by first | rfl | decide | assumption) ?_
 | ((first
 | refine AOs.op1E tOK (by with_unfolding_all rfl) ?_
 ); refine Step.mk (by simp only [evOp_move, evOp_nilCheck, evOp_binOp, evOp_fieldAddr, evOp_load, aeval, PT.get_set, Nat.reduceEqDiff, reduceIte, cellAt, Option.map_some, abin_lss, List.getElem?_cons_zero, List.getElem?_cons_succ, Nat.zero_add, eq_self, ld72, fa75_1, g0, g36, g37, hd, hcK]; rfl) ?_)
 | fail "stop")
    refine AOs.callQ tOK (fs := []) (cs := []) rfl fn54 ok54 rfl (by simp only [List.map_cons, List.map_nil, List.nil_append, List.append_nil, aeval, PT.get_set, Nat.reduceEqDiff, reduceIte] <;> rfl) (clone38 N K hnowK) ?_
    rintro r K6 ⟨rfl, rfl⟩
    have hdK2 : d < K.next := hdK
    with_reducible repeat' (first
 | refine AW.seq ?_
 | refine AW.region ?_
 | refine AOs.nil ?_
 | refine AW.ret ?_
 | refine andThen_normal ?_
 | ((first
 | refine AOs.op1E tOK (by with_unfolding_all rfl) ?_
 | refine AOs.op0E tOK ?_
 ); refine Step.mk (by simp only [evOp_move, evOp_assign, evOp_nilCheck, evOp_fieldAddr, evOp_store, storeAt, one_bool, one_int, one_map, aeval, ofVal, PT.get_set, Nat.reduceEqDiff, reduceIte, Option.map_some, Nat.zero_add, Nat.reduceLT, Nat.reduceAdd, List.length_cons, List.length_nil, List.set_cons_zero, List.set_cons_succ, AH.get_set, eq_self, Int.reduceNeg, st3, st4, st72, fa75_2, fa75_4, fa75_5, g0, hcK, AH.get_alloc, hnn]; rfl) ?_)
 | fail "stop")
    generalize hK7 : (((K.alloc (.map (ents (mapE ψ (st keys.length).2.1)) 0)).set d (.cells false [.int .i64 M1.room, .map K1.next, .map K.next, .nils, .int .i64 M1.fuse, .bool M1.off])).set d (.cells false [.int .i64 M1.room, .map K1.next, .map K.next, .nils, .int .i64 (-1), .bool M1.off])).set d (.cells false [.int .i64 M1.room, .map K1.next, .map K.next, .nils, .int .i64 (-1), .bool false]) = K7
    have hn7 : K7.next = K.next + 1 := by rw [← hK7]; rfl
    have hst7 : ∀ b x, K.get b = some x → b ≠ d → K7.get b = some x := fun b x hb hne => by
      have := hwfK b x hb
      rw [← hK7, AH.get_set, if_neg hne, AH.get_set, if_neg hne, AH.get_set, if_neg hne, AH.get_alloc, if_neg (by omega)]; exact hb
    have hfin := (hK.keep (K := K) (A' := AddR A K0.next K7.next) ⟨fun _ _ h _ => h, Nat.le_refl _⟩ fun b hb => by
      rcases hb with hb | ⟨h, h'⟩
      · exact .inl hb
      · exact .inr ⟨h, by omega⟩).newSf (K := K7) (m := K.next) (v := 0) (E := (st keys.length).2.1) (fuse := -1) (off := false)
        (by rw [← hK7, AH.get_set, if_neg (fun e => hnn e.symm), AH.get_set, if_neg (fun e => hnn e.symm), AH.get_set, if_neg (fun e => hnn e.symm), AH.get_alloc, if_pos rfl]) (by omega) (by show K7.get d = _; rw [← hK7, AH.get_set, if_pos rfl]) hst7 (by omega) (by have := hwfK _ _ hnowK; omega) (.inr ⟨by omega, by omega⟩)
    refine fnPost_ret1 (by first | (simp only [PT.get_set, Nat.reduceEqDiff, reduceIte]; rfl) | simp only [PT.get_set, Nat.reduceEqDiff, reduceIte]) ⟨rfl, ⟨ψ, K1.next, K.next, .nils, w, 0, ?_⟩, fun b x hb hx => ?_, by omega⟩
    · have e : M.crash ch parts = { M1 with files := (st keys.length).1, now := (st keys.length).2.1, sf := (st keys.length).2.1, fuse := -1, off := false } := by
        rw [hstE, hM1]; rfl
      rw [e]
      exact hfin
    · have hb4 := hap4.1 b x hb hx
      have hne : b ≠ K1.next := fun e => by have := hwf b x hb; omega
      have : b ≠ d := by
        rcases hx with hx | hx
        · exact fun e => hx (by rw [e]; exact h1.ad)
        · exact h4.neD hb4 (by omega)
      exact hst7 b x (hkK b x hb4 hne) this
end Go.Proofs.YtgihociajfgohaaGreatDoor
