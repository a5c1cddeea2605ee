/- Log: LogKeeps, the plain law; no condition. -/
import Derived.Test.YtgihociajfgohaaGreatDoorPartsPlain
import Derived.Test.YtgihociajfgohaaGreatDoorKeepsOpen
set_option linter.unusedSimpArgs false
set_option linter.unusedVariables false
open Go Go.AB Go.Proofs
namespace Go.Proofs.YtgihociajfgohaaGreatDoor
set_option maxRecDepth 100000

/-! Frames that are cut. -/
theorem unframe_cut {l : Nm} {c : Nat} (hl : l.length ≤ 4194304) (hc : c < (frameM l).length) : unframeM ((frameM l).take c) = ([], 0, 5) := by
  rw [frameM_len] at hc
  have hlen : ((frameM l).take c).length = c := by rw [List.length_take, frameM_len]; omega
  unfold unframeM
  by_cases h4 : c < 4
  · rw [if_pos (by omega)]
  · have h1 : toldM ((frameM l).take c) = l.length := by
      rw [told_take (by omega)]
      have e0 : frameM l = fourM l.length ++ (fourM (crcM (fourM l.length ++ l)) ++ l) := by simp [frameM]
      rw [e0, toldM_four (by omega)]
    rw [if_neg (by omega), h1, if_neg (by omega), if_pos (by omega)]

theorem scan_cut : ∀ (ls : List Nm) (c f : Nat), (∀ l ∈ ls, l.length ≤ 4194304) → c ≤ (framesM ls).length → c < f →
    ∃ m, m ≤ ls.length ∧ scanM f ((framesM ls).take c) = (ls.take m, (framesM (ls.take m)).length, 0) ∧ (framesM (ls.take m)).length ≤ c ∧ (∀ p, p ≤ ls.length → (framesM (ls.take p)).length ≤ c → p ≤ m) ∧ ((framesM ls).take c).take (framesM (ls.take m)).length = framesM (ls.take m)
  | [], c, f + 1, h, hc, hf => by
    refine ⟨0, Nat.le_refl _, ?_, by simp [framesM], fun p hp _ => hp, by simp [framesM]⟩
    simp [scanM, framesM]
  | l :: ls, c, f + 1, h, hc, hf => by
    have hl := h l List.mem_cons_self
    by_cases hcl : c < (frameM l).length
    · have ht : (framesM (l :: ls)).take c = (frameM l).take c := by rw [framesM_cons, List.take_append_of_le_length (by omega)]
      refine ⟨0, Nat.zero_le _, ?_, by simp [framesM], fun p hp hq => ?_, by simp [framesM]⟩
      · rw [ht, scanM, unframe_cut hl hcl]
        simp [framesM]
      · match p, hp, hq with
        | 0, _, _ => exact Nat.le_refl _
        | p + 1, _, hq =>
          rw [List.take_succ_cons, framesM_cons, List.length_append] at hq
          omega
    · have ht : (framesM (l :: ls)).take c = frameM l ++ (framesM ls).take (c - (frameM l).length) := by
        rw [framesM_cons, List.take_append, List.take_of_length_le (by omega)]
      have hlen : (framesM (l :: ls)).length = (frameM l).length + (framesM ls).length := by rw [framesM_cons, List.length_append]
      have h8 : 8 ≤ (frameM l).length := by rw [frameM_len]; omega
      obtain ⟨m, hm, hs, hle, hmax, htk⟩ := scan_cut ls (c - (frameM l).length) f (fun x hx => h x (List.mem_cons_of_mem _ hx)) (by omega) (by omega)
      have hu := unframe_frame (r := (framesM ls).take (c - (frameM l).length)) hl
      have hm1 : (framesM ((l :: ls).take (m + 1))).length = (frameM l).length + (framesM (ls.take m)).length := by rw [List.take_succ_cons, framesM_cons, List.length_append]
      refine ⟨m + 1, by simpa using hm, ?_, by omega, fun p hp hq => ?_, ?_⟩
      · have hne : ¬ (frameM l ++ (framesM ls).take (c - (frameM l).length)) = [] := fun e => by
          have := congrArg List.length e
          rw [List.length_append] at this
          simp only [List.length_nil] at this; omega
        have hd : (frameM l ++ (framesM ls).take (c - (frameM l).length)).drop (l.length + 8) = (framesM ls).take (c - (frameM l).length) := by rw [← frameM_len]; simp
        rw [ht, scanM, if_neg hne, hu]
        simp only [hd, hs]
        rw [hm1, frameM_len, List.take_succ_cons]
        simp
      · match p, hp, hq with
        | 0, _, _ => omega
        | p + 1, hp, hq =>
          rw [List.take_succ_cons, framesM_cons, List.length_append] at hq
          have := hmax p (by simpa using hp) (by omega)
          omega
      · rw [hm1, ht, List.take_succ_cons, framesM_cons, List.take_append, List.take_of_length_le (by omega), Nat.add_sub_cancel_left, htk]
  | _, _, 0, _, _, hf => by omega

/-! Appends till the power is off. -/
/-- One file; the fuse; the power. -/
def Q (X : Nm) (s : Nat) (f : Int) (off : Bool) : DM := ⟨1048576, [(nf1, 0)], [(nf1, 0)], [], [(X, s)], f, off⟩
theorem Q_sync (X : Nm) : (P1 X).sync (fileN 1) = (0, Q X X.length (-1) false) := rfl
theorem Q_fuse (X : Nm) (s : Nat) (f n : Int) (off : Bool) : (Q X s f off).setFuse n = Q X s (max (-1) n) off := rfl
theorem Q_used (X : Nm) (s : Nat) (f : Int) (off : Bool) : (Q X s f off).used = X.length := by
  show lenSum _ [nf1] = _
  simp only [lenSum, List.map_cons, List.map_nil, List.sum_cons, List.sum_nil]
  rfl
def fdown (f : Int) : Int := if 0 < f then f - 1 else f
theorem opM_ok {f : Int} (hf : f ≠ 0) : opM true f false = (0, fdown f, false) := by
  unfold opM fdown
  by_cases h : 0 < f <;> simp [hf, h]
theorem err_good {M : DM} (h : M.off = false) (hf : M.fuse ≠ 0) : M.err true = 0 := by unfold DM.err; rw [h, opM_ok hf]
theorem op_good {M : DM} (h : M.off = false) (hf : M.fuse ≠ 0) : M.op true = { M with fuse := fdown M.fuse, off := false } := by unfold DM.op; rw [h, opM_ok hf]
theorem Q_append {X b : Nm} {s : Nat} {f : Int} (h : X.length + b.length ≤ 1048576) : (Q X s f false).append (fileN 1) b = if f = 0 then (12, Q X s (-1) true) else (0, Q (X ++ b) s (fdown f) false) := by
  have hu := Q_used X s f false
  by_cases hf : f = 0
  · subst hf; rfl
  · have h1 : (Q X s f false).err (nameOK (fileN 1)) = 0 := err_good (M := Q X s f false) rfl hf
    have h2 : getN (Q X s f false).now (fileN 1) = some 0 := rfl
    have h3 : ¬ ((Q X s f false).room - ((Q X s f false).used : Nat) < (b.length : Int)) := by rw [hu]; show ¬ ((1048576 : Int) - _ < _); omega
    have h4 : (Q X s f false).op (nameOK (fileN 1)) = { Q X s f false with fuse := fdown f, off := false } := op_good (M := Q X s f false) rfl hf
    simp only [DM.append, h1, h2, ne_eq, not_true_eq_false, if_false, if_neg h3, if_neg hf, h4]
    rfl

theorem Q_MB {X : Nm} {s : Nat} {f : Int} {off : Bool} (hs : s ≤ X.length) (hX : X.length ≤ 20000) (h1 : -1 ≤ f) (h2 : f < 9223372036854775808) : MB (Q X s f off) 1 where
  ok := ⟨fun p hp => by simp [Q] at hp ⊢; simp [hp], fun p hp => by simp [Q] at hp ⊢; simp [hp], fun n i hi => by simp [Q] at hi, h1, h2, fun i p hi => by
    have := List.mem_of_getElem? hi
    simp [Q] at this
    subst this; exact hs⟩
  room := rfl
  keys := fun p hp => by simp [Q] at hp; rw [hp]; decide
  ents := Nat.le_refl _
  notes := by simp [Q]
  files := fun j p hp => by
    have := List.mem_of_getElem? hp
    simp [Q] at this
    subst this; simpa using hX
theorem fdown_ge {f : Int} (h : -1 ≤ f) : -1 ≤ fdown f := by unfold fdown; split <;> omega
theorem fdown_le {f : Int} : fdown f ≤ f := by unfold fdown; split <;> omega

/-! What Next leaves. -/
/-- A disk behind Next: what may be told of it. -/
inductive After (X : Nm) (s : Nat) (C : Nm) : Bool → DM → Prop where
  | a0 (f : Int) (off : Bool) : After X s C false (Q X s f off)
  | a1 (now : Ents) (T : Nm) (t : Nat) (f : Int) (off : Bool) (h1 : t ≤ T.length) (h2 : T.length ≤ 20000) : After X s C false ⟨1048576, now, [(nf1, 0)], [.make tmpL 1], [(X, s), (T, t)], f, off⟩
  | a2 (now : Ents) (f : Int) (off : Bool) : After X s C false ⟨1048576, now, [(nf1, 0)], [.make tmpL 1, .ren tmpL nf2], [(X, s), (C, C.length)], f, off⟩
  | a3 (now : Ents) (f : Int) (off : Bool) : After X s C false ⟨1048576, now, [(nf1, 0), (nf2, 1)], [], [(X, s), (C, C.length)], f, off⟩
  | a4 (now : Ents) (f : Int) (off : Bool) : After X s C true ⟨1048576, now, [(nf1, 0), (nf2, 1)], [.rem nf1], [(X, s), (C, C.length)], f, off⟩

/-- What Next does to the disk. -/
def nextM (M : DM) (C : Nm) : Int × DM := if (M.write (fileN 2) C).1 = 0 then (M.write (fileN 2) C).2.remove (fileN 1) else M.write (fileN 2) C

/-- Two files. -/
def Q2 (now : Ents) (sf : Ents) (l : List Note) (X : Nm) (s : Nat) (T : Nm) (t : Nat) (f : Int) : DM := ⟨1048576, now, sf, l, [(X, s), (T, t)], f, false⟩
def nowT : Ents := [(nf1, 0), (tmpL, 1)]
def now2 : Ents := [(nf1, 0), (nf2, 1)]
def nMk : List Note := [.make tmpL 1]
def nRn : List Note := [.make tmpL 1, .ren tmpL nf2]

theorem s0 (X C : Nm) (s : Nat) (f : Int) : wstep (Q X s f false) (fileN 2) C 0 = (0, Q X s f false) := rfl
theorem s1 {X C : Nm} {s : Nat} {f : Int} (hf : f ≠ 0) : wstep (Q X s f false) (fileN 2) C 1 = (0, Q2 nowT [(nf1, 0)] nMk X s [] 0 (fdown f)) := by
  have h1 : (Q X s f false).err (nameOK tmpL) = 0 := err_good (M := Q X s f false) rfl hf
  have h2 : getN (Q X s f false).now tmpL = none := rfl
  have h4 : (Q X s f false).op (nameOK tmpL) = { Q X s f false with fuse := fdown f, off := false } := op_good (M := Q X s f false) rfl hf
  simp only [wstep, DM.make, h1, h2, h4, ne_eq, not_true_eq_false, if_false]
  rfl
theorem Q2_used (X C : Nm) (s : Nat) (f : Int) : (Q2 nowT [(nf1, 0)] nMk X s [] 0 f).used = X.length := by
  show lenSum _ [nf1, tmpL] = _
  simp only [lenSum, List.map_cons, List.map_nil, List.sum_cons, List.sum_nil]
  rfl
theorem s2 {X C : Nm} {s : Nat} {f : Int} (hf : f ≠ 0) (h : X.length + C.length ≤ 1048576) : wstep (Q2 nowT [(nf1, 0)] nMk X s [] 0 f) (fileN 2) C 2 = (0, Q2 nowT [(nf1, 0)] nMk X s C 0 (fdown f)) := by
  have hu := Q2_used X C s f
  generalize hM : Q2 nowT [(nf1, 0)] nMk X s [] 0 f = M at *
  have h1 : M.err (nameOK tmpL) = 0 := by rw [← hM]; exact err_good (M := Q2 nowT [(nf1, 0)] nMk X s [] 0 f) rfl hf
  have h2 : getN M.now tmpL = some 1 := by rw [← hM]; rfl
  have h3 : ¬ (M.room - (M.used : Nat) < (C.length : Int)) := by rw [hu, ← hM]; show ¬ ((1048576 : Int) - _ < _); omega
  have h4 : M.op (nameOK tmpL) = { M with fuse := fdown f, off := false } := by rw [← hM]; exact op_good (M := Q2 nowT [(nf1, 0)] nMk X s [] 0 f) rfl hf
  simp only [wstep, DM.append, h1, h2, ne_eq, not_true_eq_false, if_false, if_neg h3, h4]
  rw [← hM]; rfl
theorem s3 {X C : Nm} {s : Nat} {f : Int} (hf : f ≠ 0) : wstep (Q2 nowT [(nf1, 0)] nMk X s C 0 f) (fileN 2) C 3 = (0, Q2 nowT [(nf1, 0)] nMk X s C C.length (fdown f)) := by
  generalize hM : Q2 nowT [(nf1, 0)] nMk X s C 0 f = M at *
  have h1 : M.err (nameOK tmpL) = 0 := by rw [← hM]; exact err_good (M := Q2 nowT [(nf1, 0)] nMk X s C 0 f) rfl hf
  have h2 : getN M.now tmpL = some 1 := by rw [← hM]; rfl
  have h4 : M.op (nameOK tmpL) = { M with fuse := fdown f, off := false } := by rw [← hM]; exact op_good (M := Q2 nowT [(nf1, 0)] nMk X s C 0 f) rfl hf
  simp only [wstep, DM.sync, h1, h2, ne_eq, not_true_eq_false, if_false, h4]
  rw [← hM]; rfl
theorem s4 {X C : Nm} {s : Nat} {f : Int} (hf : f ≠ 0) : wstep (Q2 nowT [(nf1, 0)] nMk X s C C.length f) (fileN 2) C 4 = (0, Q2 now2 [(nf1, 0)] nRn X s C C.length (fdown f)) := by
  generalize hM : Q2 nowT [(nf1, 0)] nMk X s C C.length f = M at *
  have h1 : M.err (nameOK tmpL && nameOK (fileN 2)) = 0 := by rw [← hM]; exact err_good (M := Q2 nowT [(nf1, 0)] nMk X s C C.length f) rfl hf
  have h2 : (getN M.now tmpL).isNone = false := by rw [← hM]; rfl
  have h3 : ¬ tmpL = fileN 2 := by decide
  have h4 : M.op (nameOK tmpL && nameOK (fileN 2)) = { M with fuse := fdown f, off := false } := by rw [← hM]; exact op_good (M := Q2 nowT [(nf1, 0)] nMk X s C C.length f) rfl hf
  simp only [wstep, DM.rename, h1, h2, h3, ne_eq, not_true_eq_false, if_false, h4, Bool.false_eq_true]
  rw [← hM]; rfl
theorem s5 {X C : Nm} {s : Nat} {f : Int} (hf : f ≠ 0) : wstep (Q2 now2 [(nf1, 0)] nRn X s C C.length f) (fileN 2) C 5 = (0, Q2 now2 now2 [] X s C C.length (fdown f)) := by
  generalize hM : Q2 now2 [(nf1, 0)] nRn X s C C.length f = M at *
  have h1 : M.err true = 0 := by rw [← hM]; exact err_good (M := Q2 now2 [(nf1, 0)] nRn X s C C.length f) rfl hf
  have h4 : M.op true = { M with fuse := fdown f, off := false } := by rw [← hM]; exact op_good (M := Q2 now2 [(nf1, 0)] nRn X s C C.length f) rfl hf
  simp only [wstep, DM.syncNames, h1, ne_eq, not_true_eq_false, if_false, h4]
  rw [← hM]; rfl
theorem s6 {X C : Nm} {s : Nat} {f : Int} (hf : f ≠ 0) : (Q2 now2 now2 [] X s C C.length f).remove (fileN 1) = (0, ⟨1048576, [(nf2, 1)], now2, [.rem nf1], [(X, s), (C, C.length)], fdown f, false⟩) := by
  generalize hM : Q2 now2 now2 [] X s C C.length f = M at *
  have h1 : M.err (nameOK (fileN 1)) = 0 := by rw [← hM]; exact err_good (M := Q2 now2 now2 [] X s C C.length f) rfl hf
  have h2 : (getN M.now (fileN 1)).isNone = false := by rw [← hM]; rfl
  have h4 : M.op (nameOK (fileN 1)) = { M with fuse := fdown f, off := false } := by rw [← hM]; exact op_good (M := Q2 now2 now2 [] X s C C.length f) rfl hf
  simp only [DM.remove, h1, h2, ne_eq, not_true_eq_false, if_false, h4, Bool.false_eq_true]
  rw [← hM]; rfl

theorem next_after {X C : Nm} {s : Nat} {f : Int} (h : X.length + C.length ≤ 1048576) (hC : C.length ≤ 20000) : After X s C (decide ((nextM (Q X s f false) C).1 = 0)) (nextM (Q X s f false) C).2 := by
  have key : ∀ R : Int × DM, (Q X s f false).write (fileN 2) C = R → R.1 ≠ 0 → After X s C false R.2 → After X s C (decide ((nextM (Q X s f false) C).1 = 0)) (nextM (Q X s f false) C).2 := fun R hR h1 h2 => by
    unfold nextM
    rw [hR, if_neg h1, decide_eq_false h1]; exact h2
  have w0 : ∀ R, writeFrom (fileN 2) C 5 (Q X s f false) = R → (Q X s f false).write (fileN 2) C = R := fun R hR => by
    unfold DM.write
    rw [writeFrom_ok (k := 5) (by rw [show 5 - 5 = 0 from rfl, s0]), show 5 - 5 = 0 from rfl, s0]; exact hR
  by_cases f1 : f = 0
  · subst f1
    exact key (12, Q X s (-1) true) (w0 _ rfl) (show (12 : Int) ≠ 0 by decide) (.a0 _ _)
  have w1 : ∀ R, writeFrom (fileN 2) C 4 (Q2 nowT [(nf1, 0)] nMk X s [] 0 (fdown f)) = R → (Q X s f false).write (fileN 2) C = R := fun R hR => w0 R (by
    rw [writeFrom_ok (k := 4) (by rw [show 5 - 4 = 1 from rfl, s1 f1]), show 5 - 4 = 1 from rfl, s1 f1]; exact hR)
  generalize fdown f = f at w1
  by_cases f2 : f = 0
  · subst f2
    exact key _ (w1 _ rfl) (show (12 : Int) ≠ 0 by decide) (.a1 nowT [] 0 (-1) true (Nat.zero_le _) (by simp))
  have w2 : ∀ R, writeFrom (fileN 2) C 3 (Q2 nowT [(nf1, 0)] nMk X s C 0 (fdown f)) = R → (Q X s _ false).write (fileN 2) C = R := fun R hR => w1 R (by
    rw [writeFrom_ok (k := 3) (by rw [show 5 - 3 = 2 from rfl, s2 f2 h]), show 5 - 3 = 2 from rfl, s2 f2 h]; exact hR)
  generalize fdown f = f at w2
  by_cases f3 : f = 0
  · subst f3
    exact key _ (w2 _ rfl) (show (12 : Int) ≠ 0 by decide) (.a1 nowT C 0 (-1) true (Nat.zero_le _) hC)
  have w3 : ∀ R, writeFrom (fileN 2) C 2 (Q2 nowT [(nf1, 0)] nMk X s C C.length (fdown f)) = R → (Q X s _ false).write (fileN 2) C = R := fun R hR => w2 R (by
    rw [writeFrom_ok (k := 2) (by rw [show 5 - 2 = 3 from rfl, s3 f3]), show 5 - 2 = 3 from rfl, s3 f3]; exact hR)
  generalize fdown f = f at w3
  by_cases f4 : f = 0
  · subst f4
    exact key _ (w3 _ rfl) (show (12 : Int) ≠ 0 by decide) (.a1 nowT C C.length (-1) true (Nat.le_refl _) hC)
  have w4 : ∀ R, writeFrom (fileN 2) C 1 (Q2 now2 [(nf1, 0)] nRn X s C C.length (fdown f)) = R → (Q X s _ false).write (fileN 2) C = R := fun R hR => w3 R (by
    rw [writeFrom_ok (k := 1) (by rw [show 5 - 1 = 4 from rfl, s4 f4]), show 5 - 1 = 4 from rfl, s4 f4]; exact hR)
  generalize fdown f = f at w4
  by_cases f5 : f = 0
  · subst f5
    exact key _ (w4 _ rfl) (show (12 : Int) ≠ 0 by decide) (.a2 now2 (-1) true)
  have w5 := w4 (0, Q2 now2 now2 [] X s C C.length (fdown f)) (by
    rw [writeFrom_ok (k := 0) (by rw [show 5 - 0 = 5 from rfl, s5 f5]), show 5 - 0 = 5 from rfl, s5 f5]; rfl)
  generalize fdown f = f at w5
  unfold nextM
  rw [w5, if_pos rfl]
  by_cases f6 : f = 0
  · subst f6
    exact .a3 now2 (-1) true
  · rw [s6 f6]
    exact .a4 _ _ _
end Go.Proofs.YtgihociajfgohaaGreatDoor

open Go Go.AB Go.Proofs
namespace Go.Proofs.YtgihociajfgohaaGreatDoor
set_option maxRecDepth 100000

/-- A disk whose names are all safe. -/
def Z (E : Ents) (fs : List (Nm × Nat)) : DM := ⟨1048576, E, E, [], fs, -1, false⟩

/-- A disk behind a crash. -/
inductive Back (X : Nm) (s : Nat) (C : Nm) (nx : Bool) : DM → Prop where
  | b1 (hx : nx = false) (i c : Nat) (fs : List (Nm × Nat)) (hi : fs[i]? = some (X.take c, c)) (h1 : s ≤ c) (h2 : c ≤ X.length) (hfs : ∀ p ∈ fs, p.2 ≤ p.1.length ∧ p.1.length ≤ 20000) : Back X s C nx (Z [(nf1, i)] fs)
  | b2 (hx : nx = false) (i j c : Nat) (fs : List (Nm × Nat)) (hi : fs[i]? = some (X.take c, c)) (hj : j < fs.length) (h1 : s ≤ c) (h2 : c ≤ X.length) (hfs : ∀ p ∈ fs, p.2 ≤ p.1.length ∧ p.1.length ≤ 20000) : Back X s C nx (Z [(nf1, i), (tmpL, j)] fs)
  | b3 (i j : Nat) (fs : List (Nm × Nat)) (hi : i < fs.length) (hj : fs[j]? = some (C, C.length)) (hfs : ∀ p ∈ fs, p.2 ≤ p.1.length ∧ p.1.length ≤ 20000) : Back X s C nx (Z [(nf1, i), (nf2, j)] fs)
  | b4 (j : Nat) (fs : List (Nm × Nat)) (hj : fs[j]? = some (C, C.length)) (hfs : ∀ p ∈ fs, p.2 ≤ p.1.length ∧ p.1.length ≤ 20000) : Back X s C nx (Z [(nf2, j)] fs)

theorem fit_cut {X : Nm} {c : Nat} (h : c ≤ X.length) (hX : X.length ≤ 20000) : (X.take c, c).2 ≤ (X.take c, c).1.length ∧ (X.take c, c).1.length ≤ 20000 := by
  simp only [List.length_take]; omega
theorem cut_whole (C : Nm) (x : Int) : crashCut (C, C.length) x = C.length := by
  unfold crashCut
  simp only [Nat.sub_self, Nat.zero_add, Nat.mod_one, Nat.add_zero]

theorem crash_eq {M : DM} {ch : Int} {parts : List Int} {k : Nat} (hk : (max 0 ch).toNat % (M.notes.length + 1) = k) :
    M.crash ch parts = { M with notes := [], sf := ((isortK ((M.keep k).sf.map (·.1))).foldl (crashStep (M.keep k).sf) (M.files, [], parts)).2.1, now := ((isortK ((M.keep k).sf.map (·.1))).foldl (crashStep (M.keep k).sf) (M.files, [], parts)).2.1, files := ((isortK ((M.keep k).sf.map (·.1))).foldl (crashStep (M.keep k).sf) (M.files, [], parts)).1, fuse := -1, off := false } := by
  subst hk; rfl

theorem crash_back {X C : Nm} {s : Nat} {nx : Bool} {M : DM} (h : After X s C nx M) (hs : s ≤ X.length) (hX : X.length ≤ 20000) (hC : C.length ≤ 20000) (ch : Int) (parts : List Int) : Back X s C nx (M.crash ch parts) := by
  have hcut := fun x => crashCut_le (f := (X, s)) hs x
  have hfx := fun x => fit_cut (hcut x).2 hX
  have hXs : s ≤ X.length ∧ X.length ≤ 20000 := ⟨hs, hX⟩
  have hCs : C.length ≤ C.length ∧ C.length ≤ 20000 := ⟨Nat.le_refl _, hC⟩
  cases h with
  | a0 f off =>
    rw [crash_eq (k := 0) (Nat.mod_one _)]
    refine .b1 rfl 1 (crashCut (X, s) (parts.headD 0)) [(X, s), (X.take (crashCut (X, s) (parts.headD 0)), crashCut (X, s) (parts.headD 0))] rfl (hcut _).1 (hcut _).2 fun p hp => ?_
    simp only [List.mem_cons, List.not_mem_nil, or_false] at hp
    rcases hp with rfl | rfl
    · exact hXs
    · exact hfx _
  | a1 now T t f off h1 h2 =>
    have hTs : t ≤ T.length ∧ T.length ≤ 20000 := ⟨h1, h2⟩
    have hk : (max 0 ch).toNat % 2 = 0 ∨ (max 0 ch).toNat % 2 = 1 := by omega
    rcases hk with hk | hk
    · rw [crash_eq (k := 0) hk]
      refine .b1 rfl 2 (crashCut (X, s) (parts.headD 0)) [(X, s), (T, t), (X.take (crashCut (X, s) (parts.headD 0)), crashCut (X, s) (parts.headD 0))] rfl (hcut _).1 (hcut _).2 fun p hp => ?_
      simp only [List.mem_cons, List.not_mem_nil, or_false] at hp
      rcases hp with rfl | rfl | rfl
      · exact hXs
      · exact hTs
      · exact hfx _
    · rw [crash_eq (k := 1) hk]
      refine .b2 rfl 2 3 (crashCut (X, s) (parts.headD 0)) [(X, s), (T, t), (X.take (crashCut (X, s) (parts.headD 0)), crashCut (X, s) (parts.headD 0)), (T.take (crashCut (T, t) (parts.tail.headD 0)), crashCut (T, t) (parts.tail.headD 0))] rfl (by simp) (hcut _).1 (hcut _).2 fun p hp => ?_
      simp only [List.mem_cons, List.not_mem_nil, or_false] at hp
      rcases hp with rfl | rfl | rfl | rfl
      · exact hXs
      · exact hTs
      · exact hfx _
      · exact fit_cut (crashCut_le (f := (T, t)) h1 _).2 h2
  | a2 now f off =>
    have hk : (max 0 ch).toNat % 3 = 0 ∨ (max 0 ch).toNat % 3 = 1 ∨ (max 0 ch).toNat % 3 = 2 := by omega
    rcases hk with hk | hk | hk
    · rw [crash_eq (k := 0) hk]
      refine .b1 rfl 2 (crashCut (X, s) (parts.headD 0)) [(X, s), (C, C.length), (X.take (crashCut (X, s) (parts.headD 0)), crashCut (X, s) (parts.headD 0))] rfl (hcut _).1 (hcut _).2 fun p hp => ?_
      simp only [List.mem_cons, List.not_mem_nil, or_false] at hp
      rcases hp with rfl | rfl | rfl
      · exact hXs
      · exact hCs
      · exact hfx _
    · rw [crash_eq (k := 1) hk]
      refine .b2 rfl 2 3 (crashCut (X, s) (parts.headD 0)) [(X, s), (C, C.length), (X.take (crashCut (X, s) (parts.headD 0)), crashCut (X, s) (parts.headD 0)), (C.take (crashCut (C, C.length) (parts.tail.headD 0)), crashCut (C, C.length) (parts.tail.headD 0))] rfl (by simp) (hcut _).1 (hcut _).2 fun p hp => ?_
      simp only [List.mem_cons, List.not_mem_nil, or_false] at hp
      rcases hp with rfl | rfl | rfl | rfl
      · exact hXs
      · exact hCs
      · exact hfx _
      · exact fit_cut (crashCut_le (f := (C, C.length)) (Nat.le_refl _) _).2 hC
    · rw [crash_eq (k := 2) hk]
      refine .b3 2 3 [(X, s), (C, C.length), (X.take (crashCut (X, s) (parts.headD 0)), crashCut (X, s) (parts.headD 0)), (C.take (crashCut (C, C.length) (parts.tail.headD 0)), crashCut (C, C.length) (parts.tail.headD 0))] (by simp) ?_ fun p hp => ?_
      · rw [cut_whole, List.take_length]; rfl
      simp only [List.mem_cons, List.not_mem_nil, or_false] at hp
      rcases hp with rfl | rfl | rfl | rfl
      · exact hXs
      · exact hCs
      · exact hfx _
      · exact fit_cut (crashCut_le (f := (C, C.length)) (Nat.le_refl _) _).2 hC
  | a3 now f off =>
    rw [crash_eq (k := 0) (Nat.mod_one _)]
    refine .b3 2 3 [(X, s), (C, C.length), (X.take (crashCut (X, s) (parts.headD 0)), crashCut (X, s) (parts.headD 0)), (C.take (crashCut (C, C.length) (parts.tail.headD 0)), crashCut (C, C.length) (parts.tail.headD 0))] (by simp) ?_ fun p hp => ?_
    · rw [cut_whole, List.take_length]; rfl
    simp only [List.mem_cons, List.not_mem_nil, or_false] at hp
    rcases hp with rfl | rfl | rfl | rfl
    · exact hXs
    · exact hCs
    · exact hfx _
    · exact fit_cut (crashCut_le (f := (C, C.length)) (Nat.le_refl _) _).2 hC
  | a4 now f off =>
    have hk : (max 0 ch).toNat % 2 = 0 ∨ (max 0 ch).toNat % 2 = 1 := by omega
    rcases hk with hk | hk
    · rw [crash_eq (k := 0) hk]
      refine .b3 2 3 [(X, s), (C, C.length), (X.take (crashCut (X, s) (parts.headD 0)), crashCut (X, s) (parts.headD 0)), (C.take (crashCut (C, C.length) (parts.tail.headD 0)), crashCut (C, C.length) (parts.tail.headD 0))] (by simp) ?_ fun p hp => ?_
      · rw [cut_whole, List.take_length]; rfl
      simp only [List.mem_cons, List.not_mem_nil, or_false] at hp
      rcases hp with rfl | rfl | rfl | rfl
      · exact hXs
      · exact hCs
      · exact hfx _
      · exact fit_cut (crashCut_le (f := (C, C.length)) (Nat.le_refl _) _).2 hC
    · rw [crash_eq (k := 1) hk]
      refine .b4 2 [(X, s), (C, C.length), (C.take (crashCut (C, C.length) (parts.headD 0)), crashCut (C, C.length) (parts.headD 0))] ?_ fun p hp => ?_
      · rw [cut_whole, List.take_length]; rfl
      simp only [List.mem_cons, List.not_mem_nil, or_false] at hp
      rcases hp with rfl | rfl | rfl
      · exact hXs
      · exact hCs
      · exact fit_cut (crashCut_le (f := (C, C.length)) (Nat.le_refl _) _).2 hC

/-! What is opened. -/
/-- What must be known to open a disk, and what it is then. -/
inductive OpenM (M : DM) (recs : List Nm) : DM → Prop where
  | whole (g : Nat) (b : Nm) (M' : DM) (mb : MB M 4) (nm : ∀ s ∈ M.names, LName s) (hg : maxG M.names = g) (hG : Gen g) (he : M.readE (fileN g) = 0) (hb : M.readB (fileN g) = b) (no : nameOK (fileN g) = true) (hl : b.length ≤ 20000)
      (hs : scanM (b.length + 1) b = (recs, b.length, 0)) (hr : recs.length ≤ 1000000) (hc : (M.op true).clean g = (0, M')) : OpenM M recs M'
  | cut (g w : Nat) (b : Nm) (M1 M' : DM) (mb : MB M 4) (nm : ∀ s ∈ M.names, LName s) (hg : maxG M.names = g) (hG : Gen g) (hG1 : Gen (g + 1)) (he : M.readE (fileN g) = 0) (hb : M.readB (fileN g) = b) (no : nameOK (fileN g) = true) (hl : b.length ≤ 20000)
      (hs : scanM (b.length + 1) b = (recs, w, 0)) (hw : w < b.length) (hr : recs.length ≤ 1000000) (hwr : (M.op true).write (fileN (g + 1)) (b.take w) = (0, M1)) (nm1 : ∀ s ∈ M1.names, LName s) (hc : M1.clean (g + 1) = (0, M')) : OpenM M recs M'

theorem Z_MB {E : Ents} {fs : List (Nm × Nat)} (hE : ∀ p ∈ E, p.2 < fs.length) (hk : ∀ p ∈ E, p.1.length ≤ 24) (hl : E.length ≤ 4) (hfs : ∀ p ∈ fs, p.2 ≤ p.1.length ∧ p.1.length ≤ 20000) : MB (Z E fs) 4 where
  ok := ⟨hE, hE, fun n i hi => by simp [Z] at hi, by simp [Z], by simp [Z], fun i p hi => (hfs p (List.mem_of_getElem? hi)).1⟩
  room := rfl
  keys := hk
  ents := hl
  notes := by simp [Z]
  files := fun j p hp => by have := (hfs p (List.mem_of_getElem? hp)).2; omega

theorem fget {fs : List (Nm × Nat)} {i : Nat} {p : Nm × Nat} (h : fs[i]? = some p) : i < fs.length := (List.getElem?_eq_some_iff.1 h).1
theorem nf1_len : nf1.length ≤ 24 := by decide
theorem nf2_len : nf2.length ≤ 24 := by decide
theorem tmpL_len : tmpL.length ≤ 24 := by decide
theorem lnameT : LName tmpL := .inl rfl

/-- The only file of a log, whole. -/
theorem open_one1 {i c : Nat} {fs : List (Nm × Nat)} {ls : List Nm} (hi : fs[i]? = some (framesM ls, c)) (hfs : ∀ p ∈ fs, p.2 ≤ p.1.length ∧ p.1.length ≤ 20000) (hl : ∀ l ∈ ls, l.length ≤ 300) (hn : ls.length ≤ 1000000) : OpenM (Z [(nf1, i)] fs) ls (Z [(nf1, i)] fs) := by
  have hb : (Z [(nf1, i)] fs).readB (fileN 1) = framesM ls := by
    show ((fs[i]?).getD ([], 0)).1 = _
    rw [hi]; rfl
  refine .whole 1 (framesM ls) _ (Z_MB ?_ ?_ (by simp) hfs) (fun s hs => ?_) rfl (.inl rfl) rfl hb rfl (hfs _ (List.mem_of_getElem? hi)).2 (scan_all hl) hn rfl
  · intro p hp; simp at hp; subst hp; exact fget hi
  · intro p hp; simp at hp; subst hp; exact nf1_len
  · have e : (Z [(nf1, i)] fs).names = [nf1] := rfl
    rw [e] at hs; simp at hs; subst hs; exact lname1
theorem open_one2 {i c : Nat} {fs : List (Nm × Nat)} {ls : List Nm} (hi : fs[i]? = some (framesM ls, c)) (hfs : ∀ p ∈ fs, p.2 ≤ p.1.length ∧ p.1.length ≤ 20000) (hl : ∀ l ∈ ls, l.length ≤ 300) (hn : ls.length ≤ 1000000) : OpenM (Z [(nf2, i)] fs) ls (Z [(nf2, i)] fs) := by
  have hb : (Z [(nf2, i)] fs).readB (fileN 2) = framesM ls := by
    show ((fs[i]?).getD ([], 0)).1 = _
    rw [hi]; rfl
  refine .whole 2 (framesM ls) _ (Z_MB ?_ ?_ (by simp) hfs) (fun s hs => ?_) rfl (.inr (.inl rfl)) rfl hb rfl (hfs _ (List.mem_of_getElem? hi)).2 (scan_all hl) hn rfl
  · intro p hp; simp at hp; subst hp; exact fget hi
  · intro p hp; simp at hp; subst hp; exact nf2_len
  · have e : (Z [(nf2, i)] fs).names = [nf2] := rfl
    rw [e] at hs; simp at hs; subst hs; exact lname2
/-- Both generations. -/
theorem open_two {i j c : Nat} {fs : List (Nm × Nat)} {ls : List Nm} (hi : i < fs.length) (hj : fs[j]? = some (framesM ls, c)) (hfs : ∀ p ∈ fs, p.2 ≤ p.1.length ∧ p.1.length ≤ 20000) (hl : ∀ l ∈ ls, l.length ≤ 300) (hn : ls.length ≤ 1000000) : OpenM (Z [(nf1, i), (nf2, j)] fs) ls (Z [(nf2, j)] fs) := by
  have hb : (Z [(nf1, i), (nf2, j)] fs).readB (fileN 2) = framesM ls := by
    show ((fs[j]?).getD ([], 0)).1 = _
    rw [hj]; rfl
  refine .whole 2 (framesM ls) _ (Z_MB ?_ ?_ (by simp) hfs) (fun s hs => ?_) rfl (.inr (.inl rfl)) rfl hb rfl (hfs _ (List.mem_of_getElem? hj)).2 (scan_all hl) hn rfl
  · intro p hp; simp at hp; rcases hp with rfl | rfl
    · exact hi
    · exact fget hj
  · intro p hp; simp at hp; rcases hp with rfl | rfl
    · exact nf1_len
    · exact nf2_len
  · have e : (Z [(nf1, i), (nf2, j)] fs).names = [nf1, nf2] := rfl
    rw [e] at hs; simp at hs; rcases hs with rfl | rfl
    · exact lname1
    · exact lname2
theorem tmp_clean (i j : Nat) (fs : List (Nm × Nat)) : ((Z [(nf1, i), (tmpL, j)] fs).op true).clean 1 = (0, Z [(nf1, i)] fs) := by
  have h1 : ¬ ((Z [(nf1, i), (tmpL, j)] fs).op true).size tmpL < 0 := by rw [size_neg]; exact fun e => by cases (show some j = none from e)
  have h2 : ((Z [(nf1, i), (tmpL, j)] fs).op true).gone 1 = [tmpL] := by
    unfold DM.gone
    rw [if_neg h1]; rfl
  unfold DM.clean
  rw [h2]; rfl
theorem open_tmp {i j c : Nat} {fs : List (Nm × Nat)} {ls : List Nm} (hi : fs[i]? = some (framesM ls, c)) (hj : j < fs.length) (hfs : ∀ p ∈ fs, p.2 ≤ p.1.length ∧ p.1.length ≤ 20000) (hl : ∀ l ∈ ls, l.length ≤ 300) (hn : ls.length ≤ 1000000) : OpenM (Z [(nf1, i), (tmpL, j)] fs) ls (Z [(nf1, i)] fs) := by
  have hb : (Z [(nf1, i), (tmpL, j)] fs).readB (fileN 1) = framesM ls := by
    show ((fs[i]?).getD ([], 0)).1 = _
    rw [hi]; rfl
  refine .whole 1 (framesM ls) _ (Z_MB ?_ ?_ (by simp) hfs) (fun s hs => ?_) rfl (.inl rfl) rfl hb rfl (hfs _ (List.mem_of_getElem? hi)).2 (scan_all hl) hn (tmp_clean i j fs)
  · intro p hp; simp at hp; rcases hp with rfl | rfl
    · exact fget hi
    · exact hj
  · intro p hp; simp at hp; rcases hp with rfl | rfl
    · exact nf1_len
    · exact tmpL_len
  · have e : (Z [(nf1, i), (tmpL, j)] fs).names = [nf1, tmpL] := rfl
    rw [e] at hs; simp at hs; rcases hs with rfl | rfl
    · exact lname1
    · exact lnameT

/-! A generation is written anew. -/
theorem fs_last {fs : List (Nm × Nat)} {p : Nm × Nat} : (fs ++ [p])[fs.length]? = some p := by simp
theorem fs_set {fs : List (Nm × Nat)} {p q : Nm × Nat} : (fs ++ [p]).set fs.length q = fs ++ [q] := by simp
def Y (i n : Nat) (sf : Ents) (l : List Note) (fs : List (Nm × Nat)) : DM := ⟨1048576, [(nf1, i), (tmpL, n)], sf, l, fs, -1, false⟩
theorem Y_steps {i : Nat} {sf : Ents} {l : List Note} {fs : List (Nm × Nat)} {X C : Nm} {s : Nat} (hi : fs[i]? = some (X, s)) (h : X.length + C.length ≤ 1048576) {sf' : Ents} (hsf : doAll (l ++ [.ren tmpL nf2]) sf = sf') :
    writeFrom (fileN 2) C 4 (Y i fs.length sf l (fs ++ [([], 0)])) = (0, ⟨1048576, [(nf1, i), (nf2, fs.length)], sf', [], fs ++ [(C, C.length)], -1, false⟩) := by
  have hil := fget hi
  have hi1 : ∀ p, (fs ++ [p])[i]? = some (X, s) := fun p => by rw [List.getElem?_append_left hil]; exact hi
  have hu : (Y i fs.length sf l (fs ++ [([], 0)])).used = X.length := by
    show lenSum _ [nf1, tmpL] = _
    simp only [lenSum, List.map_cons, List.map_nil, List.sum_cons, List.sum_nil]
    have q1 : (Y i fs.length sf l (fs ++ [([], 0)])).lenOf nf1 = X.length := by
      show (((fs ++ [([], 0)])[i]?).getD ([], 0)).1.length = _
      rw [hi1]; rfl
    have q2 : (Y i fs.length sf l (fs ++ [([], 0)])).lenOf tmpL = 0 := by
      show (((fs ++ [(([] : Nm), 0)])[fs.length]?).getD ([], 0)).1.length = _
      rw [fs_last]; rfl
    rw [q1, q2]; rfl
  have e2 : wstep (Y i fs.length sf l (fs ++ [([], 0)])) (fileN 2) C 2 = (0, Y i fs.length sf l (fs ++ [(C, 0)])) := by
    generalize hM : Y i fs.length sf l (fs ++ [([], 0)]) = M at *
    have h1 : M.err (nameOK tmpL) = 0 := by rw [← hM]; rfl
    have h2 : getN M.now tmpL = some fs.length := by rw [← hM]; rfl
    have h3 : ¬ (M.room - (M.used : Nat) < (C.length : Int)) := by rw [hu, ← hM]; show ¬ ((1048576 : Int) - _ < _); omega
    simp only [wstep, DM.append, h1, h2, ne_eq, not_true_eq_false, if_false, if_neg h3]
    rw [← hM]
    show ((0 : Int), Y i fs.length sf l ((fs ++ [(([] : Nm), 0)]).set fs.length (((((fs ++ [(([] : Nm), 0)])[fs.length]?).getD ([], 0)).1 ++ C), (((fs ++ [(([] : Nm), 0)])[fs.length]?).getD ([], 0)).2))) = _
    rw [fs_last, fs_set]; rfl
  have e3 : wstep (Y i fs.length sf l (fs ++ [(C, 0)])) (fileN 2) C 3 = (0, Y i fs.length sf l (fs ++ [(C, C.length)])) := by
    show ((0 : Int), Y i fs.length sf l ((fs ++ [(C, 0)]).set fs.length (((((fs ++ [(C, 0)])[fs.length]?).getD ([], 0)).1), (((fs ++ [(C, 0)])[fs.length]?).getD ([], 0)).1.length))) = _
    rw [fs_last, fs_set]; rfl
  have e4 : wstep (Y i fs.length sf l (fs ++ [(C, C.length)])) (fileN 2) C 4 = (0, ⟨1048576, [(nf1, i), (nf2, fs.length)], sf, l ++ [Note.ren tmpL nf2], fs ++ [(C, C.length)], -1, false⟩) := rfl
  have e5 : wstep ⟨1048576, [(nf1, i), (nf2, fs.length)], sf, l ++ [Note.ren tmpL nf2], fs ++ [(C, C.length)], -1, false⟩ (fileN 2) C 5 = (0, ⟨1048576, [(nf1, i), (nf2, fs.length)], sf', [], fs ++ [(C, C.length)], -1, false⟩) := by
    subst hsf
    show ((0 : Int), (⟨1048576, [(nf1, i), (nf2, fs.length)], doAll ((l ++ [Note.ren tmpL nf2]).take (l ++ [Note.ren tmpL nf2]).length) sf, [], fs ++ [(C, C.length)], -1, false⟩ : DM)) = _
    rw [List.take_length]
  rw [writeFrom_ok (k := 3) (by rw [show 5 - 3 = 2 from rfl, e2]), show 5 - 3 = 2 from rfl, e2]
  rw [writeFrom_ok (k := 2) (by rw [show 5 - 2 = 3 from rfl, e3]), show 5 - 2 = 3 from rfl, e3]
  rw [writeFrom_ok (k := 1) (by rw [show 5 - 1 = 4 from rfl, e4]), show 5 - 1 = 4 from rfl, e4]
  rw [writeFrom_ok (k := 0) (by rw [show 5 - 0 = 5 from rfl, e5]), show 5 - 0 = 5 from rfl, e5]
  rfl

theorem write_one {i : Nat} {fs : List (Nm × Nat)} {X C : Nm} {s : Nat} (hi : fs[i]? = some (X, s)) (h : X.length + C.length ≤ 1048576) : ((Z [(nf1, i)] fs).op true).write (fileN 2) C = (0, Z [(nf1, i), (nf2, fs.length)] (fs ++ [(C, C.length)])) := by
  have e0 : wstep ((Z [(nf1, i)] fs).op true) (fileN 2) C 0 = (0, Z [(nf1, i)] fs) := rfl
  have e1 : wstep (Z [(nf1, i)] fs) (fileN 2) C 1 = (0, Y i fs.length [(nf1, i)] [.make tmpL fs.length] (fs ++ [([], 0)])) := rfl
  unfold DM.write
  rw [writeFrom_ok (k := 5) (by rw [show 5 - 5 = 0 from rfl, e0]), show 5 - 5 = 0 from rfl, e0]
  rw [writeFrom_ok (k := 4) (by rw [show 5 - 4 = 1 from rfl, e1]), show 5 - 4 = 1 from rfl, e1]
  exact Y_steps hi h rfl
theorem write_tmp {i j : Nat} {fs : List (Nm × Nat)} {X C : Nm} {s : Nat} (hi : fs[i]? = some (X, s)) (h : X.length + C.length ≤ 1048576) : ((Z [(nf1, i), (tmpL, j)] fs).op true).write (fileN 2) C = (0, Z [(nf1, i), (nf2, fs.length)] (fs ++ [(C, C.length)])) := by
  have h1 : ¬ ((Z [(nf1, i), (tmpL, j)] fs).op true).size tmpL < 0 := by rw [size_neg]; exact fun e => by cases (show some j = none from e)
  have e0 : wstep ((Z [(nf1, i), (tmpL, j)] fs).op true) (fileN 2) C 0 = (0, ⟨1048576, [(nf1, i)], [(nf1, i), (tmpL, j)], [.rem tmpL], fs, -1, false⟩) := by
    unfold wstep
    simp only [if_neg h1]
    rfl
  have e1 : wstep ⟨1048576, [(nf1, i)], [(nf1, i), (tmpL, j)], [.rem tmpL], fs, -1, false⟩ (fileN 2) C 1 = (0, Y i fs.length [(nf1, i), (tmpL, j)] [.rem tmpL, .make tmpL fs.length] (fs ++ [([], 0)])) := rfl
  unfold DM.write
  rw [writeFrom_ok (k := 5) (by rw [show 5 - 5 = 0 from rfl, e0]), show 5 - 5 = 0 from rfl, e0]
  rw [writeFrom_ok (k := 4) (by rw [show 5 - 4 = 1 from rfl, e1]), show 5 - 4 = 1 from rfl, e1]
  exact Y_steps hi h rfl
theorem two_clean (i j : Nat) (fs : List (Nm × Nat)) : (Z [(nf1, i), (nf2, j)] fs).clean 2 = (0, Z [(nf2, j)] fs) := rfl
theorem two_names (i j : Nat) (fs : List (Nm × Nat)) : ∀ s ∈ (Z [(nf1, i), (nf2, j)] fs).names, LName s := fun s hs => by
  have e : (Z [(nf1, i), (nf2, j)] fs).names = [nf1, nf2] := rfl
  rw [e] at hs; simp at hs; rcases hs with rfl | rfl
  · exact lname1
  · exact lname2

/-- Behind a crash: what is opened, and opened again. -/
theorem back_open {a b c : List Nm} {ls : List Nm} {jj : Nat} {nx : Bool} {M : DM} (hls : ls = a ++ b.take jj) (h : Back (framesM ls) (framesM a).length (framesM c) nx M)
    (ha : ∀ l ∈ a, l.length ≤ 300) (hb : ∀ l ∈ b, l.length ≤ 300) (hc : ∀ l ∈ c, l.length ≤ 300) (hal : a.length ≤ 30) (hbl : b.length ≤ 30) (hcl : c.length ≤ 30) :
    ∃ recs M1 M2, OpenM M recs M1 ∧ OpenM M1 recs M2 ∧ recs.length ≤ 1000 ∧ (recs = c ∨ (nx = false ∧ a.length ≤ recs.length ∧ recs.length ≤ (a ++ b).length ∧ (a ++ b).take recs.length = recs)) := by
  have hlb : ∀ l ∈ ls, l.length ≤ 300 := fun l hl => by
    rw [hls] at hl
    rcases List.mem_append.1 hl with h | h
    · exact ha l h
    · exact hb l (List.mem_of_mem_take h)
  have hlen : ls.length ≤ 60 := by rw [hls, List.length_append, List.length_take]; omega
  have hpre : ∀ m, m ≤ ls.length → (a ++ b).take m = ls.take m := fun m hm => by
    have : ls = (a ++ b).take (a.length + jj) := by rw [hls, List.take_length_add_append]
    rw [this] at hm ⊢
    rw [List.take_take, Nat.min_eq_left]
    rw [List.length_take] at hm
    omega
  -- of a file that was cut
  have key : ∀ cc, (framesM a).length ≤ cc → cc ≤ (framesM ls).length → ∃ m, m ≤ ls.length ∧ a.length ≤ m ∧ scanM (((framesM ls).take cc).length + 1) ((framesM ls).take cc) = (ls.take m, (framesM (ls.take m)).length, 0) ∧ (framesM (ls.take m)).length ≤ cc ∧ ((framesM ls).take cc).take (framesM (ls.take m)).length = framesM (ls.take m) := fun cc h1 h2 => by
    have hl : ((framesM ls).take cc).length = cc := by rw [List.length_take]; omega
    obtain ⟨m, q1, q2, q3, q4, q5⟩ := scan_cut ls cc (cc + 1) (fun l h => Nat.le_trans (hlb l h) (by omega)) h2 (by omega)
    refine ⟨m, q1, q4 a.length (by rw [hls, List.length_append]; omega) ?_, by rw [hl]; exact q2, q3, q5⟩
    rw [hls, List.take_left' rfl]; exact h1
  have fin : ∀ m, m ≤ ls.length → a.length ≤ m → a.length ≤ (ls.take m).length ∧ (ls.take m).length ≤ (a ++ b).length ∧ (a ++ b).take (ls.take m).length = ls.take m := fun m h1 h2 => by
    have hm : (ls.take m).length = m := by rw [List.length_take]; omega
    refine ⟨by omega, ?_, by rw [hm]; exact hpre m h1⟩
    rw [hm]
    have : ls.length ≤ (a ++ b).length := by rw [hls, List.length_append, List.length_append, List.length_take]; omega
    omega
  have hlt : ∀ m, ∀ l ∈ ls.take m, l.length ≤ 300 := fun m l h => hlb l (List.mem_of_mem_take h)
  have hnt : ∀ m, (ls.take m).length ≤ 1000 := fun m => by rw [List.length_take]; omega
  have hfits : ∀ {fs : List (Nm × Nat)} {p : Nm × Nat}, (∀ p ∈ fs, p.2 ≤ p.1.length ∧ p.1.length ≤ 20000) → p.2 ≤ p.1.length ∧ p.1.length ≤ 20000 → ∀ q ∈ fs ++ [p], q.2 ≤ q.1.length ∧ q.1.length ≤ 20000 := fun h1 h2 q hq => by
    rcases List.mem_append.1 hq with hq | hq
    · exact h1 q hq
    · simp at hq; subst hq; exact h2
  have hfl := framesM_le hlb
  have hfl2 : ls.length * (300 + 8) ≤ 60 * 308 := Nat.mul_le_mul_right _ hlen
  cases h with
  | b1 hx i cc fs hi h1 h2 hfs =>
    obtain ⟨m, m1, m2, m3, m4, m5⟩ := key cc h1 h2
    have hYl : ((framesM ls).take cc).length = cc := by rw [List.length_take]; omega
    by_cases hw : (framesM (ls.take m)).length = cc
    · have e : (framesM ls).take cc = framesM (ls.take m) := by
        rw [hw, List.take_of_length_le (by omega)] at m5; exact m5
      rw [e] at hi
      have o := open_one1 hi hfs (hlt m) (Nat.le_trans (hnt m) (by omega))
      exact ⟨_, _, _, o, o, hnt m, .inr ⟨hx, fin m m1 m2⟩⟩
    · have hfr : (framesM (ls.take m)).length ≤ 20000 := by omega
      have hlast : (fs ++ [(framesM (ls.take m), (framesM (ls.take m)).length)])[fs.length]? = some (framesM (ls.take m), (framesM (ls.take m)).length) := fs_last
      have o2 := open_one2 hlast (hfits hfs ⟨Nat.le_refl _, hfr⟩) (hlt m) (Nat.le_trans (hnt m) (by omega))
      refine ⟨ls.take m, _, _, ?_, o2, hnt m, .inr ⟨hx, fin m m1 m2⟩⟩
      have hbb : (Z [(nf1, i)] fs).readB (fileN 1) = (framesM ls).take cc := by
        show ((fs[i]?).getD ([], 0)).1 = _
        rw [hi]; rfl
      refine .cut 1 _ _ _ _ (Z_MB ?_ ?_ (by simp) hfs) (fun s hs => ?_) rfl (.inl rfl) (.inr (.inl rfl)) rfl hbb rfl (hfs _ (List.mem_of_getElem? hi)).2 m3 (by omega) (Nat.le_trans (hnt m) (by omega)) ?_ (two_names i fs.length _) (two_clean i fs.length _)
      · intro p hp; simp at hp; subst hp; exact fget hi
      · intro p hp; simp at hp; subst hp; exact nf1_len
      · have e : (Z [(nf1, i)] fs).names = [nf1] := rfl
        rw [e] at hs; simp at hs; subst hs; exact lname1
      · rw [m5]; exact write_one hi (by omega)
  | b2 hx i j cc fs hi hj h1 h2 hfs =>
    obtain ⟨m, m1, m2, m3, m4, m5⟩ := key cc h1 h2
    have hYl : ((framesM ls).take cc).length = cc := by rw [List.length_take]; omega
    by_cases hw : (framesM (ls.take m)).length = cc
    · have e : (framesM ls).take cc = framesM (ls.take m) := by
        rw [hw, List.take_of_length_le (by omega)] at m5; exact m5
      rw [e] at hi
      have o := open_tmp hi hj hfs (hlt m) (Nat.le_trans (hnt m) (by omega))
      have o2 := open_one1 hi hfs (hlt m) (Nat.le_trans (hnt m) (by omega))
      exact ⟨_, _, _, o, o2, hnt m, .inr ⟨hx, fin m m1 m2⟩⟩
    · have hfr : (framesM (ls.take m)).length ≤ 20000 := by omega
      have hlast : (fs ++ [(framesM (ls.take m), (framesM (ls.take m)).length)])[fs.length]? = some (framesM (ls.take m), (framesM (ls.take m)).length) := fs_last
      have o2 := open_one2 hlast (hfits hfs ⟨Nat.le_refl _, hfr⟩) (hlt m) (Nat.le_trans (hnt m) (by omega))
      refine ⟨ls.take m, _, _, ?_, o2, hnt m, .inr ⟨hx, fin m m1 m2⟩⟩
      have hbb : (Z [(nf1, i), (tmpL, j)] fs).readB (fileN 1) = (framesM ls).take cc := by
        show ((fs[i]?).getD ([], 0)).1 = _
        rw [hi]; rfl
      refine .cut 1 _ _ _ _ (Z_MB ?_ ?_ (by simp) hfs) (fun s hs => ?_) rfl (.inl rfl) (.inr (.inl rfl)) rfl hbb rfl (hfs _ (List.mem_of_getElem? hi)).2 m3 (by omega) (Nat.le_trans (hnt m) (by omega)) ?_ (two_names i fs.length _) (two_clean i fs.length _)
      · intro p hp; simp at hp; rcases hp with rfl | rfl
        · exact fget hi
        · exact hj
      · intro p hp; simp at hp; rcases hp with rfl | rfl
        · exact nf1_len
        · exact tmpL_len
      · have e : (Z [(nf1, i), (tmpL, j)] fs).names = [nf1, tmpL] := rfl
        rw [e] at hs; simp at hs; rcases hs with rfl | rfl
        · exact lname1
        · exact lnameT
      · rw [m5]; exact write_tmp hi (by omega)
  | b3 i j fs hi hj hfs =>
    exact ⟨c, _, _, open_two hi hj hfs hc (by omega), open_one2 hj hfs hc (by omega), by omega, .inl rfl⟩
  | b4 j fs hj hfs =>
    have o := open_one2 hj hfs hc (by omega)
    exact ⟨c, _, _, o, o, by omega, .inl rfl⟩
end Go.Proofs.YtgihociajfgohaaGreatDoor
