/- Log: LogParts, the plain law; texts compared; two disks in a heap; no condition. -/
import Derived.Test.YtgihociajfgohaaGreatDoorLog3
set_option linter.unusedSimpArgs false
set_option linter.unusedVariables false
open Go Go.AB Go.Proofs
namespace Go.Proofs.YtgihociajfgohaaGreatDoor
set_option maxRecDepth 100000

/-! Disks that come up. -/
def nf1 : Nm := fileN 1
def nf2 : Nm := fileN 2
def P1 (c : Nm) : DM := ⟨1048576, [(nf1, 0)], [(nf1, 0)], [], [(c, 0)], -1, false⟩
def P2 (c b : Nm) : DM := ⟨1048576, [(nf2, 1)], [(nf1, 0), (nf2, 1)], [.rem nf1], [(c, 0), (b, b.length)], -1, false⟩
def P1w (c b : Nm) : DM := ⟨1048576, [(nf1, 0), (nf2, 1)], [(nf1, 0), (nf2, 1)], [], [(c, 0), (b, b.length)], -1, false⟩

theorem new_write : (DM.new 1048576).write (fileN 1) [] = (0, P1 []) := by rfl

theorem P1_used (c : Nm) : (P1 c).used = c.length := by
  show lenSum _ [nf1] = _
  simp only [lenSum, List.map_cons, List.map_nil, List.sum_cons, List.sum_nil]
  rfl
theorem P1_append {c b : Nm} (h : c.length + b.length ≤ 1048576) : (P1 c).append (fileN 1) b = (0, P1 (c ++ b)) := by
  have hu := P1_used c
  have h1 : (P1 c).err (nameOK (fileN 1)) = 0 := rfl
  have h2 : getN (P1 c).now (fileN 1) = some 0 := rfl
  have h3 : ¬ ((P1 c).room - ((P1 c).used : Nat) < (b.length : Int)) := by rw [hu]; show ¬ ((1048576 : Int) - _ < _); omega
  simp only [DM.append, h1, h2, ne_eq, not_true_eq_false, if_false, if_neg h3]
  rfl

def T1 (c : Nm) : DM := ⟨1048576, [(nf1, 0), (tmpL, 1)], [(nf1, 0)], [.make tmpL 1], [(c, 0), ([], 0)], -1, false⟩
theorem T1_used (c : Nm) : (T1 c).used = c.length := by
  show lenSum _ [nf1, tmpL] = _
  simp only [lenSum, List.map_cons, List.map_nil, List.sum_cons, List.sum_nil]
  rfl
theorem T1_append {c b : Nm} (h : c.length + b.length ≤ 1048576) : (T1 c).append tmpL b = (0, ⟨1048576, [(nf1, 0), (tmpL, 1)], [(nf1, 0)], [.make tmpL 1], [(c, 0), (b, 0)], -1, false⟩) := by
  have hu := T1_used c
  have h1 : (T1 c).err (nameOK tmpL) = 0 := rfl
  have h2 : getN (T1 c).now tmpL = some 1 := rfl
  have h3 : ¬ ((T1 c).room - ((T1 c).used : Nat) < (b.length : Int)) := by rw [hu]; show ¬ ((1048576 : Int) - _ < _); omega
  simp only [DM.append, h1, h2, ne_eq, not_true_eq_false, if_false, if_neg h3]
  rfl
theorem P1_write {c b : Nm} (h : c.length + b.length ≤ 1048576) : (P1 c).write (fileN 2) b = (0, P1w c b) := by
  have e0 : wstep (P1 c) (fileN 2) b 0 = (0, P1 c) := rfl
  have e1 : wstep (P1 c) (fileN 2) b 1 = (0, T1 c) := rfl
  have e2 : wstep (T1 c) (fileN 2) b 2 = _ := T1_append h
  unfold DM.write
  rw [writeFrom_ok (k := 5) (by rw [show 5 - 5 = 0 from rfl, e0]), show 5 - 5 = 0 from rfl, e0]
  rw [writeFrom_ok (k := 4) (by rw [show 5 - 4 = 1 from rfl]; exact congrArg (·.1) e1), show 5 - 4 = 1 from rfl, e1]
  rw [writeFrom_ok (k := 3) (by rw [show 5 - 3 = 2 from rfl, e2]), show 5 - 3 = 2 from rfl, e2]
  rfl
theorem P1w_remove (c b : Nm) : (P1w c b).remove (fileN 1) = (0, P2 c b) := rfl

theorem P1_names (c : Nm) : (P1 c).names = [nf1] := rfl
theorem P2_names (c b : Nm) : (P2 c b).names = [nf2] := rfl
theorem P1_clean (c : Nm) : ((P1 c).op true).clean 1 = (0, P1 c) := rfl
theorem P2_clean (c b : Nm) : ((P2 c b).op true).clean 2 = (0, P2 c b) := rfl
theorem P1_read (c : Nm) : (P1 c).readE (fileN 1) = 0 ∧ (P1 c).readB (fileN 1) = c := ⟨rfl, rfl⟩
theorem P2_read (c b : Nm) : (P2 c b).readE (fileN 2) = 0 ∧ (P2 c b).readB (fileN 2) = b := ⟨rfl, rfl⟩
theorem lname1 : LName nf1 := .inr (.inl rfl)
theorem lname2 : LName nf2 := .inr (.inr (.inl rfl))

/-! Frames read again. -/
theorem drop_four (x : Nat) (r : Nm) : (fourM x ++ r).drop 4 = r := rfl
theorem take_four (x : Nat) (r : Nm) : (fourM x ++ r).take 4 = fourM x := rfl
theorem unframe_frame {l r : Nm} (hl : l.length ≤ 4194304) : unframeM (frameM l ++ r) = (l, l.length + 8, 0) := by
  have hc := crcM_lt (fourM l.length ++ l)
  have e0 : frameM l ++ r = fourM l.length ++ (fourM (crcM (fourM l.length ++ l)) ++ (l ++ r)) := by simp [frameM, List.append_assoc]
  have hlen : (frameM l ++ r).length = l.length + 8 + r.length := by rw [List.length_append, frameM_len]
  have h1 : toldM (frameM l ++ r) = l.length := by rw [e0, toldM_four (by omega)]
  have h2 : toldM ((frameM l ++ r).drop 4) = crcM (fourM l.length ++ l) := by rw [e0, drop_four, toldM_four hc]
  have h3 : (frameM l ++ r).take 4 = fourM l.length := by rw [e0, take_four]
  have h4 : ((frameM l ++ r).drop 8).take l.length = l := by
    have : (frameM l ++ r).drop 8 = l ++ r := by rw [e0]; rfl
    rw [this, List.take_left' rfl]
  unfold unframeM
  rw [if_neg (by omega), h1, if_neg (by omega), if_neg (by omega), h2, h3, h4, if_pos rfl, Nat.add_comm]
theorem framesM_ne {l : Nm} {ls : List Nm} : framesM (l :: ls) ≠ [] := fun e => by
  have := congrArg List.length e
  rw [framesM_cons, List.length_append, frameM_len] at this
  simp at this
theorem scan_frames : ∀ (ls : List Nm) (f : Nat), (∀ l ∈ ls, l.length ≤ 4194304) → ls.length < f → scanM f (framesM ls) = (ls, (framesM ls).length, 0)
  | [], f + 1, _, _ => by simp [scanM, framesM]
  | l :: ls, f + 1, h, hf => by
    have hu := unframe_frame (r := framesM ls) (h l List.mem_cons_self)
    have ih := scan_frames ls f (fun x hx => h x (List.mem_cons_of_mem _ hx)) (by simpa using hf)
    rw [framesM_cons]
    rw [scanM, if_neg (by rw [← framesM_cons]; exact framesM_ne), hu]
    have hd : (frameM l ++ framesM ls).drop (l.length + 8) = framesM ls := by rw [← frameM_len]; simp
    simp only [hd, ih]
    simp [frameM_len]
  | _, 0, _, hf => by omega
theorem frames_count (ls : List Nm) : ls.length ≤ (framesM ls).length := by
  induction ls with
  | nil => simp
  | cons l ls ih => rw [framesM_cons, List.length_append, frameM_len, List.length_cons]; omega
theorem scan_all {ls : List Nm} (h : ∀ l ∈ ls, l.length ≤ 300) : scanM ((framesM ls).length + 1) (framesM ls) = (ls, (framesM ls).length, 0) :=
  scan_frames ls _ (fun l hl => Nat.le_trans (h l hl) (by omega)) (by have := frames_count ls; omega)

/-! Texts compared. -/
set_option maxHeartbeats 2000000 in
theorem texts17 (N : Nat) (H : AH) {v u : AV} {l : List Nm} (h1 : StrsAt H v l) (h2 : TextsAt H u l) (hl : l.length ≤ 1000000) : AC tC N 0 17 [v, u] H fun r K => r = .bool true ∧ K = H := by
  refine AC.by (n := 26) (rs := [.tmp 4]) tOK fn17 rfl rfl rfl rfl ?_
  have e0 : (PT.ofList .leaf 0 [v, u]).get 0 = some v := rfl
  have e1 : (PT.ofList .leaf 0 [v, u]).get 1 = some u := rfl
  have l1 := h1.len
  have l2 := h2.len
  with_reducible repeat' (first
    | refine AW.seq ?_
    | refine AW.region ?_
    | refine AW.block ?_
    | refine AOs.nil ?_
    | refine AW.skip ?_
    | refine andThen_normal ?_
    | refine AW.condF (by simp only [aeval, PT.get_set, Nat.reduceEqDiff, reduceIte]; rfl) (by first | rfl | decide | assumption) ?_
    | ((first
        | refine AOs.op1E tOK (by with_unfolding_all rfl) ?_
        ); refine Step.mk (by simp only [evOp_move, evOp_assign, evOp_binOp, evOp_len, aeval, ofVal, PT.get_set, Nat.reduceEqDiff, reduceIte, Option.map_some, abin_neq, decide_true, Bool.not_true, eq_self, al37, e0, e1, l1, l2]; rfl) ?_)
    | fail "stop")
  refine AW.loop (fun m T K => K = H ∧ T.get 0 = some v ∧ T.get 1 = some u ∧ ∃ i : Nat, i ≤ l.length ∧ m = l.length - i ∧ T.get 5 = some (.int .i64 (i : Nat))) ?_ (l.length - 0)
    ⟨rfl, by simp [PT.get_set, e0], by simp [PT.get_set, e1], 0, by omega, rfl, by simp [PT.get_set]⟩
  rintro m T K ⟨rfl, g0, g1, i, hi, rfl, g5⟩
  by_cases hlt : i < l.length
  · have hd := lt_int hlt
    obtain ⟨s, hs⟩ : ∃ s, l[i]? = some s := ⟨_, List.getElem?_eq_getElem hlt⟩
    rcases h1 with ⟨_, h1⟩ | ⟨b, c, ro, ws, rfl, hb, hw⟩
    · rw [h1] at hlt; simp at hlt
    rcases h2 with ⟨_, h2⟩ | ⟨b', c', ws', rfl, hb', hw'⟩
    · rw [h2] at hlt; simp at hlt
    have q1 : ws[i * 1]? = some (.str s) := by rw [Nat.mul_one]; exact hw i s hs
    have q2 : ws'[i * 1]? = some (.str s) := by rw [Nat.mul_one]; exact hw' i s hs
    with_reducible repeat' (first
      | refine AW.seq ?_
      | refine AW.region ?_
      | refine AW.block ?_
      | refine AOs.nil ?_
      | refine AW.skip ?_
      | refine andThen_normal ?_
      | refine inBlock_normal ?_
      | refine AW.condT (by simp only [aeval, PT.get_set, Nat.reduceEqDiff, reduceIte]; rfl) (by first | rfl | decide | assumption) ?_
      | refine AW.condF (by simp only [aeval, PT.get_set, Nat.reduceEqDiff, reduceIte]; rfl) (by first | rfl | decide | assumption) ?_
      | refine AW.drawT tOK (by with_unfolding_all rfl) (by simp only [pickAll, Nat.reduceAdd]; rfl) ?_
      | refine DN.nil tOK ?_
      | ((first
          | refine DN.fl1E (by with_unfolding_all rfl) (by with_unfolding_all rfl) ?_
          | refine DN.rd1E (by kernel_rfl) (by with_unfolding_all rfl) ?_
          ); refine Step.mk (by simp only [evOp_move, evOp_binOp, evOp_indexAddr, evOp_load, aeval, PT.get_set, Nat.reduceEqDiff, reduceIte, cellAt, Option.map_some, abin_neqS, decide_true, Bool.not_true, Nat.zero_add, eq_self, ld9, ix37, g0, g1, g5, hlt, hb, hb', q1, q2]; rfl) ?_; refine Same.mk ?_)
      | ((first
          | refine AOs.op1E tOK (by with_unfolding_all rfl) ?_
          ); refine Step.mk (by simp only [evOp_move, evOp_assign, evOp_binOp, evOp_len, aeval, ofVal, PT.get_set, Nat.reduceEqDiff, reduceIte, Option.map_some, abin_add, abin_lss, eq_self, al37, g0, g5, l1, hd, wrap64_succ (show i < 9223372036854775807 by omega)]; rfl) ?_)
      | fail "stop")
    exact ⟨l.length - (i + 1), by omega, rfl, by simp only [PT.get_set, Nat.reduceEqDiff, reduceIte, g0], by simp only [PT.get_set, Nat.reduceEqDiff, reduceIte, g1], i + 1, by omega, rfl, by simp only [PT.get_set, Nat.reduceEqDiff, reduceIte]⟩
  · have hd := nlt_int hlt
    with_reducible repeat' (first
      | refine AW.seq ?_
      | refine AW.region ?_
      | refine AOs.nil ?_
      | refine AW.exit ?_
      | refine AW.ret ?_
      | refine andThen_normal ?_
      | refine andThen_exit ?_
      | refine inBlock_hit ?_
      | refine AW.condF (by simp only [aeval, PT.get_set, Nat.reduceEqDiff, reduceIte]; rfl) (by first | rfl | decide | assumption) ?_
      | ((first
          | refine AOs.op1E tOK (by with_unfolding_all rfl) ?_
          ); refine Step.mk (by simp only [evOp_move, evOp_assign, evOp_binOp, evOp_len, aeval, ofVal, PT.get_set, Nat.reduceEqDiff, reduceIte, Option.map_some, abin_lss, eq_self, al37, g0, g5, l1, hd]; rfl) ?_)
      | fail "stop")
    exact fnPost_ret1 (by first | (simp only [PT.get_set, Nat.reduceEqDiff, reduceIte]; rfl) | simp only [PT.get_set, Nat.reduceEqDiff, reduceIte]) ⟨rfl, rfl⟩

/-! Two disks that were made since. -/
structure Two (H K : AH) (da db : Nat) (Ma Mb : DM) (A B : Nat → Prop) : Prop where
  a : DiskAt K da Ma A
  b : DiskAt K db Mb B
  dis : ∀ x, A x → ¬ B x
  ra : ∀ x, A x → H.next ≤ x ∧ x < K.next
  rb : ∀ x, B x → H.next ≤ x ∧ x < K.next
  keep : ∀ b x, H.get b = some x → K.get b = some x
  next : H.next ≤ K.next

/-- A log beside two disks. -/
structure Lo (H K : AH) (A B : Nat → Prop) (X : Nat) (x : AO) : Prop where
  get : K.get X = some x
  na : ¬ A X
  nb : ¬ B X
  new : H.next ≤ X

section
variable {H K L : AH} {da db : Nat} {Ma Mb M' : DM} {A B A' B' : Nat → Prop}
theorem Two.swap (h : Two H K da db Ma Mb A B) : Two H K db da Mb Ma B A := ⟨h.b, h.a, fun x hb ha => h.dis x ha hb, h.rb, h.ra, h.keep, h.next⟩
theorem Two.setA (h : Two H K da db Ma Mb A B) (hw : WF H) {X : Nat} {x : AO} (hX : Lo H K A B X x) (hk : kind x ≠ 3 ∧ kind x ≠ 4) (hd : DiskAt L da M' A') (sub : ∀ y, A' y → A y ∨ (K.next ≤ y ∧ y < L.next)) (ap : ApartL K L A X) : Two H L da db M' Mb A' B where
  a := hd
  b := h.b.keep ⟨fun b y hb hy => ap.1 b y hb (fun e => by
      subst e
      rw [hX.get] at hb; cases hb
      rcases hy with hy | hy | hy
      · exact hX.nb hy
      · exact hk.1 hy
      · exact hk.2 hy) (hy.imp (fun e e' => h.dis b e' e) id), ap.2⟩ fun _ => id
  dis y hy e := by
    rcases sub y hy with hy | hy
    · exact h.dis y hy e
    · have := (h.rb y e).2; omega
  ra y hy := by
    have := ap.2; have := h.next
    rcases sub y hy with hy | hy
    · have := h.ra y hy; omega
    · omega
  rb y hy := by have := h.rb y hy; have := ap.2; omega
  keep b y hb := ap.1 b y (h.keep b y hb) (fun e => by have := hw b y hb; have := hX.new; omega) (.inl fun e => by have := h.ra b e; have := hw b y hb; omega)
  next := Nat.le_trans h.next ap.2
theorem Two.setA0 (h : Two H K da db Ma Mb A B) (hw : WF H) (hd : DiskAt L da M' A') (sub : ∀ y, A' y → A y ∨ (K.next ≤ y ∧ y < L.next)) (ap : Apart K L A) : Two H L da db M' Mb A' B where
  a := hd
  b := h.b.keep ⟨fun b y hb hy => ap.1 b y hb (hy.imp (fun e e' => h.dis b e' e) id), ap.2⟩ fun _ => id
  dis y hy e := by
    rcases sub y hy with hy | hy
    · exact h.dis y hy e
    · have := (h.rb y e).2; omega
  ra y hy := by
    have := ap.2; have := h.next
    rcases sub y hy with hy | hy
    · have := h.ra y hy; omega
    · omega
  rb y hy := by have := h.rb y hy; have := ap.2; omega
  keep b y hb := ap.1 b y (h.keep b y hb) (.inl fun e => by have := h.ra b e; have := hw b y hb; omega)
  next := Nat.le_trans h.next ap.2
theorem Two.more (h : Two H K da db Ma Mb A B) (hk : ∀ b x, K.get b = some x → L.get b = some x) (hn : K.next ≤ L.next) : Two H L da db Ma Mb A B where
  a := h.a.keep ⟨fun b x hb _ => hk b x hb, hn⟩ fun _ => id
  b := h.b.keep ⟨fun b x hb _ => hk b x hb, hn⟩ fun _ => id
  dis := h.dis
  ra x hx := by have := h.ra x hx; omega
  rb x hx := by have := h.rb x hx; omega
  keep b x hb := hk b x (h.keep b x hb)
  next := Nat.le_trans h.next hn
theorem Lo.swap {X : Nat} {x : AO} (h : Lo H K A B X x) : Lo H K B A X x := ⟨h.get, h.nb, h.na, h.new⟩
theorem Lo.more {X : Nat} {x : AO} (h : Lo H K A B X x) (hk : ∀ b x, K.get b = some x → L.get b = some x) : Lo H L A B X x := ⟨hk _ _ h.get, h.na, h.nb, h.new⟩
/-- The other disk's log. -/
theorem Lo.ap {X Y : Nat} {x : AO} (h : Lo H K A B X x) (hwK : WF K) (ap : ApartL K L A Y) (hne : X ≠ Y) (sub : ∀ y, A' y → A y ∨ (K.next ≤ y ∧ y < L.next)) : Lo H L A' B X x :=
  ⟨ap.1 _ _ h.get hne (.inl h.na), fun e => by
    rcases sub _ e with e | e
    · exact h.na e
    · have := hwK _ _ h.get; omega, h.nb, h.new⟩
theorem Lo.ap0 {X : Nat} {x : AO} (h : Lo H K A B X x) (hwK : WF K) (ap : Apart K L A) (sub : ∀ y, A' y → A y ∨ (K.next ≤ y ∧ y < L.next)) : Lo H L A' B X x :=
  ⟨ap.1 _ _ h.get (.inl h.na), fun e => by
    rcases sub _ e with e | e
    · exact h.na e
    · have := hwK _ _ h.get; omega, h.nb, h.new⟩
/-- Its own log. -/
theorem Lo.own {X : Nat} {x y : AO} (h : Lo H K A B X x) (hwK : WF K) (hg : L.get X = some y) (sub : ∀ y, A' y → A y ∨ (K.next ≤ y ∧ y < L.next)) : Lo H L A' B X y :=
  ⟨hg, fun e => by
    rcases sub _ e with e | e
    · exact h.na e
    · have := hwK _ _ h.get; omega, h.nb, h.new⟩
theorem Lo.kp {X : Nat} {x : AO} (h : Lo H K A B X x) : Kp K A X x := ⟨h.get, h.na⟩
end
theorem addR_sub {A : Nat → Prop} {K L : AH} : ∀ y, AddR A K.next L.next y → A y ∨ (K.next ≤ y ∧ y < L.next) := fun _ h => h
end Go.Proofs.YtgihociajfgohaaGreatDoor
