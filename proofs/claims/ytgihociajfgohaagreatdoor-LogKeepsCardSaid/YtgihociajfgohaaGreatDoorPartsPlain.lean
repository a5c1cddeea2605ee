/- Log: the plain law of logs opened; texts compared; two disks in a heap; no condition. -/
import Derived.Test.YtgihociajfgohaaGreatDoorLog3
set_option linter.unusedSimpArgs false
set_option linter.unusedVariables false
open Go Go.AB Go.Proofs
namespace Go.Proofs.YtgihociajfgohaaGreatDoor
set_option maxRecDepth 100000

/-! Disks that come up. -/
def nf1 : Nm := fileN 1
def nf2 : Nm := fileN 2
def P1 (c : Nm) : DM := ⟨1048576, [(nf1, 0)], [(nf1, 0)], [], [(c, 0)], -1, false⟩
theorem new_write : (DM.new 1048576).write (fileN 1) [] = (0, P1 []) := by rfl

theorem P1_used (c : Nm) : (P1 c).used = c.length := by
  show lenSum _ [nf1] = _
  simp only [lenSum, List.map_cons, List.map_nil, List.sum_cons, List.sum_nil]
  rfl
theorem P1_append {c b : Nm} (h : c.length + b.length ≤ 1048576) : (P1 c).append (fileN 1) b = (0, P1 (c ++ b)) := by
  have hu := P1_used c
  have h1 : (P1 c).err (nameOK (fileN 1)) = 0 := rfl
  have h2 : getN (P1 c).now (fileN 1) = some 0 := rfl
  have h3 : ¬ ((P1 c).room - ((P1 c).used : Nat) < (b.length : Int)) := by rw [hu]; show ¬ ((1048576 : Int) - _ < _); omega
  simp only [DM.append, h1, h2, ne_eq, not_true_eq_false, if_false, if_neg h3]
  rfl

def T1 (c : Nm) : DM := ⟨1048576, [(nf1, 0), (tmpL, 1)], [(nf1, 0)], [.make tmpL 1], [(c, 0), ([], 0)], -1, false⟩
theorem lname1 : LName nf1 := .inr (.inl rfl)
theorem lname2 : LName nf2 := .inr (.inr (.inl rfl))

/-! Frames read again. -/
theorem drop_four (x : Nat) (r : Nm) : (fourM x ++ r).drop 4 = r := rfl
theorem take_four (x : Nat) (r : Nm) : (fourM x ++ r).take 4 = fourM x := rfl
theorem unframe_frame {l r : Nm} (hl : l.length ≤ 4194304) : unframeM (frameM l ++ r) = (l, l.length + 8, 0) := by
  have hc := crcM_lt (fourM l.length ++ l)
  have e0 : frameM l ++ r = fourM l.length ++ (fourM (crcM (fourM l.length ++ l)) ++ (l ++ r)) := by simp [frameM, List.append_assoc]
  have hlen : (frameM l ++ r).length = l.length + 8 + r.length := by rw [List.length_append, frameM_len]
  have h1 : toldM (frameM l ++ r) = l.length := by rw [e0, toldM_four (by omega)]
  have h2 : toldM ((frameM l ++ r).drop 4) = crcM (fourM l.length ++ l) := by rw [e0, drop_four, toldM_four hc]
  have h3 : (frameM l ++ r).take 4 = fourM l.length := by rw [e0, take_four]
  have h4 : ((frameM l ++ r).drop 8).take l.length = l := by
    have : (frameM l ++ r).drop 8 = l ++ r := by rw [e0]; rfl
    rw [this, List.take_left' rfl]
  unfold unframeM
  rw [if_neg (by omega), h1, if_neg (by omega), if_neg (by omega), h2, h3, h4, if_pos rfl, Nat.add_comm]
theorem framesM_ne {l : Nm} {ls : List Nm} : framesM (l :: ls) ≠ [] := fun e => by
  have := congrArg List.length e
  rw [framesM_cons, List.length_append, frameM_len] at this
  simp at this
theorem scan_frames : ∀ (ls : List Nm) (f : Nat), (∀ l ∈ ls, l.length ≤ 4194304) → ls.length < f → scanM f (framesM ls) = (ls, (framesM ls).length, 0)
  | [], f + 1, _, _ => by simp [scanM, framesM]
  | l :: ls, f + 1, h, hf => by
    have hu := unframe_frame (r := framesM ls) (h l List.mem_cons_self)
    have ih := scan_frames ls f (fun x hx => h x (List.mem_cons_of_mem _ hx)) (by simpa using hf)
    rw [framesM_cons]
    rw [scanM, if_neg (by rw [← framesM_cons]; exact framesM_ne), hu]
    have hd : (frameM l ++ framesM ls).drop (l.length + 8) = framesM ls := by rw [← frameM_len]; simp
    simp only [hd, ih]
    simp [frameM_len]
  | _, 0, _, hf => by omega
theorem frames_count (ls : List Nm) : ls.length ≤ (framesM ls).length := by
  induction ls with
  | nil => simp
  | cons l ls ih => rw [framesM_cons, List.length_append, frameM_len, List.length_cons]; omega
theorem scan_all {ls : List Nm} (h : ∀ l ∈ ls, l.length ≤ 300) : scanM ((framesM ls).length + 1) (framesM ls) = (ls, (framesM ls).length, 0) :=
  scan_frames ls _ (fun l hl => Nat.le_trans (h l hl) (by omega)) (by have := frames_count ls; omega)

/-! Two disks that were made since. -/
structure Two (H K : AH) (da db : Nat) (Ma Mb : DM) (A B : Nat → Prop) : Prop where
  a : DiskAt K da Ma A
  b : DiskAt K db Mb B
  dis : ∀ x, A x → ¬ B x
  ra : ∀ x, A x → H.next ≤ x ∧ x < K.next
  rb : ∀ x, B x → H.next ≤ x ∧ x < K.next
  keep : ∀ b x, H.get b = some x → K.get b = some x
  next : H.next ≤ K.next

/-- A log beside two disks. -/
structure Lo (H K : AH) (A B : Nat → Prop) (X : Nat) (x : AO) : Prop where
  get : K.get X = some x
  na : ¬ A X
  nb : ¬ B X
  new : H.next ≤ X

section
variable {H K L : AH} {da db : Nat} {Ma Mb M' : DM} {A B A' B' : Nat → Prop}
theorem Two.swap (h : Two H K da db Ma Mb A B) : Two H K db da Mb Ma B A := ⟨h.b, h.a, fun x hb ha => h.dis x ha hb, h.rb, h.ra, h.keep, h.next⟩
theorem Two.more (h : Two H K da db Ma Mb A B) (hk : ∀ b x, K.get b = some x → L.get b = some x) (hn : K.next ≤ L.next) : Two H L da db Ma Mb A B where
  a := h.a.keep ⟨fun b x hb _ => hk b x hb, hn⟩ fun _ => id
  b := h.b.keep ⟨fun b x hb _ => hk b x hb, hn⟩ fun _ => id
  dis := h.dis
  ra x hx := by have := h.ra x hx; omega
  rb x hx := by have := h.rb x hx; omega
  keep b x hb := hk b x (h.keep b x hb)
  next := Nat.le_trans h.next hn
theorem Lo.swap {X : Nat} {x : AO} (h : Lo H K A B X x) : Lo H K B A X x := ⟨h.get, h.nb, h.na, h.new⟩
theorem Lo.more {X : Nat} {x : AO} (h : Lo H K A B X x) (hk : ∀ b x, K.get b = some x → L.get b = some x) : Lo H L A B X x := ⟨hk _ _ h.get, h.na, h.nb, h.new⟩
/-- The other disk's log. -/
theorem Lo.ap {X Y : Nat} {x : AO} (h : Lo H K A B X x) (hwK : WF K) (ap : ApartL K L A Y) (hne : X ≠ Y) (sub : ∀ y, A' y → A y ∨ (K.next ≤ y ∧ y < L.next)) : Lo H L A' B X x :=
  ⟨ap.1 _ _ h.get hne (.inl h.na), fun e => by
    rcases sub _ e with e | e
    · exact h.na e
    · have := hwK _ _ h.get; omega, h.nb, h.new⟩
/-- Its own log. -/
theorem Lo.own {X : Nat} {x y : AO} (h : Lo H K A B X x) (hwK : WF K) (hg : L.get X = some y) (sub : ∀ y, A' y → A y ∨ (K.next ≤ y ∧ y < L.next)) : Lo H L A' B X y :=
  ⟨hg, fun e => by
    rcases sub _ e with e | e
    · exact h.na e
    · have := hwK _ _ h.get; omega, h.nb, h.new⟩
theorem Lo.kp {X : Nat} {x : AO} (h : Lo H K A B X x) : Kp K A X x := ⟨h.get, h.na⟩
end
theorem addR_sub {A : Nat → Prop} {K L : AH} : ∀ y, AddR A K.next L.next y → A y ∨ (K.next ≤ y ∧ y < L.next) := fun _ h => h
end Go.Proofs.YtgihociajfgohaaGreatDoor
