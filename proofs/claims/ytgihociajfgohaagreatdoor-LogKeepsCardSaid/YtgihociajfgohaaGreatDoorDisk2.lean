/- Log: a disk in a heap; Make, Remove, Rename, Sync; no condition. -/
import Derived.Test.YtgihociajfgohaaGreatDoorDisk1
set_option linter.unusedSimpArgs false
set_option linter.unusedVariables false
open Go Go.AB Go.Proofs
namespace Go.Proofs.YtgihociajfgohaaGreatDoor
set_option maxRecDepth 100000

/-- A disk as the document has it: files by their number, in the order in which they were made. -/
structure DM where
  room : Int
  now : Ents
  sf : Ents
  notes : List Note
  files : List (Nm × Nat)
  fuse : Int
  off : Bool

def mapE (φ : Nat → Nat) (E : Ents) : Ents := E.map fun p => (p.1, φ p.2)
def Note.at (φ : Nat → Nat) : Note → Note
  | .make n f => .make n (φ f)
  | .ren a b => .ren a b
  | .rem n => .rem n

theorem getN_mapE (φ : Nat → Nat) : ∀ (E : Ents) (k : Nm), getN (mapE φ E) k = (getN E k).map φ
  | [], _ => rfl
  | p :: E, k => by
    simp only [mapE, List.map_cons, getN]
    by_cases h : k = p.1
    · simp [h]
    · simp only [h, if_false]; exact getN_mapE φ E k
theorem setN_mapE (φ : Nat → Nat) (f : Nat) : ∀ (E : Ents) (k : Nm), setN (mapE φ E) k (φ f) = mapE φ (setN E k f)
  | [], _ => rfl
  | p :: E, k => by
    simp only [mapE, List.map_cons, setN]
    by_cases h : k = p.1
    · simp [h]
    · simp only [h, if_false, List.map_cons]; exact congrArg _ (setN_mapE φ f E k)
theorem delN_mapE (φ : Nat → Nat) : ∀ (E : Ents) (k : Nm), delN (mapE φ E) k = mapE φ (delN E k)
  | [], _ => rfl
  | p :: E, k => by
    simp only [mapE, List.map_cons, delN]
    by_cases h : k = p.1
    · simp [h]
    · simp only [h, if_false, List.map_cons]; exact congrArg _ (delN_mapE φ E k)
theorem do_mapE (φ : Nat → Nat) (nt : Note) (E : Ents) : (nt.at φ).do (mapE φ E) = mapE φ (nt.do E) := by
  cases nt with
  | make n f => exact setN_mapE φ f E n
  | rem n => exact delN_mapE φ E n
  | ren a b =>
    simp only [Note.at, Note.do, getN_mapE]
    cases getN E a with
    | none => rfl
    | some f => simp only [Option.map_some]; rw [setN_mapE, delN_mapE]
theorem mapE_keys (φ : Nat → Nat) (E : Ents) : (mapE φ E).map (·.1) = E.map (·.1) := by simp [mapE]

theorem getN_mem {E : Ents} {k : Nm} {f : Nat} (h : getN E k = some f) : (k, f) ∈ E := by
  induction E with
  | nil => simp [getN] at h
  | cons p E ih =>
    simp only [getN] at h
    split at h
    · rename_i hk
      simp only [Option.some.injEq] at h
      rw [hk, ← h]; simp
    · exact List.mem_cons_of_mem _ (ih h)

/-- Bytes that are a file's. -/
def FB (H : AH) (v : AV) (l : List UInt8) : Prop :=
  (v = .nils ∧ l = []) ∨ ∃ b o c ro vs, v = .slice b o l.length c 1 ∧ H.get b = some (.cells ro vs) ∧ (vs.drop o).take l.length = bytesAV l ∧ kind (.cells ro vs) = 4 ∧ l.length ≤ c.low

theorem FB.bytes {H : AH} {v : AV} {l : List UInt8} (h : FB H v l) : BytesAt H v l := by
  rcases h with ⟨rfl, rfl⟩ | ⟨b, o, c, ro, vs, h1, h2, h3, _⟩
  · exact .inl ⟨.inl rfl, rfl⟩
  · exact .inr ⟨b, o, c, ro, vs, h1, h2, h3⟩
theorem FB.keep {H K : AH} {v : AV} {l : List UInt8} (h : FB H v l) (hk : ∀ b x, H.get b = some x → kind x = 4 → K.get b = some x) : FB K v l := by
  rcases h with h | ⟨b, o, c, ro, vs, h1, h2, h3, h4⟩
  · exact .inl h
  · exact .inr ⟨b, o, c, ro, vs, h1, hk _ _ h2 h4.1, h3, h4⟩
theorem FB.ofKind {H : AH} {v : AV} {l : List UInt8} (h : FB H v l) (s : Int) : kind (.cells false [v, .int .i64 s]) = 5 := by
  rcases h with ⟨rfl, rfl⟩ | ⟨b, o, c, ro, vs, rfl, _⟩ <;> rfl

theorem NotesAt.keep {H K : AH} {cv : AV} {l : List Note} (h : NotesAt H cv l) (h3 : ∀ b x, H.get b = some x → kind x = 3 → K.get b = some x) (hc : ∀ b o n c z, cv = .slice b o n c z → ∀ x, H.get b = some x → K.get b = some x) : NotesAt K cv l := by
  rcases h with h | ⟨cb, ws, rfl, h0, h4, h5, h6⟩
  · exact .inl h
  · refine .inr ⟨cb, ws, rfl, h0, hc _ _ _ _ _ rfl _ h4, h5, fun i nt hi => ?_⟩
    obtain ⟨fv, h7, h8⟩ := h6 i nt hi
    exact ⟨fv, h7, h8.keep fun b x hb hx => by rw [h3 b x hb hx, hb]⟩

/-- A disk in a heap. -/
structure DA (H : AH) (d : Nat) (φ : Nat → Nat) (M : DM) (A : Nat → Prop) (nb sb : Nat) (cv : AV) (v1 v2 : Nat) : Prop where
  core : CoreAt H d M.room nb sb cv M.fuse M.off
  now : H.get nb = some (.map (ents (mapE φ M.now)) v1)
  ver1 : v1 < H.next
  sf : H.get sb = some (.map (ents (mapE φ M.sf)) v2)
  ver2 : v2 < H.next
  notes : NotesAt H cv (M.notes.map (Note.at φ))
  ne : nb ≠ sb
  ad : A d
  an : A nb
  asf : A sb
  ac : ∀ b o n c z, cv = .slice b o n c z → A b
  files : ∀ (i : Nat) p, M.files[i]? = some p → A (φ i) ∧ ∃ bv, H.get (φ i) = some (.cells false [bv, .int .i64 (p.2 : Nat)]) ∧ FB H bv p.1
  inj : ∀ i j, i < M.files.length → j < M.files.length → φ i = φ j → i = j

def DiskAt (H : AH) (d : Nat) (M : DM) (A : Nat → Prop) : Prop := ∃ φ nb sb cv v1 v2, DA H d φ M A nb sb cv v1 v2

/-- What is a disk's, and texts and bytes beside, stay. -/
def StaysA (H K : AH) (A : Nat → Prop) : Prop := (∀ b x, H.get b = some x → (A b ∨ kind x = 3 ∨ kind x = 4) → K.get b = some x) ∧ H.next ≤ K.next

theorem DA.keep {H K : AH} {d : Nat} {φ : Nat → Nat} {M : DM} {A A' : Nat → Prop} {nb sb : Nat} {cv : AV} {v1 v2 : Nat} (h : DA H d φ M A nb sb cv v1 v2) (hs : StaysA H K A) (hA : ∀ b, A b → A' b) : DA K d φ M A' nb sb cv v1 v2 where
  core := hs.1 _ _ h.core (.inl h.ad)
  now := hs.1 _ _ h.now (.inl h.an)
  ver1 := Nat.lt_of_lt_of_le h.ver1 hs.2
  sf := hs.1 _ _ h.sf (.inl h.asf)
  ver2 := Nat.lt_of_lt_of_le h.ver2 hs.2
  notes := h.notes.keep (fun b x hb hx => hs.1 b x hb (.inr (.inl hx))) fun b o n c z e x hx => hs.1 b x hx (.inl (h.ac b o n c z e))
  ne := h.ne
  ad := hA _ h.ad
  an := hA _ h.an
  asf := hA _ h.asf
  ac b o n c z e := hA _ (h.ac b o n c z e)
  files i p hi := by
    obtain ⟨h1, bv, h2, h3⟩ := h.files i p hi
    exact ⟨hA _ h1, bv, hs.1 _ _ h2 (.inl h1), h3.keep fun b x hb hx => hs.1 b x hb (.inr (.inr hx))⟩
  inj := h.inj

theorem DiskAt.keep {H K : AH} {d : Nat} {M : DM} {A A' : Nat → Prop} (h : DiskAt H d M A) (hs : StaysA H K A) (hA : ∀ b, A b → A' b) : DiskAt K d M A' := by
  obtain ⟨φ, nb, sb, cv, v1, v2, h⟩ := h
  exact ⟨φ, nb, sb, cv, v1, v2, h.keep hs hA⟩

/-- What an operation leaves of what is not the disk's. -/
def Apart (H K : AH) (A : Nat → Prop) : Prop := (∀ b x, H.get b = some x → (¬ A b ∨ kind x = 3 ∨ kind x = 4) → K.get b = some x) ∧ H.next ≤ K.next
theorem Apart.refl (H : AH) (A : Nat → Prop) : Apart H H A := ⟨fun _ _ h _ => h, Nat.le_refl _⟩
/-- The disk's, and what is new. -/
def AddR (A : Nat → Prop) (m n : Nat) (b : Nat) : Prop := A b ∨ (m ≤ b ∧ b < n)
theorem Apart.trans {H K L : AH} {A : Nat → Prop} (hw : WF H) (a : Apart H K A) (b : Apart K L (AddR A H.next K.next)) : Apart H L A :=
  ⟨fun k x hk hx => b.1 k x (a.1 k x hk hx) (by
    rcases hx with hx | hx
    · refine .inl fun e => ?_
      rcases e with e | e
      · exact hx e
      · have := hw _ _ hk; have := e.1; omega
    · exact .inr hx), Nat.le_trans a.2 b.2⟩

/-- The fuse and the power alone. -/
theorem DA.op {H K : AH} {d : Nat} {φ : Nat → Nat} {M : DM} {A : Nat → Prop} {nb sb : Nat} {cv : AV} {v1 v2 : Nat} (h : DA H d φ M A nb sb cv v1 v2) {fuse : Int} {off : Bool} (hn : H.next ≤ K.next) (hc : CoreAt K d M.room nb sb cv fuse off) (hk : ∀ b x, H.get b = some x → b ≠ d → K.get b = some x) :
    DA K d φ { M with fuse := fuse, off := off } A nb sb cv v1 v2 := by
  have hck := core_kind (room := M.room) (nb := nb) (sb := sb) (fuse := M.fuse) (off := M.off) h.notes
  have hne : ∀ b x, H.get b = some x → kind x ≠ 0 → b ≠ d := fun b x hb hx => ne_of_kind hb h.core (by rw [hck]; exact hx)
  exact {
    core := hc
    now := hk _ _ h.now (hne _ _ h.now (by rw [kind_map]; decide))
    ver1 := Nat.lt_of_lt_of_le h.ver1 hn
    sf := hk _ _ h.sf (hne _ _ h.sf (by rw [kind_map]; decide))
    ver2 := Nat.lt_of_lt_of_le h.ver2 hn
    notes := h.notes.keep (fun b x hb hx => hk b x hb (hne _ _ hb (by omega))) fun b o n c z e x hx => by
      obtain ⟨ws, h3, h4⟩ := h.notes.ofKind e
      exact hk b x hx (hne _ _ hx (by rw [h3] at hx; cases hx; omega))
    ne := h.ne
    ad := h.ad
    an := h.an
    asf := h.asf
    ac := h.ac
    files := fun i p hi => by
      obtain ⟨h1, bv, h2, h3⟩ := h.files i p hi
      exact ⟨h1, bv, hk _ _ h2 (hne _ _ h2 (by rw [h3.ofKind]; decide)), h3.keep fun b x hb hx => hk b x hb (hne _ _ hb (by omega))⟩
    inj := h.inj }

/-- An operation begins. -/
def DM.op (M : DM) (ok : Bool) : DM := { M with fuse := (opM ok M.fuse M.off).2.1, off := (opM ok M.fuse M.off).2.2 }
def DM.err (M : DM) (ok : Bool) : Int := (opM ok M.fuse M.off).1

structure DM.OK (M : DM) : Prop where
  now : ∀ p ∈ M.now, p.2 < M.files.length
  sf : ∀ p ∈ M.sf, p.2 < M.files.length
  notes : ∀ n i, Note.make n i ∈ M.notes → i < M.files.length
  f1 : -1 ≤ M.fuse
  f2 : M.fuse < 9223372036854775808
  safe : ∀ (i : Nat) p, M.files[i]? = some p → p.2 ≤ p.1.length

theorem DM.OK.op {M : DM} (h : M.OK) (ok : Bool) : (M.op ok).OK := by
  refine ⟨h.now, h.sf, h.notes, ?_, ?_, h.safe⟩
  · show -1 ≤ (opM ok M.fuse M.off).2.1
    have := h.f1
    unfold opM; split
    · exact this
    · split
      · exact this
      · split
        · show (-1 : Int) ≤ -1; omega
        · split
          · show -1 ≤ M.fuse - 1; omega
          · exact this
  · show (opM ok M.fuse M.off).2.1 < _
    have := h.f2
    unfold opM; split
    · exact this
    · split
      · exact this
      · split
        · show (-1 : Int) < _; omega
        · split
          · show M.fuse - 1 < _; omega
          · exact this

theorem CoreAt.op27 (N : Nat) {H : AH} {d : Nat} {φ : Nat → Nat} {M : DM} {A : Nat → Prop} {nb sb : Nat} {cv : AV} {v1 v2 : Nat} (h : DA H d φ M A nb sb cv v1 v2) (ok : M.OK) {v : AV} {l : List Nm} (hl : StrsAt H v l) (hb : l.length ≤ 1000000) :
    AC tC N 0 72 [.ptr d 0, v] H fun r K => r = .int .i64 (M.err (l.all nameOK)) ∧ DA K d φ (M.op (l.all nameOK)) A nb sb cv v1 v2 ∧ K.next = H.next ∧ ∀ b, b ≠ d → K.get b = H.get b :=
  (YtgihociajfgohaaGreatDoor.op27 N H h.core ok.f1 ok.f2 hl hb).mono fun r K ⟨h1, h2, h3, h4⟩ => ⟨h1, h.op (by omega) h3 fun b x hb hne => by rw [h4 b hne]; exact hb, h2, h4⟩

theorem mapE_congr {φ ψ : Nat → Nat} {E : Ents} {n : Nat} (hE : ∀ p ∈ E, p.2 < n) (h : ∀ i, i < n → ψ i = φ i) : mapE ψ E = mapE φ E :=
  List.map_congr_left fun p hp => by rw [h _ (hE p hp)]
theorem at_congr {φ ψ : Nat → Nat} {l : List Note} {n : Nat} (hl : ∀ m i, Note.make m i ∈ l → i < n) (h : ∀ i, i < n → ψ i = φ i) : l.map (Note.at ψ) = l.map (Note.at φ) :=
  List.map_congr_left fun nt hn => by
    cases nt with
    | make m i => simp only [Note.at]; rw [h _ (hl m i hn)]
    | ren a b => rfl
    | rem m => rfl

/-- The blocks' numbers may be told otherwise where no file is. -/
theorem DA.congr {H : AH} {d : Nat} {φ ψ : Nat → Nat} {M : DM} {A : Nat → Prop} {nb sb : Nat} {cv : AV} {v1 v2 : Nat} (h : DA H d φ M A nb sb cv v1 v2) (ok : M.OK) (he : ∀ i, i < M.files.length → ψ i = φ i) : DA H d ψ M A nb sb cv v1 v2 where
  core := h.core
  now := by rw [mapE_congr ok.now he]; exact h.now
  ver1 := h.ver1
  sf := by rw [mapE_congr ok.sf he]; exact h.sf
  ver2 := h.ver2
  notes := by rw [at_congr ok.notes he]; exact h.notes
  ne := h.ne
  ad := h.ad
  an := h.an
  asf := h.asf
  ac := h.ac
  files i p hi := by rw [he i (List.getElem?_eq_some_iff.1 hi).1]; exact h.files i p hi
  inj i j hi hj := by rw [he i hi, he j hj]; exact h.inj i j hi hj

theorem StaysA.of {H K : AH} {A : Nat → Prop} (hw : WF H) (h : Stays H K) : StaysA H K A := ⟨fun b x hb _ => h.get b x (hw b x hb) hb, h.next⟩
theorem StaysA.mk (H : AH) (A : Nat → Prop) (m : Nat) (hm : H.next ≤ m) : StaysA H ⟨H.t, m⟩ A := ⟨fun _ _ h _ => h, hm⟩

theorem DA.neD {H : AH} {d : Nat} {φ : Nat → Nat} {M : DM} {A : Nat → Prop} {nb sb : Nat} {cv : AV} {v1 v2 : Nat} (h : DA H d φ M A nb sb cv v1 v2) {b : Nat} {x : AO} (hb : H.get b = some x) (hx : kind x ≠ 0) : b ≠ d := by
  have hck := core_kind (room := M.room) (nb := nb) (sb := sb) (fuse := M.fuse) (off := M.off) h.notes
  exact ne_of_kind hb h.core (by rw [hck]; exact hx)

/-- New blocks, then the beginning of an operation: what is not the disk's stays. -/
theorem Apart.op {H H1 K : AH} {d : Nat} {φ : Nat → Nat} {M : DM} {A : Nat → Prop} {nb sb : Nat} {cv : AV} {v1 v2 : Nat} (h : DA H d φ M A nb sb cv v1 v2) (hw : WF H) (hs : Stays H H1) (hn : K.next = H1.next) (hk : ∀ b, b ≠ d → K.get b = H1.get b) : Apart H K A :=
  ⟨fun b x hb hx => by
    have : b ≠ d := by
      rcases hx with hx | hx
      · exact fun e => hx (by rw [e]; exact h.ad)
      · exact h.neD hb (by omega)
    rw [hk b this]; exact hs.get b x (hw b x hb) hb, by have := hs.next; omega⟩

theorem AddR.mono {A : Nat → Prop} {m n k l : Nat} (h1 : m ≤ k) (h2 : n ≤ l) (h3 : m ≤ n) : ∀ b, AddR (AddR A m k) n l b → AddR A m (max k l) b := fun b h => by
  rcases h with (h | ⟨h, h'⟩) | ⟨h, h'⟩
  · exact .inl h
  · exact .inr ⟨h, by omega⟩
  · exact .inr ⟨by omega, by omega⟩
theorem DiskAt.mono {H : AH} {d : Nat} {M : DM} {A A' : Nat → Prop} (h : DiskAt H d M A) (hA : ∀ b, A b → A' b) : DiskAt H d M A' := h.keep ⟨fun _ _ h _ => h, Nat.le_refl _⟩ hA

/-- One more file. -/
theorem DA.addFile {H : AH} {d : Nat} {φ : Nat → Nat} {M : DM} {A : Nat → Prop} {nb sb : Nat} {cv : AV} {v1 v2 : Nat} (h : DA H d φ M A nb sb cv v1 v2) (ok : M.OK) {m : Nat} {bv : AV} {l : List UInt8} {s : Nat} (hm : H.get m = some (.cells false [bv, .int .i64 s])) (hb : FB H bv l) (ha : A m) (hn : ∀ i, i < M.files.length → φ i ≠ m) :
    DA H d (fun i => if i = M.files.length then m else φ i) { M with files := M.files ++ [(l, s)] } A nb sb cv v1 v2 := by
  have he : ∀ i, i < M.files.length → (fun i => if i = M.files.length then m else φ i) i = φ i := fun i hi => by
    show (if i = M.files.length then m else φ i) = φ i
    rw [if_neg (by omega)]
  have h' := h.congr ok he
  exact {
    core := h'.core
    now := h'.now
    ver1 := h'.ver1
    sf := h'.sf
    ver2 := h'.ver2
    notes := h'.notes
    ne := h'.ne
    ad := h'.ad
    an := h'.an
    asf := h'.asf
    ac := h'.ac
    files := fun i p hi => by
      by_cases hl : i < M.files.length
      · rw [List.getElem?_append_left hl] at hi
        exact h'.files i p hi
      · rw [List.getElem?_append_right (by omega)] at hi
        have : i - M.files.length = 0 := by
          have := (List.getElem?_eq_some_iff.1 hi).1
          simp at this; omega
        rw [this] at hi
        simp at hi
        subst hi
        rw [if_pos (by omega)]
        exact ⟨ha, bv, hm, hb⟩
    inj := fun i j hi hj => by
      simp only [List.length_append, List.length_cons, List.length_nil] at hi hj
      show (if i = M.files.length then m else φ i) = (if j = M.files.length then m else φ j) → i = j
      by_cases h1 : i = M.files.length <;> by_cases h2 : j = M.files.length
      · intro _; omega
      · rw [if_pos h1, if_neg h2]; exact fun e => absurd e.symm (hn j (by omega))
      · rw [if_neg h1, if_pos h2]; exact fun e => absurd e (hn i (by omega))
      · rw [if_neg h1, if_neg h2]; exact h.inj i j (by omega) (by omega) }

/-- A change was done and noted. -/
theorem DA.changed {H K : AH} {d : Nat} {φ : Nat → Nat} {M : DM} {A : Nat → Prop} {nb sb : Nat} {cv : AV} {v1 v2 : Nat} (h : DA H d φ M A nb sb cv v1 v2) (hw : WF H) {nt : Note} (hcK : ∀ b x, K.get b = some x → b < K.next)
    (hc : Changed H K d M.room nb sb cv M.fuse M.off ((nt.at φ).do (mapE φ M.now)) (M.notes.map (Note.at φ) ++ [nt.at φ])) :
    DiskAt K d { M with now := nt.do M.now, notes := M.notes ++ [nt] } (AddR A H.next K.next) ∧ Apart H K A := by
  have hcv : ∀ b x, H.get b = some x → kind x ≠ 2 → ∀ o n c z, cv ≠ .slice b o n c z := fun b x hb h1 o n c z e => by
    obtain ⟨ws', h3, h4⟩ := h.notes.ofKind e
    rw [hb] at h3; cases h3
    exact h1 h4
  have hstay : ∀ b x, H.get b = some x → kind x ≠ 0 → kind x ≠ 2 → b ≠ nb → K.get b = some x := fun b x hb k0 k2 hn => by
    rw [hc.rest b (hw b x hb) (h.neD hb k0) hn (hcv b x hb k2)]; exact hb
  obtain ⟨cv', c1, c2, c3⟩ := hc.core
  obtain ⟨v', c4, c5⟩ := hc.now
  have hn : ∀ b x, H.get b = some x → kind x ≠ 1 → b ≠ nb := fun b x hb hk => ne_of_kind hb h.now (by rw [kind_map]; exact hk)
  refine ⟨⟨φ, nb, sb, cv', v', v2, ?_⟩, fun b x hb hx => ?_, hc.next⟩
  · rw [do_mapE] at c4
    exact {
      core := c1
      now := c4
      ver1 := c5
      sf := hstay _ _ h.sf (by rw [kind_map]; decide) (by rw [kind_map]; decide) (fun e => h.ne e.symm)
      ver2 := Nat.lt_of_lt_of_le h.ver2 hc.next
      notes := by simpa using c2
      ne := h.ne
      ad := .inl h.ad
      an := .inl h.an
      asf := .inl h.asf
      ac := fun b o n c z e => by
        rcases c2 with ⟨c2, _⟩ | ⟨cb, ws, c2, _, c6, _⟩
        · rw [c2] at e; cases e
        · rw [c2] at e; cases e
          exact .inr ⟨c3 _ _ _ _ _ c2, hcK _ _ c6⟩
      files := fun i p hi => by
        obtain ⟨h1, bv, h2, h3⟩ := h.files i p hi
        have hk := h3.ofKind (p.2 : Nat)
        refine ⟨.inl h1, bv, hstay _ _ h2 (by rw [hk]; decide) (by rw [hk]; decide) (hn _ _ h2 (by rw [hk]; decide)), h3.keep fun b x hb hx => hstay b x hb (by omega) (by omega) (hn b x hb (by omega))⟩
      inj := h.inj }
  · rcases hx with hx | hx
    · rw [hc.rest b (hw b x hb) (fun e => hx (by rw [e]; exact h.ad)) (fun e => hx (by rw [e]; exact h.an)) (fun o n c z e => hx (h.ac b o n c z e))]; exact hb
    · exact hstay b x hb (by omega) (by omega) (hn b x hb (by omega))
end Go.Proofs.YtgihociajfgohaaGreatDoor

open Go Go.AB Go.Proofs
namespace Go.Proofs.YtgihociajfgohaaGreatDoor
set_option maxRecDepth 100000

def DM.make (M : DM) (n : Nm) : Int × DM :=
  if M.err (nameOK n) ≠ 0 then (M.err (nameOK n), M.op (nameOK n))
  else if (getN M.now n).isSome then (7, M.op (nameOK n))
  else (0, { M.op (nameOK n) with files := M.files ++ [([], 0)], now := setN M.now n M.files.length, notes := M.notes ++ [.make n M.files.length] })

theorem strs1 {H : AH} {b : Nat} {n : Nm} (h : H.get b = some (.cells false [.str n])) : StrsAt H (.slice b 0 1 (.ex 1) 1) [n] :=
  .inr ⟨b, .ex 1, false, [.str n], rfl, h, fun i s hi => by
    cases i with
    | zero => simp at hi; subst hi; rfl
    | succ i => simp at hi⟩

theorem bd87_0 : abuild tC 87 [] = some (.agg [.nils, .int .i64 0]) := by kernel_rfl
theorem al85 (F : Fns) (H : AH) (ev : Operand → AV) (dst : Option Tmp) (ty : TypeId) (pos : String) (after : Array Edge) (guard : Option (Nat × Bool)) : evOp tC F H ev { dst, op := .alloc 85, type := ty, pos, after, guard } = some (.ptr H.next 0, H.alloc (.cells false [.nilp])) := evOp_alloc1 ti85 rfl rfl

set_option maxHeartbeats 1000000 in
theorem make8 (N : Nat) (H : AH) {d : Nat} {M : DM} {A : Nat → Prop} (hA : ∀ b, A b → b < H.next) {n : Nm} (h : DiskAt H d M A) (ok : M.OK) (hlen : M.notes.length ≤ 1000000) :
    AC tC N 0 66 [.ptr d 0, .str n] H fun r K => r = .int .i64 (M.make n).1 ∧ DiskAt K d (M.make n).2 (AddR A H.next K.next) ∧ Apart H K A := by
  refine AC.wf0 fun hwf => ?_
  obtain ⟨φ, nb, sb, cv, v1, v2, h⟩ := h
  refine AC.by (n := 26) (rs := [.tmp 4]) tOK fn66 rfl rfl rfl rfl ?_
  have e0 : (PT.ofList .leaf 0 [AV.ptr d 0, .str n]).get 0 = some (.ptr d 0) := rfl
  have e1 : (PT.ofList .leaf 0 [AV.ptr d 0, .str n]).get 1 = some (.str n) := rfl
  have n01 : ¬ H.next = H.next + 1 := by omega
  with_reducible repeat' (first
 | refine AW.seq ?_
 | refine AW.region ?_
 | refine AOs.nil ?_
 | refine andThen_normal ?_
 | ((first
 | refine AOs.op1E tOK (by with_unfolding_all rfl) ?_
 ); refine Step.mk (by simp only [evOp_move, evOp_assign, evOp_load, evOp_boxC, boxC_one, one_str, aeval, ofVal, PT.get_set, Nat.reduceEqDiff, reduceIte, cellAt, Option.map_some, List.getElem?_cons_zero, eq_self, ld9, e0, e1, AH.get_alloc, bs37_1, AH.next_alloc]; rfl) ?_)
 | fail "stop")
  have hs1 : Stays H ((H.alloc (.cells false [.str n])).alloc (.cells false [.str n])) := ((Stays.refl H).alloc _).alloc _
  have hbn : ((H.alloc (.cells false [.str n])).alloc (.cells false [.str n])).get H.next = some (.cells false [.str n]) := by
    rw [AH.get_alloc, if_neg (by simp), AH.get_alloc, if_pos rfl]
  have hwd := hwf _ _ h.core
  refine AOs.callQ tOK (fs := []) (cs := []) rfl fn72 ok72 rfl (by simp only [List.map_cons, List.map_nil, List.nil_append, List.append_nil, aeval, PT.get_set, Nat.reduceEqDiff, reduceIte] <;> rfl) (CoreAt.op27 N (h.keep (A' := A) (StaysA.of hwf hs1) fun _ => id) ok (strs1 (b := H.next + 1) (n := n) (by rw [AH.get_alloc, if_pos (by simp)])) (by simp)).wf ?_
  have hall : [n].all nameOK = nameOK n := by simp
  rw [hall]
  rintro r K ⟨⟨rfl, hK, hnx, hrest⟩, hwK⟩
  have hap := Apart.op h hwf hs1 hnx hrest
  have hnx' : K.next = H.next + 2 := hnx
  have hsub : ∀ b, A b → AddR A H.next K.next b := fun b hb => .inl hb
  by_cases he : M.err (nameOK n) = 0
  · have hcK : ∀ m, AH.get ⟨K.t, m⟩ d = _ := fun m => hK.core
    have hnK : ∀ m, AH.get ⟨K.t, m⟩ nb = _ := fun m => hK.now
    have hbK : ∀ m, AH.get ⟨K.t, m⟩ H.next = some (.cells false [.str n]) := fun m => by
      show K.get H.next = _
      rw [hrest _ (by omega)]; exact hbn
    have hbK0 := hbK K.next
    cases hg : getN M.now n with
    | some i =>
      have hg' : getN (M.op (nameOK n)).now n = some i := hg
      with_reducible repeat' (first
 | refine AW.seq ?_
 | refine AW.region ?_
 | refine AOs.nil ?_
 | refine AW.skip ?_
 | refine AW.ret ?_
 | refine andThen_normal ?_
 | refine andThen_ret ?_
 | refine AW.condT (by simp only [aeval, PT.get_set, Nat.reduceEqDiff, reduceIte, he]; rfl) (by first | rfl | decide | assumption) ?_
 | refine AW.condF (by simp only [aeval, PT.get_set, Nat.reduceEqDiff, reduceIte, he]; rfl) (by first | rfl | decide | assumption) ?_
 | refine AW.drawG tOK (F0_ok _ _ _) QuietF0 (by kernel_rfl) (fun m hm => ?_)
 | refine QO.nil ?_
 | refine Same.mk ?_
 | ((first
 | refine AOs.op1E tOK (by with_unfolding_all rfl) ?_
 | refine QO.op1E (by with_unfolding_all rfl) ?_
 ); refine Step.mk (by simp only [evOp_move, evOp_assign, evOp_nilCheck, evOp_binOp, evOp_fieldAddr, evOp_load, evOp_lookup, aeval, ofVal, PT.get_set, Nat.reduceEqDiff, reduceIte, cellAt, lookAt, Option.map_some, abin_neq, decide_true, Bool.not_true, List.getElem?_cons_zero, List.getElem?_cons_succ, Nat.zero_add, eq_self, ld9, ld72, lk72, fa75_1, ne85a, e0, he, hcK, hnK, hbK, mget_ents, getN_mapE, hg', Option.getD_some]; rfl) ?_)
 | fail "stop")
      refine fnPost_ret1 (by first | (simp only [PT.get_set, Nat.reduceEqDiff, reduceIte]; rfl) | simp only [PT.get_set, Nat.reduceEqDiff, reduceIte]) ⟨?_, ?_, ?_⟩
      · simp [DM.make, he, hg]
      · simp only [DM.make, he, hg, ne_eq, not_true_eq_false, if_false, Option.isSome_some, if_true]
        exact ⟨φ, nb, sb, cv, v1, v2, hK.keep (StaysA.mk K A m hm) fun b hb => .inl hb⟩
      · exact ⟨fun b x hb hx => hap.1 b x hb hx, Nat.le_trans hap.2 hm⟩
    | none =>
      have hg' : getN (M.op (nameOK n)).now n = none := hg
      with_reducible repeat' (first
 | refine AW.seq ?_
 | refine AW.region ?_
 | refine AOs.nil ?_
 | refine AW.skip ?_
 | refine andThen_normal ?_
 | refine AW.condF (by simp only [aeval, PT.get_set, Nat.reduceEqDiff, reduceIte, he]; rfl) (by first | rfl | decide | assumption) ?_
 | refine AW.drawG tOK (F0_ok _ _ _) QuietF0 (by kernel_rfl) (fun m hm => ?_)
 | refine QO.nil ?_
 | refine Same.mk ?_
 | ((first
 | refine AOs.op1E tOK (by with_unfolding_all rfl) ?_
 | refine AOs.op0E tOK ?_
 | refine QO.op1E (by with_unfolding_all rfl) ?_
 ); refine Step.mk (by simp only [evOp_move, evOp_assign, evOp_build, evOp_nilCheck, evOp_binOp, evOp_fieldAddr, evOp_makeFunc, evOp_load, evOp_lookup, evOp_store, evOp_boxC, boxC_agg, storeAt, one_ptr, aeval, ofVal, PT.get_set, Nat.reduceEqDiff, reduceIte, cellAt, lookAt, List.map_cons, List.map_nil, Option.map_some, Option.map_none, abin_neq, decide_true, Bool.not_true, List.getElem?_cons_zero, List.getElem?_cons_succ, Nat.zero_add, nblt, Nat.reduceLT, List.length_cons, List.length_nil, List.set_cons_zero, eq_self, ld9, ld72, lk72, fa75_1, ne85b, st85, e0, he, hcK, hnK, hbK, mget_ents, getN_mapE, hg', Option.getD_none, bd87_0, al85, AH.get_alloc]; rfl) ?_)
 | fail "stop")
      have hnm : (AH.alloc ⟨K.t, m⟩ (.cells false [.nils, .int .i64 0])).next = m + 1 := rfl
      rw [hnm]
      generalize hL : ((AH.alloc ⟨K.t, m⟩ (.cells false [.nils, .int .i64 0])).alloc (.cells false [.nilp])).set (m + 1) (.cells false [.ptr m 0]) = L
      have hLn : L.next = m + 2 := by rw [← hL]; rfl
      have hLm : L.get m = some (.cells false [.nils, .int .i64 (0 : Nat)]) := by
        rw [← hL, AH.get_set, if_neg (by omega), AH.get_alloc, if_neg (by rw [hnm]; omega), AH.get_alloc, if_pos rfl]; rfl
      have hLp : L.get (m + 1) = some (.cells false [.ptr m 0]) := by rw [← hL, AH.get_set, if_pos rfl]
      have hLK : ∀ b x, K.get b = some x → L.get b = some x := fun b x hb => by
        have := hwK b x hb
        rw [← hL, AH.get_set, if_neg (by omega), AH.get_alloc, if_neg (by rw [hnm]; omega), AH.get_alloc, if_neg (by show ¬ b = m; omega)]; exact hb
      have hDL := (hK.keep (K := L) (A' := AddR A H.next L.next) ⟨fun b x hb _ => hLK b x hb, by omega⟩ fun b hb => .inl hb).addFile (l := []) (s := 0) (ok.op _) hLm (.inl ⟨rfl, rfl⟩) (.inr ⟨by omega, by omega⟩) (fun i hi e => by
        obtain ⟨_, bv, h2, _⟩ := hK.files i _ (List.getElem?_eq_getElem hi)
        have := hwK _ _ h2
        omega)
      have hap2 : Apart H L A := ⟨fun b x hb hx => hLK b x (hap.1 b x hb hx), by omega⟩
      refine AOs.wf0 fun hwL => ?_
      have hch := change28 N L hDL.core hDL.now hDL.ver1 (fv := .func 93 [] [.ptr (m + 1) 0, .ptr H.next 0]) (nt := (Note.make n M.files.length).at (fun i => if i = M.files.length then m else φ i)) ⟨m + 1, H.next, rfl, by simp only [if_true]; exact hLp, hLK _ _ hbK0⟩ hDL.notes (by simpa [DM.op] using hlen)
      refine AOs.callQ tOK (fs := []) (cs := []) rfl fn79 ok79 rfl (by simp only [List.map_cons, List.map_nil, List.nil_append, List.append_nil, aeval, PT.get_set, Nat.reduceEqDiff, reduceIte] <;> rfl) hch.wf ?_
      rintro r K2 ⟨hchg, hwK2⟩
      obtain ⟨hfin, hap3⟩ := hDL.changed (nt := .make n M.files.length) hwL hwK2 hchg
      with_reducible repeat' (first
 | refine AW.seq ?_
 | refine AW.region ?_
 | refine AOs.nil ?_
 | refine AW.ret ?_
 | refine andThen_normal ?_
 | ((first
 | refine AOs.op1E tOK (by with_unfolding_all rfl) ?_
 ); refine Step.mk (by simp only [evOp_assign, aeval, ofVal]; rfl) ?_)
 | fail "stop")
      refine fnPost_ret1 (by first | (simp only [PT.get_set, Nat.reduceEqDiff, reduceIte]; rfl) | simp only [PT.get_set, Nat.reduceEqDiff, reduceIte]) ⟨?_, ?_, hap2.trans hwf hap3⟩
      · simp [DM.make, he, hg]
      · simp only [DM.make, he, hg, ne_eq, not_true_eq_false, if_false, Option.isSome_none, Bool.false_eq_true]
        refine hfin.mono fun b hb => ?_
        rcases hb with (hb | ⟨h1, h2⟩) | ⟨h1, h2⟩
        · exact .inl hb
        · exact .inr ⟨h1, Nat.lt_of_lt_of_le h2 hchg.next⟩
        · exact .inr ⟨by omega, h2⟩
  · with_reducible repeat' (first
 | refine AW.seq ?_
 | refine AW.region ?_
 | refine AOs.nil ?_
 | refine AW.ret ?_
 | refine andThen_normal ?_
 | refine andThen_ret ?_
 | refine AW.condT (by simp only [aeval, PT.get_set, Nat.reduceEqDiff, reduceIte]; rfl) (by first | rfl | decide | assumption) ?_
 | ((first
 | refine AOs.op1E tOK (by with_unfolding_all rfl) ?_
 ); refine Step.mk (by simp only [evOp_move, evOp_assign, evOp_binOp, aeval, ofVal, PT.get_set, Nat.reduceEqDiff, reduceIte, Option.map_some, abin_neq, decide_false, Bool.not_false, eq_self, he]; rfl) ?_)
 | fail "stop")
    refine fnPost_ret1 (by first | (simp only [PT.get_set, Nat.reduceEqDiff, reduceIte]; rfl) | simp only [PT.get_set, Nat.reduceEqDiff, reduceIte]) ⟨?_, ?_, hap⟩
    · simp [DM.make, he]
    · simp only [DM.make, he, ne_eq, not_false_eq_true, if_true]
      exact ⟨φ, nb, sb, cv, v1, v2, hK.keep ⟨fun _ _ h _ => h, Nat.le_refl _⟩ hsub⟩
end Go.Proofs.YtgihociajfgohaaGreatDoor

open Go Go.AB Go.Proofs
namespace Go.Proofs.YtgihociajfgohaaGreatDoor
set_option maxRecDepth 100000

def DM.remove (M : DM) (n : Nm) : Int × DM :=
  if M.err (nameOK n) ≠ 0 then (M.err (nameOK n), M.op (nameOK n))
  else if (getN M.now n).isNone then (6, M.op (nameOK n))
  else (0, { M.op (nameOK n) with now := delN M.now n, notes := M.notes ++ [.rem n] })

set_option maxHeartbeats 1000000 in
theorem remove39 (N : Nat) (H : AH) {d : Nat} {M : DM} {A : Nat → Prop} {n : Nm} (h : DiskAt H d M A) (ok : M.OK) (hlen : M.notes.length ≤ 1000000) :
    AC tC N 0 49 [.ptr d 0, .str n] H fun r K => r = .int .i64 (M.remove n).1 ∧ DiskAt K d (M.remove n).2 (AddR A H.next K.next) ∧ Apart H K A := by
  refine AC.wf0 fun hwf => ?_
  obtain ⟨φ, nb, sb, cv, v1, v2, h⟩ := h
  refine AC.by (n := 23) (rs := [.tmp 4]) tOK fn49 rfl rfl rfl rfl ?_
  have e0 : (PT.ofList .leaf 0 [AV.ptr d 0, .str n]).get 0 = some (.ptr d 0) := rfl
  have e1 : (PT.ofList .leaf 0 [AV.ptr d 0, .str n]).get 1 = some (.str n) := rfl
  have n01 : ¬ H.next = H.next + 1 := by omega
  with_reducible repeat' (first
 | refine AW.seq ?_
 | refine AW.region ?_
 | refine AOs.nil ?_
 | refine andThen_normal ?_
 | ((first
 | refine AOs.op1E tOK (by with_unfolding_all rfl) ?_
 ); refine Step.mk (by simp only [evOp_move, evOp_assign, evOp_load, evOp_boxC, boxC_one, one_str, aeval, ofVal, PT.get_set, Nat.reduceEqDiff, reduceIte, cellAt, Option.map_some, List.getElem?_cons_zero, eq_self, ld9, e0, e1, AH.get_alloc, bs37_1, AH.next_alloc]; rfl) ?_)
 | fail "stop")
  have hs1 : Stays H ((H.alloc (.cells false [.str n])).alloc (.cells false [.str n])) := ((Stays.refl H).alloc _).alloc _
  have hbn : ((H.alloc (.cells false [.str n])).alloc (.cells false [.str n])).get H.next = some (.cells false [.str n]) := by
    rw [AH.get_alloc, if_neg (by simp), AH.get_alloc, if_pos rfl]
  have hwd := hwf _ _ h.core
  refine AOs.callQ tOK (fs := []) (cs := []) rfl fn72 ok72 rfl (by simp only [List.map_cons, List.map_nil, List.nil_append, List.append_nil, aeval, PT.get_set, Nat.reduceEqDiff, reduceIte] <;> rfl) (CoreAt.op27 N (h.keep (A' := A) (StaysA.of hwf hs1) fun _ => id) ok (strs1 (b := H.next + 1) (n := n) (by rw [AH.get_alloc, if_pos (by simp)])) (by simp)).wf ?_
  have hall : [n].all nameOK = nameOK n := by simp
  rw [hall]
  rintro r K ⟨⟨rfl, hK, hnx, hrest⟩, hwK⟩
  have hap := Apart.op h hwf hs1 hnx hrest
  have hnx' : K.next = H.next + 2 := hnx
  by_cases he : M.err (nameOK n) = 0
  · have hcK : ∀ m, AH.get ⟨K.t, m⟩ d = _ := fun m => hK.core
    have hnK : ∀ m, AH.get ⟨K.t, m⟩ nb = _ := fun m => hK.now
    have hbK : ∀ m, AH.get ⟨K.t, m⟩ H.next = some (.cells false [.str n]) := fun m => by
      show K.get H.next = _
      rw [hrest _ (by omega)]; exact hbn
    have hbK0 := hbK K.next
    cases hg : getN M.now n with
    | none =>
      have hg' : getN (M.op (nameOK n)).now n = none := hg
      with_reducible repeat' (first
 | refine AW.seq ?_
 | refine AW.region ?_
 | refine AOs.nil ?_
 | refine AW.skip ?_
 | refine AW.ret ?_
 | refine andThen_normal ?_
 | refine andThen_ret ?_
 | refine AW.condT (by simp only [aeval, PT.get_set, Nat.reduceEqDiff, reduceIte, he]; rfl) (by first | rfl | decide | assumption) ?_
 | refine AW.condF (by simp only [aeval, PT.get_set, Nat.reduceEqDiff, reduceIte, he]; rfl) (by first | rfl | decide | assumption) ?_
 | refine AW.drawG tOK (F0_ok _ _ _) QuietF0 (by kernel_rfl) (fun m hm => ?_)
 | refine QO.nil ?_
 | refine Same.mk ?_
 | ((first
 | refine AOs.op1E tOK (by with_unfolding_all rfl) ?_
 | refine QO.op1E (by with_unfolding_all rfl) ?_
 ); refine Step.mk (by simp only [evOp_move, evOp_assign, evOp_nilCheck, evOp_binOp, evOp_fieldAddr, evOp_load, evOp_lookup, aeval, ofVal, PT.get_set, Nat.reduceEqDiff, reduceIte, cellAt, lookAt, Option.map_some, Option.map_none, abin_neq, decide_true, Bool.not_true, List.getElem?_cons_zero, List.getElem?_cons_succ, Nat.zero_add, eq_self, ld9, ld72, lk72, fa75_1, eq85b, e0, he, hcK, hnK, hbK, mget_ents, getN_mapE, hg', Option.getD_none]; rfl) ?_)
 | fail "stop")
      refine fnPost_ret1 (by first | (simp only [PT.get_set, Nat.reduceEqDiff, reduceIte]; rfl) | simp only [PT.get_set, Nat.reduceEqDiff, reduceIte]) ⟨?_, ?_, ?_⟩
      · simp [DM.remove, he, hg]
      · simp only [DM.remove, he, hg, ne_eq, not_true_eq_false, if_false, Option.isNone_none, if_true]
        exact ⟨φ, nb, sb, cv, v1, v2, hK.keep (StaysA.mk K A m hm) fun b hb => .inl hb⟩
      · exact ⟨fun b x hb hx => hap.1 b x hb hx, Nat.le_trans hap.2 hm⟩
    | some i =>
      have hg' : getN (M.op (nameOK n)).now n = some i := hg
      with_reducible repeat' (first
 | refine AW.seq ?_
 | refine AW.region ?_
 | refine AOs.nil ?_
 | refine AW.skip ?_
 | refine andThen_normal ?_
 | refine AW.condF (by simp only [aeval, PT.get_set, Nat.reduceEqDiff, reduceIte, he]; rfl) (by first | rfl | decide | assumption) ?_
 | refine AW.drawG tOK (F0_ok _ _ _) QuietF0 (by kernel_rfl) (fun m hm => ?_)
 | refine QO.nil ?_
 | refine Same.mk ?_
 | ((first
 | refine AOs.op1E tOK (by with_unfolding_all rfl) ?_
 | refine QO.op1E (by with_unfolding_all rfl) ?_
 ); refine Step.mk (by simp only [evOp_move, evOp_assign, evOp_nilCheck, evOp_binOp, evOp_fieldAddr, evOp_makeFunc, evOp_load, evOp_lookup, aeval, ofVal, PT.get_set, Nat.reduceEqDiff, reduceIte, cellAt, lookAt, List.map_cons, List.map_nil, Option.map_some, abin_neq, decide_true, Bool.not_true, List.getElem?_cons_zero, List.getElem?_cons_succ, Nat.zero_add, eq_self, ld9, ld72, lk72, fa75_1, eq85a, e0, he, hcK, hnK, hbK, mget_ents, getN_mapE, hg', Option.getD_some]; rfl) ?_)
 | fail "stop")
      have hDL := hK.keep (K := ⟨K.t, m⟩) (A' := AddR A H.next m) (StaysA.mk K A m hm) fun b hb => .inl hb
      have hap2 : Apart H ⟨K.t, m⟩ A := ⟨fun b x hb hx => hap.1 b x hb hx, Nat.le_trans hap.2 hm⟩
      refine AOs.wf0 fun hwL => ?_
      have hch := change28 N ⟨K.t, m⟩ hDL.core hDL.now hDL.ver1 (fv := .func 80 [] [.ptr H.next 0]) (nt := (Note.rem n).at φ) ⟨H.next, rfl, hbK m⟩ hDL.notes (by simpa [DM.op] using hlen)
      refine AOs.callQ tOK (fs := []) (cs := []) rfl fn79 ok79 rfl (by simp only [List.map_cons, List.map_nil, List.nil_append, List.append_nil, aeval, PT.get_set, Nat.reduceEqDiff, reduceIte] <;> rfl) hch.wf ?_
      rintro r K2 ⟨hchg, hwK2⟩
      obtain ⟨hfin, hap3⟩ := hDL.changed (nt := .rem n) hwL hwK2 hchg
      with_reducible repeat' (first
 | refine AW.seq ?_
 | refine AW.region ?_
 | refine AOs.nil ?_
 | refine AW.ret ?_
 | refine andThen_normal ?_
 | ((first
 | refine AOs.op1E tOK (by with_unfolding_all rfl) ?_
 ); refine Step.mk (by simp only [evOp_assign, aeval, ofVal]; rfl) ?_)
 | fail "stop")
      refine fnPost_ret1 (by first | (simp only [PT.get_set, Nat.reduceEqDiff, reduceIte]; rfl) | simp only [PT.get_set, Nat.reduceEqDiff, reduceIte]) ⟨?_, ?_, hap2.trans hwf hap3⟩
      · simp [DM.remove, he, hg]
      · simp only [DM.remove, he, hg, ne_eq, not_true_eq_false, if_false, Option.isNone_some, Bool.false_eq_true]
        refine hfin.mono fun b hb => ?_
        have := hchg.next
        rcases hb with (hb | ⟨h1, h2⟩) | ⟨h1, h2⟩
        · exact .inl hb
        · exact .inr ⟨h1, Nat.lt_of_lt_of_le h2 hchg.next⟩
        · exact .inr ⟨by show H.next ≤ b; have : m ≤ b := h1; omega, h2⟩
  · with_reducible repeat' (first
 | refine AW.seq ?_
 | refine AW.region ?_
 | refine AOs.nil ?_
 | refine AW.ret ?_
 | refine andThen_normal ?_
 | refine andThen_ret ?_
 | refine AW.condT (by simp only [aeval, PT.get_set, Nat.reduceEqDiff, reduceIte]; rfl) (by first | rfl | decide | assumption) ?_
 | ((first
 | refine AOs.op1E tOK (by with_unfolding_all rfl) ?_
 ); refine Step.mk (by simp only [evOp_move, evOp_assign, evOp_binOp, aeval, ofVal, PT.get_set, Nat.reduceEqDiff, reduceIte, Option.map_some, abin_neq, decide_false, Bool.not_false, eq_self, he]; rfl) ?_)
 | fail "stop")
    refine fnPost_ret1 (by first | (simp only [PT.get_set, Nat.reduceEqDiff, reduceIte]; rfl) | simp only [PT.get_set, Nat.reduceEqDiff, reduceIte]) ⟨?_, ?_, hap⟩
    · simp [DM.remove, he]
    · simp only [DM.remove, he, ne_eq, not_false_eq_true, if_true]
      exact ⟨φ, nb, sb, cv, v1, v2, hK.keep ⟨fun _ _ h _ => h, Nat.le_refl _⟩ fun b hb => .inl hb⟩

def DM.rename (M : DM) (a b : Nm) : Int × DM :=
  if M.err (nameOK a && nameOK b) ≠ 0 then (M.err (nameOK a && nameOK b), M.op (nameOK a && nameOK b))
  else if (getN M.now a).isNone then (6, M.op (nameOK a && nameOK b))
  else if a = b then (0, M.op (nameOK a && nameOK b))
  else (0, { M.op (nameOK a && nameOK b) with now := (Note.ren a b).do M.now, notes := M.notes ++ [.ren a b] })

theorem strs2 {H : AH} {b : Nat} {n m : Nm} (h : H.get b = some (.cells false [.str n, .str m])) : StrsAt H (.slice b 0 2 (.ex 2) 1) [n, m] :=
  .inr ⟨b, .ex 2, false, [.str n, .str m], rfl, h, fun i s hi => by
    match i with
    | 0 => simp at hi; subst hi; rfl
    | 1 => simp at hi; subst hi; rfl
    | i + 2 => simp at hi⟩
theorem bs37_2 (F : Fns) (H : AH) (ev : Operand → AV) (dst : Option Tmp) (ty : TypeId) (pos : String) (after : Array Edge) (guard : Option (Nat × Bool)) (x y : Operand) (hv : (ev x).one = true) (hw : (ev y).one = true) :
    evOp tC F H ev { dst, op := .buildSlice 37 2 ⟨[(0, x), (1, y)]⟩, type := ty, pos, after, guard } = some (.slice H.next 0 2 (.ex 2) 1, H.alloc (.cells false [ev x, ev y])) := evOp_buildSlice2 ti37 rfl ti9 rfl rfl rfl hv hw

set_option maxHeartbeats 2000000 in
theorem rename13 (N : Nat) (H : AH) {d : Nat} {M : DM} {A : Nat → Prop} {n n' : Nm} (h : DiskAt H d M A) (ok : M.OK) (hlen : M.notes.length ≤ 1000000) :
    AC tC N 0 70 [.ptr d 0, .str n, .str n'] H fun r K => r = .int .i64 (M.rename n n').1 ∧ DiskAt K d (M.rename n n').2 (AddR A H.next K.next) ∧ Apart H K A := by
  refine AC.wf0 fun hwf => ?_
  obtain ⟨φ, nb, sb, cv, v1, v2, h⟩ := h
  refine AC.by (n := 29) (rs := [.tmp 6]) tOK fn70 rfl rfl rfl rfl ?_
  have e0 : (PT.ofList .leaf 0 [AV.ptr d 0, .str n, .str n']).get 0 = some (.ptr d 0) := rfl
  have e1 : (PT.ofList .leaf 0 [AV.ptr d 0, .str n, .str n']).get 1 = some (.str n) := rfl
  have e2 : (PT.ofList .leaf 0 [AV.ptr d 0, .str n, .str n']).get 2 = some (.str n') := rfl
  have n01 : ¬ H.next = H.next + 1 := by omega
  with_reducible repeat' (first
 | refine AW.seq ?_
 | refine AW.region ?_
 | refine AOs.nil ?_
 | refine andThen_normal ?_
 | ((first
 | refine AOs.op1E tOK (by with_unfolding_all rfl) ?_
 ); refine Step.mk (by simp only [evOp_move, evOp_assign, evOp_load, evOp_boxC, boxC_one, one_str, aeval, ofVal, PT.get_set, Nat.reduceEqDiff, reduceIte, cellAt, Option.map_some, List.getElem?_cons_zero, eq_self, ld9, e0, e1, e2, AH.get_alloc, bs37_2, AH.next_alloc, n01]; rfl) ?_)
 | fail "stop")
  have hs1 : Stays H (((H.alloc (.cells false [.str n])).alloc (.cells false [.str n'])).alloc (.cells false [.str n, .str n'])) := (((Stays.refl H).alloc _).alloc _).alloc _
  have hbn : (((H.alloc (.cells false [.str n])).alloc (.cells false [.str n'])).alloc (.cells false [.str n, .str n'])).get H.next = some (.cells false [.str n]) := by
    rw [AH.get_alloc, if_neg (by simp; omega), AH.get_alloc, if_neg (by simp), AH.get_alloc, if_pos rfl]
  have hbn' : (((H.alloc (.cells false [.str n])).alloc (.cells false [.str n'])).alloc (.cells false [.str n, .str n'])).get (H.next + 1) = some (.cells false [.str n']) := by
    rw [AH.get_alloc, if_neg (by simp), AH.get_alloc, if_pos (by simp)]
  have hwd := hwf _ _ h.core
  refine AOs.callQ tOK (fs := []) (cs := []) rfl fn72 ok72 rfl (by simp only [List.map_cons, List.map_nil, List.nil_append, List.append_nil, aeval, PT.get_set, Nat.reduceEqDiff, reduceIte] <;> rfl) (CoreAt.op27 N (h.keep (A' := A) (StaysA.of hwf hs1) fun _ => id) ok (strs2 (b := H.next + 2) (n := n) (m := n') (by rw [AH.get_alloc, if_pos (by simp)])) (by simp)).wf ?_
  have hall : [n, n'].all nameOK = (nameOK n && nameOK n') := by simp
  rw [hall]
  rintro r K ⟨⟨rfl, hK, hnx, hrest⟩, hwK⟩
  have hap := Apart.op h hwf hs1 hnx hrest
  have hnx' : K.next = H.next + 3 := hnx
  by_cases he : M.err (nameOK n && nameOK n') = 0
  · have hcK : ∀ m, AH.get ⟨K.t, m⟩ d = _ := fun m => hK.core
    have hnK : ∀ m, AH.get ⟨K.t, m⟩ nb = _ := fun m => hK.now
    have hbK : ∀ m, AH.get ⟨K.t, m⟩ H.next = some (.cells false [.str n]) := fun m => by
      show K.get H.next = _
      rw [hrest _ (by omega)]; exact hbn
    have hbK' : ∀ m, AH.get ⟨K.t, m⟩ (H.next + 1) = some (.cells false [.str n']) := fun m => by
      show K.get (H.next + 1) = _
      rw [hrest _ (by omega)]; exact hbn'
    cases hg : getN M.now n with
    | none =>
      have hg' : getN (M.op (nameOK n && nameOK n')).now n = none := hg
      with_reducible repeat' (first
 | refine AW.seq ?_
 | refine AW.region ?_
 | refine AOs.nil ?_
 | refine AW.skip ?_
 | refine AW.ret ?_
 | refine andThen_normal ?_
 | refine andThen_ret ?_
 | refine AW.condT (by simp only [aeval, PT.get_set, Nat.reduceEqDiff, reduceIte, he]; rfl) (by first | rfl | decide | assumption) ?_
 | refine AW.condF (by simp only [aeval, PT.get_set, Nat.reduceEqDiff, reduceIte, he]; rfl) (by first | rfl | decide | assumption) ?_
 | refine AW.drawG tOK (F0_ok _ _ _) QuietF0 (by kernel_rfl) (fun m hm => ?_)
 | refine QO.nil ?_
 | refine Same.mk ?_
 | ((first
 | refine AOs.op1E tOK (by with_unfolding_all rfl) ?_
 | refine QO.op1E (by with_unfolding_all rfl) ?_
 ); refine Step.mk (by simp only [evOp_move, evOp_assign, evOp_nilCheck, evOp_binOp, evOp_fieldAddr, evOp_load, evOp_lookup, aeval, ofVal, PT.get_set, Nat.reduceEqDiff, reduceIte, cellAt, lookAt, Option.map_some, Option.map_none, abin_neq, decide_true, Bool.not_true, List.getElem?_cons_zero, List.getElem?_cons_succ, Nat.zero_add, eq_self, ld9, ld72, lk72, fa75_1, eq85b, e0, he, hcK, hnK, hbK, mget_ents, getN_mapE, hg', Option.getD_none]; rfl) ?_)
 | fail "stop")
      refine fnPost_ret1 (by first | (simp only [PT.get_set, Nat.reduceEqDiff, reduceIte]; rfl) | simp only [PT.get_set, Nat.reduceEqDiff, reduceIte]) ⟨?_, ?_, ?_⟩
      · simp [DM.rename, he, hg]
      · simp only [DM.rename, he, hg, ne_eq, not_true_eq_false, if_false, Option.isNone_none, if_true]
        exact ⟨φ, nb, sb, cv, v1, v2, hK.keep (StaysA.mk K A m hm) fun b hb => .inl hb⟩
      · exact ⟨fun b x hb hx => hap.1 b x hb hx, Nat.le_trans hap.2 hm⟩
    | some i =>
      have hg' : getN (M.op (nameOK n && nameOK n')).now n = some i := hg
      by_cases hnn : n = n'
      · subst hnn
        have hd : decide (n = n) = true := decide_eq_true rfl
        with_reducible repeat' (first
 | refine AW.seq ?_
 | refine AW.region ?_
 | refine AOs.nil ?_
 | refine AW.skip ?_
 | refine AW.ret ?_
 | refine andThen_normal ?_
 | refine AW.condF (by simp only [aeval, PT.get_set, Nat.reduceEqDiff, reduceIte, he]; rfl) (by first | rfl | decide | assumption) ?_
 | refine AW.drawG tOK (F0_ok _ _ _) QuietF0 (by kernel_rfl) (fun m hm => ?_)
 | refine QO.nil ?_
 | refine Same.mk ?_
 | ((first
 | refine AOs.op1E tOK (by with_unfolding_all rfl) ?_
 | refine QO.op1E (by with_unfolding_all rfl) ?_
 ); refine Step.mk (by simp only [evOp_move, evOp_assign, evOp_nilCheck, evOp_binOp, evOp_fieldAddr, evOp_load, evOp_lookup, aeval, ofVal, PT.get_set, Nat.reduceEqDiff, reduceIte, cellAt, lookAt, Option.map_some, abin_neq, abin_neqS, decide_true, Bool.not_true, List.getElem?_cons_zero, List.getElem?_cons_succ, Nat.zero_add, eq_self, ld9, ld72, lk72, fa75_1, eq85a, e0, he, hcK, hnK, hbK, hbK', mget_ents, getN_mapE, hg', Option.getD_some]; rfl) ?_)
 | fail "stop")
        refine fnPost_ret1 (by first | (simp only [PT.get_set, Nat.reduceEqDiff, reduceIte]; rfl) | simp only [PT.get_set, Nat.reduceEqDiff, reduceIte]) ⟨?_, ?_, ?_⟩
        · simp only [DM.rename, he, hg, ne_eq, not_true_eq_false, if_false, Option.isNone_some, Bool.false_eq_true, if_true]
        · simp only [DM.rename, he, hg, ne_eq, not_true_eq_false, if_false, Option.isNone_some, Bool.false_eq_true, if_true]
          exact ⟨φ, nb, sb, cv, v1, v2, hK.keep (StaysA.mk K A m hm) fun b hb => .inl hb⟩
        · exact ⟨fun b x hb hx => hap.1 b x hb hx, Nat.le_trans hap.2 hm⟩
      · have hd : decide (n = n') = false := decide_eq_false hnn
        with_reducible repeat' (first
 | refine AW.seq ?_
 | refine AW.region ?_
 | refine AOs.nil ?_
 | refine AW.skip ?_
 | refine andThen_normal ?_
 | refine AW.condT (by simp only [aeval, PT.get_set, Nat.reduceEqDiff, reduceIte, he]; rfl) (by first | rfl | decide | assumption) ?_
 | refine AW.condF (by simp only [aeval, PT.get_set, Nat.reduceEqDiff, reduceIte, he]; rfl) (by first | rfl | decide | assumption) ?_
 | refine AW.drawG tOK (F0_ok _ _ _) QuietF0 (by kernel_rfl) (fun m hm => ?_)
 | refine QO.nil ?_
 | refine Same.mk ?_
 | ((first
 | refine AOs.op1E tOK (by with_unfolding_all rfl) ?_
 | refine QO.op1E (by with_unfolding_all rfl) ?_
 ); refine Step.mk (by simp only [evOp_move, evOp_assign, evOp_nilCheck, evOp_binOp, evOp_fieldAddr, evOp_makeFunc, evOp_load, evOp_lookup, aeval, ofVal, PT.get_set, Nat.reduceEqDiff, reduceIte, cellAt, lookAt, List.map_cons, List.map_nil, Option.map_some, abin_neq, abin_neqS, decide_true, Bool.not_true, Bool.not_false, List.getElem?_cons_zero, List.getElem?_cons_succ, Nat.zero_add, eq_self, ld9, ld72, lk72, fa75_1, eq85a, e0, he, hcK, hnK, hbK, hbK', mget_ents, getN_mapE, hg', Option.getD_some, hd]; rfl) ?_)
 | fail "stop")
        have hDL := hK.keep (K := ⟨K.t, m⟩) (A' := AddR A H.next m) (StaysA.mk K A m hm) fun b hb => .inl hb
        have hap2 : Apart H ⟨K.t, m⟩ A := ⟨fun b x hb hx => hap.1 b x hb hx, Nat.le_trans hap.2 hm⟩
        refine AOs.wf0 fun hwL => ?_
        have hch := change28 N ⟨K.t, m⟩ hDL.core hDL.now hDL.ver1 (fv := .func 94 [] [.ptr H.next 0, .ptr (H.next + 1) 0]) (nt := (Note.ren n n').at φ) ⟨H.next, H.next + 1, rfl, hbK m, hbK' m⟩ hDL.notes (by simpa [DM.op] using hlen)
        refine AOs.callQ tOK (fs := []) (cs := []) rfl fn79 ok79 rfl (by simp only [List.map_cons, List.map_nil, List.nil_append, List.append_nil, aeval, PT.get_set, Nat.reduceEqDiff, reduceIte] <;> rfl) hch.wf ?_
        rintro r K2 ⟨hchg, hwK2⟩
        obtain ⟨hfin, hap3⟩ := hDL.changed (nt := .ren n n') hwL hwK2 hchg
        with_reducible repeat' (first
 | refine AW.seq ?_
 | refine AW.region ?_
 | refine AOs.nil ?_
 | refine AW.ret ?_
 | refine andThen_normal ?_
 | ((first
 | refine AOs.op1E tOK (by with_unfolding_all rfl) ?_
 ); refine Step.mk (by simp only [evOp_assign, aeval, ofVal]; rfl) ?_)
 | fail "stop")
        refine fnPost_ret1 (by first | (simp only [PT.get_set, Nat.reduceEqDiff, reduceIte]; rfl) | simp only [PT.get_set, Nat.reduceEqDiff, reduceIte]) ⟨?_, ?_, hap2.trans hwf hap3⟩
        · simp [DM.rename, he, hg, hnn]
        · simp only [DM.rename, he, hg, ne_eq, not_true_eq_false, if_false, Option.isNone_some, Bool.false_eq_true, hnn]
          refine hfin.mono fun b hb => ?_
          have := hchg.next
          rcases hb with (hb | ⟨h1, h2⟩) | ⟨h1, h2⟩
          · exact .inl hb
          · exact .inr ⟨h1, Nat.lt_of_lt_of_le h2 hchg.next⟩
          · exact .inr ⟨by show H.next ≤ b; have : m ≤ b := h1; omega, h2⟩
  · with_reducible repeat' (first
 | refine AW.seq ?_
 | refine AW.region ?_
 | refine AOs.nil ?_
 | refine AW.ret ?_
 | refine andThen_normal ?_
 | refine andThen_ret ?_
 | refine AW.condT (by simp only [aeval, PT.get_set, Nat.reduceEqDiff, reduceIte]; rfl) (by first | rfl | decide | assumption) ?_
 | ((first
 | refine AOs.op1E tOK (by with_unfolding_all rfl) ?_
 ); refine Step.mk (by simp only [evOp_move, evOp_assign, evOp_binOp, aeval, ofVal, PT.get_set, Nat.reduceEqDiff, reduceIte, Option.map_some, abin_neq, decide_false, Bool.not_false, eq_self, he]; rfl) ?_)
 | fail "stop")
    refine fnPost_ret1 (by first | (simp only [PT.get_set, Nat.reduceEqDiff, reduceIte]; rfl) | simp only [PT.get_set, Nat.reduceEqDiff, reduceIte]) ⟨?_, ?_, hap⟩
    · simp [DM.rename, he]
    · simp only [DM.rename, he, ne_eq, not_false_eq_true, if_true]
      exact ⟨φ, nb, sb, cv, v1, v2, hK.keep ⟨fun _ _ h _ => h, Nat.le_refl _⟩ fun b hb => .inl hb⟩
end Go.Proofs.YtgihociajfgohaaGreatDoor

open Go Go.AB Go.Proofs
namespace Go.Proofs.YtgihociajfgohaaGreatDoor
set_option maxRecDepth 100000

/-- A file's cells are written. -/
theorem DA.setFile {H K : AH} {d : Nat} {φ : Nat → Nat} {M : DM} {A : Nat → Prop} {nb sb : Nat} {cv : AV} {v1 v2 : Nat} (h : DA H d φ M A nb sb cv v1 v2) {i : Nat} {p : Nm × Nat} (hi : M.files[i]? = some p) {bv : AV} {l : List UInt8} {s : Nat}
    (hf : K.get (φ i) = some (.cells false [bv, .int .i64 s])) (hb : FB K bv l) (hk : ∀ b x, H.get b = some x → b ≠ φ i → K.get b = some x) (hn : H.next ≤ K.next) :
    DA K d φ { M with files := M.files.set i (l, s) } A nb sb cv v1 v2 ∧ Apart H K A := by
  have hlt := (List.getElem?_eq_some_iff.1 hi).1
  obtain ⟨ha, bv0, h2, h3⟩ := h.files i p hi
  have hk5 := h3.ofKind (p.2 : Nat)
  have hne : ∀ b x, H.get b = some x → kind x ≠ 5 → b ≠ φ i := fun b x hb hx => ne_of_kind hb h2 (by rw [hk5]; exact hx)
  have hck := core_kind (room := M.room) (nb := nb) (sb := sb) (fuse := M.fuse) (off := M.off) h.notes
  refine ⟨{
    core := hk _ _ h.core (hne _ _ h.core (by rw [hck]; decide))
    now := hk _ _ h.now (hne _ _ h.now (by rw [kind_map]; decide))
    ver1 := Nat.lt_of_lt_of_le h.ver1 hn
    sf := hk _ _ h.sf (hne _ _ h.sf (by rw [kind_map]; decide))
    ver2 := Nat.lt_of_lt_of_le h.ver2 hn
    notes := h.notes.keep (fun b x hb hx => hk b x hb (hne _ _ hb (by omega))) fun b o n c z e x hx => by
      obtain ⟨ws, h3, h4⟩ := h.notes.ofKind e
      exact hk b x hx (hne _ _ hx (by rw [h3] at hx; cases hx; omega))
    ne := h.ne
    ad := h.ad
    an := h.an
    asf := h.asf
    ac := h.ac
    files := fun j q hj => ?_
    inj := fun a b h1 h2 => by
      simp only [List.length_set] at h1 h2
      exact h.inj a b h1 h2 }, fun b x hb hx => ?_, hn⟩
  · by_cases hij : j = i
    · subst hij
      simp only [List.getElem?_set_self hlt] at hj
      cases hj
      exact ⟨ha, bv, hf, hb⟩
    · have hj' : M.files[j]? = some q := by
        simp only [List.getElem?_set_ne (fun e => hij e.symm)] at hj
        exact hj
      obtain ⟨a1, bv1, a2, a3⟩ := h.files j q hj'
      exact ⟨a1, bv1, hk _ _ a2 (fun e => hij (h.inj j i (List.getElem?_eq_some_iff.1 hj').1 hlt e)), a3.keep fun b x hb hx => hk b x hb (hne b x hb (by omega))⟩
  · refine hk b x hb ?_
    rcases hx with hx | hx
    · exact fun e => hx (by rw [e]; exact ha)
    · exact hne b x hb (by omega)

def DM.file (M : DM) (i : Nat) : Nm × Nat := (M.files[i]?).getD ([], 0)
theorem DM.file_of {M : DM} {i : Nat} (h : i < M.files.length) : M.files[i]? = some (M.file i) := by
  unfold DM.file; rw [List.getElem?_eq_getElem h]; rfl

def DM.sync (M : DM) (n : Nm) : Int × DM :=
  if M.err (nameOK n) ≠ 0 then (M.err (nameOK n), M.op (nameOK n))
  else match getN M.now n with
    | none => (6, M.op (nameOK n))
    | some i => (0, { M.op (nameOK n) with files := M.files.set i ((M.file i).1, (M.file i).1.length) })

set_option maxHeartbeats 1000000 in
theorem sync11 (N : Nat) (H : AH) {d : Nat} {M : DM} {A : Nat → Prop} {n : Nm} (h : DiskAt H d M A) (ok : M.OK) :
    AC tC N 0 48 [.ptr d 0, .str n] H fun r K => r = .int .i64 (M.sync n).1 ∧ DiskAt K d (M.sync n).2 (AddR A H.next K.next) ∧ Apart H K A := by
  refine AC.wf0 fun hwf => ?_
  obtain ⟨φ, nb, sb, cv, v1, v2, h⟩ := h
  refine AC.by (n := 30) (rs := [.tmp 4]) tOK fn48 rfl rfl rfl rfl ?_
  have e0 : (PT.ofList .leaf 0 [AV.ptr d 0, .str n]).get 0 = some (.ptr d 0) := rfl
  have e1 : (PT.ofList .leaf 0 [AV.ptr d 0, .str n]).get 1 = some (.str n) := rfl
  with_reducible repeat' (first
 | refine AW.seq ?_
 | refine AW.region ?_
 | refine AOs.nil ?_
 | refine andThen_normal ?_
 | ((first
 | refine AOs.op1E tOK (by with_unfolding_all rfl) ?_
 ); refine Step.mk (by simp only [evOp_move, evOp_assign, one_str, aeval, ofVal, PT.get_set, Nat.reduceEqDiff, reduceIte, eq_self, e0, e1, bs37_1]; rfl) ?_)
 | fail "stop")
  have hs1 : Stays H (H.alloc (.cells false [.str n])) := (Stays.refl H).alloc _
  refine AOs.callQ tOK (fs := []) (cs := []) rfl fn72 ok72 rfl (by simp only [List.map_cons, List.map_nil, List.nil_append, List.append_nil, aeval, PT.get_set, Nat.reduceEqDiff, reduceIte] <;> rfl) (CoreAt.op27 N (h.keep (A' := A) (StaysA.of hwf hs1) fun _ => id) ok (strs1 (b := H.next) (n := n) (by rw [AH.get_alloc, if_pos rfl])) (by simp)).wf ?_
  have hall : [n].all nameOK = nameOK n := by simp
  rw [hall]
  rintro r K ⟨⟨rfl, hK, hnx, hrest⟩, hwK⟩
  have hap := Apart.op h hwf hs1 hnx hrest
  have hnx' : K.next = H.next + 1 := hnx
  by_cases he : M.err (nameOK n) = 0
  · have hcK : K.get d = _ := hK.core
    have hnK : K.get nb = _ := hK.now
    cases hg : getN M.now n with
    | none =>
      have hg' : getN (M.op (nameOK n)).now n = none := hg
      with_reducible repeat' (first
 | refine AW.seq ?_
 | refine AW.region ?_
 | refine AOs.nil ?_
 | refine AW.skip ?_
 | refine AW.ret ?_
 | refine andThen_normal ?_
 | refine andThen_ret ?_
 | refine AW.condT (by simp only [aeval, PT.get_set, Nat.reduceEqDiff, reduceIte, he]; rfl) (by first | rfl | decide | assumption) ?_
 | refine AW.condF (by simp only [aeval, PT.get_set, Nat.reduceEqDiff, reduceIte, he]; rfl) (by first | rfl | decide | assumption) ?_
 | ((first
 | refine AOs.op1E tOK (by with_unfolding_all rfl) ?_
 ); refine Step.mk (by simp only [evOp_move, evOp_assign, evOp_nilCheck, evOp_binOp, evOp_fieldAddr, evOp_load, evOp_lookup, aeval, ofVal, PT.get_set, Nat.reduceEqDiff, reduceIte, cellAt, lookAt, Option.map_some, Option.map_none, abin_neq, decide_true, Bool.not_true, List.getElem?_cons_zero, List.getElem?_cons_succ, Nat.zero_add, eq_self, ld72, lk72, fa75_1, eq85b, e0, e1, he, hcK, hnK, mget_ents, getN_mapE, hg', Option.getD_none]; rfl) ?_)
 | fail "stop")
      refine fnPost_ret1 (by first | (simp only [PT.get_set, Nat.reduceEqDiff, reduceIte]; rfl) | simp only [PT.get_set, Nat.reduceEqDiff, reduceIte]) ⟨?_, ?_, hap⟩
      · simp [DM.sync, he, hg]
      · simp only [DM.sync, he, hg, ne_eq, not_true_eq_false, if_false]
        exact ⟨φ, nb, sb, cv, v1, v2, hK.keep ⟨fun _ _ h _ => h, Nat.le_refl _⟩ fun b hb => .inl hb⟩
    | some i =>
      have hg' : getN (M.op (nameOK n)).now n = some i := hg
      have hi : i < M.files.length := ok.now _ (getN_mem hg)
      obtain ⟨ha, bv, hfc, hfb⟩ := hK.files i _ (DM.file_of (M := M.op (nameOK n)) hi)
      have hlen := hfb.bytes.len
      with_reducible repeat' (first
 | refine AW.seq ?_
 | refine AW.region ?_
 | refine AOs.nil ?_
 | refine AW.skip ?_
 | refine AW.ret ?_
 | refine andThen_normal ?_
 | refine AW.condF (by simp only [aeval, PT.get_set, Nat.reduceEqDiff, reduceIte, he]; rfl) (by first | rfl | decide | assumption) ?_
 | ((first
 | refine AOs.op1E tOK (by with_unfolding_all rfl) ?_
 | refine AOs.op0E tOK ?_
 ); refine Step.mk (by simp only [evOp_move, evOp_assign, evOp_nilCheck, evOp_binOp, evOp_fieldAddr, evOp_load, evOp_lookup, evOp_store, evOp_len, storeAt, one_int, aeval, ofVal, PT.get_set, Nat.reduceEqDiff, reduceIte, cellAt, lookAt, Option.map_some, abin_neq, decide_true, Bool.not_true, List.getElem?_cons_zero, List.getElem?_cons_succ, Nat.add_zero, Nat.zero_add, Nat.reduceLT, Nat.reduceAdd, List.length_cons, List.length_nil, List.set_cons_zero, List.set_cons_succ, eq_self, st3, al32, ld32, ld72, lk72, fa75_1, eq85a, fa87_0, fa87_1, e0, e1, he, hcK, hnK, mget_ents, getN_mapE, hg', Option.getD_some, hfc, hlen]; rfl) ?_)
 | fail "stop")
      obtain ⟨hfin, hap2⟩ := hK.setFile (K := K.set (φ i) (.cells false [bv, .int .i64 ((M.op (nameOK n)).file i).1.length])) (l := ((M.op (nameOK n)).file i).1) (s := ((M.op (nameOK n)).file i).1.length) (DM.file_of (M := M.op (nameOK n)) hi) (by rw [AH.get_set, if_pos rfl]) (hfb.keep fun b x hb hx => by
          rw [AH.get_set, if_neg (ne_of_kind hb hfc (by rw [hfb.ofKind, hx]; decide))]; exact hb) (fun b x hb hne => by rw [AH.get_set, if_neg hne]; exact hb) (Nat.le_refl _)
      refine fnPost_ret1 (by first | (simp only [PT.get_set, Nat.reduceEqDiff, reduceIte]; rfl) | simp only [PT.get_set, Nat.reduceEqDiff, reduceIte]) ⟨?_, ?_, ?_⟩
      · simp [DM.sync, he, hg]
      · simp only [DM.sync, he, hg, ne_eq, not_true_eq_false, if_false]
        exact ⟨φ, nb, sb, cv, v1, v2, hfin.keep ⟨fun _ _ h _ => h, Nat.le_refl _⟩ fun b hb => .inl hb⟩
      · exact ⟨fun b x hb hx => hap2.1 b x (hap.1 b x hb hx) hx, hap.2⟩
  · with_reducible repeat' (first
 | refine AW.seq ?_
 | refine AW.region ?_
 | refine AOs.nil ?_
 | refine AW.ret ?_
 | refine andThen_normal ?_
 | refine andThen_ret ?_
 | refine AW.condT (by simp only [aeval, PT.get_set, Nat.reduceEqDiff, reduceIte]; rfl) (by first | rfl | decide | assumption) ?_
 | ((first
 | refine AOs.op1E tOK (by with_unfolding_all rfl) ?_
 ); refine Step.mk (by simp only [evOp_move, evOp_assign, evOp_binOp, aeval, ofVal, PT.get_set, Nat.reduceEqDiff, reduceIte, Option.map_some, abin_neq, decide_false, Bool.not_false, eq_self, he]; rfl) ?_)
 | fail "stop")
    refine fnPost_ret1 (by first | (simp only [PT.get_set, Nat.reduceEqDiff, reduceIte]; rfl) | simp only [PT.get_set, Nat.reduceEqDiff, reduceIte]) ⟨?_, ?_, hap⟩
    · simp [DM.sync, he]
    · simp only [DM.sync, he, ne_eq, not_false_eq_true, if_true]
      exact ⟨φ, nb, sb, cv, v1, v2, hK.keep ⟨fun _ _ h _ => h, Nat.le_refl _⟩ fun b hb => .inl hb⟩
end Go.Proofs.YtgihociajfgohaaGreatDoor
