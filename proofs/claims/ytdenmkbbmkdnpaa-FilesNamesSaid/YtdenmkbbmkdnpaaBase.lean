/- Files: the functions that the evaluator takes as known, at this program: sorted keys, a map's clone, a disk's use; no condition. -/
import Derived.Test.YtdenmkbbmkdnpaaKeys
import Derived.Test.YtdenmkbbmkdnpaaAb25
import Derived.Laws.Externs
namespace Go.Proofs
open Go.RowKit Go.Maps Go.Sort Go.Shelf

theorem Try.sorts35 (m : Nat) : AnyZ.SortsIn Try.prog Try.sorted35_ren Fence.wide m :=
  ⟨fun blk off cap ss W hH hblk hsz => callsIn_wide.2 (AnyM.slices_Sort_string Try.sort44 blk off cap ss W hH hblk hsz),
   fun p cap W => callsIn_wide.2 (AnyM.slices_Sort_string_none Try.sort44 p cap W)⟩

set_option maxHeartbeats 1000000 in
theorem Try.sortedAt {H : Type} (R : Value → Option (DataW H × List MemPlace)) (Bm b nn : Nat) (D0 : DataW H) (w : World) (hBm : Bm < w.heap.size) (hm : w.cell? ⟨Bm, 0, none⟩ = some (.map (some b))) (hown : w.ownsMap Try.prog 9 R b nn D0) (hmax : Maps.size D0 ≤ maxLen) (hbytes : Maps.size D0 * 16 ≤ 140737488355328) :
    Calls Try.prog 35 #[.func (.func 45) #[] #[.pointer (some ⟨Bm, 0, none⟩)]] w fun e w' => ∃ (v : Value) (ss : List (List UInt8)), e = .returned v ∧ ss.Perm (strKeys D0) ∧
      w'.ownsRow w.heap.size 9 1 v ss.length ((ss.mergeSort (fun x y => decide (x ≤ y))).map encStr) ∧ (v = .slice none 0 0 ↔ ss = []) ∧ Below w.heap.size w w' := by
  have hseq : SeqGives Fence.wide 2 Try.prog 45 #[.pointer (some ⟨Bm, 0, none⟩)] encStr (fun ss => ss.Perm (strKeys D0)) (Maps.size D0) w :=
    AnyZ.keys_gives (ρ := Try.keys36_ren) { Try.keys36 with } Fence.wide _ trivial rfl (by omega) Bm b nn D0 w hBm hm hown
  exact (callsIn_wide (n := 5)).1 (AnyZ.sorted_in Try.sorted35 Fence.wide 5 trivial trivial trivial trivial rfl (by omega) (Try.sorts35 _) (enters_of Try.func44 (by kernel_rfl) rfl) 45 #[.pointer (some ⟨Bm, 0, none⟩)] trivial (enters_of Try.func45 (by kernel_rfl) rfl) _ _ hmax hbytes w hseq)

end Go.Proofs
namespace Go.Proofs.Ytdenmkbbmkdnpaa
open Go.AB

noncomputable def tC : Ctx := mkCtx Try.prog
theorem tOK : tC.OK := mkCtx_ok Try.prog (by kernel_rfl)
theorem tCodes : CodesOK tC := codesOK_of (by kernel_rfl)

noncomputable def tKnown (f : FuncId) : Option (List AV → AH → Option (AV × AH)) :=
  bif Nat.beq f 35 then some (specSorted 45) else bif Nat.beq f 30 then some (evFnD tC 0 1000 30) else none
def tExt (f : FuncId) (args : List AV) (H : AH) : Option (AV × AH) := bif Nat.beq f 46 then specClone args H else none

theorem run_clone (t : TypeId) (b : Nat) (es : Array MapEntry) (clock : Nat) (w : World) (hb : w.heap[b]? = some (.map es clock)) :
    (callFunc 46 #[.iface t (.map (some b))]).run Try.prog w = .ok (.value (.iface t (.map (some w.heap.size)))) (w.alloc (.map es clock)) := by
  rw [run_callFunc_extern Try.func46 (by kernel_rfl) (by kernel_rfl) (by kernel_rfl) (e := Extern.MapsClone.clone) (by kernel_rfl)]
  have : (Extern.MapsClone.clone #[.iface t (.map (some b))]).run Try.prog w = .ok (.iface t (.map (some w.heap.size))) (w.alloc (.map es clock)) := by
    obtain ⟨k, e, hk⟩ : ∃ k : Obj → Sem Value, Extern.MapsClone.clone #[.iface t (.map (some b))] = (getObj b >>= k) ∧ k (.map es clock) = (newObj (.map es clock) >>= fun n => pure (.iface t (.map (some n)))) := ⟨_, rfl, rfl⟩
    rw [e]
    simp [MapKept.run_getObj_map hb, Result.andThen, go_sem, hk]
  rw [this]; rfl

theorem tKnownOK (N : Nat) : KnownOK tC N 0 tKnown tExt where
  call f k hk := by
    unfold tKnown at hk
    cases h1 : Nat.beq f 35
    · rw [h1] at hk
      cases h2 : Nat.beq f 30
      · rw [h2] at hk; cases hk
      · rw [h2] at hk
        obtain rfl := Nat.eq_of_beq_eq_true h2
        simp only [cond_true, cond_false, Option.some.injEq] at hk
        subst hk
        exact ⟨⟨_, Try.func30, by kernel_rfl, by kernel_rfl⟩, fun args H r H' h ρ w vs hR hv => evFnD_ok tOK h hR hv⟩
    · rw [h1] at hk
      obtain rfl := Nat.eq_of_beq_eq_true h1
      simp only [cond_true, Option.some.injEq] at hk
      subst hk
      exact ⟨⟨_, Try.func35, by kernel_rfl, by kernel_rfl⟩, fun args H r H' h ρ w vs hR hv => specSorted_ok (P := Try.prog) (kt := 9) Try.underlying9 (fun Bm b nn D0 w => Try.sortedAt anyElem Bm b nn D0 w) h hR hv⟩
  ext f args H r H' h := by
    unfold tExt at h
    cases h1 : Nat.beq f 46
    · rw [h1] at h; cases h
    · rw [h1] at h
      obtain rfl := Nat.eq_of_beq_eq_true h1
      exact fun ρ w vs hR hv => specClone_ok (P := Try.prog) run_clone h hR hv

end Go.Proofs.Ytdenmkbbmkdnpaa
