/- Group: the functions that the evaluator takes as known, at this program: sorted keys, math/bits.Add64; lives() as a constant; no condition. -/
import Derived.Test.YtapokkpdgfpokaaGreatKeys
import Derived.Test.YtapokkpdgfpokaaGreatHeap5
import Derived.Laws.Externs
namespace Go.Proofs
open Go.RowKit Go.Maps Go.Sort Go.Shelf

theorem Tryz.sorts53 (m : Nat) : AnyZ.SortsIn Tryz.prog Tryz.sorted53_ren Fence.wide m :=
  ⟨fun blk off cap ss W hH hblk hsz => callsIn_wide.2 (AnyM.slices_Sort_string Tryz.sort88 blk off cap ss W hH hblk hsz),
   fun p cap W => callsIn_wide.2 (AnyM.slices_Sort_string_none Tryz.sort88 p cap W)⟩

set_option maxHeartbeats 1000000 in
theorem Tryz.sortedAt {H : Type} (R : Value → Option (DataW H × List MemPlace)) (Bm b nn : Nat) (D0 : DataW H) (w : World) (hBm : Bm < w.heap.size) (hm : w.cell? ⟨Bm, 0, none⟩ = some (.map (some b))) (hown : w.ownsMap Tryz.prog 9 R b nn D0) (hmax : Maps.size D0 ≤ maxLen) (hbytes : Maps.size D0 * 16 ≤ 140737488355328) :
    Calls Tryz.prog 53 #[.func (.func 89) #[] #[.pointer (some ⟨Bm, 0, none⟩)]] w fun e w' => ∃ (v : Value) (ss : List (List UInt8)), e = .returned v ∧ ss.Perm (strKeys D0) ∧
      w'.ownsRow w.heap.size 9 1 v ss.length ((ss.mergeSort (fun x y => decide (x ≤ y))).map encStr) ∧ (v = .slice none 0 0 ↔ ss = []) ∧ Below w.heap.size w w' := by
  have hseq : SeqGives Fence.wide 2 Tryz.prog 89 #[.pointer (some ⟨Bm, 0, none⟩)] encStr (fun ss => ss.Perm (strKeys D0)) (Maps.size D0) w :=
    AnyZ.keys_gives (ρ := Tryz.keys54_ren) { Tryz.keys54 with } Fence.wide _ trivial rfl (by omega) Bm b nn D0 w hBm hm hown
  exact (callsIn_wide (n := 5)).1 (AnyZ.sorted_in Tryz.sorted53 Fence.wide 5 trivial trivial trivial trivial rfl (by omega) (Tryz.sorts53 _) (enters_of Tryz.func88 (by kernel_rfl) rfl) 89 #[.pointer (some ⟨Bm, 0, none⟩)] trivial (enters_of Tryz.func89 (by kernel_rfl) rfl) _ _ hmax hbytes w hseq)

end Go.Proofs
namespace Go.Proofs.YtapokkpdgfpokaaGreat
open Go.AB
set_option linter.unusedVariables false

noncomputable def tC : Ctx := mkCtx Tryz.prog
theorem tOK : tC.OK := mkCtx_ok Tryz.prog (by kernel_rfl)
theorem tCodes : CodesOK tC := codesOK_of (by kernel_rfl)

noncomputable def tKnown (f : FuncId) : Option (List AV → AH → Option (AV × AH)) := bif Nat.beq f 53 then some (specSorted 89) else none
def tExt (f : FuncId) (args : List AV) (H : AH) : Option (AV × AH) := bif Nat.beq f 139 then specAdd64 args H else none

theorem run_add64 (x y c : Nat) (w : World) (hc : c ≤ 1) :
    (callFunc 139 #[.int .u64 (.ofNat x), .int .u64 (.ofNat y), .int .u64 (.ofNat c)]).run Tryz.prog w = .ok (.value (.tuple #[.int .u64 (.ofNat ((x + y + c) % 18446744073709551616)), .int .u64 (.ofNat ((x + y + c) / 18446744073709551616))])) w := by
  obtain ⟨e, he, hrun⟩ : ∃ e, Extern.find Tryz.f139 = some e ∧ (e #[.int .u64 (.ofNat x), .int .u64 (.ofNat y), .int .u64 (.ofNat c)]).run Tryz.prog w = .ok (.tuple #[.int .u64 (.ofNat ((x + y + c) % 18446744073709551616)), .int .u64 (.ofNat ((x + y + c) / 18446744073709551616))]) w := by
    refine ⟨fun args => do
      let (x, y, c) ← Extern.MathBitsCarry.three "Add64" args
      pure (Extern.MathBitsCarry.pair ((x + y + c) % Extern.MathBitsCarry.m64) ((x + y + c) / Extern.MathBitsCarry.m64)), by kernel_rfl, ?_⟩
    have hn : ¬ c > 1 := by omega
    obtain ⟨u, hu⟩ : ∃ u : Sem (Nat × Nat × Nat), Extern.MathBitsCarry.three "Add64" #[.int .u64 (.ofNat x), .int .u64 (.ofNat y), .int .u64 (.ofNat c)] = (if c > 1 then u else pure (x, y, c)) := ⟨_, rfl⟩
    simp only [hu, if_neg hn]
    rfl
  rw [run_callFunc_extern Tryz.func139 (by kernel_rfl) (by kernel_rfl) (by kernel_rfl) (e := e) he, hrun]
  rfl

theorem tKnownOK (N : Nat) : KnownOK tC N 0 tKnown tExt where
  call f k hk := by
    unfold tKnown at hk
    cases h1 : Nat.beq f 53
    · rw [h1] at hk; cases hk
    · rw [h1] at hk
      obtain rfl := Nat.eq_of_beq_eq_true h1
      simp only [cond_true, Option.some.injEq] at hk
      subst hk
      exact ⟨⟨_, Tryz.func53, by kernel_rfl, by kernel_rfl⟩, fun args H r H' h ρ w vs hR hv => specSorted_ok (P := Tryz.prog) (kt := 9) Tryz.underlying9 (fun Bm b nn D0 w => Tryz.sortedAt anyElem Bm b nn D0 w) h hR hv⟩
  ext f args H r H' h := by
    unfold tExt at h
    cases h1 : Nat.beq f 139
    · rw [h1] at h; cases h
    · rw [h1] at h
      obtain rfl := Nat.eq_of_beq_eq_true h1
      exact fun ρ w vs hR hv => specAdd64_ok (P := Tryz.prog) run_add64 h hR hv

theorem run6 : constOut (.bool true) (evCall tC tKnown tExt 0 100000 100 6 [] H0) = true := by kernel_rfl

/-- The chapter's examples, from whatever memory. -/
theorem lives (N : Nat) (H : AH) : AC tC N 0 6 [] H fun r K => r = .bool true ∧ K = H := fun ρ w vs hR hv =>
  (specConst_ok tOK tCodes tKnownOK run6 (args := []) rfl hR hv).mono fun e w' ⟨v, ρ', he, h1, h2, h3⟩ => ⟨v, ρ', _, _, ⟨rfl, rfl⟩, he, h1, h2, h3⟩

end Go.Proofs.YtapokkpdgfpokaaGreat
