/- maps.Keys and slices.Sorted at a map with int keys, known whole. -/
import Derived.Test.YtfifdgigeecfbaaIMapOwn
import Derived.Test.YtfifdgigeecfbaaIter
import Derived.Test.YtfifdgigeecfbaaChecked
set_option linter.unusedVariables false
namespace Go.Proofs.Ytfifdgigeecfbaa
open Go Go.RowKit Go.MapKept Go.Maps Go.Shelf

/-- slices.Sort's two contracts at this program, at the fence that asks nothing. -/
theorem sortsA (m : Nat) : Go.Proofs.AnyZI.SortsIn Try.prog Try.sortedA_ren Fence.wide m :=
  ⟨fun blk off cap ss W hH hblk hsz => callsIn_wide.2 (Go.Proofs.AnyM.slices_Sort_int Try.sortA blk off cap ss W hH hblk hsz),
   fun p cap W => callsIn_wide.2 (Go.Proofs.AnyM.slices_Sort_int_none Try.sortA p cap W)⟩

theorem keysA_any (mb : Option Nat) (w : World) : Calls Try.prog 36 #[.map mb] w fun e w' => e = .returned (.func (.func 56) #[] #[.pointer (some ⟨w.heap.size, 0, none⟩)]) ∧ w' = w.alloc (.cells #[.map mb] 70) :=
  (callsIn_wide (n := 5)).1 (Go.Proofs.AnyZI.keys_in Try.keysA Fence.wide 5 trivial rfl mb w)
theorem keysB_any (mb : Option Nat) (w : World) : Calls Try.prog 40 #[.map mb] w fun e w' => e = .returned (.func (.func 58) #[] #[.pointer (some ⟨w.heap.size, 0, none⟩)]) ∧ w' = w.alloc (.cells #[.map mb] 65) :=
  (callsIn_wide (n := 5)).1 (Go.Proofs.AnyZI.keys_in Try.keysB Fence.wide 5 trivial rfl mb w)

/-- The keys, ascending. -/
theorem sortedA_any (w : World) (B b : Nat) (l : List (Int × Value)) (hB : w.cell? ⟨B, 0, none⟩ = some (.map (some b))) (h : IMap w b l) (hwf : ∀ p ∈ l, (Lit.int .i64 p.1).wf = true) (hn : l.length ≤ 1000000) :
    Calls Try.prog 35 #[.func (.func 56) #[] #[.pointer (some ⟨B, 0, none⟩)]] w fun e w' => ∃ v, e = .returned v ∧ w'.ownsRow w.heap.size 3 1 v l.length (ints (srt (l.map (·.1)))) ∧ Only w w' := by
  have hBl : B < w.heap.size := World.block_lt_of_cell? w ⟨B, 0, none⟩ hB
  obtain ⟨D, hD, hp, hs⟩ := h.owns (P := Try.prog) (k := 3) Try.underlying3 hwf (by simp only [maxLen]; omega)
  have hseq : SeqGives Fence.wide 2 Try.prog 56 #[.pointer (some ⟨B, 0, none⟩)] encZ (fun ss => ss.Perm (intKeys D)) (Maps.size D) w :=
    Go.Proofs.AnyZI.keys_gives (ρ := Try.keysA_ren) { Try.keysA with } Fence.wide _ trivial rfl (by omega) B b l.length D _ hBl hB hD
  have cS := Go.Proofs.AnyZI.sorted_in Try.sortedA Fence.wide 5 trivial trivial trivial trivial rfl (by omega) (sortsA _) (Go.Proofs.enters_of Try.func30 (by kernel_rfl) rfl) 56 #[.pointer (some ⟨B, 0, none⟩)] trivial (Go.Proofs.enters_of Try.func56 (by kernel_rfl) rfl) _ (Maps.size D) (by rw [hs]; simp only [maxLen]; omega) (by rw [hs]; omega) w hseq
  refine ((callsIn_wide (n := 5)).1 cS).mono ?_
  rintro e w' ⟨v, ss, rfl, hS, hrow, _, hb⟩
  have e1 : ss.length = l.length := by rw [hS.length_eq, ← hp.length_eq]; simp
  have e2 : ss.mergeSort (fun x y => decide (x ≤ y)) = srt (l.map (·.1)) := srt_perm (hS.trans hp.symm)
  rw [e1, e2] at hrow
  exact ⟨v, rfl, hrow, Stay.of_below hb⟩
theorem sortedB_any (w : World) (B b : Nat) (l : List (Int × Value)) (hB : w.cell? ⟨B, 0, none⟩ = some (.map (some b))) (h : IMap w b l) (hwf : ∀ p ∈ l, (Lit.int .i64 p.1).wf = true) (hn : l.length ≤ 1000000) :
    Calls Try.prog 35 #[.func (.func 58) #[] #[.pointer (some ⟨B, 0, none⟩)]] w fun e w' => ∃ v, e = .returned v ∧ w'.ownsRow w.heap.size 3 1 v l.length (ints (srt (l.map (·.1)))) ∧ Only w w' := by
  have hBl : B < w.heap.size := World.block_lt_of_cell? w ⟨B, 0, none⟩ hB
  obtain ⟨D, hD, hp, hs⟩ := h.owns (P := Try.prog) (k := 3) Try.underlying3 hwf (by simp only [maxLen]; omega)
  have hseq : SeqGives Fence.wide 2 Try.prog 58 #[.pointer (some ⟨B, 0, none⟩)] encZ (fun ss => ss.Perm (intKeys D)) (Maps.size D) w :=
    Go.Proofs.AnyZI.keys_gives (ρ := Try.keysB_ren) { Try.keysB with } Fence.wide _ trivial rfl (by omega) B b l.length D _ hBl hB hD
  have cS := Go.Proofs.AnyZI.sorted_in Try.sortedA Fence.wide 5 trivial trivial trivial trivial rfl (by omega) (sortsA _) (Go.Proofs.enters_of Try.func30 (by kernel_rfl) rfl) 58 #[.pointer (some ⟨B, 0, none⟩)] trivial (Go.Proofs.enters_of Try.func58 (by kernel_rfl) rfl) _ (Maps.size D) (by rw [hs]; simp only [maxLen]; omega) (by rw [hs]; omega) w hseq
  refine ((callsIn_wide (n := 5)).1 cS).mono ?_
  rintro e w' ⟨v, ss, rfl, hS, hrow, _, hb⟩
  have e1 : ss.length = l.length := by rw [hS.length_eq, ← hp.length_eq]; simp
  have e2 : ss.mergeSort (fun x y => decide (x ≤ y)) = srt (l.map (·.1)) := srt_perm (hS.trans hp.symm)
  rw [e1, e2] at hrow
  exact ⟨v, rfl, hrow, Stay.of_below hb⟩

end Go.Proofs.Ytfifdgigeecfbaa
