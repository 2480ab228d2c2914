/- NewPool. -/
import Derived.Test.YtfohaijdhgcneaaPoolOps
import Derived.Laws.OwnMore
set_option linter.unusedVariables false
set_option linter.unusedSimpArgs false
namespace Go.Proofs.Ytfohaijdhgcneaa
open Go Go.RowKit

theorem infoQ : (Try.prog.info? 22).map (fun i => (i.zero, i.size, i.bytes)) = some (some (.slice none 0 0), 1, 24) := by kernel_rfl
theorem madeQ (n : Nat) : madeCells (Value.slice none 0 0).cells n = (List.replicate n (Value.slice none 0 0)).toArray := by
  apply Array.ext'
  rw [show (Value.slice none 0 0).cells = #[Value.slice none 0 0] from rfl, toList_madeCells_one]
set_option maxRecDepth 100000 in
set_option maxHeartbeats 4000000 in
theorem newpool_bad (w : World) (n : Int) (hn : ¬ (1 ≤ n ∧ n ≤ 8)) : Calls Try.prog 25 #[.int .i64 n] w fun e w' => e = .returned (.tuple #[.pointer none, .int .i64 2]) ∧ Only w w' := by
  go_enter Try.func25, Try.ntmps25
  by_cases h1 : n < 1
  · have b1 : decide (n < 1) = true := decide_eq_true h1
    clear hn
    go_wp2_with fail
    go_ret2
    exact ⟨rfl, Stay.refl _ w⟩
  · have b1 : decide (n < 1) = false := decide_eq_false h1
    have b2 : decide (n > 8) = true := decide_eq_true (by omega)
    clear hn
    go_wp2_with fail
    go_ret2
    exact ⟨rfl, Stay.refl _ w⟩
set_option maxRecDepth 100000 in
set_option maxHeartbeats 4000000 in
theorem newpool_any (w : World) (n : Nat) (h1 : 1 ≤ n) (h8 : n ≤ 8) : Calls Try.prog 25 #[.int .i64 n] w fun e w' => ∃ b qv vs, e = .returned (.tuple #[.pointer (some ⟨b, 0, none⟩), .int .i64 0]) ∧ PoolAt w w' b (List.replicate n []) qv vs ∧ Only w w' := by
  obtain ⟨ii, hii0, hii1, hii2, hii3⟩ := info_parts infoQ
  obtain ⟨ar, har⟩ : ∃ ar, ar = (List.replicate n (Value.slice none 0 0)).toArray := ⟨_, rfl⟩
  have hmk : ∀ (W : World), (Instr.makeSlice 58 (.int .i64 n) (.int .i64 n)).run Try.prog W = .ok (.slice (some ⟨W.heap.size, 0, none⟩) n n) (W.alloc (.cells ar 22)) := fun W => by
    have h := run_makeSlice (P := Try.prog) W 58 22 ii (.slice none 0 0) (by rfl) hii0 hii1 .i64 .i64 n n (by omega) (by omega) (by rw [hii2]; omega) (by rw [hii3]; omega) (by omega)
    rw [hii2] at h
    simp only [Int.toNat_natCast, Nat.mul_one] at h
    rw [madeQ, ← har] at h
    simpa using h
  clear hii0 hii1 hii2 hii3
  have HA := Lib.hid har
  clear har
  go_enter Try.func25, Try.ntmps25
  go_wp2_with fail
  go_ret2
  have hr : ((w.alloc (.cells ar 22)).alloc (.cells #[.slice (some ⟨w.heap.size, 0, none⟩) n n] 100)).ownsRow w.heap.size 22 1 (.slice (some ⟨w.heap.size, 0, none⟩) n n) (List.replicate n ([] : List Int)).length (List.replicate n (Value.slice none 0 0)) := by
    rw [List.length_replicate, HA.out]
    exact own_alloc (owns_newAt w (List.replicate n (Value.slice none 0 0)) 22 1 n w.heap.size rfl (by simp) (by simp only [maxLen]; omega) (Nat.le_refl _)) _
  have rep : ∀ (i : Nat) (v : Value), (List.replicate n (Value.slice none 0 0))[i]? = some v → v = .slice none 0 0 := fun i v h => by
    have := List.mem_of_getElem? h
    exact (List.mem_replicate.1 this).2
  refine ⟨_, _, _, rfl, ⟨Blk.newAt (w.alloc _) [_] _ _ (by simp), hr, fun i v l hv hl => ?_, fun i j v u _ hv _ => ?_, by omega⟩, ((Stay.refl _ w).alloc _).alloc _⟩
  · rw [rep i v hv, (List.mem_replicate.1 (List.mem_of_getElem? hl)).2]
    exact Qu.nil _ _
  · rw [rep i v hv]
    exact fun g hg => by simp [Value.ownBlock] at hg
end Go.Proofs.Ytfohaijdhgcneaa
