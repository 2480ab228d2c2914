/- The steps of an operation are made. -/
import Derived.Test.YtfohaijdhgcneaaStealRace
import Derived.Laws.EntriesVeiled
set_option linter.unusedVariables false
set_option linter.unusedSimpArgs false
namespace Go.Proofs.Ytfohaijdhgcneaa
open Go Go.RowKit

/-- Seven new blocks are an actor's. -/
def lay (L : Nat → Nat) (s i : Nat) : Nat → Nat := fun k => if s ≤ k ∧ k < s + 7 then 16 * i + 19 + (k - s) else L k
theorem lay_at (L : Nat → Nat) (s i j : Nat) (hj : j < 7) : lay L s i (s + j) = 16 * i + 19 + j := by
  unfold lay
  rw [if_pos ⟨by omega, by omega⟩]
  omega
theorem oneMore {w w' : World} (h : Only w w') (o : Obj) : Only w (w'.alloc o) := h.alloc o
set_option maxRecDepth 100000 in
set_option maxHeartbeats 2000000 in
theorem pushes_any (w : World) (L : Nat → Nat) (b i ab : Nat) (x : Int) :
    Calls Try.prog 59 #[.pointer (some ⟨b, 0, none⟩), .pointer (some ⟨ab, 0, none⟩), .int .i64 x] w fun e w' => ∃ nx, e = .returned nx ∧ PushN w' (lay L w.heap.size i) b i ab x 0 nx ∧ Only w w' ∧ w'.heap.size ≤ w.heap.size + 7 := by
  go_enter Try.func59, Try.ntmps59
  go_wp2_with fail
  go_ret
  refine ⟨_, rfl, ⟨w.heap.size, w.heap.size + 1, w.heap.size + 2, w.heap.size + 3, w.heap.size + 4, ⟨?_, ?_, ?_, ?_, ?_, lay_at L _ i 0 (by omega), lay_at L _ i 1 (by omega), lay_at L _ i 2 (by omega), lay_at L _ i 3 (by omega), lay_at L _ i 4 (by omega)⟩, rfl⟩, ?_, by simp⟩
  · (repeat (first | (refine Blk.newAt _ [_] _ _ ?_; first | rfl | (simp; done) | (simp; omega)) | refine Blk.alloc ?_ _))
  · (repeat (first | (refine Blk.newAt _ [_] _ _ ?_; first | rfl | (simp; done) | (simp; omega)) | refine Blk.alloc ?_ _))
  · (repeat (first | (refine Blk.newAt _ [_] _ _ ?_; first | rfl | (simp; done) | (simp; omega)) | refine Blk.alloc ?_ _))
  · (repeat (first | (refine Blk.newAt _ [_] _ _ ?_; first | rfl | (simp; done) | (simp; omega)) | refine Blk.alloc ?_ _))
  · (repeat (first | (refine Blk.newAt _ [_] _ _ ?_; first | rfl | (simp; done) | (simp; omega)) | refine Blk.alloc ?_ _))
  · (repeat (first | exact Stay.refl _ _ | refine Stay.alloc ?_ _))
set_option maxRecDepth 100000 in
set_option maxHeartbeats 2000000 in
theorem takes_any (w : World) (L : Nat → Nat) (b i ab : Nat) (a : Act) :
    Calls Try.prog 58 #[.pointer (some ⟨b, 0, none⟩), .pointer (some ⟨ab, 0, none⟩)] w fun e w' => ∃ nx, e = .returned nx ∧ TakeN w' (lay L w.heap.size i) b i ab a 0 nx ∧ Only w w' ∧ w'.heap.size ≤ w.heap.size + 7 := by
  go_enter Try.func58, Try.ntmps58
  go_wp2_with fail
  go_ret
  refine ⟨_, rfl, ⟨0, 0, w.heap.size, w.heap.size + 1, w.heap.size + 2, w.heap.size + 3, w.heap.size + 4, w.heap.size + 5, w.heap.size + 6, by omega, by omega, ⟨?_, ?_, ?_, ?_, ?_, ?_, ?_, lay_at L _ i 0 (by omega), lay_at L _ i 1 (by omega), lay_at L _ i 2 (by omega), lay_at L _ i 3 (by omega), lay_at L _ i 4 (by omega), lay_at L _ i 5 (by omega), lay_at L _ i 6 (by omega)⟩, rfl⟩, ?_, by simp⟩
  · (repeat (first | (refine Blk.newAt _ [_] _ _ ?_; first | rfl | (simp; done) | (simp; omega)) | refine Blk.alloc ?_ _))
  · (repeat (first | (refine Blk.newAt _ [_] _ _ ?_; first | rfl | (simp; done) | (simp; omega)) | refine Blk.alloc ?_ _))
  · (repeat (first | (refine Blk.newAt _ [_] _ _ ?_; first | rfl | (simp; done) | (simp; omega)) | refine Blk.alloc ?_ _))
  · (repeat (first | (refine Blk.newAt _ [_] _ _ ?_; first | rfl | (simp; done) | (simp; omega)) | refine Blk.alloc ?_ _))
  · (repeat (first | (refine Blk.newAt _ [_] _ _ ?_; first | rfl | (simp; done) | (simp; omega)) | refine Blk.alloc ?_ _))
  · (repeat (first | (refine Blk.newAt _ [_] _ _ ?_; first | rfl | (simp; done) | (simp; omega)) | refine Blk.alloc ?_ _))
  · (repeat (first | (refine Blk.newAt _ [_] _ _ ?_; first | rfl | (simp; done) | (simp; omega)) | refine Blk.alloc ?_ _))
  · (repeat (first | exact Stay.refl _ _ | refine Stay.alloc ?_ _))
set_option maxRecDepth 100000 in
set_option maxHeartbeats 2000000 in
theorem steals_any (w : World) (L : Nat → Nat) (b i ab : Nat) (a : Act) :
    Calls Try.prog 61 #[.pointer (some ⟨b, 0, none⟩), .pointer (some ⟨ab, 0, none⟩)] w fun e w' => ∃ nx, e = .returned nx ∧ StealN w' (lay L w.heap.size i) b i ab a 0 nx ∧ Only w w' ∧ w'.heap.size ≤ w.heap.size + 7 := by
  go_enter Try.func61, Try.ntmps61
  go_wp2_with fail
  go_ret
  refine ⟨_, rfl, ⟨0, 0, w.heap.size, w.heap.size + 1, w.heap.size + 2, w.heap.size + 3, w.heap.size + 4, w.heap.size + 5, w.heap.size + 6, by omega, by omega, ⟨?_, ?_, ?_, ?_, ?_, ?_, ?_, lay_at L _ i 0 (by omega), lay_at L _ i 1 (by omega), lay_at L _ i 2 (by omega), lay_at L _ i 3 (by omega), lay_at L _ i 4 (by omega), lay_at L _ i 5 (by omega), lay_at L _ i 6 (by omega)⟩, rfl⟩, ?_, by simp⟩
  · (repeat (first | (refine Blk.newAt _ [_] _ _ ?_; first | rfl | (simp; done) | (simp; omega)) | refine Blk.alloc ?_ _))
  · (repeat (first | (refine Blk.newAt _ [_] _ _ ?_; first | rfl | (simp; done) | (simp; omega)) | refine Blk.alloc ?_ _))
  · (repeat (first | (refine Blk.newAt _ [_] _ _ ?_; first | rfl | (simp; done) | (simp; omega)) | refine Blk.alloc ?_ _))
  · (repeat (first | (refine Blk.newAt _ [_] _ _ ?_; first | rfl | (simp; done) | (simp; omega)) | refine Blk.alloc ?_ _))
  · (repeat (first | (refine Blk.newAt _ [_] _ _ ?_; first | rfl | (simp; done) | (simp; omega)) | refine Blk.alloc ?_ _))
  · (repeat (first | (refine Blk.newAt _ [_] _ _ ?_; first | rfl | (simp; done) | (simp; omega)) | refine Blk.alloc ?_ _))
  · (repeat (first | (refine Blk.newAt _ [_] _ _ ?_; first | rfl | (simp; done) | (simp; omega)) | refine Blk.alloc ?_ _))
  · (repeat (first | exact Stay.refl _ _ | refine Stay.alloc ?_ _))
end Go.Proofs.Ytfohaijdhgcneaa
