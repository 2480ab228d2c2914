/- The methods of a nil channel. -/
import Derived.Test.YtfmkdkpgehkfaaaSame
set_option linter.unusedVariables false
set_option linter.unusedSimpArgs false
namespace Go.Proofs.Ytfmkdkpgehkfaaa
open Go Go.RowKit

set_option maxRecDepth 100000 in
theorem offer_nil (v : V) (w : World) : Calls Try.prog 17 #[.pointer none, v.val] w fun e w' => e = .returned (.tuple #[.slice none 0 0, F.nil.val, .bool false]) ∧ Only w w' := by
  unfold V.val
  go_enter Try.func17, Try.ntmps17
  go_wp2_with fail
  refine bodyPost_ret (v := .tuple #[.slice none 0 0, F.nil.val, .bool false]) (by simp [results, Try.results17, F.nil, F.val, go_sem]) rfl ⟨rfl, ?_⟩
  exact ((Stay.refl _ w).alloc _).alloc _

set_option maxRecDepth 100000 in
theorem take_nil (w : World) : Calls Try.prog 19 #[.pointer none] w fun e w' => e = .returned (.tuple #[V.nil.val, .slice none 0 0, F.nil.val, .bool false]) ∧ Only w w' := by
  go_enter Try.func19, Try.ntmps19
  go_wp2_with fail
  refine bodyPost_ret (v := .tuple #[V.nil.val, .slice none 0 0, F.nil.val, .bool false]) (by simp [results, Try.results19, F.nil, F.val, V.nil, V.val, go_sem]) rfl ⟨rfl, ?_⟩
  exact ((Stay.refl _ w).alloc _).alloc _

set_option maxRecDepth 100000 in
theorem park_nil (t : Int) (send : Bool) (v : V) (w : World) : Calls Try.prog 25 #[.pointer none, .int .i64 t, .bool send, v.val] w fun e w' => e = .returned (.int .i64 2) ∧ Only w w' := by
  unfold V.val
  go_enter Try.func25, Try.ntmps25
  go_wp2_with fail
  go_ret
  exact ⟨rfl, (Stay.refl _ w).alloc _⟩

set_option maxRecDepth 100000 in
theorem withdraw_nil (t : Int) (w : World) : Calls Try.prog 26 #[.pointer none, .int .i64 t] w fun e w' => e = .returned (.bool false) ∧ Only w w' := by
  go_enter Try.func26, Try.ntmps26
  go_wp2_with fail
  go_ret
  exact ⟨rfl, (Stay.refl _ w).alloc _⟩

set_option maxRecDepth 100000 in
theorem close_nil (w : World) : Calls Try.prog 14 #[.pointer none] w fun e w' => e = .returned (.slice none 0 0) ∧ Only w w' := by
  go_enter Try.func14, Try.ntmps14
  go_wp2_with fail
  go_ret
  exact ⟨rfl, Stay.refl _ w⟩

def Ch.zero : Ch := ⟨0, 0, false, [], [], 0⟩
def stZero : Value := .agg #[.int .i64 0, .int .i64 0, .bool false, .slice none 0 0, .slice none 0 0, .int .i64 0]
theorem rd_zero (w : World) : Rd w stZero Ch.zero := ⟨none, 0, none, 0, rfl, ⟨rfl, Nat.le_refl _, by omega, fun _ => rfl, fun h => absurd h (by simp [Ch.zero])⟩, ⟨rfl, Nat.le_refl _, by omega, fun _ => rfl, fun h => absurd h (by simp [Ch.zero])⟩⟩

set_option maxRecDepth 100000 in
theorem state_nil (w : World) : Calls Try.prog 13 #[.pointer none] w fun e w' => e = .returned stZero ∧ Only w w' := by
  go_enter Try.func13, Try.ntmps13
  go_wp2_with fail
  refine bodyPost_ret (v := stZero) (by simp [results, Try.results13, stZero, go_sem]) rfl ⟨rfl, ?_⟩
  exact (Stay.refl _ w).alloc _

set_option maxRecDepth 100000 in
theorem copy_nil (w : World) : Calls Try.prog 27 #[.pointer none] w fun e w' => e = .returned (.pointer none) ∧ Only w w' := by
  go_enter Try.func27, Try.ntmps27
  go_wp2_with fail
  go_ret
  exact ⟨rfl, Stay.refl _ w⟩

end Go.Proofs.Ytfmkdkpgehkfaaa
