/- ClockNobody walked. -/
import Derived.Test.YtbkbcpnpbfnmgaaDoorLawNil
import Derived.Test.YtbkbcpnpbfnmgaaDoorLawAwake
set_option linter.unusedVariables false
set_option linter.unusedSimpArgs false
namespace Go.Proofs.YtbkbcpnpbfnmgaaDoor
open Go Go.RowKit

set_option maxRecDepth 100000 in
set_option maxHeartbeats 4000000 in
theorem clockNobody_any (w : World) (hT : Tab w) (n : Int) : Calls Tryd.prog 6 #[.int .i64 n] w fun e w' => e = .returned (.bool true) ∧ Only w w' := by
  have HT := Lib.hid hT
  clear hT
  go_enter Tryd.func6, Tryd.ntmps6
  go_wp2_with fail
  refine (arm_nil _ _).mono ?_
  rintro e w1 ⟨rfl, rfl⟩
  go_wp2_with fail
  refine (advance_nil _ _).mono ?_
  rintro e w1 ⟨rfl, rfl⟩
  go_wp2_with fail
  refine (tick_nil _).mono ?_
  rintro e w1 ⟨rfl, rfl⟩
  go_wp2_with fail
  refine (next_nil _).mono ?_
  rintro e w1 ⟨rfl, rfl⟩
  go_wp2_with fail
  refine (disarm_nil _ _).mono ?_
  rintro e w1 ⟨rfl, rfl⟩
  go_wp2_with fail
  refine (now_nil _).mono ?_
  rintro e w1 ⟨rfl, rfl⟩
  go_wp2_with fail
  refine (lall_nil _).mono ?_
  rintro e w1 ⟨v1, rfl, hr1, ho1⟩
  obtain ⟨A, c, rfl⟩ := own_shape hr1
  have H1 := Lib.hid ho1
  clear hr1 ho1
  go_wp2_with fail
  refine (copy_nil _).mono ?_
  rintro e w2 ⟨rfl, rfl⟩
  go_wp2_with fail
  refine (awake_any _ (HT.out.only H1.out)).mono ?_
  rintro e w3 ⟨rfl, ho3⟩
  have H3 := Lib.hid (H1.out.trans' ho3)
  clear ho3
  go_wp2_with fail
  go_ret
  exact ⟨rfl, H3.out⟩
end Go.Proofs.YtbkbcpnpbfnmgaaDoor
