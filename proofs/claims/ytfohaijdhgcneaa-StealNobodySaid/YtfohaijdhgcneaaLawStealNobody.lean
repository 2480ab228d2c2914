/- StealNobody: the walk. -/
import Derived.Test.YtfohaijdhgcneaaStealOwn
set_option linter.unusedVariables false
set_option linter.unusedSimpArgs false
namespace Go.Proofs.Ytfohaijdhgcneaa
open Go Go.RowKit

section
set_option maxRecDepth 100000
set_option maxHeartbeats 4000000
theorem step_nil (a : Int) (w : World) : Calls Try.prog 22 #[.pointer none, .int .i64 a] w fun e w' => e = .returned (.bool false) ∧ Only w w' := by
  go_enter Try.func22, Try.ntmps22
  go_wp2_with fail
  go_ret
  exact ⟨rfl, Stay.refl _ w⟩
theorem over_nil (w : World) : Calls Try.prog 34 #[.pointer none] w fun e w' => e = .returned (.bool true) ∧ Only w w' := by
  go_enter Try.func34, Try.ntmps34
  go_wp2_with fail
  go_ret
  exact ⟨rfl, Stay.refl _ w⟩
theorem got_nil (a : Int) (w : World) : Calls Try.prog 17 #[.pointer none, .int .i64 a] w fun e w' => e = .returned (.slice none 0 0) ∧ Only w w' := by
  go_enter Try.func17, Try.ntmps17
  go_wp2_with fail
  go_ret
  exact ⟨rfl, Stay.refl _ w⟩
theorem rest_nil (w : World) : Calls Try.prog 18 #[.pointer none] w fun e w' => e = .returned (.slice none 0 0) ∧ Only w w' := by
  go_enter Try.func18, Try.ntmps18
  go_wp2_with fail
  go_ret
  exact ⟨rfl, Stay.refl _ w⟩
theorem copy_nil (w : World) : Calls Try.prog 23 #[.pointer none] w fun e w' => e = .returned (.pointer none) ∧ Only w w' := by
  go_enter Try.func23, Try.ntmps23
  go_wp2_with fail
  go_ret
  exact ⟨rfl, Stay.refl _ w⟩
theorem has_nil (a : Int) (w : World) : Calls Try.prog 48 #[.pointer none, .int .i64 a] w fun e w' => e = .returned (.bool false) ∧ Only w w' := by
  go_enter Try.func48, Try.ntmps48
  go_wp2_with fail
  go_ret
  exact ⟨rfl, Stay.refl _ w⟩
theorem put_nil (a b : Int) (w : World) : Calls Try.prog 27 #[.pointer none, .int .i64 a, .int .i64 b] w fun e w' => e = .returned (.int .i64 2) ∧ Only w w' := by
  go_enter Try.func27, Try.ntmps27
  go_wp2_with fail
  refine (has_nil a w).mono ?_
  rintro e w1 ⟨rfl, h1⟩
  have H1 := Lib.hid h1
  clear h1
  go_wp2_with fail
  go_ret
  exact ⟨rfl, H1.out⟩
theorem next_nil (a b : Int) (w : World) : Calls Try.prog 29 #[.pointer none, .int .i64 a, .int .i64 b] w fun e w' => e = .returned (.tuple #[.int .i64 0, .int .i64 0, .bool false]) ∧ Only w w' := by
  go_enter Try.func29, Try.ntmps29
  go_wp2_with fail
  refine (has_nil a w).mono ?_
  rintro e w1 ⟨rfl, h1⟩
  have H1 := Lib.hid h1
  clear h1
  go_wp2_with fail
  go_ret3
  exact ⟨rfl, H1.out⟩
theorem queue_nil (a : Int) (w : World) : Calls Try.prog 33 #[.pointer none, .int .i64 a] w fun e w' => e = .returned (.slice none 0 0) ∧ Only w w' := by
  go_enter Try.func33, Try.ntmps33
  go_wp2_with fail
  refine (has_nil a w).mono ?_
  rintro e w1 ⟨rfl, h1⟩
  have H1 := Lib.hid h1
  clear h1
  go_wp2_with fail
  go_ret
  exact ⟨rfl, H1.out⟩
theorem pcopy_nil (w : World) : Calls Try.prog 31 #[.pointer none] w fun e w' => e = .returned (.pointer none) ∧ Only w w' := by
  go_enter Try.func31, Try.ntmps31
  go_wp2_with fail
  go_ret
  exact ⟨rfl, Stay.refl _ w⟩
theorem stealNobody_any (w : World) (a b : Int) : Calls Try.prog 9 #[.int .i64 a, .int .i64 b] w fun e w' => e = .returned (.bool true) ∧ Only w w' := by
  go_enter Try.func9, Try.ntmps9
  go_wp2_with fail
  refine (next_nil a b w).mono ?_
  rintro e w1 ⟨rfl, h1⟩
  have H1 := Lib.hid (h1)
  clear h1
  go_wp2_with fail
  refine (step_nil a w1).mono ?_
  rintro e w2 ⟨rfl, h2⟩
  have H2 := Lib.hid (H1.out.trans' h2)
  clear h2
  go_wp2_with fail
  refine (over_nil w2).mono ?_
  rintro e w3 ⟨rfl, h3⟩
  have H3 := Lib.hid (H2.out.trans' h3)
  clear h3
  go_wp2_with fail
  refine (got_nil a w3).mono ?_
  rintro e w4 ⟨rfl, h4⟩
  have H4 := Lib.hid (H3.out.trans' h4)
  clear h4
  go_wp2_with fail
  refine (rest_nil w4).mono ?_
  rintro e w5 ⟨rfl, h5⟩
  have H5 := Lib.hid (H4.out.trans' h5)
  clear h5
  go_wp2_with fail
  refine (copy_nil w5).mono ?_
  rintro e w6 ⟨rfl, h6⟩
  have H6 := Lib.hid (H5.out.trans' h6)
  clear h6
  go_wp2_with fail
  refine (put_nil a b w6).mono ?_
  rintro e w7 ⟨rfl, h7⟩
  have H7 := Lib.hid (H6.out.trans' h7)
  clear h7
  go_wp2_with fail
  refine (queue_nil a w7).mono ?_
  rintro e w8 ⟨rfl, h8⟩
  have H8 := Lib.hid (H7.out.trans' h8)
  clear h8
  go_wp2_with fail
  refine (pcopy_nil w8).mono ?_
  rintro e w9 ⟨rfl, h9⟩
  have H9 := Lib.hid (H8.out.trans' h9)
  clear h9
  go_wp2_with fail
  refine (awake_any w9).mono ?_
  rintro e w10 ⟨rfl, h10⟩
  have H10 := Lib.hid (H9.out.trans' h10)
  clear h10
  go_wp2_with fail
  go_ret
  exact ⟨rfl, H10.out⟩
end
end Go.Proofs.Ytfohaijdhgcneaa
