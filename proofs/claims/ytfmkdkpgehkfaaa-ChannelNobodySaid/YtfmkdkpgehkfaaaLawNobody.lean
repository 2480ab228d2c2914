/- ChannelNobody: the walk. -/
import Derived.Test.YtfmkdkpgehkfaaaNil
import Derived.Test.YtfmkdkpgehkfaaaLaw16b
set_option linter.unusedVariables false
set_option linter.unusedSimpArgs false
namespace Go.Proofs.Ytfmkdkpgehkfaaa
open Go Go.RowKit

set_option maxRecDepth 100000 in
set_option maxHeartbeats 8000000 in
theorem nobody_any (w : World) (o : Op1) : Calls Try.prog 7 #[o.val] w fun e w' => e = .returned (.bool true) ∧ Only w w' := by
  unfold Op1.val
  go_enter Try.func7, Try.ntmps7
  go_wp2_with fail
  refine (offer_nil o.v _).mono ?_
  rintro e w1 ⟨rfl, hO1⟩
  have hT1 : Blk w1 w.heap.size 31 o.cells := hO1.blk (Blk.newAt w o.cells _ _ rfl)
  have H1 := Lib.hid (And.intro hO1 hT1)
  simp only [F.nil, F.val]
  clear hO1 hT1
  go_wp2_with fail
  refine (take_nil _).mono ?_
  rintro e w2 ⟨rfl, hO2⟩
  have hT1 := hO2.blk (H1.out.2.alloc _)
  have hT5 : Blk w2 w1.heap.size 42 [.int .i64 0, .string ⟨#[]⟩] := hO2.blk (Blk.newAt w1 [.int .i64 0, .string ⟨#[]⟩] _ _ rfl)
  have H2 := Lib.hid (And.intro hO2 (And.intro hT1 hT5))
  have k1 := hT1.cell
  have l1 := hT1.lt
  have k5 := hT5.cell
  have l5 := hT5.lt
  simp only [Op1.cells] at k1
  simp only [F.nil, F.val, V.nil, V.val]
  clear hO2 hT1 hT5
  go_wp2_with fail
  refine (park_nil o.t o.send o.v _).mono ?_
  rintro e w3 ⟨rfl, hO3⟩
  have hT1 := hO3.blk ((H2.out.2.1.alloc (.cells #[.int .i64 0, .int .i64 0, .string ⟨#[]⟩] 29)).alloc (.cells #[.int .i64 0, .string ⟨#[]⟩] 42))
  have H3 := Lib.hid (And.intro hO3 hT1)
  clear k1 l1 k5 l5
  have k1 := hT1.cell
  have l1 := hT1.lt
  simp only [Op1.cells] at k1
  clear hO3 hT1
  go_wp2_with fail
  refine (withdraw_nil o.t _).mono ?_
  rintro e w4 ⟨rfl, hO4⟩
  have H4 := Lib.hid hO4
  clear hO4 k1 l1
  go_wp2_with fail
  refine (close_nil _).mono ?_
  rintro e w5 ⟨rfl, hO5⟩
  have H5 := Lib.hid hO5
  clear hO5
  go_wp2_with fail
  refine (state_nil _).mono ?_
  rintro e w6 ⟨rfl, hO6⟩
  have H6 := Lib.hid hO6
  clear hO6
  unfold stZero
  go_wp2_with fail
  refine (same_any _ stZero stZero Ch.zero (rd_zero _) (rd_zero _)).mono ?_
  rintro e w7 ⟨rfl, hO7⟩
  have H7 := Lib.hid hO7
  clear hO7
  go_wp2_with fail
  refine (copy_nil _).mono ?_
  rintro e w8 ⟨rfl, hO8⟩
  have H8 := Lib.hid hO8
  clear hO8
  go_wp2_with fail
  refine (awake_any _).mono ?_
  rintro e w9 ⟨rfl, hO9⟩
  have H9 := Lib.hid hO9
  clear hO9
  go_wp2_with fail
  go_ret
  refine ⟨rfl, ?_⟩
  have hA := fun (x : World) (o : Obj) => (Stay.refl (fun _ : Nat => False) x).alloc o
  exact ((((((((H1.out.1.behind.trans' H2.out.1.behind).trans' H3.out.1.behind.behind).trans' H4.out).trans' H5.out).trans' H6.out).trans' H7.out).trans' H8.out).trans' H9.out)

end Go.Proofs.Ytfmkdkpgehkfaaa
