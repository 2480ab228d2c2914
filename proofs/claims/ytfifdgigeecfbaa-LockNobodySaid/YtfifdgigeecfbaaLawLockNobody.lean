/- LockNobody: the walk. -/
import Derived.Test.YtfifdgigeecfbaaLockOwn
import Derived.Outline
set_option linter.unusedVariables false
set_option linter.unusedSimpArgs false
namespace Go.Proofs.Ytfifdgigeecfbaa
open Go Go.RowKit

section
set_option maxRecDepth 100000
theorem at_nil (l p : Int) (w : World) : Calls Try.prog 31 #[.pointer none, .int .i64 l, .int .i64 p] w fun e w' => e = .returned (.tuple #[.pointer none, .int .i64 2]) ∧ Only w w' := by
  go_enter Try.func31, Try.ntmps31
  go_wp2_with fail
  go_ret2
  exact ⟨rfl, Stay.refl _ w⟩
theorem make_nil (p : Int) (w : World) : Calls Try.prog 11 #[.pointer none, .int .i64 p] w fun e w' => e = .returned (.tuple #[.int .i64 0, .int .i64 2]) ∧ Only w w' := by
  go_enter Try.func11, Try.ntmps11
  go_wp2_with fail
  go_ret2
  exact ⟨rfl, Stay.refl _ w⟩
theorem hold_nil (l p : Int) (w : World) : Calls Try.prog 13 #[.pointer none, .int .i64 l, .int .i64 p] w fun e w' => e = .returned (.tuple #[.bool false, .int .i64 2]) ∧ Only w w' := by
  go_enter Try.func13, Try.ntmps13
  go_wp2_with fail
  refine (at_nil l p w).mono ?_
  rintro e w1 ⟨rfl, hO⟩
  have HO := Lib.hid hO
  clear hO
  go_wp2_with fail
  go_ret2
  exact ⟨rfl, HO.out⟩
theorem free_nil (l p : Int) (w : World) : Calls Try.prog 14 #[.pointer none, .int .i64 l, .int .i64 p] w fun e w' => e = .returned (.tuple #[.int .i64 0, .int .i64 2]) ∧ Only w w' := by
  go_enter Try.func14, Try.ntmps14
  go_wp2_with fail
  refine (at_nil l p w).mono ?_
  rintro e w1 ⟨rfl, hO⟩
  have HO := Lib.hid hO
  clear hO
  go_wp2_with fail
  go_ret2
  exact ⟨rfl, HO.out⟩
def zst0 : Value := .agg #[.int .i64 0, .int .i64 0, .slice none 0 0, .slice none 0 0]
theorem state_nil (l : Int) (w : World) : Calls Try.prog 19 #[.pointer none, .int .i64 l] w fun e w' => e = .returned (.tuple #[zst0, .int .i64 2]) ∧ Only w w' := by
  go_enter Try.func19, Try.ntmps19
  go_wp2_with fail
  refine (at_nil l 1 _).mono ?_
  rintro e w1 ⟨rfl, hO⟩
  have HO := Lib.hid hO
  have B1 := Lib.hid (hO.blk (Blk.new w [.int .i64 0, .int .i64 0, .slice none 0 0, .slice none 0 0] 42))
  have c1 := B1.out.cell
  have f1 := B1.out.free
  have l1 := B1.out.lt
  clear hO
  go_wp2_with fail
  refine bodyPost_ret (v := .tuple #[zst0, .int .i64 2]) (by simp [results, Try.results19, go_sem, zst0, c1, f1]) rfl ⟨rfl, ?_⟩
  exact ((((((Mine.only HO.out.behind).put (Nat.le_refl _) _ _).put (Nat.le_refl _) _ _).put (Nat.le_refl _) _ _).put (Nat.le_refl _) _ _)).stay
theorem withdraw_nil (p : Int) (w : World) : Calls Try.prog 21 #[.pointer none, .int .i64 p] w fun e w' => e = .returned (.bool false) ∧ Only w w' := by
  go_enter Try.func21, Try.ntmps21
  go_wp2_with fail
  go_big_region
  go_wp2_with fail
  go_ret
  exact ⟨rfl, ((Stay.refl _ w).alloc _).drew⟩
theorem stuck_nil (w : World) : Calls Try.prog 22 #[.pointer none] w fun e w' => e = .returned (.slice none 0 0) ∧ Only w w' := by
  go_enter Try.func22, Try.ntmps22
  go_wp2_with fail
  go_ret
  exact ⟨rfl, Stay.refl _ w⟩
theorem copy_nil (w : World) : Calls Try.prog 23 #[.pointer none] w fun e w' => e = .returned (.pointer none) ∧ Only w w' := by
  go_enter Try.func23, Try.ntmps23
  go_wp2_with fail
  go_ret
  exact ⟨rfl, Stay.refl _ w⟩
set_option maxHeartbeats 2000000 in
theorem same_zero (w : World) : Calls Try.prog 20 #[zst0, zst0] w fun e w' => e = .returned (.bool true) ∧ Only w w' := by
  unfold zst0
  go_enter Try.func20, Try.ntmps20
  go_wp2_with fail
  go_loopg [42] 0 (fun k vi wr => k = 0 ∧ vi = .int .i64 0 ∧ wr = (w.alloc (.cells #[.int .i64 0, .int .i64 0, .slice none 0 0, .slice none 0 0] 42)).alloc (.cells #[.int .i64 0, .int .i64 0, .slice none 0 0, .slice none 0 0] 42))
  case atStart => exact ⟨rfl, rfl, rfl⟩
  case round =>
    obtain ⟨hk, rfl, rfl⟩ := hrel
    go_wp2_with fail
    go_loopg [58] 0 (fun k vi wr => k = 0 ∧ vi = .int .i64 0 ∧ wr = (w.alloc (.cells #[.int .i64 0, .int .i64 0, .slice none 0 0, .slice none 0 0] 42)).alloc (.cells #[.int .i64 0, .int .i64 0, .slice none 0 0, .slice none 0 0] 42))
    case atStart => exact ⟨rfl, rfl, rfl⟩
    case round =>
      obtain ⟨hk2, rfl, rfl⟩ := hrel
      go_wp2_with fail
      go_ret
      exact ⟨rfl, ((Stay.refl _ w).alloc _).alloc _⟩
end

set_option maxRecDepth 100000 in
set_option maxHeartbeats 8000000 in
theorem lockNobody_any (w : World) (n p : Int) : Calls Try.prog 5 #[.int .i64 n, .int .i64 p] w fun e w' => e = .returned (.bool true) ∧ Only w w' := by
  go_enter Try.func5, Try.ntmps5
  go_wp2_with fail
  refine (make_nil n _).mono ?_
  rintro e w1 ⟨rfl, hO1⟩
  have H1 := Lib.hid hO1
  clear hO1
  go_wp2_with fail
  refine (hold_nil n p _).mono ?_
  rintro e w2 ⟨rfl, hO2⟩
  have H2 := Lib.hid hO2
  clear hO2
  go_wp2_with fail
  refine (free_nil n p _).mono ?_
  rintro e w3 ⟨rfl, hO3⟩
  have H3 := Lib.hid hO3
  clear hO3
  go_wp2_with fail
  refine (state_nil n _).mono ?_
  rintro e w4 ⟨rfl, hO4⟩
  have H4 := Lib.hid hO4
  clear hO4
  unfold zst0
  go_wp2_with fail
  refine (show Calls Try.prog 20 #[.agg #[.int .i64 0, .int .i64 0, .slice none 0 0, .slice none 0 0], .agg #[.int .i64 0, .int .i64 0, .slice none 0 0, .slice none 0 0]] _ _ from same_zero _).mono ?_
  rintro e w5 ⟨rfl, hO5⟩
  have H5 := Lib.hid hO5
  clear hO5
  go_wp2_with fail
  refine (withdraw_nil p _).mono ?_
  rintro e w6 ⟨rfl, hO6⟩
  have H6 := Lib.hid hO6
  clear hO6
  go_wp2_with fail
  refine (stuck_nil _).mono ?_
  rintro e w7 ⟨rfl, hO7⟩
  have H7 := Lib.hid hO7
  clear hO7
  go_wp2_with fail
  refine (copy_nil _).mono ?_
  rintro e w8 ⟨rfl, hO8⟩
  have H8 := Lib.hid hO8
  clear hO8
  go_wp2_with fail
  refine (awake_any _).mono ?_
  rintro e w9 ⟨rfl, hO9⟩
  have H9 := Lib.hid hO9
  clear hO9
  go_wp2_with fail
  go_ret
  exact ⟨rfl, H1.out.trans' (H2.out.trans' (H3.out.trans' (H4.out.trans' (Only.trans' ((Stay.refl _ w4).alloc _) (H5.out.trans' (H6.out.trans' (H7.out.trans' (H8.out.trans' H9.out))))))))⟩

end Go.Proofs.Ytfifdgigeecfbaa
