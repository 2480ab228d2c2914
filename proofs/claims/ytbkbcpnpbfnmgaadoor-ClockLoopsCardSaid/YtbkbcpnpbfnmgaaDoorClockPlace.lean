/- Where a timer stands: the walk of place. -/
import Derived.Test.YtbkbcpnpbfnmgaaDoorFrame0
import Derived.Test.YtbkbcpnpbfnmgaaDoorClockSpec
import Derived.Test.YtbkbcpnpbfnmgaaDoorSep
import Derived.Test.YtbkbcpnpbfnmgaaDoorShelf
import Derived.Laws.BitsAllLaws
import Derived.Laws.ShiftsVarLaws
import Derived.IntWalk
import Derived.Deep.CutRange
import Derived.Deep.DeepCutAuto
import Derived.Deep.CutBlock
import Derived.Deep.RegionHeld3
import Derived.Deep.RegionLaw
set_option linter.unusedVariables false
set_option linter.unusedSimpArgs false
namespace Go.Proofs.YtbkbcpnpbfnmgaaDoor
open Go Go.RowKit

theorem ofInt_i64 (a : Nat) (ha : a < 18446744073709551616) : (BitVec.ofInt 64 (a : Int)).toNat = a := ofInt_u64 a ha
theorem wrap_i64_nat (a : Nat) (ha : a < 9223372036854775808) : IntKind.i64.wrap (a : Int) = (a : Int) := IntWalk.i64_in _ (by omega)
theorem i64_xor_nat (a b : Nat) (ha : a < 2 ^ 42) (hb : b < 2 ^ 42) : bits .xor .i64 (a : Int) (b : Int) = ((a ^^^ b : Nat) : Int) := by
  have hx : a ^^^ b < 2 ^ 42 := Nat.xor_lt_two_pow ha hb
  have h1 := ofInt_i64 a (by omega)
  have h2 := ofInt_i64 b (by omega)
  show IntKind.i64.wrap ((BitVec.ofInt 64 (a : Int) ^^^ BitVec.ofInt 64 (b : Int)).toNat : Int) = _
  rw [BitVec.toNat_xor, h1, h2]
  exact wrap_i64_nat _ (by omega)
theorem i64_and63_nat (a : Nat) (ha : a < 2 ^ 42) : bits .and .i64 (a : Int) 63 = ((a % 64 : Nat) : Int) := by
  have hx : a &&& 63 = a % 64 := nat_mask6 a
  have h1 := ofInt_i64 a (by omega)
  have h2 : (BitVec.ofInt 64 (63 : Int)).toNat = 63 := by decide
  show IntKind.i64.wrap ((BitVec.ofInt 64 (a : Int) &&& BitVec.ofInt 64 (63 : Int)).toNat : Int) = _
  rw [BitVec.toNat_and, h1, h2, hx]
  exact wrap_i64_nat _ (by omega)
theorem len_any (x : Nat) (hx : x < 18446744073709551616) (w : World) : Calls Tryd.prog 52 #[.int .u64 x] w fun e w' => e = .returned (.int .i64 (Lib.bitLen x)) ∧ w' = w := by
  refine (Tryd.bits_Len x w (by omega) (by omega)).mono ?_
  rintro e w' h
  exact h
set_option maxRecDepth 100000 in
set_option maxHeartbeats 4000000 in
theorem place_any (w : World) (b now due : Nat) (hn : now < 2 ^ 42) (hd : due < 2 ^ 42) (hc : w.cell? ⟨b, 0, none⟩ = some (.int .i64 now)) :
    Calls Tryd.prog 31 #[.pointer (some ⟨b, 0, none⟩), .int .i64 due] w fun e w' => e = .returned (.tuple #[.int .i64 (lvl now due), .int .i64 (slot due (lvl now due))]) ∧ Only w w' := by
  have lb := World.block_lt_of_cell? w _ hc
  have hx : now ^^^ due < 2 ^ 42 := Nat.xor_lt_two_pow hn hd
  obtain ⟨x, hxx⟩ : ∃ x, x = now ^^^ due := ⟨_, rfl⟩
  have e1 := i64_xor_nat now due hn hd
  rw [← hxx] at e1 hx
  have e2 : IntKind.u64.wrap (x : Int) = (x : Int) := by rw [IntKind.wrap_u64]; omega
  obtain ⟨l, hl⟩ : ∃ l, l = lvl now due := ⟨_, rfl⟩
  have hl6 : l ≤ 6 := by rw [hl]; exact (lvl_spec hn hd).2
  have hlv : l = (Lib.bitLen x - 1) / 6 := by rw [hl, hxx]; rfl
  obtain ⟨q, hq⟩ : ∃ q, q = Lib.bitLen x := ⟨_, rfl⟩
  rw [← hq] at hlv
  rw [← hl]
  have HX := Lib.hid (And.intro hl hq)
  clear hl hxx
  have hs := Lib.hid (show slot due l = due / 2 ^ (6 * l) % 64 by unfold slot; rw [pow64])
  go_enter Tryd.func31, Tryd.ntmps31
  go_upto_if 16 with fail
  go_cut [6] (fun a wc => a = .int .i64 l ∧ w = wc)
  case first =>
    by_cases h0 : x = 0
    · subst h0
      have hl0 : l = 0 := by
        have : Lib.bitLen 0 = 0 := rfl
        omega
      subst hl0
      clear hlv hq
      go_wp2_with fail
      go_meet
      case rel => exact ⟨rfl, rfl⟩
    · have b1 : ((x : Int) != 0) = true := by simp; omega
      have HL := Lib.hid hlv
      clear hlv
      go_wp2_with fail
      refine (len_any x (by omega) w).mono ?_
      rintro e w1 ⟨rfl, rfl⟩
      rw [← HX.out.2]
      have hq1 : 1 ≤ q := by rw [HX.out.2]; exact (Lib.bitLenAux_bounds 64 x (Nat.lt_of_lt_of_le hx (by decide)) h0).1
      have hq42 : q ≤ 42 := by rw [HX.out.2]; exact Lib.bitLen_le _ 42 (by omega) hx
      have w1' : IntKind.i64.wrap ((q : Int) - 1) = (q : Int) - 1 := IntWalk.i64_in _ (by omega)
      have w2' : ((q : Int) - 1).tdiv 6 = (l : Int) := by rw [HL.out, Int.tdiv_eq_ediv_of_nonneg (by omega)]; omega
      clear hq
      go_wp2_with fail
      go_meet
      case rel => exact ⟨by first | rfl | (simp only [Value.int.injEq, true_and]; unfold wrap64; omega), rfl⟩
  case rest =>
    obtain ⟨rfl, rfl⟩ := hcut
    clear hlv
    have w3 : IntKind.i64.wrap (6 * (l : Int)) = 6 * (l : Int) := IntWalk.i64_in _ (by omega)
    go_upto_region 5 with fail
    go_big_region
    go_wp2_with fail
    go_ret2
    refine ⟨?_, (Stay.refl _ w).drew⟩
    have w4 : (due : Int) / 2 ^ (6 * l) = ((due / 2 ^ (6 * l) : Nat) : Int) := by rw [Int.natCast_ediv]; simp
    have w5 : due / 2 ^ (6 * l) < 2 ^ 42 := Nat.lt_of_le_of_lt (Nat.div_le_self _ _) hd
    rw [w4, i64_and63_nat _ w5, hs.out]
    rfl
end Go.Proofs.YtbkbcpnpbfnmgaaDoor
