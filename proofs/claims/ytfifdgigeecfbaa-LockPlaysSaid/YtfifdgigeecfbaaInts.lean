/- slices.IsSorted and slices.Equal at slices of ints. -/
import Derived.Test.YtfifdgigeecfbaaArgs
import Derived.Test.YtfifdgigeecfbaaChecked
import Derived.Deep.RegionHeld3
import Derived.IntWalk
set_option linter.unusedVariables false
set_option linter.unusedSimpArgs false
namespace Go.Proofs.Ytfifdgigeecfbaa
open Go Go.RowKit

def icell (x : Int) : List Value := [.int .i64 x]
theorem icell_length (x : Int) : (icell x).length = 1 := rfl

set_option maxRecDepth 100000 in
theorem isNaN_any (a : Int) (w : World) : Calls Try.prog 60 #[.int .i64 a] w fun e w' => e = .returned (.bool false) ∧ Only w w' := by
  go_enter Try.func60, Try.ntmps60
  go_wp2_with fail
  go_ret
  exact ⟨rfl, Stay.refl _ w⟩

set_option maxRecDepth 100000 in
theorem less_any (a b : Int) (h : b ≤ a) (w : World) : Calls Try.prog 42 #[.int .i64 a, .int .i64 b] w fun e w' => e = .returned (.bool false) ∧ Only w w' := by
  have hd : decide (a < b) = false := by simp; omega
  go_enter Try.func42, Try.ntmps42
  go_wp2_with fail
  refine (isNaN_any a w).mono ?_
  rintro e w1 ⟨rfl, hO⟩
  have HO := Lib.hid hO
  clear hO
  go_wp2_with fail
  go_ret
  exact ⟨rfl, HO.out⟩

set_option maxRecDepth 100000 in
set_option maxHeartbeats 4000000 in
theorem sorted_any (w : World) (A : Option Addr) (cap : Nat) (xs : List Int) (hs : Sl w w.heap.size A xs.length cap 1 (xs.flatMap icell)) (hx : xs.Pairwise (· ≤ ·)) :
    Calls Try.prog 25 #[.slice A xs.length cap] w fun e w' => e = .returned (.bool true) ∧ Only w w' := by
  have b1 := hs.2.1
  have b2 := hs.2.2.1
  have HS := Lib.hid (And.intro hs hx)
  clear hs hx
  go_enter Try.func25, Try.ntmps25
  go_wp2_with fail
  go_loopg [3] (xs.length) (fun k vi wr => ∃ i : Int, -1 ≤ i ∧ i < xs.length ∧ k = (i + 1).toNat ∧ vi = .int .i64 i ∧ Only w wr)
  case atStart => exact ⟨xs.length - 1, by omega, by omega, by omega, rfl, Stay.refl _ w⟩
  case round =>
    obtain ⟨i, hi0, hi1, hk, rfl, hO⟩ := hrel
    by_cases hp : 0 < i
    · obtain ⟨q, rfl⟩ : ∃ q : Nat, i = (q : Int) := ⟨i.toNat, by omega⟩
      obtain ⟨j, hj⟩ : ∃ j : Nat, q = j + 1 := ⟨q - 1, by omega⟩
      obtain ⟨x, hx⟩ : ∃ x, xs[j]? = some x := ⟨_, List.getElem?_eq_getElem (by omega)⟩
      obtain ⟨y, hy⟩ : ∃ y, xs[q]? = some y := ⟨_, List.getElem?_eq_getElem (by omega)⟩
      have hxy : x ≤ y := by
        obtain ⟨l1, e1⟩ := List.getElem?_eq_some_iff.1 hx
        obtain ⟨l2, e2⟩ := List.getElem?_eq_some_iff.1 hy
        have := List.pairwise_iff_getElem.1 HS.out.2 j q l1 l2 (by omega)
        rw [e1, e2] at this
        exact this
      obtain ⟨xb, xo, rfl, hxb, hxc⟩ := (HS.out.1.only hO).elem icell_length hx (by omega)
      obtain ⟨yb, yo, e, hyb, hyc⟩ := (HS.out.1.only hO).elem icell_length hy (by omega)
      simp only [Option.some.injEq, Addr.mk.injEq, and_true] at e
      obtain ⟨rfl, rfl⟩ := e
      have e0 := hxc 0 _ rfl
      have e1 := hyc 0 _ rfl
      simp only [Nat.add_zero, Nat.mul_one] at e0 e1
      have hlt : xb < wr.heap.size := Nat.lt_of_lt_of_le hxb hO.size
      have hw : IntKind.i64.wrap ((q : Int) - 1) = (j : Int) := by rw [IntWalk.i64_in _ (by omega)]; omega
      have u1 : (0 : Int) ≤ (q : Int) := by omega
      have u2 : (q : Int) < (xs.length : Int) := by omega
      have u3 : (0 : Int) ≤ (j : Int) := by omega
      have u4 : (j : Int) < (xs.length : Int) := by omega
      have HX := Lib.hid (And.intro hO (And.intro hk (And.intro hxy hj)))
      clear hO hk hx hy hxc hyc hyb hxy hj
      go_wp2_with fail
      go_region_held3 (fun w' => w'.cell? ⟨xb, xo + q, none⟩ = some (.int .i64 y) ∧ w'.cell? ⟨xb, xo + j, none⟩ = some (.int .i64 x))
        (first
          | go_keep
          | (go_split_ands; refine ⟨?_, ?_⟩ <;> (apply Only.cell hOx; assumption)))
        ((go_at_call 42; refine (less_any y x HX.out.2.2.1 _).mono ?_; rintro e w5 ⟨rfl, hOx⟩))
      go_wp2_with fail
      go_roundg q
      case measure => have := HX.out.2.1; omega
      case rel => exact ⟨j, by omega, by omega, by have := HX.out.2.2.2; omega, rfl, HX.out.1.trans' (Only.trans' (show Only wr wr.drew from (Stay.refl (fun _ => False) wr).drew) hOx)⟩
    · have HX := Lib.hid hO
      clear hO hk
      go_wp2_with fail
      go_ret
      exact ⟨rfl, HX.out⟩

set_option maxRecDepth 100000 in
set_option maxHeartbeats 4000000 in
theorem equal_any (w : World) (A B : Option Addr) (cap cbp : Nat) (xs : List Int) (hs : Sl w w.heap.size A xs.length cap 1 (xs.flatMap icell)) (ht : Sl w w.heap.size B xs.length cbp 1 (xs.flatMap icell)) :
    Calls Try.prog 15 #[.slice A xs.length cap, .slice B xs.length cbp] w fun e w' => e = .returned (.bool true) ∧ Only w w' := by
  have b1 := hs.2.1
  have b2 := hs.2.2.1
  have HS := Lib.hid (And.intro hs ht)
  clear hs ht
  go_enter Try.func15, Try.ntmps15
  go_wp2_with fail
  go_loopg [13] (xs.length) (fun k vi wr => ∃ i : Nat, i ≤ xs.length ∧ k = xs.length - i ∧ vi = .int .i64 (i : Nat) ∧ Only w wr)
  case atStart => exact ⟨0, by omega, by omega, rfl, Stay.refl _ w⟩
  case round =>
    obtain ⟨i, hi, hk, rfl, hO⟩ := hrel
    by_cases hp : i < xs.length
    · obtain ⟨x, hx⟩ : ∃ x, xs[i]? = some x := ⟨_, List.getElem?_eq_getElem (by omega)⟩
      obtain ⟨xb, xo, rfl, hxb, hxc⟩ := (HS.out.1.only hO).elem icell_length hx (by omega)
      obtain ⟨yb, yo, rfl, hyb, hyc⟩ := (HS.out.2.only hO).elem icell_length hx (by omega)
      have e0 := hxc 0 _ rfl
      have e1 := hyc 0 _ rfl
      simp only [Nat.add_zero, Nat.mul_one] at e0 e1
      have hlt : xb < wr.heap.size := Nat.lt_of_lt_of_le hxb hO.size
      have hlt2 : yb < wr.heap.size := Nat.lt_of_lt_of_le hyb hO.size
      have HX := Lib.hid (And.intro hO hk)
      clear hO hk hx hxc hyc
      go_wp2_with fail
      go_big_region
      go_wp2_with fail
      go_roundg (xs.length - (i + 1))
      case measure => have := HX.out.2; omega
      case rel => exact ⟨i + 1, hp, rfl, rfl, HX.out.1.trans (Stay.refl (fun _ => False) wr).drew (fun _ _ h => h)⟩
    · have HX := Lib.hid hO
      clear hO hk
      go_wp2_with fail
      go_ret
      exact ⟨rfl, HX.out⟩

end Go.Proofs.Ytfifdgigeecfbaa
