/- The reference's SameDeals at equal lists; New. -/
import Derived.Test.YtfmkdkpgehkfaaaRefVals
set_option linter.unusedVariables false
set_option linter.unusedSimpArgs false
namespace Go.Proofs.Ytfmkdkpgehkfaaa
open Go Go.RowKit

set_option maxRecDepth 100000 in
set_option maxHeartbeats 4000000 in
theorem deals_any (w : World) (A B : Option Addr) (cp cq : Nat) (l : List D) (hs : Sl w w.heap.size A l.length cp 7 (l.flatMap D.cells)) (ht : Sl w w.heap.size B l.length cq 7 (l.flatMap D.cells)) :
    Calls Try.prog 37 #[.slice A l.length cp, .slice B l.length cq] w fun e w' => e = .returned (.bool true) ∧ Only w w' := by
  have b1 := hs.2.1
  have b2 := hs.2.2.1
  have HS := Lib.hid (And.intro hs ht)
  clear hs ht
  go_enter Try.func37, Try.ntmps37
  go_wp2_with fail
  go_loopg [14] (l.length) (fun k i wr => ∃ j : Nat, j ≤ l.length ∧ k = l.length - j ∧ i = .int .i64 (j : Nat) ∧ Only w wr)
  case atStart => exact ⟨0, Nat.zero_le _, rfl, rfl, Stay.refl _ w⟩
  case round =>
    obtain ⟨j, hj, hk, rfl, hO⟩ := hrel
    by_cases hlt : j < l.length
    · obtain ⟨v, hv⟩ : ∃ v, l[j]? = some v := ⟨_, List.getElem?_eq_getElem hlt⟩
      obtain ⟨ab, ao, rfl, hab, hc1⟩ := (HS.out.1.only hO).elem D.cells_length hv (by omega)
      obtain ⟨bb, bo, rfl, hbb, hc2⟩ := (HS.out.2.only hO).elem D.cells_length hv (by omega)
      have g0 := hc1 0 _ rfl
      simp only [Nat.add_zero] at g0
      have g1 := hc1 1 _ rfl
      have g2 := hc1 2 _ rfl
      have g3 := hc1 3 _ rfl
      have g4 := hc1 4 _ rfl
      have g5 := hc1 5 _ rfl
      have g6 := hc1 6 _ rfl
      have e0 := hc2 0 _ rfl
      simp only [Nat.add_zero] at e0
      have e1 := hc2 1 _ rfl
      have e2 := hc2 2 _ rfl
      have e3 := hc2 3 _ rfl
      have e4 := hc2 4 _ rfl
      have e5 := hc2 5 _ rfl
      have e6 := hc2 6 _ rfl
      have hab' : ab < wr.heap.size := Nat.lt_of_lt_of_le hab hO.size
      have hbb' : bb < wr.heap.size := Nat.lt_of_lt_of_le hbb hO.size
      have HX := Lib.hid (And.intro hO hk)
      clear hO hk hv hc1 hc2
      go_wp2_with fail
      go_big_region
      go_wp2_with fail
      go_roundg (l.length - (j + 1))
      case measure =>
        have := HX.out.2
        omega
      case rel => exact ⟨j + 1, hlt, rfl, rfl, HX.out.1.trans' (show Only wr _ from ((Stay.refl (fun _ => False) wr).alloc _).drew)⟩
    · have HX := Lib.hid hO
      clear hO hk
      go_wp2_with fail
      go_ret
      exact ⟨rfl, HX.out⟩

def stNew (cap pol : Int) : Value := .agg #[.int .i64 cap, .int .i64 pol, .bool false, .slice none 0 0, .slice none 0 0, .int .i64 0]
theorem rd_new (w : World) (cap pol : Int) : Rd w (stNew cap pol) (Ch.new cap pol) := ⟨none, 0, none, 0, rfl, ⟨rfl, Nat.le_refl _, by omega, fun _ => rfl, fun h => absurd h (by simp [Ch.new])⟩, ⟨rfl, Nat.le_refl _, by omega, fun _ => rfl, fun h => absurd h (by simp [Ch.new])⟩⟩

set_option maxRecDepth 100000 in
theorem rnew_good (cap pol : Int) (w : World) (h : newOk cap pol = true) :
    Calls Try.prog 23 #[.int .i64 cap, .int .i64 pol] w fun e w' => e = .returned (.tuple #[stNew cap pol, .int .i64 0]) ∧ Only w w' := by
  obtain ⟨h1, h2, h3, h4⟩ : 0 ≤ cap ∧ cap ≤ 16 ∧ 0 ≤ pol ∧ pol ≤ 2 := by
    simp [newOk] at h
    omega
  clear h
  have h5 : pol = 0 ∨ pol = 1 ∨ pol = 2 := by omega
  rcases h5 with rfl | rfl | rfl
  all_goals
    go_enter Try.func23, Try.ntmps23
    go_wp2_with fail
    refine bodyPost_ret (v := .tuple #[stNew cap _, .int .i64 0]) (by simp [results, Try.results23, stNew, go_sem]) rfl ⟨rfl, ?_⟩
    exact (Stay.refl _ w).alloc _

set_option maxRecDepth 100000 in
theorem rnew_bad (cap pol : Int) (w : World) (h : newOk cap pol = false) :
    Calls Try.prog 23 #[.int .i64 cap, .int .i64 pol] w fun e w' => e = .returned (.tuple #[stNew 0 0, .int .i64 2]) ∧ Only w w' := by
  have hh : cap < 0 ∨ (0 ≤ cap ∧ 16 < cap) ∨ (0 ≤ cap ∧ cap ≤ 16 ∧ (pol != 0) = true ∧ (pol != 1) = true ∧ (pol != 2) = true) := by
    simp [newOk] at h
    simp
    omega
  clear h
  rcases hh with h | ⟨h1, h2⟩ | ⟨h1, h2, h3, h4, h5⟩
  all_goals
    go_enter Try.func23, Try.ntmps23
    go_wp2_with fail
    refine bodyPost_ret (v := .tuple #[stNew 0 0, .int .i64 2]) (by simp [results, Try.results23, stNew, go_sem]) rfl ⟨rfl, ?_⟩
    exact (Stay.refl _ w).alloc _

end Go.Proofs.Ytfmkdkpgehkfaaa
