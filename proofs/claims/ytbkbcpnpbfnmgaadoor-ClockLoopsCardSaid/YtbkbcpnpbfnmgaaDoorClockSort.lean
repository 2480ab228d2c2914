/- The order of timers, as the program reckons it: cmp.Or, the comparison, slices.SortFunc. -/
import Derived.Test.YtbkbcpnpbfnmgaaDoorClockCopy
import Derived.Deep.RegionHeld3
set_option linter.unusedVariables false
set_option linter.unusedSimpArgs false
namespace Go.Proofs.YtbkbcpnpbfnmgaaDoor
open Go Go.RowKit Go.Sort

set_option maxRecDepth 100000 in
theorem isNaN_eq (a : Int) (w : World) : Calls Tryd.prog 54 #[.int .i64 a] w fun e w' => e = .returned (.bool false) ∧ w' = w := by
  go_enter Tryd.func54, Tryd.ntmps54
  go_wp2_with fail
  go_ret
  exact ⟨rfl, rfl⟩
set_option maxRecDepth 100000 in
set_option maxHeartbeats 4000000 in
theorem compare_eq (a b : Int) (w : World) : Calls Tryd.prog 37 #[.int .i64 a, .int .i64 b] w fun e w' => e = .returned (.int .i64 (cmpI a b)) ∧ w' = w := by
  by_cases h1 : a < b
  · have e1 : cmpI a b = -1 := if_pos h1
    have b1 : decide (a < b) = true := decide_eq_true h1
    rw [e1]
    clear e1
    go_enter Tryd.func37, Tryd.ntmps37
    go_wp2_with fail
    refine (isNaN_eq a w).mono ?_
    rintro e w1 ⟨rfl, rfl⟩
    go_wp2_with fail
    refine (isNaN_eq b w1).mono ?_
    rintro e w2 ⟨rfl, rfl⟩
    go_wp2_with fail
    go_ret
    exact ⟨rfl, rfl⟩
  · by_cases h2 : a > b
    · have e1 : cmpI a b = 1 := by unfold cmpI; rw [if_neg h1, if_pos h2]
      have b1 : decide (a < b) = false := decide_eq_false h1
      have b2 : decide (a > b) = true := decide_eq_true h2
      rw [e1]
      clear e1
      go_enter Tryd.func37, Tryd.ntmps37
      go_wp2_with fail
      refine (isNaN_eq a w).mono ?_
      rintro e w1 ⟨rfl, rfl⟩
      go_wp2_with fail
      refine (isNaN_eq b w1).mono ?_
      rintro e w2 ⟨rfl, rfl⟩
      go_wp2_with fail
      go_ret
      exact ⟨rfl, rfl⟩
    · have e1 : cmpI a b = 0 := by unfold cmpI; rw [if_neg h1, if_neg h2]
      have b1 : decide (a < b) = false := decide_eq_false h1
      have b2 : decide (a > b) = false := decide_eq_false h2
      rw [e1]
      clear e1
      go_enter Tryd.func37, Tryd.ntmps37
      go_wp2_with fail
      refine (isNaN_eq a w).mono ?_
      rintro e w1 ⟨rfl, rfl⟩
      go_wp2_with fail
      refine (isNaN_eq b w1).mono ?_
      rintro e w2 ⟨rfl, rfl⟩
      go_wp2_with fail
      go_ret
      exact ⟨rfl, rfl⟩
def orI (a b : Int) : Int := if a = 0 then b else a
set_option maxRecDepth 100000 in
set_option maxHeartbeats 4000000 in
theorem or_any (a b : Int) (g : Nat) (w : World) (h0 : w.cell? ⟨g, 0, none⟩ = some (.int .i64 a)) (h1 : w.cell? ⟨g, 1, none⟩ = some (.int .i64 b)) :
    Calls Tryd.prog 36 #[.slice (some ⟨g, 0, none⟩) 2 2] w fun e w' => e = .returned (.int .i64 (orI a b)) ∧ w' = w := by
  have lg := World.block_lt_of_cell? w _ h0
  obtain ⟨r, hr⟩ : ∃ r, r = orI a b := ⟨_, rfl⟩
  rw [← hr]
  have HR := Lib.hid hr
  clear hr
  go_enter Tryd.func36, Tryd.ntmps36
  go_wp2_with fail
  go_loopg [8] 2 (fun kk vj wr => ∃ j : Nat, j ≤ 2 ∧ kk = 2 - j ∧ vj = .int .i64 (j : Nat) ∧ wr = w ∧ (0 < j → a = 0) ∧ (1 < j → b = 0))
  case atStart => exact ⟨0, by omega, rfl, rfl, rfl, by omega, by omega⟩
  case round =>
    obtain ⟨j, hj, hk, rfl, rfl, ha, hb⟩ := hrel
    by_cases h0 : j = 0
    · subst h0
      clear ha hb
      by_cases ha : a = 0
      · subst ha
        go_wp2_with fail
        go_roundg 1
        case measure => omega
        case rel => exact ⟨1, by omega, rfl, rfl, rfl, by simp, by omega⟩
      · have b1 : (a != 0) = true := by simpa using ha
        have HA := Lib.hid ha
        clear ha
        go_wp2_with fail
        go_ret
        exact ⟨by rw [HR.out]; unfold orI; rw [if_neg HA.out]; rfl, rfl⟩
    · by_cases h1 : j = 1
      · subst h1
        have ha0 := ha (by omega)
        subst ha0
        clear ha hb h0
        by_cases hb : b = 0
        · subst hb
          go_wp2_with fail
          go_roundg 0
          case measure => omega
          case rel => exact ⟨2, by omega, rfl, rfl, rfl, by simp, by simp⟩
        · have b1 : (b != 0) = true := by simpa using hb
          have HA := Lib.hid hb
          clear hb
          go_wp2_with fail
          go_ret
          exact ⟨by rw [HR.out]; unfold orI; rw [if_pos rfl]; rfl, rfl⟩
      · obtain rfl : j = 2 := by omega
        have ha0 := ha (by omega)
        have hb0 := hb (by omega)
        subst ha0 hb0
        clear ha hb h0 h1
        go_wp2_with fail
        go_ret
        exact ⟨by rw [HR.out]; rfl, rfl⟩
set_option maxRecDepth 100000 in
set_option maxHeartbeats 4000000 in
theorem before_any (x y : Tm) (w : World) : Calls Tryd.prog 35 #[.agg #[.int .i64 x.id, .int .i64 x.due], .agg #[.int .i64 y.id, .int .i64 y.due]] w fun e w' => e = .returned (.int .i64 (orI (cmpI x.due y.due) (cmpI x.id y.id))) ∧
    w' = (((w.alloc (.cells #[.int .i64 x.id, .int .i64 x.due] 39)).alloc (.cells #[.int .i64 y.id, .int .i64 y.due] 39)).drew).alloc (.cells #[.int .i64 (cmpI x.due y.due), .int .i64 (cmpI x.id y.id)] 3) := by
  obtain ⟨xi, xd⟩ := x
  obtain ⟨yi, yd⟩ := y
  simp only
  obtain ⟨c, hc⟩ : ∃ c, c = cmpI xd yd := ⟨_, rfl⟩
  obtain ⟨d, hd⟩ : ∃ d, d = cmpI xi yi := ⟨_, rfl⟩
  obtain ⟨r, hr⟩ : ∃ r, r = orI c d := ⟨_, rfl⟩
  rw [← hc, ← hd, ← hr]
  have HC := Lib.hid (And.intro hc (And.intro hd hr))
  clear hc hd hr
  go_enter Tryd.func35, Tryd.ntmps35
  go_upto_region 1 with fail
  obtain ⟨w1, hw1⟩ : ∃ w1, w1 = (w.alloc (.cells #[.int .i64 xi, .int .i64 xd] 39)).alloc (.cells #[.int .i64 yi, .int .i64 yd] 39) := ⟨_, rfl⟩
  have hX : Blk w1 w.heap.size 39 [.int .i64 xi, .int .i64 xd] := by rw [hw1]; exact (Blk.new w [_, _] _).alloc _
  have hY : Blk w1 (w.heap.size + 1) 39 [.int .i64 yi, .int .i64 yd] := by rw [hw1]; exact Blk.newAt _ [_, _] _ _ (by simp)
  have x0 := hX.cell 0
  have x1 := hX.cell 1
  have y0 := hY.cell 0
  have y1 := hY.cell 1
  simp only [List.getElem?_cons_zero, List.getElem?_cons_succ] at x0 x1 y0 y1
  have lx := hX.lt
  have ly := hY.lt
  rw [← hw1]
  have HW := Lib.hid hw1
  clear hw1 hX hY
  go_region_held3 (fun w' => w'.cell? ⟨w.heap.size, 0, none⟩ = some (.int .i64 xi) ∧ w'.cell? ⟨w.heap.size, 1, none⟩ = some (.int .i64 xd) ∧ w'.cell? ⟨w.heap.size + 1, 0, none⟩ = some (.int .i64 yi) ∧ w'.cell? ⟨w.heap.size + 1, 1, none⟩ = some (.int .i64 yd))
    (first
      | go_keep
      | assumption
      | (go_split_ands; refine ⟨?_, ?_, ?_, ?_⟩ <;> (apply Only.cell ((Stay.refl (fun _ => False) _).alloc _); assumption)))
    (first | (go_at_call 36; refine (or_any _ _ _ _ (by exact (Blk.drew (Blk.newAt _ [_, _] _ _ (by simp))).at rfl) (by exact (Blk.drew (Blk.newAt _ [_, _] _ _ (by simp))).at rfl)).mono ?_; rintro e w3 ⟨rfl, rfl⟩) | (go_at_call 37; refine (compare_eq _ _ _).mono ?_; rintro e w3 ⟨rfl, rfl⟩))
  all_goals
    rw [← HC.out.1, ← HC.out.2.1, ← HC.out.2.2]
    go_wp2_with fail
    go_ret
    refine ⟨rfl, ?_⟩
    rw [HW.out]
    rfl
end Go.Proofs.YtbkbcpnpbfnmgaaDoor
