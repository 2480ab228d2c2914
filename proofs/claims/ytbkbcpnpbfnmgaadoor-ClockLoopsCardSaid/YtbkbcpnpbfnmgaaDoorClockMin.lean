/- The timer that is due first: cmp.Compare, the comparison, slices.MinFunc. -/
import Derived.Test.YtbkbcpnpbfnmgaaDoorClockTurn
import Derived.Deep.MidRow
set_option linter.unusedVariables false
set_option linter.unusedSimpArgs false
namespace Go.Proofs.YtbkbcpnpbfnmgaaDoor
open Go Go.RowKit

set_option maxRecDepth 100000 in
theorem isNaN_any (a : Int) (w : World) : Calls Tryd.prog 54 #[.int .i64 a] w fun e w' => e = .returned (.bool false) ∧ Only w w' := by
  go_enter Tryd.func54, Tryd.ntmps54
  go_wp2_with fail
  go_ret
  exact ⟨rfl, Stay.refl _ w⟩
def cmpI (a b : Int) : Int := if a < b then -1 else if a > b then 1 else 0
set_option maxRecDepth 100000 in
set_option maxHeartbeats 4000000 in
theorem compare_any (a b : Int) (w : World) : Calls Tryd.prog 37 #[.int .i64 a, .int .i64 b] w fun e w' => e = .returned (.int .i64 (cmpI a b)) ∧ Only w w' := by
  by_cases h1 : a < b
  · have e1 : cmpI a b = -1 := if_pos h1
    have b1 : decide (a < b) = true := decide_eq_true h1
    rw [e1]
    clear e1 h1
    go_enter Tryd.func37, Tryd.ntmps37
    go_wp2_with fail
    refine (isNaN_any a w).mono ?_
    rintro e w1 ⟨rfl, o1⟩
    have H1 := Lib.hid o1
    clear o1
    go_wp2_with fail
    refine (isNaN_any b w1).mono ?_
    rintro e w2 ⟨rfl, o2⟩
    have H2 := Lib.hid (H1.out.trans' o2)
    clear o2
    go_wp2_with fail
    go_ret
    exact ⟨rfl, H2.out⟩
  · by_cases h2 : a > b
    · have e1 : cmpI a b = 1 := by unfold cmpI; rw [if_neg h1, if_pos h2]
      have b1 : decide (a < b) = false := decide_eq_false h1
      have b2 : decide (a > b) = true := decide_eq_true h2
      rw [e1]
      clear e1 h1 h2
      go_enter Tryd.func37, Tryd.ntmps37
      go_wp2_with fail
      refine (isNaN_any a w).mono ?_
      rintro e w1 ⟨rfl, o1⟩
      have H1 := Lib.hid o1
      clear o1
      go_wp2_with fail
      refine (isNaN_any b w1).mono ?_
      rintro e w2 ⟨rfl, o2⟩
      have H2 := Lib.hid (H1.out.trans' o2)
      clear o2
      go_wp2_with fail
      go_ret
      exact ⟨rfl, H2.out⟩
    · have e1 : cmpI a b = 0 := by unfold cmpI; rw [if_neg h1, if_neg h2]
      have b1 : decide (a < b) = false := decide_eq_false h1
      have b2 : decide (a > b) = false := decide_eq_false h2
      rw [e1]
      clear e1 h1 h2
      go_enter Tryd.func37, Tryd.ntmps37
      go_wp2_with fail
      refine (isNaN_any a w).mono ?_
      rintro e w1 ⟨rfl, o1⟩
      have H1 := Lib.hid o1
      clear o1
      go_wp2_with fail
      refine (isNaN_any b w1).mono ?_
      rintro e w2 ⟨rfl, o2⟩
      have H2 := Lib.hid (H1.out.trans' o2)
      clear o2
      go_wp2_with fail
      go_ret
      exact ⟨rfl, H2.out⟩
set_option maxRecDepth 100000 in
set_option maxHeartbeats 4000000 in
theorem next1_any (x y : Tm) (w : World) : Calls Tryd.prog 42 #[.agg #[.int .i64 x.id, .int .i64 x.due], .agg #[.int .i64 y.id, .int .i64 y.due]] w fun e w' => e = .returned (.int .i64 (cmpI x.due y.due)) ∧ Only w w' := by
  obtain ⟨xi, xd⟩ := x
  obtain ⟨yi, yd⟩ := y
  simp only
  obtain ⟨c, hc⟩ : ∃ c, c = cmpI xd yd := ⟨_, rfl⟩
  rw [← hc]
  have HC := Lib.hid hc
  clear hc
  go_enter Tryd.func42, Tryd.ntmps42
  go_wp2_with fail
  refine (compare_any xd yd _).mono ?_
  rintro e w1 ⟨rfl, o1⟩
  rw [← HC.out]
  have H1 := Lib.hid o1
  clear o1
  go_wp2_with fail
  go_ret
  exact ⟨rfl, (((Stay.refl _ w).alloc _).alloc _).trans H1.out (fun _ _ h => h)⟩
/-- One of a row that is due as early as any. -/
def Least (l : List Tm) (t : Tm) : Prop := t ∈ l ∧ ∀ x ∈ l, t.due ≤ x.due
set_option maxRecDepth 100000 in
set_option maxHeartbeats 4000000 in
theorem minF_any {w : World} {v : Value} {l : List Tm} {n : Nat} (hr : w.ownsRow 0 39 2 v n (l.flatMap Tm.cells)) (hn : l.length = n) (h0 : 0 < n) (h1 : n ≤ 100000) :
    Calls Tryd.prog 41 #[v, .func (.func 42) #[] #[]] w fun e w' => ∃ t, Least l t ∧ e = .returned (.agg #[.int .i64 t.id, .int .i64 t.due]) ∧ Only w w' := by
  obtain ⟨g, c, rfl, _, hg⟩ := hr.form h0
  obtain ⟨t0, ht0⟩ : ∃ t, l[0]? = some t := ⟨_, List.getElem?_eq_getElem (by omega)⟩
  obtain ⟨z0, z1⟩ := row_cells hr hn ht0
  have H := Lib.hid (And.intro hr (And.intro hn ht0))
  clear hr hn
  obtain ⟨i0, d0⟩ := t0
  simp only [Nat.zero_mul, Nat.zero_add] at z0 z1
  go_enter Tryd.func41, Tryd.ntmps41
  have b1 : ((n : Int) < 1) = False := by simp; omega
  go_wp2_with fail
  obtain ⟨w1, hw1⟩ : ∃ w1, w1 = (w.alloc (.cells #[.int .i64 0, .int .i64 0] 39)).alloc (.cells #[.int .i64 i0, .int .i64 d0] 39) := ⟨_, rfl⟩
  have hB0 : Blk w1 w.heap.size 39 [.int .i64 0, .int .i64 0] := by rw [hw1]; exact (Blk.new w [.int .i64 0, .int .i64 0] _).alloc _
  have hB1 : Blk w1 (w.heap.size + 1) 39 [.int .i64 i0, .int .i64 d0] := by rw [hw1]; exact Blk.newAt _ [.int .i64 i0, .int .i64 d0] _ _ (by simp)
  have hO1 : Only w w1 := by rw [hw1]; exact ((Stay.refl _ w).alloc _).alloc _
  rw [← hw1]
  have H1 := Lib.hid (And.intro hB0 (And.intro hB1 hO1))
  clear hB0 hB1 hO1 hw1 z0 z1
  go_loopg [6] (n - 1) (fun kk vi wr => ∃ (i : Nat) (t : Tm), 1 ≤ i ∧ i ≤ n ∧ kk = n - i ∧ vi = .int .i64 (i : Nat) ∧ Least (l.take i) t ∧ Blk wr (w.heap.size + 1) 39 [.int .i64 t.id, .int .i64 t.due] ∧ Blk wr w.heap.size 39 [.int .i64 0, .int .i64 0] ∧ Only w wr)
  case atStart =>
    refine ⟨1, ⟨i0, d0⟩, Nat.le_refl _, h0, rfl, rfl, ?_, H1.out.2.1, H1.out.1, H1.out.2.2⟩
    have e : l.take 1 = [⟨i0, d0⟩] := by
      have := List.take_succ_eq_append_getElem (l := l) (i := 0) (by have := H.out.2.1; omega)
      rw [this]
      have h2 := H.out.2.2
      rw [List.getElem?_eq_getElem (by have := H.out.2.1; omega)] at h2
      rw [Option.some.inj h2]
      rfl
    rw [e]
    exact ⟨by simp, by simp⟩
  case round =>
    obtain ⟨i, t, hi1, hin, hk, rfl, hL, hB1, hB0, hO⟩ := hrel
    obtain ⟨wt, hwt⟩ : ∃ wt, wt = wr := ⟨_, rfl⟩
    rw [← hwt] at hB1 hB0 hO ⊢
    clear hwt
    obtain ⟨ti, td⟩ := t
    have c1 := hB1.cell 1
    have c0 := hB1.cell 0
    simp only [List.getElem?_cons_zero, List.getElem?_cons_succ] at c0 c1
    have l1 := hB1.lt
    have f0 := hB1.free 0
    have f1 := hB1.free 1
    by_cases hlt : i < n
    · obtain ⟨x, hx⟩ : ∃ x, l[i]? = some x := ⟨_, List.getElem?_eq_getElem (by have := H.out.2.1; omega)⟩
      obtain ⟨z0, z1⟩ := row_cells (own_only hO H.out.1) H.out.2.1 hx
      have hsucc : l.take (i + 1) = l.take i ++ [x] := by
        obtain ⟨hi, rfl⟩ := List.getElem?_eq_some_iff.1 hx
        exact List.take_succ_eq_append_getElem hi
      obtain ⟨xi, xd⟩ := x
      have hg1 : g < wt.heap.size := Nat.lt_of_lt_of_le hg hO.size
      have hgne : g ≠ w.heap.size + 1 := by omega
      simp only at z0 z1
      have HX := Lib.hid (And.intro hL (And.intro hB1 (And.intro hB0 (And.intro hO (And.intro hsucc hk)))))
      clear hL hB1 hB0 hO hsucc hk hx
      go_upto_region 7 with fail
      go_region_held3 (fun w' => w'.cell? ⟨g, i * 2, none⟩ = some (.int .i64 xi) ∧ w'.cell? ⟨g, i * 2 + 1, none⟩ = some (.int .i64 xd) ∧ w'.cell? ⟨w.heap.size + 1, 0, none⟩ = some (.int .i64 ti) ∧ w'.cell? ⟨w.heap.size + 1, 1, none⟩ = some (.int .i64 td))
        (first
          | go_keep
          | (go_split_ands; refine ⟨?_, ?_, ?_, ?_⟩ <;> (apply Only.cell o2; assumption)))
        ((go_at_call 42; refine (next1_any ⟨xi, xd⟩ ⟨ti, td⟩ _).mono ?_; rintro e w2 ⟨rfl, o2⟩))
      have a2 : Only wt w2 := Only.trans' ((Stay.refl _ wt).drew) o2
      have hB1 := a2.blk HX.out.2.1
      have y0 := a2.cell z0
      have y1 := a2.cell z1
      have l2 := hB1.lt
      have d0' := hB1.free 0
      have d1' := hB1.free 1
      have c0' := hB1.cell 0
      have c1' := hB1.cell 1
      simp only [List.getElem?_cons_zero, List.getElem?_cons_succ] at c0' c1'
      have hg2 : g < w2.heap.size := Nat.lt_of_lt_of_le hg1 a2.size
      have H2 := Lib.hid (And.intro a2 hB1)
      clear o2 a2 hB1 z0 z1 c0 c1 f0 f1 l1
      by_cases hxt : xd < td
      · have b3 : cmpI (xd : Int) (td : Int) < 0 := by
          unfold cmpI
          rw [if_pos (by omega)]
          decide
        have b2 : decide (cmpI (xd : Int) (td : Int) < 0) = true := decide_eq_true b3
        go_wp2_with fail
        go_roundg (n - (i + 1))
        case measure => have := HX.out.2.2.2.2.2; omega
        case rel =>
          refine ⟨i + 1, ⟨xi, xd⟩, by omega, by omega, by omega, by go_num, ?_, ?_, ((H2.out.1.blk HX.out.2.2.1).set_other (by simp) _).set_other (by simp) _, ?_⟩
          · rw [HX.out.2.2.2.2.1]
            refine ⟨by simp, fun y hy => ?_⟩
            rcases List.mem_append.1 hy with hy | hy
            · have := HX.out.1.2 y hy
              simp only at this ⊢
              omega
            · obtain rfl := List.mem_singleton.1 hy
              exact Nat.le_refl _
          · exact (H2.out.2.set 0 _).set 1 _
          · exact ((HX.out.2.2.2.1.trans' H2.out.1).new (by omega) _ _).new (by omega) _ _
      · have b3 : ¬ cmpI (xd : Int) (td : Int) < 0 := by
          unfold cmpI
          rw [if_neg (by omega)]
          split <;> decide
        have b2 : decide (cmpI (xd : Int) (td : Int) < 0) = false := decide_eq_false b3
        go_wp2_with fail
        go_roundg (n - (i + 1))
        case measure => have := HX.out.2.2.2.2.2; omega
        case rel =>
          refine ⟨i + 1, ⟨ti, td⟩, by omega, by omega, by omega, by go_num, ?_, H2.out.2, H2.out.1.blk HX.out.2.2.1, HX.out.2.2.2.1.trans' H2.out.1⟩
          rw [HX.out.2.2.2.2.1]
          refine ⟨List.mem_append_left _ HX.out.1.1, fun y hy => ?_⟩
          rcases List.mem_append.1 hy with hy | hy
          · exact HX.out.1.2 y hy
          · obtain rfl := List.mem_singleton.1 hy
            simp only
            omega
    · obtain rfl : i = n := by omega
      have htk : l.take i = l := List.take_of_length_le (by have := H.out.2.1; omega)
      rw [htk] at hL
      have c2 := hB0.cell 1
      have c3 := hB0.cell 0
      simp only [List.getElem?_cons_zero, List.getElem?_cons_succ] at c2 c3
      have f2 := hB0.free 0
      have f3 := hB0.free 1
      have l0 := hB0.lt
      have HX := Lib.hid (And.intro hL (And.intro hB1 (And.intro hB0 hO)))
      clear hL hB1 hB0 hO hk
      go_wp2_with fail
      have e2 := HX.out.2.2.1.set 0 (.int .i64 ti)
      have e3 := e2.set 1 (.int .i64 td)
      have r0 := e3.cell 0
      have r1 := e3.cell 1
      simp only [List.set_cons_zero, List.set_cons_succ, List.getElem?_cons_zero, List.getElem?_cons_succ] at r0 r1
      refine bodyPost_ret (v := .agg #[.int .i64 ti, .int .i64 td]) (by simp [results, Tryd.results41, go_sem, r0, r1]) rfl ?_
      exact ⟨⟨ti, td⟩, HX.out.1, rfl, (HX.out.2.2.2.new (Nat.le_refl _) _ _).new (Nat.le_refl _) _ _⟩
end Go.Proofs.YtbkbcpnpbfnmgaaDoor
