/- slices.Equal on timers. -/
import Derived.Test.YtbkbcpnpbfnmgaaDoorClockRep
import Derived.Test.YtbkbcpnpbfnmgaaDoorIntSl
import Derived.Laws.StructEq
import Derived.Deep.CutRange
set_option linter.unusedVariables false
set_option linter.unusedSimpArgs false
namespace Go.Proofs.YtbkbcpnpbfnmgaaDoor
open Go Go.RowKit

theorem Tm.parts {x y : Tm} (h : ¬ x = y) : ¬ (x.id : Int) = (y.id : Int) ∨ ((x.id : Int) = (y.id : Int) ∧ ¬ (x.due : Int) = (y.due : Int)) := by
  obtain ⟨a, b⟩ := x
  obtain ⟨c, d⟩ := y
  simp only [Tm.mk.injEq] at h
  simp only
  omega
set_option maxRecDepth 100000 in
set_option maxHeartbeats 4000000 in
theorem eqT_any (w : World) (A B : Option Addr) (ca cb : Nat) (xs ys : List Tm) (hx : Sl w w.heap.size A xs.length ca 2 (xs.flatMap Tm.cells)) (hy : Sl w w.heap.size B ys.length cb 2 (ys.flatMap Tm.cells)) :
    Calls Tryd.prog 18 #[.slice A xs.length ca, .slice B ys.length cb] w fun e w' => e = .returned (.bool (decide (xs = ys))) ∧ Only w w' := by
  have b1 := hx.2.1
  have b2 := hx.2.2.1
  have b3 := hy.2.1
  have b4 := hy.2.2.1
  have H := Lib.hid (And.intro hx hy)
  clear hx hy
  by_cases hl : xs.length = ys.length
  · have hl1 : ((xs.length : Int) != (ys.length : Int)) = false := by simp [hl]
    have HL := Lib.hid hl
    clear hl
    go_enter Tryd.func18, Tryd.ntmps18
    go_wp2_with fail
    go_loopg [13] (xs.length) (fun kk vi wr => ∃ (i : Nat), i ≤ xs.length ∧ kk = xs.length - i ∧ vi = .int .i64 (i : Nat) ∧ xs.take i = ys.take i ∧ Only w wr)
    case atStart => exact ⟨0, Nat.zero_le _, rfl, rfl, rfl, Stay.refl _ _⟩
    case round =>
      obtain ⟨i, hi, hk, rfl, ht, hO⟩ := hrel
      by_cases hlt : i < xs.length
      · obtain ⟨x, hx⟩ : ∃ x, xs[i]? = some x := ⟨_, List.getElem?_eq_getElem hlt⟩
        obtain ⟨y, hy⟩ : ∃ y, ys[i]? = some y := ⟨_, List.getElem?_eq_getElem (by have := HL.out; omega)⟩
        obtain ⟨xb, xo, rfl, hxb, hxc⟩ := (H.out.1.only hO).elem Tm.cells_length hx (by omega)
        obtain ⟨yb, yo, rfl, hyb, hyc⟩ := (H.out.2.only hO).elem Tm.cells_length hy (by have := HL.out; omega)
        have e0 := hxc 0 _ rfl
        have e1 := hxc 1 _ rfl
        have g0 := hyc 0 _ rfl
        have g1 := hyc 1 _ rfl
        simp only [Nat.add_zero] at e0 g0
        have u1 : (0 : Int) ≤ (i : Int) := by omega
        have u2 : (i : Int) < (xs.length : Int) := by omega
        have u3 : (i : Int) < (ys.length : Int) := by have := HL.out; omega
        have HX := Lib.hid (And.intro hk (And.intro ht (And.intro hO (And.intro hx hy))))
        clear hk ht hO hxc hyc hx hy
        go_upto_region 6 with fail
        go_cut [13, 24] from 13 (fun v13 v wx => v13 = .int .i64 (i : Nat) ∧ v = .bool (!decide (x = y)) ∧ wx = wr.drew)
        case first =>
          by_cases exy : x = y
          · subst exy
            go_region
            all_goals
              go_wp2_with fail
              go_meet
              case rel => exact ⟨rfl, by simp, rfl⟩
          · have hF : decide (x = y) = false := decide_eq_false exy
            rcases Tm.parts exy with q1 | ⟨q1, q2⟩
            all_goals
              clear exy
              go_region
              all_goals
                go_wp2_with fail
                go_meet
                case rel => exact ⟨rfl, by rw [hF]; rfl, rfl⟩
        case rest =>
          obtain ⟨rfl, rfl, rfl⟩ := hcut
          by_cases exy : x = y
          · have HE := Lib.hid exy
            have hT : (!decide (x = y)) = false := by rw [decide_eq_true exy]; rfl
            rw [hT]
            clear exy hT e0 e1 g0 g1
            go_wp2_with fail
            go_roundg (xs.length - (i + 1))
            case measure => have := HX.out.1; omega
            case rel =>
              refine ⟨i + 1, by omega, rfl, by go_num, ?_, HX.out.2.2.1.drew⟩
              have h1 := HX.out.2.2.2.1
              have h2 := HX.out.2.2.2.2
              rw [HE.out] at h1
              rw [List.take_add_one, List.take_add_one, h1, h2, HX.out.2.1]
          · have HE := Lib.hid exy
            have hT : (!decide (x = y)) = true := by rw [decide_eq_false exy]; rfl
            rw [hT]
            clear exy hT e0 e1 g0 g1
            go_wp2_with fail
            go_ret
            refine ⟨?_, HX.out.2.2.1.drew⟩
            rw [decide_eq_false (fun e => HE.out (by
              have h1 := HX.out.2.2.2.1
              have h2 := HX.out.2.2.2.2
              rw [e, h2] at h1
              exact (Option.some.inj h1).symm))]
            rfl
      · have HX := Lib.hid (And.intro ht hO)
        clear hk ht hO
        go_wp2_with fail
        go_ret
        refine ⟨?_, HX.out.2⟩
        have h1 := HX.out.1
        rw [List.take_of_length_le (by omega), List.take_of_length_le (by have := HL.out; omega)] at h1
        rw [decide_eq_true h1]
        rfl
  · have hl1 : ((xs.length : Int) != (ys.length : Int)) = true := by simp; omega
    have hF := Lib.hid (show decide (xs = ys) = false from decide_eq_false (fun e => hl (by rw [e])))
    go_enter Tryd.func18, Tryd.ntmps18
    go_wp2_with fail
    go_ret
    exact ⟨by rw [hF.out]; rfl, Stay.refl _ _⟩
end Go.Proofs.YtbkbcpnpbfnmgaaDoor
