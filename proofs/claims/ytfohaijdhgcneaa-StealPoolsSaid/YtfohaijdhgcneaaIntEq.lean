/- slices.Equal at slices of ints. -/
import Derived.Test.YtfohaijdhgcneaaIntSl
set_option linter.unusedVariables false
namespace Go.Proofs.Ytfohaijdhgcneaa
open Go Go.RowKit Go.Sort

theorem eqI_any (w : World) (A B : Option Addr) (ca cb : Nat) (xs ys : List Int) (hx : Sl w w.heap.size A xs.length ca 1 (ints xs)) (hy : Sl w w.heap.size B ys.length cb 1 (ints ys)) :
    Calls Try.prog 16 #[.slice A xs.length ca, .slice B ys.length cb] w fun e w' => e = .returned (.bool (xs == ys)) ∧ Only w w' := by
  have lx : xs.length ≤ 9223372036854775807 := Nat.le_trans hx.2.1 hx.2.2.1
  have ly : ys.length ≤ 9223372036854775807 := Nat.le_trans hy.2.1 hy.2.2.1
  by_cases h : xs.length = ys.length
  · by_cases h0 : 0 < xs.length
    · obtain ⟨b1, o1, rfl, _, c1⟩ := hx.ints_at h0
      obtain ⟨b2, o2, rfl, _, c2⟩ := hy.ints_at (by omega)
      refine (Try.slices_Equal_int b1 o1 xs.length ca b2 o2 ys.length cb xs ys w (Nat.le_refl _) (Nat.le_refl _) lx ly c1 c2).mono ?_
      rintro e w' ⟨rfl, q, rfl⟩
      exact ⟨by simp, (Stay.refl _ w).drewN q⟩
    · have e1 : xs = [] := List.eq_nil_of_length_eq_zero (by omega)
      have e2 : ys = [] := List.eq_nil_of_length_eq_zero (by omega)
      subst e1 e2
      refine (Try.slices_Equal_int_empty A B ca 0 cb w (by omega)).mono ?_
      rintro e w' ⟨rfl, rfl⟩
      exact ⟨by simp, Stay.refl _ _⟩
  · refine (Try.slices_Equal_int_lens A B xs.length ca ys.length cb w h).mono ?_
    rintro e w' ⟨rfl, rfl⟩
    refine ⟨?_, Stay.refl _ _⟩
    have : (xs == ys) = false := by
      rw [beq_eq_false_iff_ne]
      rintro rfl
      exact h rfl
    rw [this]

end Go.Proofs.Ytfohaijdhgcneaa
