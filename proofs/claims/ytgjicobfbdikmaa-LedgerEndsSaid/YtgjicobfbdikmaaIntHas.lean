/- slices.Contains at slices of ints. -/
import Derived.Test.YtgjicobfbdikmaaIntSl
set_option linter.unusedVariables false
namespace Go.Proofs.Ytgjicobfbdikmaa
open Go Go.RowKit Go.Sort

theorem hasI_any (w : World) (A : Option Addr) (ca : Nat) (xs : List Int) (x : Int) (hx : Sl w w.heap.size A xs.length ca 1 (ints xs)) :
    Calls Try.prog 30 #[.slice A xs.length ca, .int .i64 x] w fun e w' => e = .returned (.bool (xs.contains x)) ∧ Only w w' := by
  have lx : xs.length ≤ 9223372036854775807 := Nat.le_trans hx.2.1 hx.2.2.1
  by_cases h0 : 0 < xs.length
  · obtain ⟨b1, o1, rfl, _, c1⟩ := hx.ints_at h0
    refine (Try.slices_Contains_int b1 o1 xs.length ca xs x w (Nat.le_refl _) lx c1).mono ?_
    rintro e w' ⟨rfl, rfl⟩
    exact ⟨by simp, Stay.refl _ _⟩
  · have e1 : xs = [] := List.eq_nil_of_length_eq_zero (by omega)
    subst e1
    refine (Try.slices_Contains_int_empty A ca x w).mono ?_
    rintro e w' ⟨rfl, rfl⟩
    exact ⟨by simp, Stay.refl _ _⟩

end Go.Proofs.Ytgjicobfbdikmaa
