/- slices.Clone at slices of ints. -/
import Derived.Test.YtfohaijdhgcneaaIntSl
set_option linter.unusedVariables false
namespace Go.Proofs.Ytfohaijdhgcneaa
open Go Go.RowKit Go.Sort

theorem cloneI_any (w : World) (A : Option Addr) (ca : Nat) (xs : List Int) (hx : Sl w w.heap.size A xs.length ca 1 (ints xs)) (hb : xs.length ≤ 1000000000000) :
    Calls Try.prog 37 #[.slice A xs.length ca] w fun e w' => ∃ v', e = .returned v' ∧ w'.ownsRow w.heap.size 3 1 v' xs.length (ints xs) ∧ Only w w' := by
  by_cases h0 : 0 < xs.length
  · obtain ⟨b1, o1, rfl, _, c1⟩ := hx.ints_at h0
    refine (Try.slices_Clone_int b1 o1 xs.length ca xs w (Nat.le_refl _) (by omega) c1).mono ?_
    rintro e w' ⟨v', rfl, h1, _, h2⟩
    exact ⟨v', rfl, by simpa using h1, Stay.of_below h2⟩
  · have e1 : xs = [] := List.eq_nil_of_length_eq_zero (by omega)
    subst e1
    cases A with
    | none =>
      refine (Try.slices_Clone_int_nil 0 ca w).mono ?_
      rintro e w' ⟨rfl, rfl⟩
      exact ⟨_, rfl, World.ownsRow_nil _ _ _ _, Stay.refl _ _⟩
    | some a =>
      refine (Try.slices_Clone_int_zero a ca w).mono ?_
      rintro e w' ⟨v', rfl, h1, _, h2⟩
      exact ⟨v', rfl, h1, Stay.of_below h2⟩

end Go.Proofs.Ytfohaijdhgcneaa
