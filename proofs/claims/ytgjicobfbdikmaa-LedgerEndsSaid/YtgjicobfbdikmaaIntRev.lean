/- slices.Reverse on a row of ints of the call's own. -/
import Derived.Test.YtgjicobfbdikmaaIntSl
set_option linter.unusedVariables false
namespace Go.Proofs.Ytgjicobfbdikmaa
open Go Go.RowKit Go.Sort

theorem revI_any (w : World) (base : Nat) (v : Value) (l : List Int) (h : w.ownsRow base 3 1 v l.length (ints l)) (hl : l.length ≤ 1000000000000) :
    Calls Try.prog 22 #[v] w fun e w' => e = .returned (.tuple #[]) ∧ w'.ownsRow base 3 1 v l.length (ints l.reverse) ∧ Stay (fun k => v.ownBlock = some k) w w' := by
  by_cases h0 : 0 < l.length
  · obtain ⟨g, c, rfl, _, hlt⟩ := h.form h0
    obtain ⟨hH, _, hc, hm⟩ := own_holds h
    refine (Try.slices_Reverse_int g 0 c l w hH (by omega)).mono ?_
    rintro e w' ⟨rfl, q, rfl⟩
    have hp := own_put (q := q) (m := l.length) (d := l.reverse) (ts := l.reverse) h (List.length_reverse) (List.take_of_length_le (by rw [List.length_reverse]; omega)) (Nat.le_refl _) (List.length_reverse)
    exact ⟨rfl, hp.1, hp.2.mono (fun i _ e => by simp [Value.ownBlock, e])⟩
  · have e1 : l = [] := List.eq_nil_of_length_eq_zero (by omega)
    subst e1
    obtain ⟨A, c, rfl⟩ := own_shape h
    refine (Try.slices_Reverse_int_empty A c w).mono ?_
    rintro e w' ⟨rfl, rfl⟩
    exact ⟨rfl, by simpa using h, Stay.refl _ _⟩

end Go.Proofs.Ytgjicobfbdikmaa
