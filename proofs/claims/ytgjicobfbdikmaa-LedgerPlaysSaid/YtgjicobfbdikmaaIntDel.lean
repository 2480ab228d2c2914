/- slices.Delete on a row of ints of the call's own. -/
import Derived.Test.YtgjicobfbdikmaaIntSl
set_option linter.unusedVariables false
namespace Go.Proofs.Ytgjicobfbdikmaa
open Go Go.RowKit Go.Sort

/-- Cells i to j - 1 are struck out of a row of the call's own. -/
theorem delete_any (w : World) (base : Nat) (v : Value) (l : List Int) (i j : Nat) (h : w.ownsRow base 3 1 v l.length (ints l)) (hij : i ≤ j) (hj : j ≤ l.length) (h0 : 0 < l.length) :
    Calls Try.prog 71 #[v, .int .i64 i, .int .i64 j] w fun e w' => ∃ g c, v = .slice (some ⟨g, 0, none⟩) l.length c ∧ e = .returned (.slice (some ⟨g, 0, none⟩) (l.length - (j - i)) c) ∧ w'.ownsRow base 3 1 (.slice (some ⟨g, 0, none⟩) (l.length - (j - i)) c) (l.length - (j - i)) (ints (l.take i ++ l.drop j)) ∧ Stay (fun k => k = g) w w' := by
  obtain ⟨g, c, rfl, _, _⟩ := h.form h0
  obtain ⟨hH, _, hc, hm⟩ := own_holds h
  refine (Try.slices_Delete_int g 0 c i j l w hH hc (Nat.le_trans hm (by simp only [maxLen]; omega)) hij hj).mono ?_
  rintro e w' ⟨rfl, q, rfl⟩
  have hp := own_put (q := q) (m := l.length - (j - i)) (d := l.take i ++ l.drop j ++ List.replicate (j - i) 0) (ts := l.take i ++ l.drop j) h (by simp; omega) (by rw [List.take_append_of_le_length (by simp; omega), List.take_of_length_le (by simp; omega)]) (by omega) (by simp; omega)
  exact ⟨g, c, rfl, rfl, hp.1, hp.2⟩

/-- The first cell is struck. -/
theorem delete_first (w : World) (base : Nat) (g c : Nat) (x : Int) (l : List Int) (h : w.ownsRow base 3 1 (.slice (some ⟨g, 0, none⟩) (l.length + 1) c) (l.length + 1) (ints (x :: l))) :
    Calls Try.prog 71 #[.slice (some ⟨g, 0, none⟩) (l.length + 1) c, .int .i64 0, .int .i64 1] w fun e w' => e = .returned (.slice (some ⟨g, 0, none⟩) l.length c) ∧ w'.ownsRow base 3 1 (.slice (some ⟨g, 0, none⟩) l.length c) l.length (ints l) ∧ Stay (fun k => k = g) w w' := by
  refine (delete_any w base _ (x :: l) 0 1 h (by omega) (by simp) (by simp)).mono ?_
  rintro e w' ⟨g', c', e1, rfl, h1, h2⟩
  simp only [Value.slice.injEq, Option.some.injEq, Addr.mk.injEq, and_true, true_and, List.length_cons] at e1
  obtain ⟨rfl, rfl⟩ := e1
  exact ⟨by simp, by simpa using h1, h2⟩

end Go.Proofs.Ytgjicobfbdikmaa
