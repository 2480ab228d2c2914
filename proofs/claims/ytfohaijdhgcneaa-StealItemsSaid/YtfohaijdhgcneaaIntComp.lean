/- slices.Compact on a row of ints of the call's own. -/
import Derived.Test.YtfohaijdhgcneaaIntSl
import Derived.Test.YtfohaijdhgcneaaSep
set_option linter.unusedVariables false
set_option linter.unusedSimpArgs false
namespace Go.Proofs.Ytfohaijdhgcneaa
open Go Go.RowKit Go.Sort

theorem comp_len (l : List Int) : (Lib.compact l).length ≤ l.length := by
  unfold Lib.compact Lib.compactUpTo
  rw [List.length_map]
  exact Nat.le_trans (List.length_filter_le _ _) (by simp)
theorem comp_nodup {l : List Int} (h : l.Nodup) : (Lib.compact l).length = l.length := by
  unfold Lib.compact Lib.compactUpTo
  rw [List.length_map, List.filter_eq_self.2 (fun j hj => ?_), List.length_range]
  rw [List.mem_range] at hj
  by_cases h0 : j = 0
  · subst h0
    exact Lib.keeps_lt_one _ 0 (by omega)
  · refine Lib.keeps_pos (fun e => ?_)
    have e1 : l.toArray[j]! = l[j] := by simp [hj]
    have e2 : l.toArray[j - 1]! = l[j - 1] := by simp [show j - 1 < l.length by omega]
    rw [e1, e2] at e
    have h2 := (List.pairwise_iff_getElem.1 h) (j - 1) j (by omega) hj (by omega)
    exact h2 e.symm
theorem compI_any (w : World) (base : Nat) (v : Value) (l : List Int) (h : w.ownsRow base 3 1 v l.length (ints l)) (hl : l.length ≤ 1000000000000) (hc : (Lib.compact l).length ≤ l.length) :
    Calls Try.prog 36 #[v] w fun e w' => ∃ A c, e = .returned (.slice A (Lib.compact l).length c) ∧ Stay (fun k => v.ownBlock = some k) w w' := by
  by_cases h0 : 0 < l.length
  · obtain ⟨g, c, rfl, _, hlt⟩ := h.form h0
    obtain ⟨hH, _, hcc, hm⟩ := own_holds h
    refine (Try.slices_Compact_int g 0 c l w hH (by omega) hcc).mono ?_
    rintro e w' ⟨rfl, q, rfl⟩
    have hp := own_put (q := q) (m := (Lib.compact l).length) (d := Lib.compact l ++ List.replicate (l.length - (Lib.compact l).length) 0) (ts := Lib.compact l) h (by rw [List.length_append, List.length_replicate]; omega) List.take_left hc rfl
    exact ⟨_, _, rfl, hp.2.mono (fun i _ e => by simp [Value.ownBlock, e])⟩
  · have e1 : l = [] := List.eq_nil_of_length_eq_zero (by omega)
    subst e1
    obtain ⟨A, c, rfl⟩ := own_shape h
    refine (Try.slices_Compact_int_empty A c w).mono ?_
    rintro e w' ⟨rfl, rfl⟩
    exact ⟨A, c, rfl, Stay.refl _ _⟩
end Go.Proofs.Ytfohaijdhgcneaa
