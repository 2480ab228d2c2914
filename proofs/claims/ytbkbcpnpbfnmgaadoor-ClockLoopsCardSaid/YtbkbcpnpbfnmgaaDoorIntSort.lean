/- slices.Sort on a row of ints of the call's own. -/
import Derived.Test.YtbkbcpnpbfnmgaaDoorIntSl
set_option linter.unusedVariables false
namespace Go.Proofs.YtbkbcpnpbfnmgaaDoor
open Go Go.RowKit Go.Sort

def srt (l : List Int) : List Int := l.mergeSort fun x y => decide (x ≤ y)
theorem srt_length (l : List Int) : (srt l).length = l.length := by unfold srt; exact List.length_mergeSort l
theorem sortI_any (w : World) (base : Nat) (v : Value) (l : List Int) (h : w.ownsRow base 3 1 v l.length (ints l)) (hl : l.length ≤ 1000000000000) :
    Calls Tryd.prog 39 #[v] w fun e w' => e = .returned (.tuple #[]) ∧ w'.ownsRow base 3 1 v l.length (ints (srt l)) ∧ Stay (fun k => v.ownBlock = some k) w w' := by
  by_cases h0 : 0 < l.length
  · obtain ⟨g, c, rfl, _, hlt⟩ := h.form h0
    obtain ⟨hH, _, hc, hm⟩ := own_holds h
    refine (Tryd.slices_Sort_int g 0 c l w hH hlt (by omega)).mono ?_
    rintro e w' ⟨rfl, q, os, rfl⟩
    have hp := own_put (q := q) (m := l.length) (d := srt l) (ts := srt l) h (srt_length l) (List.take_of_length_le (by rw [srt_length]; omega)) (Nat.le_refl _) (srt_length l)
    have hg : Only (putRow (Value.int .i64) (Sort.ahead w q) g 0 (srt l).toArray) (Go.Sort.grow (putRow (Value.int .i64) (Sort.ahead w q) g 0 (srt l).toArray) os) :=
      ⟨rfl, rfl, rfl, by simp, fun k hk _ => heap_grow_old _ _ hk⟩
    exact ⟨rfl, own_only hg hp.1, (hp.2.mono (S' := fun k => (Value.slice (some ⟨g, 0, none⟩) l.length c).ownBlock = some k) (fun i _ e => by simp [Value.ownBlock, e])).trans hg (fun _ _ h => h.elim)⟩
  · have e1 : l = [] := List.eq_nil_of_length_eq_zero (by omega)
    subst e1
    obtain ⟨A, c, rfl⟩ := own_shape h
    refine (Tryd.slices_Sort_int_none A c w).mono ?_
    rintro e w' ⟨rfl, rfl⟩
    exact ⟨rfl, by simpa [srt] using h, Stay.refl _ _⟩

end Go.Proofs.YtbkbcpnpbfnmgaaDoor
