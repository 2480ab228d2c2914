/- slices.DeleteFunc on a row of ints of the call's own, the function a comparison with a variable. -/
import Derived.Test.YtfifdgigeecfbaaIntSl
import Derived.Test.YtfifdgigeecfbaaIter
set_option linter.unusedVariables false
namespace Go.Proofs.Ytfifdgigeecfbaa
open Go Go.RowKit Go.Sort Go.Lib

theorem isP (party x : Int) (B : Nat) (W : World) (hc : W.cell? ⟨B, 0, none⟩ = some (.int .i64 party)) :
    Go.Proofs.FnGives Try.prog 38 #[.pointer (some ⟨B, 0, none⟩)] #[.int .i64 x] (.bool (x == party)) W := by
  show Calls Try.prog 38 #[.int .i64 x, .pointer (some ⟨B, 0, none⟩)] W _
  go_enter Try.func38, Try.ntmps38
  go_wp2
  go_ret
  exact ⟨rfl, 0, rfl⟩

/-- All that are the party are struck. -/
theorem delFn_any (w : World) (base : Nat) (v : Value) (l : List Int) (party : Int) (B : Nat) (h : w.ownsRow base 3 1 v l.length (ints l)) (h0 : 0 < l.length) (hB : w.cell? ⟨B, 0, none⟩ = some (.int .i64 party)) (hne : ∀ g, v.ownBlock = some g → B ≠ g) :
    Calls Try.prog 37 #[v, .func (.func 38) #[] #[.pointer (some ⟨B, 0, none⟩)]] w fun e w' => ∃ g c, v = .slice (some ⟨g, 0, none⟩) l.length c ∧ e = .returned (.slice (some ⟨g, 0, none⟩) (l.filter fun x => !(x == party)).length c) ∧ w'.ownsRow base 3 1 (.slice (some ⟨g, 0, none⟩) (l.filter fun x => !(x == party)).length c) (l.filter fun x => !(x == party)).length (ints (l.filter fun x => !(x == party))) ∧ Stay (fun k => k = g) w w' := by
  obtain ⟨g, c, rfl, _, _⟩ := h.form h0
  obtain ⟨hH, _, hc, hm⟩ := own_holds h
  have hBl : B < w.heap.size := World.block_lt_of_cell? w ⟨B, 0, none⟩ hB
  have hneg : B ≠ g := hne g rfl
  have eg : ∀ args w, (callFunc 38 args).run Try.prog w = .ok (.enter 38 args) w := Go.Proofs.enters_of Try.func38 (by kernel_rfl) rfl
  have hcon := Go.Proofs.AnyE.slices_DeleteFunc Try.delFn (Value.int .i64) (fun _ => rfl) (fun x => x == party) 38 #[.pointer (some ⟨B, 0, none⟩)] eg 0 Try.zeroValue3 g 0 c l.toArray w
    (fun W x hb => isP party x B W ((hb.cell (p := ⟨B, 0, none⟩) hBl).trans hB))
    (fun n os dk x _ => isP party x B _ (by
      unfold Go.Proofs.sortWorld
      rw [cell?_grow _ _ _ (by show B < (putRow _ _ _ _ _).heap.size; rw [size_putRow]; exact hBl), cell?_putRow_other _ _ g 0 _ _ (Or.inl hneg)]
      exact hB)) hH (by simp; have := hm; simp only [maxLen] at this; omega) (by simpa using hc)
  change Calls Try.prog 37 _ _ _ at hcon
  simp only [List.size_toArray] at hcon
  refine hcon.mono ?_
  rintro e w' ⟨rfl, q, rfl⟩
  have hf := List.length_filter_le (fun x => !(x == party)) l
  have hp := own_put (q := q) (m := (l.filter fun x => !(x == party)).length) (d := (l.filter fun x => !(x == party)) ++ List.replicate (l.length - (l.filter fun x => !(x == party)).length) 0) (ts := l.filter fun x => !(x == party)) h (by simp only [List.length_append, List.length_replicate]; omega) (by rw [List.take_append_of_le_length (Nat.le_refl _), List.take_length]) hf rfl
  exact ⟨g, c, rfl, rfl, hp.1, hp.2⟩

end Go.Proofs.Ytfifdgigeecfbaa
