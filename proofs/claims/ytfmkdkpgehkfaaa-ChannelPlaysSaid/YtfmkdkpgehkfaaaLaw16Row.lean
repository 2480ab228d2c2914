/- The operations that came in. -/
import Derived.Test.YtfmkdkpgehkfaaaFrame
import Derived.Test.YtfmkdkpgehkfaaaLaw16
set_option linter.unusedVariables false
set_option linter.unusedSimpArgs false
namespace Go.Proofs.Ytfmkdkpgehkfaaa
open Go Go.RowKit Go.ChangeShapes Go.WideShapes

theorem cellsOp : Try.prog.cellsOf 31 = 6 := by kernel_rfl
theorem Op1.cells_length (o : Op1) : o.cells.length = 6 := rfl

section
variable {H : Type} {enc : TypeId × Value → H} {w : World} {base : Nat} {spare : Nat → Bool} {held : Bool}

set_option maxRecDepth 100000 in
theorem open_Op {n : Nat} {cs : List Value} {x : DataW H × List MemPlace} (h : DataW.trod enc Try.prog w base spare held n 31 cs = some x) : ∃ o : Op1, cs = o.cells ∧ o.v.s.size ≤ 9223372036854775807 := by
  obtain ⟨xs, m, _, _, hl, hxl, hf⟩ := DataW.trod_struct Try.underlying31 h
  have hl := hl.trans cellsOp
  have f0 := fld hf 0 _ rfl 3 0 1 rfl rfl cells3
  have f1 := fld hf 1 _ rfl 3 1 1 rfl rfl cells3
  have f2 := fld hf 2 _ rfl 4 2 1 rfl rfl cellsB
  have f3 := fld hf 3 _ rfl 29 3 3 rfl rfl cellsV
  match cs, hl with
  | [c0, c1, c2, c3, c4, c5], _ =>
    simp at hxl
    rw [List.getElem?_eq_getElem (by omega)] at f0 f1 f2 f3
    obtain ⟨a, e0, _, _⟩ := DataW.trod_int Try.underlying3 f0
    obtain ⟨b, e1, _, _⟩ := DataW.trod_int Try.underlying3 f1
    obtain ⟨s, e2, _⟩ := DataW.trod_bool Try.underlying4 f2
    obtain ⟨v, e3, hv⟩ := open_V f3
    simp [V.cells] at e0 e1 e2 e3
    exact ⟨⟨a, b, s, v⟩, by simp [Op1.cells, e0, e1, e2, e3], Nat.le_trans hv (by simp only [maxLen]; omega)⟩

theorem open_ops {A : Option Addr} {len cap : Nat} {d : DataW H} {ps : List MemPlace} (hd : DataW.Trod enc Try.prog w base spare held 22 (.slice A len cap) d ps) :
    ∃ ops : List Op1, ops.length = len ∧ (∀ o ∈ ops, o.v.s.size ≤ 9223372036854775807) ∧ Sl w w.heap.size A len cap 6 (ops.flatMap Op1.cells) :=
  open_sl Op1.cells _ 6 Op1.cells_length Try.underlying22 cellsOp (by decide) (fun _ _ _ h => open_Op h) hd
end

end Go.Proofs.Ytfmkdkpgehkfaaa
