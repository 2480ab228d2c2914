/- The operations of chapter 21 that came in. -/
import Derived.Test.YtgjicobfbdikmaaFrame0
import Derived.Test.YtgjicobfbdikmaaLedInv
set_option linter.unusedVariables false
set_option linter.unusedSimpArgs false
namespace Go.Proofs.Ytgjicobfbdikmaa
open Go Go.RowKit Go.ChangeShapes Go.WideShapes

def LOp.cells (o : LOp) : List Value := [.int .i64 o.kind, .int .i64 o.task, .int .i64 o.what]
def LOp.val (o : LOp) : Value := .agg #[.int .i64 o.kind, .int .i64 o.task, .int .i64 o.what]
theorem cellsOp : Try.prog.cellsOf 33 = 3 := by kernel_rfl
theorem LOp.cells_length (o : LOp) : o.cells.length = 3 := rfl

section
variable {H : Type} {enc : TypeId × Value → H} {w : World} {base : Nat} {spare : Nat → Bool} {held : Bool}
set_option maxRecDepth 100000 in
theorem open_Op {n : Nat} {cs : List Value} {x : DataW H × List MemPlace} (h : DataW.trod enc Try.prog w base spare held n 33 cs = some x) : ∃ o : LOp, cs = o.cells ∧ True := by
  obtain ⟨xs, m, _, _, hl, hxl, hf⟩ := DataW.trod_struct Try.underlying33 h
  have hl := hl.trans cellsOp
  have f0 := fld hf 0 _ rfl 3 0 1 rfl rfl cells3
  have f1 := fld hf 1 _ rfl 3 1 1 rfl rfl cells3
  have f2 := fld hf 2 _ rfl 3 2 1 rfl rfl cells3
  match cs, hl with
  | [c0, c1, c2], _ =>
    simp at hxl
    rw [List.getElem?_eq_getElem (by omega)] at f0 f1 f2
    obtain ⟨a, e0, _, _⟩ := DataW.trod_int Try.underlying3 f0
    obtain ⟨b, e1, _, _⟩ := DataW.trod_int Try.underlying3 f1
    obtain ⟨s, e2, _, _⟩ := DataW.trod_int Try.underlying3 f2
    simp at e0 e1 e2
    exact ⟨⟨a, b, s⟩, by simp [LOp.cells, e0, e1, e2], trivial⟩

theorem open_ops {A : Option Addr} {len cap : Nat} {d : DataW H} {ps : List MemPlace} (hd : DataW.Trod enc Try.prog w base spare held 31 (.slice A len cap) d ps) :
    ∃ ops : List LOp, ops.length = len ∧ Sl w w.heap.size A len cap 3 (ops.flatMap LOp.cells) := by
  obtain ⟨ops, h1, _, h2⟩ := open_sl LOp.cells (fun _ => True) 3 LOp.cells_length Try.underlying31 cellsOp (by decide) (fun _ _ _ h => open_Op h) hd
  exact ⟨ops, h1, h2⟩
end

end Go.Proofs.Ytgjicobfbdikmaa
