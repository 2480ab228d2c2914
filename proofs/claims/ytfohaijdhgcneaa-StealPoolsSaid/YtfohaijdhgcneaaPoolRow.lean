/- The calls of a pool that came in. -/
import Derived.Test.YtfohaijdhgcneaaStealRow
set_option linter.unusedVariables false
set_option linter.unusedSimpArgs false
namespace Go.Proofs.Ytfohaijdhgcneaa
open Go Go.RowKit Go.ChangeShapes Go.WideShapes

structure POp where
  kind : Int
  worker : Int
  x : Int
def POp.cells (o : POp) : List Value := [.int .i64 o.kind, .int .i64 o.worker, .int .i64 o.x]
theorem POp.cells_length (o : POp) : o.cells.length = 3 := rfl
theorem cellsPOp : Try.prog.cellsOf 64 = 3 := by kernel_rfl
section
variable {H : Type} {enc : TypeId × Value → H} {w : World} {base : Nat} {spare : Nat → Bool} {held : Bool}
set_option maxRecDepth 100000 in
theorem open_POp {n : Nat} {cs : List Value} {x : DataW H × List MemPlace} (h : DataW.trod enc Try.prog w base spare held n 64 cs = some x) : ∃ o : POp, cs = o.cells ∧ True := by
  obtain ⟨xs, m, _, _, hl, hxl, hf⟩ := DataW.trod_struct Try.underlying64 h
  have hl := hl.trans cellsPOp
  have f0 := fld hf 0 _ rfl 3 0 1 rfl rfl cellsInt
  have f1 := fld hf 1 _ rfl 3 1 1 rfl rfl cellsInt
  have f2 := fld hf 2 _ rfl 3 2 1 rfl rfl cellsInt
  match cs, hl with
  | [c0, c1, c2], _ =>
    simp at hxl
    rw [List.getElem?_eq_getElem (by omega)] at f0 f1 f2
    obtain ⟨a, e0, _, _⟩ := DataW.trod_int Try.underlying3 f0
    obtain ⟨b, e1, _, _⟩ := DataW.trod_int Try.underlying3 f1
    obtain ⟨s, e2, _, _⟩ := DataW.trod_int Try.underlying3 f2
    simp at e0 e1 e2
    exact ⟨⟨a, b, s⟩, by simp [POp.cells, e0, e1, e2], trivial⟩
theorem open_pops {A : Option Addr} {len cap : Nat} {d : DataW H} {ps : List MemPlace} (hd : DataW.Trod enc Try.prog w base spare held 54 (.slice A len cap) d ps) :
    ∃ ops : List POp, ops.length = len ∧ Sl w w.heap.size A len cap 3 (ops.flatMap POp.cells) := by
  obtain ⟨ops, h1, _, h2⟩ := open_sl POp.cells (fun _ => True) 3 POp.cells_length Try.underlying54 cellsPOp (by decide) (fun _ _ _ h => open_POp h) hd
  exact ⟨ops, h1, h2⟩
end
end Go.Proofs.Ytfohaijdhgcneaa
