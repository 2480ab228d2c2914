/- Chapter 15: arguments opened; what the listed variable gives the walks. -/
import Derived.Test.YtbkbcpnpbfnmgaaDoorFrame0
import Derived.Test.YtbkbcpnpbfnmgaaDoorLawRun
import Derived.LaidMore
import Derived.Stop.Joined
import Derived.Lib.LaidTab
set_option linter.unusedVariables false
set_option linter.unusedSimpArgs false
namespace Go.Proofs.YtbkbcpnpbfnmgaaDoor
open Go Go.RowKit Go.ChangeShapes Go.WideShapes Go.ChangeAt

theorem gTab : Tryd.prog.globalNamed "math/bits.deBruijn64tab" = some 0 := by kernel_rfl
theorem tTab : (Tryd.prog.globals[0]?).map (·.type) = some 101 := by kernel_rfl
abbrev laidL : List (String × DataW Unit) := [("math/bits.deBruijn64tab", Rows.laid_math_bits_deBruijn64tab)]
theorem laid_list : (Rows.laid_math_bits_deBruijn64tab : DataW Unit) = Lib.tabData .u8 (Lib.deBruijn64tab.map Int.ofNat) := by rfl
theorem tab_of_laid {W : World} (h : laidMetH Tryd.prog laidL W) : Tab W := by
  rw [MakeChecks.laidMetH_plain _ _ _ (by kernel_rfl)] at h
  have h' : laidMet Tryd.prog (("math/bits.deBruijn64tab", Lib.tabData .u8 (Lib.deBruijn64tab.map Int.ofNat)) :: []) W := laid_list ▸ h
  have hT := Lib.tabIs_of_head gTab tTab Tryd.underlying101 Tryd.underlying5 (by kernel_rfl) (by kernel_rfl) h'
  intro j hj
  have := hT.cell gTab j (by simpa [Lib.deBruijn64tab] using hj)
  rw [this]
  have hl : j < Lib.deBruijn64tab.length := by simpa [Lib.deBruijn64tab] using hj
  simp [List.getD, hl]
/-- The door's own heap meets the condition. -/
theorem door_met (os : Os) (args : Array Value) : laidMetH Tryd.prog laidL ((World.doorLaid Tryd.prog 400 os).forCall (fun _ _ => 0) ⟨#[], args, []⟩).memory :=
  laidMetH_of_parts3 (fuel := 8) (laidMet_of_run' 8 (by kernel_rfl) (by kernel_rfl)) (by kernel_rfl) (by kernel_rfl)

theorem cellsInt : Tryd.prog.cellsOf 3 = 1 := by kernel_rfl
def icell (x : Int) : List Value := [.int .i64 x]
theorem icells (l : List Int) : l.flatMap icell = ints l := by
  unfold icell ints
  induction l with
  | nil => rfl
  | cons x l ih => rw [List.flatMap_cons, ih]; rfl
theorem cellsKOp : Tryd.prog.cellsOf 55 = 2 := by kernel_rfl
section
variable {H : Type} {enc : TypeId × Value → H} {w : World} {base : Nat} {spare : Nat → Bool} {held : Bool}
set_option maxRecDepth 100000 in
theorem open_KOp {n : Nat} {cs : List Value} {x : DataW H × List MemPlace} (h : DataW.trod enc Tryd.prog w base spare held n 55 cs = some x) : ∃ o : KOp, cs = o.cells ∧ True := by
  obtain ⟨xs, m, _, _, hl, hxl, hf⟩ := DataW.trod_struct Tryd.underlying55 h
  have hl := hl.trans cellsKOp
  have f0 := fld hf 0 _ rfl 3 0 1 rfl rfl cellsInt
  have f1 := fld hf 1 _ rfl 3 1 1 rfl rfl cellsInt
  match cs, hl with
  | [c0, c1], _ =>
    simp at hxl
    rw [List.getElem?_eq_getElem (by omega)] at f0 f1
    obtain ⟨a, e0, _, _⟩ := DataW.trod_int Tryd.underlying3 f0
    obtain ⟨b, e1, _, _⟩ := DataW.trod_int Tryd.underlying3 f1
    simp at e0 e1
    exact ⟨⟨a, b⟩, by simp [KOp.cells, e0, e1], trivial⟩
theorem open_kops {A : Option Addr} {len cap : Nat} {d : DataW H} {ps : List MemPlace} (hd : DataW.Trod enc Tryd.prog w base spare held 33 (.slice A len cap) d ps) :
    ∃ ops : List KOp, ops.length = len ∧ Sl w w.heap.size A len cap 2 (ops.flatMap KOp.cells) := by
  obtain ⟨ops, h1, _, h2⟩ := open_sl KOp.cells (fun _ => True) 2 KOp.cells_length Tryd.underlying33 cellsKOp (by decide) (fun _ _ _ h => open_KOp h) hd
  exact ⟨ops, h1, h2⟩
theorem open_ints {A : Option Addr} {len cap : Nat} {d : DataW H} {ps : List MemPlace} (hd : DataW.Trod enc Tryd.prog w base spare held 42 (.slice A len cap) d ps) :
    ∃ xs : List Int, xs.length = len ∧ Sl w w.heap.size A len cap 1 (ints xs) := by
  obtain ⟨xs, h1, _, h2⟩ := open_sl icell (fun _ => True) 1 (fun _ => rfl) Tryd.underlying42 cellsInt (by decide) (fun n cs x h => by
    obtain ⟨a, e, _, _⟩ := DataW.trod_int Tryd.underlying3 h
    exact ⟨a, by rw [e]; rfl, trivial⟩) hd
  rw [icells] at h2
  exact ⟨xs, h1, h2⟩
end
end Go.Proofs.YtbkbcpnpbfnmgaaDoor
