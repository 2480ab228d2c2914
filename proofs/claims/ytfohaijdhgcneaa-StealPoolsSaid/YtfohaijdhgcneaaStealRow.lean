/- The arguments of chapter 23 that came in. -/
import Derived.Test.YtfohaijdhgcneaaFrame0
import Derived.Test.YtfohaijdhgcneaaStealRep
set_option linter.unusedVariables false
set_option linter.unusedSimpArgs false
namespace Go.Proofs.Ytfohaijdhgcneaa
open Go Go.RowKit Go.ChangeShapes Go.WideShapes

def icell (x : Int) : List Value := [.int .i64 x]
theorem icells (l : List Int) : l.flatMap icell = ints l := by
  unfold icell ints
  induction l with
  | nil => rfl
  | cons x l ih => rw [List.flatMap_cons, ih]; rfl
section
variable {H : Type} {enc : TypeId × Value → H} {w : World} {base : Nat} {spare : Nat → Bool} {held : Bool}
theorem cellsInt : Try.prog.cellsOf 3 = 1 := by kernel_rfl
theorem cellsInts : Try.prog.cellsOf 22 = 1 := by kernel_rfl
theorem cellsPlan : Try.prog.cellsOf 24 = 3 := by kernel_rfl
theorem open_ints {A : Option Addr} {len cap : Nat} {d : DataW H} {ps : List MemPlace} (hd : DataW.Trod enc Try.prog w base spare held 22 (.slice A len cap) d ps) :
    ∃ xs : List Int, xs.length = len ∧ Sl w w.heap.size A len cap 1 (ints xs) := by
  obtain ⟨xs, h1, _, h2⟩ := open_sl icell (fun _ => True) 1 (fun _ => rfl) Try.underlying22 cellsInt (by decide) (fun n cs x h => by
    obtain ⟨a, e, _, _⟩ := DataW.trod_int Try.underlying3 h
    exact ⟨a, by rw [e]; rfl, trivial⟩) hd
  rw [icells] at h2
  exact ⟨xs, h1, h2⟩
/-- A field that is a slice of ints. -/
theorem open_ints1 {n : Nat} {cs : List Value} {x : DataW H × List MemPlace} (h : DataW.trod enc Try.prog w base spare held n 22 cs = some x) :
    ∃ (xs : List Int) (A : Option Addr) (cap : Nat), cs = [.slice A xs.length cap] ∧ Sl w w.heap.size A xs.length cap 1 (ints xs) := by
  have key : ∀ A len cap, cs = [.slice A len cap] → ∃ (xs : List Int) (A : Option Addr) (cap : Nat), cs = [.slice A xs.length cap] ∧ Sl w w.heap.size A xs.length cap 1 (ints xs) := fun A len cap e => by
    subst e
    obtain ⟨xs, rfl, h2⟩ := open_ints (d := x.1) (ps := x.2) (A := A) (len := len) (cap := cap) ⟨n, by simpa [Value.cells] using h⟩
    exact ⟨xs, A, cap, rfl, h2⟩
  rcases Go.Deep.open_slice Try.underlying22 h with ⟨hcs, _⟩ | ⟨a, l, c, _, _, _, _, hcs, _⟩
  · exact key _ _ _ hcs
  · exact key _ _ _ hcs
set_option maxRecDepth 100000 in
theorem open_plan {cs : Array Value} {d : DataW H} {ps : List MemPlace} (hd : DataW.Trod enc Try.prog w base spare held 24 (.agg cs) d ps) :
    ∃ (room : Int) (own thv : List Int) (A B : Option Addr) (ca cb : Nat), Value.agg cs = .agg #[.int .i64 room, .slice A own.length ca, .slice B thv.length cb] ∧ Sl w w.heap.size A own.length ca 1 (ints own) ∧ Sl w w.heap.size B thv.length cb 1 (ints thv) := by
  obtain ⟨n, h⟩ := hd
  obtain ⟨xs, m, _, _, hl, hxl, hf⟩ := DataW.trod_struct Try.underlying24 h
  have hl := hl.trans cellsPlan
  have f0 := fld hf 0 _ rfl 3 0 1 rfl rfl cellsInt
  have f1 := fld hf 1 _ rfl 22 1 1 rfl rfl cellsInts
  have f2 := fld hf 2 _ rfl 22 2 1 rfl rfl cellsInts
  have hcl : (Value.agg cs).cells.toList = cs.toList := rfl
  rw [hcl] at hl f0 f1 f2
  obtain ⟨l⟩ := cs
  simp only at hl f0 f1 f2
  match l, hl with
  | [c0, c1, c2], _ =>
    simp at hxl
    rw [List.getElem?_eq_getElem (by omega)] at f0 f1 f2
    obtain ⟨room, e0, _, _⟩ := DataW.trod_int Try.underlying3 f0
    obtain ⟨own, A, ca, e1, s1⟩ := open_ints1 f1
    obtain ⟨thv, B, cb, e2, s2⟩ := open_ints1 f2
    simp at e0 e1 e2
    subst e0 e1 e2
    exact ⟨room, own, thv, A, B, ca, cb, rfl, s1, s2⟩
end
end Go.Proofs.Ytfohaijdhgcneaa
