/-
  NARROWER THAN 'FOR EVERY INPUT', by the rows' own cells (each row's printed sentence says how): ClockFull: laid · ClockLoops: laid · ClockFires: laid · ClockNobody: laid · ClockPlays: laid · ClockUndone: laid · ClockCopies: laid · ClockParts: laid.
  DERIVED. THE GIVEN ROWS OF THIS SEAT. 8 by the template 'for every input the law returns true; each argument reads behind the call as it read before'; 0 by the template 'total and deterministic' (their statements: YtbkbcpnpbfnmgaaDoorTotals.lean).
  GIVEN WITH THE SEED: the statements are not yours to turn. If you find one false, say at which input.
  Laid BY PROGRAM, IN A SANDBOX (cutbox-rows.mjs): the forced cells as the released guide's own fill.sh prints them over the translation 15410cc0c7cae9a7… (all of the seat's roots in one cut). By AI agents, Wed Nov 11 2026. No macro, syntax, notation, axiom, sorry.
-/
import Derived.Test.YtbkbcpnpbfnmgaaDoorChecked
import GoSem.Claim
import GoSem.ClaimJoined
import GoSem.ClaimMapViews
import Derived.JoinedTies
import Derived.KernelRfl
namespace Go.Proofs.YtbkbcpnpbfnmgaaDoor
/- THE CELL 'sum', in the pinned program and in every row, IS THE sha256 OF THE DUMP (.gsa) THAT YtbkbcpnpbfnmgaaDoorProg.lean LOADS. Nothing in Lean hashes anything: it is a label: what it is worth is what the hold of that sum in a sandbox is worth. -/
noncomputable def Tryd.pinned : Pinned := { name := "ytbkbcpnpbfnmgaadoor", sum := "15410cc0c7cae9a7b2071a3c403e5f5122f790054ffdb2d172f8461f4ca8a8c4", checked := Tryd.checked }
namespace Rows
def none {H : Type} : Left H := { results := [], args := [] }

/- WHAT THE LISTED PACKAGE-LEVEL VARIABLES READ AS WHEN THE CALL BEGINS. Each datum BY PROGRAM (the guide's laid-datum.mjs) off the statement by which the dump's own 'gosem.cut.vars' lays the variable. In a bare row this is a premise. The card (YtbkbcpnpbfnmgaaDoorCards.lean) ties it to the program's text. -/
def laid_math_bits_deBruijn64tab {H : Type} : DataW H := .agg [.lit (.int .u8 0), .lit (.int .u8 1), .lit (.int .u8 56), .lit (.int .u8 2), .lit (.int .u8 57), .lit (.int .u8 49), .lit (.int .u8 28), .lit (.int .u8 3), .lit (.int .u8 61), .lit (.int .u8 58), .lit (.int .u8 42), .lit (.int .u8 50), .lit (.int .u8 38), .lit (.int .u8 29), .lit (.int .u8 17), .lit (.int .u8 4), .lit (.int .u8 62), .lit (.int .u8 47), .lit (.int .u8 59), .lit (.int .u8 36), .lit (.int .u8 45), .lit (.int .u8 43), .lit (.int .u8 51), .lit (.int .u8 22), .lit (.int .u8 53), .lit (.int .u8 39), .lit (.int .u8 33), .lit (.int .u8 30), .lit (.int .u8 24), .lit (.int .u8 18), .lit (.int .u8 12), .lit (.int .u8 5), .lit (.int .u8 63), .lit (.int .u8 55), .lit (.int .u8 48), .lit (.int .u8 27), .lit (.int .u8 60), .lit (.int .u8 41), .lit (.int .u8 37), .lit (.int .u8 16), .lit (.int .u8 46), .lit (.int .u8 35), .lit (.int .u8 44), .lit (.int .u8 21), .lit (.int .u8 52), .lit (.int .u8 32), .lit (.int .u8 23), .lit (.int .u8 11), .lit (.int .u8 54), .lit (.int .u8 26), .lit (.int .u8 40), .lit (.int .u8 15), .lit (.int .u8 34), .lit (.int .u8 20), .lit (.int .u8 31), .lit (.int .u8 10), .lit (.int .u8 25), .lit (.int .u8 14), .lit (.int .u8 19), .lit (.int .u8 9), .lit (.int .u8 13), .lit (.int .u8 8), .lit (.int .u8 7), .lit (.int .u8 6)]

/-- 'seedbedlaw15.ClockFull': WHATEVER THE INPUT: true; the input reads as it did. -/
def clockFullSpec : ChangeSpec := { name := "clockFull", fn := fun _ => fun
  | [d1, d2] => { results := [.lit (.bool true)], args := [d1, d2] }
  | _ => none }
def clockFullRow : OpenClaim := { program := "ytbkbcpnpbfnmgaadoor", sum := "15410cc0c7cae9a7b2071a3c403e5f5122f790054ffdb2d172f8461f4ca8a8c4", func := "seedbed/seedbedlaw15.ClockFull", spec := "clockFull", unfollowed := true, recurses := true, named := ["math/bits.deBruijn64tab"], apart := false, laid := [("math/bits.deBruijn64tab", laid_math_bits_deBruijn64tab)] }
def ClockFullSaid : Prop := clockFullRow.holds Tryd.pinned (OpenSpec.ofChange clockFullSpec)

/-- ITS FALSE NEIGHBOUR: 'it returns false'. Refute it at one input. -/
def clockFullWrong : ChangeSpec := { name := "clockFull", fn := fun _ => fun
  | [d1, d2] => { results := [.lit (.bool false)], args := [d1, d2] }
  | _ => none }
def ClockFullWrongFalsely : Prop := clockFullRow.holds Tryd.pinned (OpenSpec.ofChange clockFullWrong)

/-- 'seedbedlaw15.ClockLoops': WHATEVER THE INPUT: true; the input reads as it did. -/
def clockLoopsSpec : ChangeSpec := { name := "clockLoops", fn := fun _ => fun
  | [d1, d2, d3] => { results := [.lit (.bool true)], args := [d1, d2, d3] }
  | _ => none }
def clockLoopsRow : OpenClaim := { program := "ytbkbcpnpbfnmgaadoor", sum := "15410cc0c7cae9a7b2071a3c403e5f5122f790054ffdb2d172f8461f4ca8a8c4", func := "seedbed/seedbedlaw15.ClockLoops", spec := "clockLoops", unfollowed := true, recurses := true, named := ["math/bits.deBruijn64tab"], apart := false, laid := [("math/bits.deBruijn64tab", laid_math_bits_deBruijn64tab)] }
def ClockLoopsSaid : Prop := clockLoopsRow.holds Tryd.pinned (OpenSpec.ofChange clockLoopsSpec)

/-- ITS FALSE NEIGHBOUR: 'it returns false'. Refute it at one input. -/
def clockLoopsWrong : ChangeSpec := { name := "clockLoops", fn := fun _ => fun
  | [d1, d2, d3] => { results := [.lit (.bool false)], args := [d1, d2, d3] }
  | _ => none }
def ClockLoopsWrongFalsely : Prop := clockLoopsRow.holds Tryd.pinned (OpenSpec.ofChange clockLoopsWrong)

/-- 'seedbedlaw15.ClockFires': WHATEVER THE INPUT: true; the input reads as it did. -/
def clockFiresSpec : ChangeSpec := { name := "clockFires", fn := fun _ => fun
  | [d1, d2] => { results := [.lit (.bool true)], args := [d1, d2] }
  | _ => none }
def clockFiresRow : OpenClaim := { program := "ytbkbcpnpbfnmgaadoor", sum := "15410cc0c7cae9a7b2071a3c403e5f5122f790054ffdb2d172f8461f4ca8a8c4", func := "seedbed/seedbedlaw15.ClockFires", spec := "clockFires", unfollowed := true, recurses := true, named := ["math/bits.deBruijn64tab"], apart := false, laid := [("math/bits.deBruijn64tab", laid_math_bits_deBruijn64tab)] }
def ClockFiresSaid : Prop := clockFiresRow.holds Tryd.pinned (OpenSpec.ofChange clockFiresSpec)

/-- ITS FALSE NEIGHBOUR: 'it returns false'. Refute it at one input. -/
def clockFiresWrong : ChangeSpec := { name := "clockFires", fn := fun _ => fun
  | [d1, d2] => { results := [.lit (.bool false)], args := [d1, d2] }
  | _ => none }
def ClockFiresWrongFalsely : Prop := clockFiresRow.holds Tryd.pinned (OpenSpec.ofChange clockFiresWrong)

/-- 'seedbedlaw15.ClockNobody': WHATEVER THE INPUT: true; the input reads as it did. -/
def clockNobodySpec : ChangeSpec := { name := "clockNobody", fn := fun _ => fun
  | [d] => { results := [.lit (.bool true)], args := [d] }
  | _ => none }
def clockNobodyRow : OpenClaim := { program := "ytbkbcpnpbfnmgaadoor", sum := "15410cc0c7cae9a7b2071a3c403e5f5122f790054ffdb2d172f8461f4ca8a8c4", func := "seedbed/seedbedlaw15.ClockNobody", spec := "clockNobody", inPlace := ["maps.clone"], unfollowed := true, recurses := true, named := ["math/bits.deBruijn64tab"], apart := false, laid := [("math/bits.deBruijn64tab", laid_math_bits_deBruijn64tab)] }
def ClockNobodySaid : Prop := clockNobodyRow.holds Tryd.pinned (OpenSpec.ofChange clockNobodySpec)

/-- ITS FALSE NEIGHBOUR: 'it returns false'. Refute it at one input. -/
def clockNobodyWrong : ChangeSpec := { name := "clockNobody", fn := fun _ => fun
  | [d] => { results := [.lit (.bool false)], args := [d] }
  | _ => none }
def ClockNobodyWrongFalsely : Prop := clockNobodyRow.holds Tryd.pinned (OpenSpec.ofChange clockNobodyWrong)

/-- 'seedbedlaw15.ClockPlays': WHATEVER THE INPUT: true; the input reads as it did. -/
def clockPlaysSpec : ChangeSpec := { name := "clockPlays", fn := fun _ => fun
  | [d] => { results := [.lit (.bool true)], args := [d] }
  | _ => none }
def clockPlaysRow : OpenClaim := { program := "ytbkbcpnpbfnmgaadoor", sum := "15410cc0c7cae9a7b2071a3c403e5f5122f790054ffdb2d172f8461f4ca8a8c4", func := "seedbed/seedbedlaw15.ClockPlays", spec := "clockPlays", inPlace := ["maps.clone"], unfollowed := true, recurses := true, named := ["math/bits.deBruijn64tab"], apart := false, laid := [("math/bits.deBruijn64tab", laid_math_bits_deBruijn64tab)] }
def ClockPlaysSaid : Prop := clockPlaysRow.holds Tryd.pinned (OpenSpec.ofChange clockPlaysSpec)

/-- ITS FALSE NEIGHBOUR: 'it returns false'. Refute it at one input. -/
def clockPlaysWrong : ChangeSpec := { name := "clockPlays", fn := fun _ => fun
  | [d] => { results := [.lit (.bool false)], args := [d] }
  | _ => none }
def ClockPlaysWrongFalsely : Prop := clockPlaysRow.holds Tryd.pinned (OpenSpec.ofChange clockPlaysWrong)

/-- 'seedbedlaw15.ClockUndone': WHATEVER THE INPUT: true; the input reads as it did. -/
def clockUndoneSpec : ChangeSpec := { name := "clockUndone", fn := fun _ => fun
  | [d1, d2] => { results := [.lit (.bool true)], args := [d1, d2] }
  | _ => none }
def clockUndoneRow : OpenClaim := { program := "ytbkbcpnpbfnmgaadoor", sum := "15410cc0c7cae9a7b2071a3c403e5f5122f790054ffdb2d172f8461f4ca8a8c4", func := "seedbed/seedbedlaw15.ClockUndone", spec := "clockUndone", inPlace := ["maps.clone"], unfollowed := true, recurses := true, named := ["math/bits.deBruijn64tab"], apart := false, laid := [("math/bits.deBruijn64tab", laid_math_bits_deBruijn64tab)] }
def ClockUndoneSaid : Prop := clockUndoneRow.holds Tryd.pinned (OpenSpec.ofChange clockUndoneSpec)

/-- ITS FALSE NEIGHBOUR: 'it returns false'. Refute it at one input. -/
def clockUndoneWrong : ChangeSpec := { name := "clockUndone", fn := fun _ => fun
  | [d1, d2] => { results := [.lit (.bool false)], args := [d1, d2] }
  | _ => none }
def ClockUndoneWrongFalsely : Prop := clockUndoneRow.holds Tryd.pinned (OpenSpec.ofChange clockUndoneWrong)

/-- 'seedbedlaw15.ClockCopies': WHATEVER THE INPUT: true; the input reads as it did. -/
def clockCopiesSpec : ChangeSpec := { name := "clockCopies", fn := fun _ => fun
  | [d1, d2] => { results := [.lit (.bool true)], args := [d1, d2] }
  | _ => none }
def clockCopiesRow : OpenClaim := { program := "ytbkbcpnpbfnmgaadoor", sum := "15410cc0c7cae9a7b2071a3c403e5f5122f790054ffdb2d172f8461f4ca8a8c4", func := "seedbed/seedbedlaw15.ClockCopies", spec := "clockCopies", inPlace := ["maps.clone"], unfollowed := true, recurses := true, named := ["math/bits.deBruijn64tab"], apart := false, laid := [("math/bits.deBruijn64tab", laid_math_bits_deBruijn64tab)] }
def ClockCopiesSaid : Prop := clockCopiesRow.holds Tryd.pinned (OpenSpec.ofChange clockCopiesSpec)

/-- ITS FALSE NEIGHBOUR: 'it returns false'. Refute it at one input. -/
def clockCopiesWrong : ChangeSpec := { name := "clockCopies", fn := fun _ => fun
  | [d1, d2] => { results := [.lit (.bool false)], args := [d1, d2] }
  | _ => none }
def ClockCopiesWrongFalsely : Prop := clockCopiesRow.holds Tryd.pinned (OpenSpec.ofChange clockCopiesWrong)

/-- 'seedbedlaw15.ClockParts': WHATEVER THE INPUT: true; the input reads as it did. -/
def clockPartsSpec : ChangeSpec := { name := "clockParts", fn := fun _ => fun
  | [d1, d2, d3] => { results := [.lit (.bool true)], args := [d1, d2, d3] }
  | _ => none }
def clockPartsRow : OpenClaim := { program := "ytbkbcpnpbfnmgaadoor", sum := "15410cc0c7cae9a7b2071a3c403e5f5122f790054ffdb2d172f8461f4ca8a8c4", func := "seedbed/seedbedlaw15.ClockParts", spec := "clockParts", inPlace := ["maps.clone"], unfollowed := true, recurses := true, named := ["math/bits.deBruijn64tab"], apart := false, laid := [("math/bits.deBruijn64tab", laid_math_bits_deBruijn64tab)] }
def ClockPartsSaid : Prop := clockPartsRow.holds Tryd.pinned (OpenSpec.ofChange clockPartsSpec)

/-- ITS FALSE NEIGHBOUR: 'it returns false'. Refute it at one input. -/
def clockPartsWrong : ChangeSpec := { name := "clockParts", fn := fun _ => fun
  | [d1, d2, d3] => { results := [.lit (.bool false)], args := [d1, d2, d3] }
  | _ => none }
def ClockPartsWrongFalsely : Prop := clockPartsRow.holds Tryd.pinned (OpenSpec.ofChange clockPartsWrong)

/- THE SECOND FORM. 'bulk': how many values and letters a reading holds, each counted each time it is reached (what is shared counts as often as it is met; a slice's spare places count too). A statement '..UptoSaid' is the law's where the arguments, and the package variables that the reading takes, are together of bulk at most 1048576: NARROWER than '..Said'. Prove '..Said' where nothing that the law and all that it calls make is longer than what came in: it says more and counts as full. Else prove '..UptoSaid'. A law counts once. -/
mutual
def uptoBulk {H : Type} : DataW H → Nat
  | .lit (.string bytes) => bytes.length + 1
  | .lit _ => 1
  | .nil => 1
  | .ptr d => uptoBulk d + 1
  | .slice elems spare => uptoBulkAll elems + uptoBulkAll spare + 1
  | .agg parts => uptoBulkAll parts + 1
  | .iface _ d => uptoBulk d + 1
  | .map entries => uptoBulkEntries entries + 1
  | .held _ => 1
def uptoBulkAll {H : Type} : List (DataW H) → Nat
  | [] => 0
  | d :: r => uptoBulk d + uptoBulkAll r
def uptoBulkEntries {H : Type} : List (Lit × DataW H) → Nat
  | [] => 0
  | x :: r => uptoBulkEntry x + uptoBulkEntries r
def uptoBulkEntry {H : Type} : Lit × DataW H → Nat
  | (.string bytes, d) => bytes.length + uptoBulk d + 1
  | (_, d) => uptoBulk d + 1
 end
def uptoSmall : (H : Type) → List (DataW H) → Bool := fun _ ds => decide (uptoBulkAll ds ≤ 1048576)
def OpenSpec.upto (s : _root_.Go.ChangeSpec) : _root_.Go.OpenSpec := { _root_.Go.OpenSpec.ofChange s with cond := some uptoSmall }

/-- 'seedbedlaw15.ClockFull', WHERE WHAT IT READS IS OF BULK AT MOST 1048576: true; the input reads as it did. -/
def clockFullUptoRow : OpenClaim := { program := "ytbkbcpnpbfnmgaadoor", sum := "15410cc0c7cae9a7b2071a3c403e5f5122f790054ffdb2d172f8461f4ca8a8c4", func := "seedbed/seedbedlaw15.ClockFull", spec := "clockFull", unfollowed := true, recurses := true, named := ["math/bits.deBruijn64tab"], apart := false, laid := [("math/bits.deBruijn64tab", laid_math_bits_deBruijn64tab)], narrowed := true }
def ClockFullUptoSaid : Prop := clockFullUptoRow.holds Tryd.pinned (OpenSpec.upto clockFullSpec)

/-- 'seedbedlaw15.ClockLoops', WHERE WHAT IT READS IS OF BULK AT MOST 1048576: true; the input reads as it did. -/
def clockLoopsUptoRow : OpenClaim := { program := "ytbkbcpnpbfnmgaadoor", sum := "15410cc0c7cae9a7b2071a3c403e5f5122f790054ffdb2d172f8461f4ca8a8c4", func := "seedbed/seedbedlaw15.ClockLoops", spec := "clockLoops", unfollowed := true, recurses := true, named := ["math/bits.deBruijn64tab"], apart := false, laid := [("math/bits.deBruijn64tab", laid_math_bits_deBruijn64tab)], narrowed := true }
def ClockLoopsUptoSaid : Prop := clockLoopsUptoRow.holds Tryd.pinned (OpenSpec.upto clockLoopsSpec)

/-- 'seedbedlaw15.ClockFires', WHERE WHAT IT READS IS OF BULK AT MOST 1048576: true; the input reads as it did. -/
def clockFiresUptoRow : OpenClaim := { program := "ytbkbcpnpbfnmgaadoor", sum := "15410cc0c7cae9a7b2071a3c403e5f5122f790054ffdb2d172f8461f4ca8a8c4", func := "seedbed/seedbedlaw15.ClockFires", spec := "clockFires", unfollowed := true, recurses := true, named := ["math/bits.deBruijn64tab"], apart := false, laid := [("math/bits.deBruijn64tab", laid_math_bits_deBruijn64tab)], narrowed := true }
def ClockFiresUptoSaid : Prop := clockFiresUptoRow.holds Tryd.pinned (OpenSpec.upto clockFiresSpec)

/-- 'seedbedlaw15.ClockNobody', WHERE WHAT IT READS IS OF BULK AT MOST 1048576: true; the input reads as it did. -/
def clockNobodyUptoRow : OpenClaim := { program := "ytbkbcpnpbfnmgaadoor", sum := "15410cc0c7cae9a7b2071a3c403e5f5122f790054ffdb2d172f8461f4ca8a8c4", func := "seedbed/seedbedlaw15.ClockNobody", spec := "clockNobody", inPlace := ["maps.clone"], unfollowed := true, recurses := true, named := ["math/bits.deBruijn64tab"], apart := false, laid := [("math/bits.deBruijn64tab", laid_math_bits_deBruijn64tab)], narrowed := true }
def ClockNobodyUptoSaid : Prop := clockNobodyUptoRow.holds Tryd.pinned (OpenSpec.upto clockNobodySpec)

/-- 'seedbedlaw15.ClockPlays', WHERE WHAT IT READS IS OF BULK AT MOST 1048576: true; the input reads as it did. -/
def clockPlaysUptoRow : OpenClaim := { program := "ytbkbcpnpbfnmgaadoor", sum := "15410cc0c7cae9a7b2071a3c403e5f5122f790054ffdb2d172f8461f4ca8a8c4", func := "seedbed/seedbedlaw15.ClockPlays", spec := "clockPlays", inPlace := ["maps.clone"], unfollowed := true, recurses := true, named := ["math/bits.deBruijn64tab"], apart := false, laid := [("math/bits.deBruijn64tab", laid_math_bits_deBruijn64tab)], narrowed := true }
def ClockPlaysUptoSaid : Prop := clockPlaysUptoRow.holds Tryd.pinned (OpenSpec.upto clockPlaysSpec)

/-- 'seedbedlaw15.ClockUndone', WHERE WHAT IT READS IS OF BULK AT MOST 1048576: true; the input reads as it did. -/
def clockUndoneUptoRow : OpenClaim := { program := "ytbkbcpnpbfnmgaadoor", sum := "15410cc0c7cae9a7b2071a3c403e5f5122f790054ffdb2d172f8461f4ca8a8c4", func := "seedbed/seedbedlaw15.ClockUndone", spec := "clockUndone", inPlace := ["maps.clone"], unfollowed := true, recurses := true, named := ["math/bits.deBruijn64tab"], apart := false, laid := [("math/bits.deBruijn64tab", laid_math_bits_deBruijn64tab)], narrowed := true }
def ClockUndoneUptoSaid : Prop := clockUndoneUptoRow.holds Tryd.pinned (OpenSpec.upto clockUndoneSpec)

/-- 'seedbedlaw15.ClockCopies', WHERE WHAT IT READS IS OF BULK AT MOST 1048576: true; the input reads as it did. -/
def clockCopiesUptoRow : OpenClaim := { program := "ytbkbcpnpbfnmgaadoor", sum := "15410cc0c7cae9a7b2071a3c403e5f5122f790054ffdb2d172f8461f4ca8a8c4", func := "seedbed/seedbedlaw15.ClockCopies", spec := "clockCopies", inPlace := ["maps.clone"], unfollowed := true, recurses := true, named := ["math/bits.deBruijn64tab"], apart := false, laid := [("math/bits.deBruijn64tab", laid_math_bits_deBruijn64tab)], narrowed := true }
def ClockCopiesUptoSaid : Prop := clockCopiesUptoRow.holds Tryd.pinned (OpenSpec.upto clockCopiesSpec)

/-- 'seedbedlaw15.ClockParts', WHERE WHAT IT READS IS OF BULK AT MOST 1048576: true; the input reads as it did. -/
def clockPartsUptoRow : OpenClaim := { program := "ytbkbcpnpbfnmgaadoor", sum := "15410cc0c7cae9a7b2071a3c403e5f5122f790054ffdb2d172f8461f4ca8a8c4", func := "seedbed/seedbedlaw15.ClockParts", spec := "clockParts", inPlace := ["maps.clone"], unfollowed := true, recurses := true, named := ["math/bits.deBruijn64tab"], apart := false, laid := [("math/bits.deBruijn64tab", laid_math_bits_deBruijn64tab)], narrowed := true }
def ClockPartsUptoSaid : Prop := clockPartsUptoRow.holds Tryd.pinned (OpenSpec.upto clockPartsSpec)

end Rows
end Go.Proofs.YtbkbcpnpbfnmgaaDoor
