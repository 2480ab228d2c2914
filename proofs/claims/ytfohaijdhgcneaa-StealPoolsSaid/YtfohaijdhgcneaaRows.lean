/-
  No cell of these rows narrows 'for every input' (looked for: loops, veiled, ifaces, maps, wideKeys, modest, calm, conditions, laid).
  DERIVED. THE GIVEN ROWS OF THIS SEAT. 9 by the template 'for every input the law returns true; each argument reads behind the call as it read before'; 0 by the template 'total and deterministic' (their statements: YtfohaijdhgcneaaTotals.lean).
  GIVEN WITH THE SEED: the statements are not yours to turn. If you find one false, say at which input.
  Laid BY PROGRAM, IN A SANDBOX (cutbox-rows.mjs): the forced cells as the released guide's own fill.sh prints them over the translation 1ae3639fc1cbe0f7… (all of the seat's roots in one cut). By AI agents, Wed Nov 11 2026. No macro, syntax, notation, axiom, sorry.
-/
import Derived.Test.YtfohaijdhgcneaaChecked
import GoSem.Claim
import GoSem.ClaimJoined
import GoSem.ClaimMapViews
import Derived.JoinedTies
import Derived.KernelRfl
namespace Go.Proofs.Ytfohaijdhgcneaa
/- THE CELL 'sum', in the pinned program and in every row, IS THE sha256 OF THE DUMP (.gsa) THAT YtfohaijdhgcneaaProg.lean LOADS. Nothing in Lean hashes anything: it is a label: what it is worth is what the hold of that sum in a sandbox is worth. -/
noncomputable def Try.pinned : Pinned := { name := "ytfohaijdhgcneaa", sum := "1ae3639fc1cbe0f7495d8dcafb4ad03252590d73a554c724c94ae00d27005442", checked := Try.checked }
namespace Rows
def none {H : Type} : Left H := { results := [], args := [] }

/-- 'seedbedlaw23.StealOrder': WHATEVER THE INPUT: true; the input reads as it did. -/
def stealOrderSpec : ChangeSpec := { name := "stealOrder", fn := fun _ => fun
  | [d1, d2, d3] => { results := [.lit (.bool true)], args := [d1, d2, d3] }
  | _ => none }
def stealOrderRow : OpenClaim := { program := "ytfohaijdhgcneaa", sum := "1ae3639fc1cbe0f7495d8dcafb4ad03252590d73a554c724c94ae00d27005442", func := "seedbed/seedbedlaw23.StealOrder", spec := "stealOrder", unfollowed := true, recurses := true, apart := false }
def StealOrderSaid : Prop := stealOrderRow.holds Try.pinned (OpenSpec.ofChange stealOrderSpec)

/-- ITS FALSE NEIGHBOUR: 'it returns false'. Refute it at one input. -/
def stealOrderWrong : ChangeSpec := { name := "stealOrder", fn := fun _ => fun
  | [d1, d2, d3] => { results := [.lit (.bool false)], args := [d1, d2, d3] }
  | _ => none }
def StealOrderWrongFalsely : Prop := stealOrderRow.holds Try.pinned (OpenSpec.ofChange stealOrderWrong)

/-- 'seedbedlaw23.StealStack': WHATEVER THE INPUT: true; the input reads as it did. -/
def stealStackSpec : ChangeSpec := { name := "stealStack", fn := fun _ => fun
  | [d1, d2] => { results := [.lit (.bool true)], args := [d1, d2] }
  | _ => none }
def stealStackRow : OpenClaim := { program := "ytfohaijdhgcneaa", sum := "1ae3639fc1cbe0f7495d8dcafb4ad03252590d73a554c724c94ae00d27005442", func := "seedbed/seedbedlaw23.StealStack", spec := "stealStack", unfollowed := true, recurses := true, apart := false }
def StealStackSaid : Prop := stealStackRow.holds Try.pinned (OpenSpec.ofChange stealStackSpec)

/-- ITS FALSE NEIGHBOUR: 'it returns false'. Refute it at one input. -/
def stealStackWrong : ChangeSpec := { name := "stealStack", fn := fun _ => fun
  | [d1, d2] => { results := [.lit (.bool false)], args := [d1, d2] }
  | _ => none }
def StealStackWrongFalsely : Prop := stealStackRow.holds Try.pinned (OpenSpec.ofChange stealStackWrong)

/-- 'seedbedlaw23.StealProgress': WHATEVER THE INPUT: true; the input reads as it did. -/
def stealProgressSpec : ChangeSpec := { name := "stealProgress", fn := fun _ => fun
  | [d1, d2] => { results := [.lit (.bool true)], args := [d1, d2] }
  | _ => none }
def stealProgressRow : OpenClaim := { program := "ytfohaijdhgcneaa", sum := "1ae3639fc1cbe0f7495d8dcafb4ad03252590d73a554c724c94ae00d27005442", func := "seedbed/seedbedlaw23.StealProgress", spec := "stealProgress", unfollowed := true, recurses := true, apart := false }
def StealProgressSaid : Prop := stealProgressRow.holds Try.pinned (OpenSpec.ofChange stealProgressSpec)

/-- ITS FALSE NEIGHBOUR: 'it returns false'. Refute it at one input. -/
def stealProgressWrong : ChangeSpec := { name := "stealProgress", fn := fun _ => fun
  | [d1, d2] => { results := [.lit (.bool false)], args := [d1, d2] }
  | _ => none }
def StealProgressWrongFalsely : Prop := stealProgressRow.holds Try.pinned (OpenSpec.ofChange stealProgressWrong)

/-- 'seedbedlaw23.StealSteps': WHATEVER THE INPUT: true; the input reads as it did. -/
def stealStepsSpec : ChangeSpec := { name := "stealSteps", fn := fun _ => fun
  | [d1, d2] => { results := [.lit (.bool true)], args := [d1, d2] }
  | _ => none }
def stealStepsRow : OpenClaim := { program := "ytfohaijdhgcneaa", sum := "1ae3639fc1cbe0f7495d8dcafb4ad03252590d73a554c724c94ae00d27005442", func := "seedbed/seedbedlaw23.StealSteps", spec := "stealSteps", unfollowed := true, recurses := true, apart := false }
def StealStepsSaid : Prop := stealStepsRow.holds Try.pinned (OpenSpec.ofChange stealStepsSpec)

/-- ITS FALSE NEIGHBOUR: 'it returns false'. Refute it at one input. -/
def stealStepsWrong : ChangeSpec := { name := "stealSteps", fn := fun _ => fun
  | [d1, d2] => { results := [.lit (.bool false)], args := [d1, d2] }
  | _ => none }
def StealStepsWrongFalsely : Prop := stealStepsRow.holds Try.pinned (OpenSpec.ofChange stealStepsWrong)

/-- 'seedbedlaw23.StealCopies': WHATEVER THE INPUT: true; the input reads as it did. -/
def stealCopiesSpec : ChangeSpec := { name := "stealCopies", fn := fun _ => fun
  | [d1, d2, d3] => { results := [.lit (.bool true)], args := [d1, d2, d3] }
  | _ => none }
def stealCopiesRow : OpenClaim := { program := "ytfohaijdhgcneaa", sum := "1ae3639fc1cbe0f7495d8dcafb4ad03252590d73a554c724c94ae00d27005442", func := "seedbed/seedbedlaw23.StealCopies", spec := "stealCopies", unfollowed := true, recurses := true, apart := false }
def StealCopiesSaid : Prop := stealCopiesRow.holds Try.pinned (OpenSpec.ofChange stealCopiesSpec)

/-- ITS FALSE NEIGHBOUR: 'it returns false'. Refute it at one input. -/
def stealCopiesWrong : ChangeSpec := { name := "stealCopies", fn := fun _ => fun
  | [d1, d2, d3] => { results := [.lit (.bool false)], args := [d1, d2, d3] }
  | _ => none }
def StealCopiesWrongFalsely : Prop := stealCopiesRow.holds Try.pinned (OpenSpec.ofChange stealCopiesWrong)

/-- 'seedbedlaw23.StealPools': WHATEVER THE INPUT: true; the input reads as it did. -/
def stealPoolsSpec : ChangeSpec := { name := "stealPools", fn := fun _ => fun
  | [d1, d2] => { results := [.lit (.bool true)], args := [d1, d2] }
  | _ => none }
def stealPoolsRow : OpenClaim := { program := "ytfohaijdhgcneaa", sum := "1ae3639fc1cbe0f7495d8dcafb4ad03252590d73a554c724c94ae00d27005442", func := "seedbed/seedbedlaw23.StealPools", spec := "stealPools", unfollowed := true, recurses := true, apart := false }
def StealPoolsSaid : Prop := stealPoolsRow.holds Try.pinned (OpenSpec.ofChange stealPoolsSpec)

/-- ITS FALSE NEIGHBOUR: 'it returns false'. Refute it at one input. -/
def stealPoolsWrong : ChangeSpec := { name := "stealPools", fn := fun _ => fun
  | [d1, d2] => { results := [.lit (.bool false)], args := [d1, d2] }
  | _ => none }
def StealPoolsWrongFalsely : Prop := stealPoolsRow.holds Try.pinned (OpenSpec.ofChange stealPoolsWrong)

/-- 'seedbedlaw23.StealNobody': WHATEVER THE INPUT: true; the input reads as it did. -/
def stealNobodySpec : ChangeSpec := { name := "stealNobody", fn := fun _ => fun
  | [d1, d2] => { results := [.lit (.bool true)], args := [d1, d2] }
  | _ => none }
def stealNobodyRow : OpenClaim := { program := "ytfohaijdhgcneaa", sum := "1ae3639fc1cbe0f7495d8dcafb4ad03252590d73a554c724c94ae00d27005442", func := "seedbed/seedbedlaw23.StealNobody", spec := "stealNobody", unfollowed := true, recurses := true, apart := false }
def StealNobodySaid : Prop := stealNobodyRow.holds Try.pinned (OpenSpec.ofChange stealNobodySpec)

/-- ITS FALSE NEIGHBOUR: 'it returns false'. Refute it at one input. -/
def stealNobodyWrong : ChangeSpec := { name := "stealNobody", fn := fun _ => fun
  | [d1, d2] => { results := [.lit (.bool false)], args := [d1, d2] }
  | _ => none }
def StealNobodyWrongFalsely : Prop := stealNobodyRow.holds Try.pinned (OpenSpec.ofChange stealNobodyWrong)

/-- 'seedbedlaw23.StealOnce': WHATEVER THE INPUT: true; the input reads as it did. -/
def stealOnceSpec : ChangeSpec := { name := "stealOnce", fn := fun _ => fun
  | [d1, d2] => { results := [.lit (.bool true)], args := [d1, d2] }
  | _ => none }
def stealOnceRow : OpenClaim := { program := "ytfohaijdhgcneaa", sum := "1ae3639fc1cbe0f7495d8dcafb4ad03252590d73a554c724c94ae00d27005442", func := "seedbed/seedbedlaw23.StealOnce", spec := "stealOnce", unfollowed := true, recurses := true, apart := false }
def StealOnceSaid : Prop := stealOnceRow.holds Try.pinned (OpenSpec.ofChange stealOnceSpec)

/-- ITS FALSE NEIGHBOUR: 'it returns false'. Refute it at one input. -/
def stealOnceWrong : ChangeSpec := { name := "stealOnce", fn := fun _ => fun
  | [d1, d2] => { results := [.lit (.bool false)], args := [d1, d2] }
  | _ => none }
def StealOnceWrongFalsely : Prop := stealOnceRow.holds Try.pinned (OpenSpec.ofChange stealOnceWrong)

/-- 'seedbedlaw23.StealItems': WHATEVER THE INPUT: true; the input reads as it did. -/
def stealItemsSpec : ChangeSpec := { name := "stealItems", fn := fun _ => fun
  | [d1, d2] => { results := [.lit (.bool true)], args := [d1, d2] }
  | _ => none }
def stealItemsRow : OpenClaim := { program := "ytfohaijdhgcneaa", sum := "1ae3639fc1cbe0f7495d8dcafb4ad03252590d73a554c724c94ae00d27005442", func := "seedbed/seedbedlaw23.StealItems", spec := "stealItems", unfollowed := true, recurses := true, apart := false }
def StealItemsSaid : Prop := stealItemsRow.holds Try.pinned (OpenSpec.ofChange stealItemsSpec)

/-- ITS FALSE NEIGHBOUR: 'it returns false'. Refute it at one input. -/
def stealItemsWrong : ChangeSpec := { name := "stealItems", fn := fun _ => fun
  | [d1, d2] => { results := [.lit (.bool false)], args := [d1, d2] }
  | _ => none }
def StealItemsWrongFalsely : Prop := stealItemsRow.holds Try.pinned (OpenSpec.ofChange stealItemsWrong)

/- THE SECOND FORM. 'bulk': how many values and letters a reading holds, each counted each time it is reached (what is shared counts as often as it is met; a slice's spare places count too). A statement '..UptoSaid' is the law's where the arguments, and the package variables that the reading takes, are together of bulk at most 1048576: NARROWER than '..Said'. Prove '..Said' where nothing that the law and all that it calls make is longer than what came in: it says more and counts as full. Else prove '..UptoSaid'. A law counts once. -/
mutual
def uptoBulk {H : Type} : DataW H → Nat
  | .lit (.string bytes) => bytes.length + 1
  | .lit _ => 1
  | .nil => 1
  | .ptr d => uptoBulk d + 1
  | .slice elems spare => uptoBulkAll elems + uptoBulkAll spare + 1
  | .agg parts => uptoBulkAll parts + 1
  | .iface _ d => uptoBulk d + 1
  | .map entries => uptoBulkEntries entries + 1
  | .held _ => 1
def uptoBulkAll {H : Type} : List (DataW H) → Nat
  | [] => 0
  | d :: r => uptoBulk d + uptoBulkAll r
def uptoBulkEntries {H : Type} : List (Lit × DataW H) → Nat
  | [] => 0
  | x :: r => uptoBulkEntry x + uptoBulkEntries r
def uptoBulkEntry {H : Type} : Lit × DataW H → Nat
  | (.string bytes, d) => bytes.length + uptoBulk d + 1
  | (_, d) => uptoBulk d + 1
 end
def uptoSmall : (H : Type) → List (DataW H) → Bool := fun _ ds => decide (uptoBulkAll ds ≤ 1048576)
def OpenSpec.upto (s : _root_.Go.ChangeSpec) : _root_.Go.OpenSpec := { _root_.Go.OpenSpec.ofChange s with cond := some uptoSmall }

/-- 'seedbedlaw23.StealOrder', WHERE WHAT IT READS IS OF BULK AT MOST 1048576: true; the input reads as it did. -/
def stealOrderUptoRow : OpenClaim := { program := "ytfohaijdhgcneaa", sum := "1ae3639fc1cbe0f7495d8dcafb4ad03252590d73a554c724c94ae00d27005442", func := "seedbed/seedbedlaw23.StealOrder", spec := "stealOrder", unfollowed := true, recurses := true, apart := false, narrowed := true }
def StealOrderUptoSaid : Prop := stealOrderUptoRow.holds Try.pinned (OpenSpec.upto stealOrderSpec)

/-- 'seedbedlaw23.StealStack', WHERE WHAT IT READS IS OF BULK AT MOST 1048576: true; the input reads as it did. -/
def stealStackUptoRow : OpenClaim := { program := "ytfohaijdhgcneaa", sum := "1ae3639fc1cbe0f7495d8dcafb4ad03252590d73a554c724c94ae00d27005442", func := "seedbed/seedbedlaw23.StealStack", spec := "stealStack", unfollowed := true, recurses := true, apart := false, narrowed := true }
def StealStackUptoSaid : Prop := stealStackUptoRow.holds Try.pinned (OpenSpec.upto stealStackSpec)

/-- 'seedbedlaw23.StealProgress', WHERE WHAT IT READS IS OF BULK AT MOST 1048576: true; the input reads as it did. -/
def stealProgressUptoRow : OpenClaim := { program := "ytfohaijdhgcneaa", sum := "1ae3639fc1cbe0f7495d8dcafb4ad03252590d73a554c724c94ae00d27005442", func := "seedbed/seedbedlaw23.StealProgress", spec := "stealProgress", unfollowed := true, recurses := true, apart := false, narrowed := true }
def StealProgressUptoSaid : Prop := stealProgressUptoRow.holds Try.pinned (OpenSpec.upto stealProgressSpec)

/-- 'seedbedlaw23.StealSteps', WHERE WHAT IT READS IS OF BULK AT MOST 1048576: true; the input reads as it did. -/
def stealStepsUptoRow : OpenClaim := { program := "ytfohaijdhgcneaa", sum := "1ae3639fc1cbe0f7495d8dcafb4ad03252590d73a554c724c94ae00d27005442", func := "seedbed/seedbedlaw23.StealSteps", spec := "stealSteps", unfollowed := true, recurses := true, apart := false, narrowed := true }
def StealStepsUptoSaid : Prop := stealStepsUptoRow.holds Try.pinned (OpenSpec.upto stealStepsSpec)

/-- 'seedbedlaw23.StealCopies', WHERE WHAT IT READS IS OF BULK AT MOST 1048576: true; the input reads as it did. -/
def stealCopiesUptoRow : OpenClaim := { program := "ytfohaijdhgcneaa", sum := "1ae3639fc1cbe0f7495d8dcafb4ad03252590d73a554c724c94ae00d27005442", func := "seedbed/seedbedlaw23.StealCopies", spec := "stealCopies", unfollowed := true, recurses := true, apart := false, narrowed := true }
def StealCopiesUptoSaid : Prop := stealCopiesUptoRow.holds Try.pinned (OpenSpec.upto stealCopiesSpec)

/-- 'seedbedlaw23.StealPools', WHERE WHAT IT READS IS OF BULK AT MOST 1048576: true; the input reads as it did. -/
def stealPoolsUptoRow : OpenClaim := { program := "ytfohaijdhgcneaa", sum := "1ae3639fc1cbe0f7495d8dcafb4ad03252590d73a554c724c94ae00d27005442", func := "seedbed/seedbedlaw23.StealPools", spec := "stealPools", unfollowed := true, recurses := true, apart := false, narrowed := true }
def StealPoolsUptoSaid : Prop := stealPoolsUptoRow.holds Try.pinned (OpenSpec.upto stealPoolsSpec)

/-- 'seedbedlaw23.StealNobody', WHERE WHAT IT READS IS OF BULK AT MOST 1048576: true; the input reads as it did. -/
def stealNobodyUptoRow : OpenClaim := { program := "ytfohaijdhgcneaa", sum := "1ae3639fc1cbe0f7495d8dcafb4ad03252590d73a554c724c94ae00d27005442", func := "seedbed/seedbedlaw23.StealNobody", spec := "stealNobody", unfollowed := true, recurses := true, apart := false, narrowed := true }
def StealNobodyUptoSaid : Prop := stealNobodyUptoRow.holds Try.pinned (OpenSpec.upto stealNobodySpec)

/-- 'seedbedlaw23.StealOnce', WHERE WHAT IT READS IS OF BULK AT MOST 1048576: true; the input reads as it did. -/
def stealOnceUptoRow : OpenClaim := { program := "ytfohaijdhgcneaa", sum := "1ae3639fc1cbe0f7495d8dcafb4ad03252590d73a554c724c94ae00d27005442", func := "seedbed/seedbedlaw23.StealOnce", spec := "stealOnce", unfollowed := true, recurses := true, apart := false, narrowed := true }
def StealOnceUptoSaid : Prop := stealOnceUptoRow.holds Try.pinned (OpenSpec.upto stealOnceSpec)

/-- 'seedbedlaw23.StealItems', WHERE WHAT IT READS IS OF BULK AT MOST 1048576: true; the input reads as it did. -/
def stealItemsUptoRow : OpenClaim := { program := "ytfohaijdhgcneaa", sum := "1ae3639fc1cbe0f7495d8dcafb4ad03252590d73a554c724c94ae00d27005442", func := "seedbed/seedbedlaw23.StealItems", spec := "stealItems", unfollowed := true, recurses := true, apart := false, narrowed := true }
def StealItemsUptoSaid : Prop := stealItemsUptoRow.holds Try.pinned (OpenSpec.upto stealItemsSpec)

end Rows
end Go.Proofs.Ytfohaijdhgcneaa
