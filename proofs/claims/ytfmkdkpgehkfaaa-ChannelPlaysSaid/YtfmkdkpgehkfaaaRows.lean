/-
  No cell of these rows narrows 'for every input' (looked for: loops, veiled, ifaces, maps, wideKeys, modest, calm, conditions, laid).
  DERIVED. THE GIVEN ROWS OF THIS SEAT. 7 by the template 'for every input the law returns true; each argument reads behind the call as it read before'; 0 by the template 'total and deterministic' (their statements: YtfmkdkpgehkfaaaTotals.lean).
  GIVEN WITH THE SEED: the statements are not yours to turn. If you find one false, say at which input.
  Laid BY PROGRAM, IN A SANDBOX (cutbox-rows.mjs): the forced cells as the released guide's own fill.sh prints them over the translation 73537fc1f9656e70… (all of the seat's roots in one cut). By AI agents, Wed Nov 11 2026. No macro, syntax, notation, axiom, sorry.
-/
import Derived.Test.YtfmkdkpgehkfaaaChecked
import GoSem.Claim
import GoSem.ClaimJoined
import GoSem.ClaimMapViews
import Derived.JoinedTies
import Derived.KernelRfl
namespace Go.Proofs.Ytfmkdkpgehkfaaa
/- THE CELL 'sum', in the pinned program and in every row, IS THE sha256 OF THE DUMP (.gsa) THAT YtfmkdkpgehkfaaaProg.lean LOADS. Nothing in Lean hashes anything: it is a label: what it is worth is what the hold of that sum in a sandbox is worth. -/
noncomputable def Try.pinned : Pinned := { name := "ytfmkdkpgehkfaaa", sum := "73537fc1f9656e702beaed1609163eebe41731d9c266676f489bcb36902d9371", checked := Try.checked }
namespace Rows
def none {H : Type} : Left H := { results := [], args := [] }

/-- 'seedbedlaw16.ChannelCloses': WHATEVER THE INPUT: true; the input reads as it did. -/
def channelClosesSpec : ChangeSpec := { name := "channelCloses", fn := fun _ => fun
  | [d1, d2, d3] => { results := [.lit (.bool true)], args := [d1, d2, d3] }
  | _ => none }
def channelClosesRow : OpenClaim := { program := "ytfmkdkpgehkfaaa", sum := "73537fc1f9656e702beaed1609163eebe41731d9c266676f489bcb36902d9371", func := "seedbed/seedbedlaw16.ChannelCloses", spec := "channelCloses", unfollowed := true, recurses := true, apart := false }
def ChannelClosesSaid : Prop := channelClosesRow.holds Try.pinned (OpenSpec.ofChange channelClosesSpec)

/-- ITS FALSE NEIGHBOUR: 'it returns false'. Refute it at one input. -/
def channelClosesWrong : ChangeSpec := { name := "channelCloses", fn := fun _ => fun
  | [d1, d2, d3] => { results := [.lit (.bool false)], args := [d1, d2, d3] }
  | _ => none }
def ChannelClosesWrongFalsely : Prop := channelClosesRow.holds Try.pinned (OpenSpec.ofChange channelClosesWrong)

/-- 'seedbedlaw16.ChannelBalance': WHATEVER THE INPUT: true; the input reads as it did. -/
def channelBalanceSpec : ChangeSpec := { name := "channelBalance", fn := fun _ => fun
  | [d1, d2, d3] => { results := [.lit (.bool true)], args := [d1, d2, d3] }
  | _ => none }
def channelBalanceRow : OpenClaim := { program := "ytfmkdkpgehkfaaa", sum := "73537fc1f9656e702beaed1609163eebe41731d9c266676f489bcb36902d9371", func := "seedbed/seedbedlaw16.ChannelBalance", spec := "channelBalance", unfollowed := true, recurses := true, apart := false }
def ChannelBalanceSaid : Prop := channelBalanceRow.holds Try.pinned (OpenSpec.ofChange channelBalanceSpec)

/-- ITS FALSE NEIGHBOUR: 'it returns false'. Refute it at one input. -/
def channelBalanceWrong : ChangeSpec := { name := "channelBalance", fn := fun _ => fun
  | [d1, d2, d3] => { results := [.lit (.bool false)], args := [d1, d2, d3] }
  | _ => none }
def ChannelBalanceWrongFalsely : Prop := channelBalanceRow.holds Try.pinned (OpenSpec.ofChange channelBalanceWrong)

/-- 'seedbedlaw16.ChannelOrder': WHATEVER THE INPUT: true; the input reads as it did. -/
def channelOrderSpec : ChangeSpec := { name := "channelOrder", fn := fun _ => fun
  | [d1, d2, d3] => { results := [.lit (.bool true)], args := [d1, d2, d3] }
  | _ => none }
def channelOrderRow : OpenClaim := { program := "ytfmkdkpgehkfaaa", sum := "73537fc1f9656e702beaed1609163eebe41731d9c266676f489bcb36902d9371", func := "seedbed/seedbedlaw16.ChannelOrder", spec := "channelOrder", unfollowed := true, recurses := true, apart := false }
def ChannelOrderSaid : Prop := channelOrderRow.holds Try.pinned (OpenSpec.ofChange channelOrderSpec)

/-- ITS FALSE NEIGHBOUR: 'it returns false'. Refute it at one input. -/
def channelOrderWrong : ChangeSpec := { name := "channelOrder", fn := fun _ => fun
  | [d1, d2, d3] => { results := [.lit (.bool false)], args := [d1, d2, d3] }
  | _ => none }
def ChannelOrderWrongFalsely : Prop := channelOrderRow.holds Try.pinned (OpenSpec.ofChange channelOrderWrong)

/-- 'seedbedlaw16.ChannelPlays': WHATEVER THE INPUT: true; the input reads as it did. -/
def channelPlaysSpec : ChangeSpec := { name := "channelPlays", fn := fun _ => fun
  | [d1, d2, d3] => { results := [.lit (.bool true)], args := [d1, d2, d3] }
  | _ => none }
def channelPlaysRow : OpenClaim := { program := "ytfmkdkpgehkfaaa", sum := "73537fc1f9656e702beaed1609163eebe41731d9c266676f489bcb36902d9371", func := "seedbed/seedbedlaw16.ChannelPlays", spec := "channelPlays", unfollowed := true, recurses := true, apart := false }
def ChannelPlaysSaid : Prop := channelPlaysRow.holds Try.pinned (OpenSpec.ofChange channelPlaysSpec)

/-- ITS FALSE NEIGHBOUR: 'it returns false'. Refute it at one input. -/
def channelPlaysWrong : ChangeSpec := { name := "channelPlays", fn := fun _ => fun
  | [d1, d2, d3] => { results := [.lit (.bool false)], args := [d1, d2, d3] }
  | _ => none }
def ChannelPlaysWrongFalsely : Prop := channelPlaysRow.holds Try.pinned (OpenSpec.ofChange channelPlaysWrong)

/-- 'seedbedlaw16.ChannelNobody': WHATEVER THE INPUT: true; the input reads as it did. -/
def channelNobodySpec : ChangeSpec := { name := "channelNobody", fn := fun _ => fun
  | [d] => { results := [.lit (.bool true)], args := [d] }
  | _ => none }
def channelNobodyRow : OpenClaim := { program := "ytfmkdkpgehkfaaa", sum := "73537fc1f9656e702beaed1609163eebe41731d9c266676f489bcb36902d9371", func := "seedbed/seedbedlaw16.ChannelNobody", spec := "channelNobody", unfollowed := true, recurses := true, apart := false }
def ChannelNobodySaid : Prop := channelNobodyRow.holds Try.pinned (OpenSpec.ofChange channelNobodySpec)

/-- ITS FALSE NEIGHBOUR: 'it returns false'. Refute it at one input. -/
def channelNobodyWrong : ChangeSpec := { name := "channelNobody", fn := fun _ => fun
  | [d] => { results := [.lit (.bool false)], args := [d] }
  | _ => none }
def ChannelNobodyWrongFalsely : Prop := channelNobodyRow.holds Try.pinned (OpenSpec.ofChange channelNobodyWrong)

/-- 'seedbedlaw16.ChannelCopies': WHATEVER THE INPUT: true; the input reads as it did. -/
def channelCopiesSpec : ChangeSpec := { name := "channelCopies", fn := fun _ => fun
  | [d1, d2, d3] => { results := [.lit (.bool true)], args := [d1, d2, d3] }
  | _ => none }
def channelCopiesRow : OpenClaim := { program := "ytfmkdkpgehkfaaa", sum := "73537fc1f9656e702beaed1609163eebe41731d9c266676f489bcb36902d9371", func := "seedbed/seedbedlaw16.ChannelCopies", spec := "channelCopies", unfollowed := true, recurses := true, apart := false }
def ChannelCopiesSaid : Prop := channelCopiesRow.holds Try.pinned (OpenSpec.ofChange channelCopiesSpec)

/-- ITS FALSE NEIGHBOUR: 'it returns false'. Refute it at one input. -/
def channelCopiesWrong : ChangeSpec := { name := "channelCopies", fn := fun _ => fun
  | [d1, d2, d3] => { results := [.lit (.bool false)], args := [d1, d2, d3] }
  | _ => none }
def ChannelCopiesWrongFalsely : Prop := channelCopiesRow.holds Try.pinned (OpenSpec.ofChange channelCopiesWrong)

/-- 'seedbedlaw16.ChannelWakes': WHATEVER THE INPUT: true; the input reads as it did. -/
def channelWakesSpec : ChangeSpec := { name := "channelWakes", fn := fun _ => fun
  | [d1, d2, d3] => { results := [.lit (.bool true)], args := [d1, d2, d3] }
  | _ => none }
def channelWakesRow : OpenClaim := { program := "ytfmkdkpgehkfaaa", sum := "73537fc1f9656e702beaed1609163eebe41731d9c266676f489bcb36902d9371", func := "seedbed/seedbedlaw16.ChannelWakes", spec := "channelWakes", unfollowed := true, recurses := true, apart := false }
def ChannelWakesSaid : Prop := channelWakesRow.holds Try.pinned (OpenSpec.ofChange channelWakesSpec)

/-- ITS FALSE NEIGHBOUR: 'it returns false'. Refute it at one input. -/
def channelWakesWrong : ChangeSpec := { name := "channelWakes", fn := fun _ => fun
  | [d1, d2, d3] => { results := [.lit (.bool false)], args := [d1, d2, d3] }
  | _ => none }
def ChannelWakesWrongFalsely : Prop := channelWakesRow.holds Try.pinned (OpenSpec.ofChange channelWakesWrong)

/- THE SECOND FORM. 'bulk': how many values and letters a reading holds, each counted each time it is reached (what is shared counts as often as it is met; a slice's spare places count too). A statement '..UptoSaid' is the law's where the arguments, and the package variables that the reading takes, are together of bulk at most 1048576: NARROWER than '..Said'. Prove '..Said' where nothing that the law and all that it calls make is longer than what came in: it says more and counts as full. Else prove '..UptoSaid'. A law counts once. -/
mutual
def uptoBulk {H : Type} : DataW H → Nat
  | .lit (.string bytes) => bytes.length + 1
  | .lit _ => 1
  | .nil => 1
  | .ptr d => uptoBulk d + 1
  | .slice elems spare => uptoBulkAll elems + uptoBulkAll spare + 1
  | .agg parts => uptoBulkAll parts + 1
  | .iface _ d => uptoBulk d + 1
  | .map entries => uptoBulkEntries entries + 1
  | .held _ => 1
def uptoBulkAll {H : Type} : List (DataW H) → Nat
  | [] => 0
  | d :: r => uptoBulk d + uptoBulkAll r
def uptoBulkEntries {H : Type} : List (Lit × DataW H) → Nat
  | [] => 0
  | x :: r => uptoBulkEntry x + uptoBulkEntries r
def uptoBulkEntry {H : Type} : Lit × DataW H → Nat
  | (.string bytes, d) => bytes.length + uptoBulk d + 1
  | (_, d) => uptoBulk d + 1
 end
def uptoSmall : (H : Type) → List (DataW H) → Bool := fun _ ds => decide (uptoBulkAll ds ≤ 1048576)
def OpenSpec.upto (s : _root_.Go.ChangeSpec) : _root_.Go.OpenSpec := { _root_.Go.OpenSpec.ofChange s with cond := some uptoSmall }

/-- 'seedbedlaw16.ChannelCloses', WHERE WHAT IT READS IS OF BULK AT MOST 1048576: true; the input reads as it did. -/
def channelClosesUptoRow : OpenClaim := { program := "ytfmkdkpgehkfaaa", sum := "73537fc1f9656e702beaed1609163eebe41731d9c266676f489bcb36902d9371", func := "seedbed/seedbedlaw16.ChannelCloses", spec := "channelCloses", unfollowed := true, recurses := true, apart := false, narrowed := true }
def ChannelClosesUptoSaid : Prop := channelClosesUptoRow.holds Try.pinned (OpenSpec.upto channelClosesSpec)

/-- 'seedbedlaw16.ChannelBalance', WHERE WHAT IT READS IS OF BULK AT MOST 1048576: true; the input reads as it did. -/
def channelBalanceUptoRow : OpenClaim := { program := "ytfmkdkpgehkfaaa", sum := "73537fc1f9656e702beaed1609163eebe41731d9c266676f489bcb36902d9371", func := "seedbed/seedbedlaw16.ChannelBalance", spec := "channelBalance", unfollowed := true, recurses := true, apart := false, narrowed := true }
def ChannelBalanceUptoSaid : Prop := channelBalanceUptoRow.holds Try.pinned (OpenSpec.upto channelBalanceSpec)

/-- 'seedbedlaw16.ChannelOrder', WHERE WHAT IT READS IS OF BULK AT MOST 1048576: true; the input reads as it did. -/
def channelOrderUptoRow : OpenClaim := { program := "ytfmkdkpgehkfaaa", sum := "73537fc1f9656e702beaed1609163eebe41731d9c266676f489bcb36902d9371", func := "seedbed/seedbedlaw16.ChannelOrder", spec := "channelOrder", unfollowed := true, recurses := true, apart := false, narrowed := true }
def ChannelOrderUptoSaid : Prop := channelOrderUptoRow.holds Try.pinned (OpenSpec.upto channelOrderSpec)

/-- 'seedbedlaw16.ChannelPlays', WHERE WHAT IT READS IS OF BULK AT MOST 1048576: true; the input reads as it did. -/
def channelPlaysUptoRow : OpenClaim := { program := "ytfmkdkpgehkfaaa", sum := "73537fc1f9656e702beaed1609163eebe41731d9c266676f489bcb36902d9371", func := "seedbed/seedbedlaw16.ChannelPlays", spec := "channelPlays", unfollowed := true, recurses := true, apart := false, narrowed := true }
def ChannelPlaysUptoSaid : Prop := channelPlaysUptoRow.holds Try.pinned (OpenSpec.upto channelPlaysSpec)

/-- 'seedbedlaw16.ChannelNobody', WHERE WHAT IT READS IS OF BULK AT MOST 1048576: true; the input reads as it did. -/
def channelNobodyUptoRow : OpenClaim := { program := "ytfmkdkpgehkfaaa", sum := "73537fc1f9656e702beaed1609163eebe41731d9c266676f489bcb36902d9371", func := "seedbed/seedbedlaw16.ChannelNobody", spec := "channelNobody", unfollowed := true, recurses := true, apart := false, narrowed := true }
def ChannelNobodyUptoSaid : Prop := channelNobodyUptoRow.holds Try.pinned (OpenSpec.upto channelNobodySpec)

/-- 'seedbedlaw16.ChannelCopies', WHERE WHAT IT READS IS OF BULK AT MOST 1048576: true; the input reads as it did. -/
def channelCopiesUptoRow : OpenClaim := { program := "ytfmkdkpgehkfaaa", sum := "73537fc1f9656e702beaed1609163eebe41731d9c266676f489bcb36902d9371", func := "seedbed/seedbedlaw16.ChannelCopies", spec := "channelCopies", unfollowed := true, recurses := true, apart := false, narrowed := true }
def ChannelCopiesUptoSaid : Prop := channelCopiesUptoRow.holds Try.pinned (OpenSpec.upto channelCopiesSpec)

/-- 'seedbedlaw16.ChannelWakes', WHERE WHAT IT READS IS OF BULK AT MOST 1048576: true; the input reads as it did. -/
def channelWakesUptoRow : OpenClaim := { program := "ytfmkdkpgehkfaaa", sum := "73537fc1f9656e702beaed1609163eebe41731d9c266676f489bcb36902d9371", func := "seedbed/seedbedlaw16.ChannelWakes", spec := "channelWakes", unfollowed := true, recurses := true, apart := false, narrowed := true }
def ChannelWakesUptoSaid : Prop := channelWakesUptoRow.holds Try.pinned (OpenSpec.upto channelWakesSpec)

end Rows
end Go.Proofs.Ytfmkdkpgehkfaaa
