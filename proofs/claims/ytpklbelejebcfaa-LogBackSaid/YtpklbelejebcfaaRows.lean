/-
  No cell of these rows narrows 'for every input' (looked for: loops, veiled, ifaces, maps, wideKeys, modest, calm, conditions, laid).
  DERIVED. THE GIVEN ROWS OF THIS SEAT. 7 by the template 'for every input the law returns true; each argument reads behind the call as it read before'; 0 by the template 'total and deterministic' (their statements: YtpklbelejebcfaaTotals.lean).
  GIVEN WITH THE SEED: the statements are not yours to turn. If you find one false, say at which input.
  Laid BY PROGRAM, IN A SANDBOX (cutbox-rows.mjs): the forced cells as the released guide's own fill.sh prints them over the translation d2563580137a42a1… (all of the seat's roots in one cut). By AI agents, Wed Nov 11 2026. No macro, syntax, notation, axiom, sorry.
-/
import Derived.Test.YtpklbelejebcfaaChecked
import GoSem.Claim
import GoSem.ClaimJoined
import GoSem.ClaimMapViews
import Derived.JoinedTies
import Derived.KernelRfl
namespace Go.Proofs.Ytpklbelejebcfaa
/- THE CELL 'sum', in the pinned program and in every row, IS THE sha256 OF THE DUMP (.gsa) THAT YtpklbelejebcfaaProg.lean LOADS. Nothing in Lean hashes anything: it is a label: what it is worth is what the hold of that sum in a sandbox is worth. -/
noncomputable def Try.pinned : Pinned := { name := "ytpklbelejebcfaa", sum := "d2563580137a42a1b3219f3b7a3c86f83d3de0b13f919154a3a705ff68510cec", checked := Try.checked }
namespace Rows
def none {H : Type} : Left H := { results := [], args := [] }

/-- 'tabulariumlaw14.LogBytes': WHATEVER THE INPUT: true; the input reads as it did. -/
def logBytesSpec : ChangeSpec := { name := "logBytes", fn := fun _ => fun
  | [d] => { results := [.lit (.bool true)], args := [d] }
  | _ => none }
def logBytesRow : OpenClaim := { program := "ytpklbelejebcfaa", sum := "d2563580137a42a1b3219f3b7a3c86f83d3de0b13f919154a3a705ff68510cec", func := "tabularium/tabulariumlaw14.LogBytes", spec := "logBytes", inPlace := ["internal/abi.NoEscape"], unfollowed := true, recurses := true, apart := false }
def LogBytesSaid : Prop := logBytesRow.holds Try.pinned (OpenSpec.ofChange logBytesSpec)

/-- ITS FALSE NEIGHBOUR: 'it returns false'. Refute it at one input. -/
def logBytesWrong : ChangeSpec := { name := "logBytes", fn := fun _ => fun
  | [d] => { results := [.lit (.bool false)], args := [d] }
  | _ => none }
def LogBytesWrongFalsely : Prop := logBytesRow.holds Try.pinned (OpenSpec.ofChange logBytesWrong)

/-- 'tabulariumlaw14.LogReads': WHATEVER THE INPUT: true; the input reads as it did. -/
def logReadsSpec : ChangeSpec := { name := "logReads", fn := fun _ => fun
  | [d1, d2] => { results := [.lit (.bool true)], args := [d1, d2] }
  | _ => none }
def logReadsRow : OpenClaim := { program := "ytpklbelejebcfaa", sum := "d2563580137a42a1b3219f3b7a3c86f83d3de0b13f919154a3a705ff68510cec", func := "tabularium/tabulariumlaw14.LogReads", spec := "logReads", inPlace := ["internal/abi.NoEscape"], unfollowed := true, recurses := true, apart := false }
def LogReadsSaid : Prop := logReadsRow.holds Try.pinned (OpenSpec.ofChange logReadsSpec)

/-- ITS FALSE NEIGHBOUR: 'it returns false'. Refute it at one input. -/
def logReadsWrong : ChangeSpec := { name := "logReads", fn := fun _ => fun
  | [d1, d2] => { results := [.lit (.bool false)], args := [d1, d2] }
  | _ => none }
def LogReadsWrongFalsely : Prop := logReadsRow.holds Try.pinned (OpenSpec.ofChange logReadsWrong)

/-- 'tabulariumlaw14.LogTorn': WHATEVER THE INPUT: true; the input reads as it did. -/
def logTornSpec : ChangeSpec := { name := "logTorn", fn := fun _ => fun
  | [d1, d2, d3, d4] => { results := [.lit (.bool true)], args := [d1, d2, d3, d4] }
  | _ => none }
def logTornRow : OpenClaim := { program := "ytpklbelejebcfaa", sum := "d2563580137a42a1b3219f3b7a3c86f83d3de0b13f919154a3a705ff68510cec", func := "tabularium/tabulariumlaw14.LogTorn", spec := "logTorn", inPlace := ["internal/abi.NoEscape"], unfollowed := true, recurses := true, apart := false }
def LogTornSaid : Prop := logTornRow.holds Try.pinned (OpenSpec.ofChange logTornSpec)

/-- ITS FALSE NEIGHBOUR: 'it returns false'. Refute it at one input. -/
def logTornWrong : ChangeSpec := { name := "logTorn", fn := fun _ => fun
  | [d1, d2, d3, d4] => { results := [.lit (.bool false)], args := [d1, d2, d3, d4] }
  | _ => none }
def LogTornWrongFalsely : Prop := logTornRow.holds Try.pinned (OpenSpec.ofChange logTornWrong)

/-- 'tabulariumlaw14.LogFull': WHATEVER THE INPUT: true; the input reads as it did. -/
def logFullSpec : ChangeSpec := { name := "logFull", fn := fun _ => fun
  | [d1, d2] => { results := [.lit (.bool true)], args := [d1, d2] }
  | _ => none }
def logFullRow : OpenClaim := { program := "ytpklbelejebcfaa", sum := "d2563580137a42a1b3219f3b7a3c86f83d3de0b13f919154a3a705ff68510cec", func := "tabularium/tabulariumlaw14.LogFull", spec := "logFull", inPlace := ["internal/abi.NoEscape"], unfollowed := true, recurses := true, apart := false }
def LogFullSaid : Prop := logFullRow.holds Try.pinned (OpenSpec.ofChange logFullSpec)

/-- ITS FALSE NEIGHBOUR: 'it returns false'. Refute it at one input. -/
def logFullWrong : ChangeSpec := { name := "logFull", fn := fun _ => fun
  | [d1, d2] => { results := [.lit (.bool false)], args := [d1, d2] }
  | _ => none }
def LogFullWrongFalsely : Prop := logFullRow.holds Try.pinned (OpenSpec.ofChange logFullWrong)

/-- 'tabulariumlaw14.LogBack': WHATEVER THE INPUT: true; the input reads as it did. -/
def logBackSpec : ChangeSpec := { name := "logBack", fn := fun _ => fun
  | [d1, d2, d3, d4] => { results := [.lit (.bool true)], args := [d1, d2, d3, d4] }
  | _ => none }
def logBackRow : OpenClaim := { program := "ytpklbelejebcfaa", sum := "d2563580137a42a1b3219f3b7a3c86f83d3de0b13f919154a3a705ff68510cec", func := "tabularium/tabulariumlaw14.LogBack", spec := "logBack", inPlace := ["internal/abi.NoEscape"], unfollowed := true, recurses := true, apart := false }
def LogBackSaid : Prop := logBackRow.holds Try.pinned (OpenSpec.ofChange logBackSpec)

/-- ITS FALSE NEIGHBOUR: 'it returns false'. Refute it at one input. -/
def logBackWrong : ChangeSpec := { name := "logBack", fn := fun _ => fun
  | [d1, d2, d3, d4] => { results := [.lit (.bool false)], args := [d1, d2, d3, d4] }
  | _ => none }
def LogBackWrongFalsely : Prop := logBackRow.holds Try.pinned (OpenSpec.ofChange logBackWrong)

/-- 'tabulariumlaw14.LogStored': WHATEVER THE INPUT: true; the input reads as it did. -/
def logStoredSpec : ChangeSpec := { name := "logStored", fn := fun _ => fun
  | [d1, d2, d3, d4] => { results := [.lit (.bool true)], args := [d1, d2, d3, d4] }
  | _ => none }
def logStoredRow : OpenClaim := { program := "ytpklbelejebcfaa", sum := "d2563580137a42a1b3219f3b7a3c86f83d3de0b13f919154a3a705ff68510cec", func := "tabularium/tabulariumlaw14.LogStored", spec := "logStored", inPlace := ["internal/abi.NoEscape"], unfollowed := true, recurses := true, apart := false }
def LogStoredSaid : Prop := logStoredRow.holds Try.pinned (OpenSpec.ofChange logStoredSpec)

/-- ITS FALSE NEIGHBOUR: 'it returns false'. Refute it at one input. -/
def logStoredWrong : ChangeSpec := { name := "logStored", fn := fun _ => fun
  | [d1, d2, d3, d4] => { results := [.lit (.bool false)], args := [d1, d2, d3, d4] }
  | _ => none }
def LogStoredWrongFalsely : Prop := logStoredRow.holds Try.pinned (OpenSpec.ofChange logStoredWrong)

/-- 'tabulariumlaw14.LogAdded': WHATEVER THE INPUT: true; the input reads as it did. -/
def logAddedSpec : ChangeSpec := { name := "logAdded", fn := fun _ => fun
  | [d1, d2, d3, d4] => { results := [.lit (.bool true)], args := [d1, d2, d3, d4] }
  | _ => none }
def logAddedRow : OpenClaim := { program := "ytpklbelejebcfaa", sum := "d2563580137a42a1b3219f3b7a3c86f83d3de0b13f919154a3a705ff68510cec", func := "tabularium/tabulariumlaw14.LogAdded", spec := "logAdded", inPlace := ["internal/abi.NoEscape"], unfollowed := true, recurses := true, apart := false }
def LogAddedSaid : Prop := logAddedRow.holds Try.pinned (OpenSpec.ofChange logAddedSpec)

/-- ITS FALSE NEIGHBOUR: 'it returns false'. Refute it at one input. -/
def logAddedWrong : ChangeSpec := { name := "logAdded", fn := fun _ => fun
  | [d1, d2, d3, d4] => { results := [.lit (.bool false)], args := [d1, d2, d3, d4] }
  | _ => none }
def LogAddedWrongFalsely : Prop := logAddedRow.holds Try.pinned (OpenSpec.ofChange logAddedWrong)

/- THE SECOND FORM. 'bulk': how many values and letters a reading holds, each counted each time it is reached (what is shared counts as often as it is met; a slice's spare places count too). A statement '..UptoSaid' is the law's where the arguments, and the package variables that the reading takes, are together of bulk at most 1048576: NARROWER than '..Said'. Prove '..Said' where nothing that the law and all that it calls make is longer than what came in: it says more and counts as full. Else prove '..UptoSaid'. A law counts once. -/
mutual
def uptoBulk {H : Type} : DataW H → Nat
  | .lit (.string bytes) => bytes.length + 1
  | .lit _ => 1
  | .nil => 1
  | .ptr d => uptoBulk d + 1
  | .slice elems spare => uptoBulkAll elems + uptoBulkAll spare + 1
  | .agg parts => uptoBulkAll parts + 1
  | .iface _ d => uptoBulk d + 1
  | .map entries => uptoBulkEntries entries + 1
  | .held _ => 1
def uptoBulkAll {H : Type} : List (DataW H) → Nat
  | [] => 0
  | d :: r => uptoBulk d + uptoBulkAll r
def uptoBulkEntries {H : Type} : List (Lit × DataW H) → Nat
  | [] => 0
  | x :: r => uptoBulkEntry x + uptoBulkEntries r
def uptoBulkEntry {H : Type} : Lit × DataW H → Nat
  | (.string bytes, d) => bytes.length + uptoBulk d + 1
  | (_, d) => uptoBulk d + 1
 end
def uptoSmall : (H : Type) → List (DataW H) → Bool := fun _ ds => decide (uptoBulkAll ds ≤ 1048576)
def OpenSpec.upto (s : _root_.Go.ChangeSpec) : _root_.Go.OpenSpec := { _root_.Go.OpenSpec.ofChange s with cond := some uptoSmall }

/-- 'tabulariumlaw14.LogBytes', WHERE WHAT IT READS IS OF BULK AT MOST 1048576: true; the input reads as it did. -/
def logBytesUptoRow : OpenClaim := { program := "ytpklbelejebcfaa", sum := "d2563580137a42a1b3219f3b7a3c86f83d3de0b13f919154a3a705ff68510cec", func := "tabularium/tabulariumlaw14.LogBytes", spec := "logBytes", inPlace := ["internal/abi.NoEscape"], unfollowed := true, recurses := true, apart := false, narrowed := true }
def LogBytesUptoSaid : Prop := logBytesUptoRow.holds Try.pinned (OpenSpec.upto logBytesSpec)

/-- 'tabulariumlaw14.LogReads', WHERE WHAT IT READS IS OF BULK AT MOST 1048576: true; the input reads as it did. -/
def logReadsUptoRow : OpenClaim := { program := "ytpklbelejebcfaa", sum := "d2563580137a42a1b3219f3b7a3c86f83d3de0b13f919154a3a705ff68510cec", func := "tabularium/tabulariumlaw14.LogReads", spec := "logReads", inPlace := ["internal/abi.NoEscape"], unfollowed := true, recurses := true, apart := false, narrowed := true }
def LogReadsUptoSaid : Prop := logReadsUptoRow.holds Try.pinned (OpenSpec.upto logReadsSpec)

/-- 'tabulariumlaw14.LogTorn', WHERE WHAT IT READS IS OF BULK AT MOST 1048576: true; the input reads as it did. -/
def logTornUptoRow : OpenClaim := { program := "ytpklbelejebcfaa", sum := "d2563580137a42a1b3219f3b7a3c86f83d3de0b13f919154a3a705ff68510cec", func := "tabularium/tabulariumlaw14.LogTorn", spec := "logTorn", inPlace := ["internal/abi.NoEscape"], unfollowed := true, recurses := true, apart := false, narrowed := true }
def LogTornUptoSaid : Prop := logTornUptoRow.holds Try.pinned (OpenSpec.upto logTornSpec)

/-- 'tabulariumlaw14.LogFull', WHERE WHAT IT READS IS OF BULK AT MOST 1048576: true; the input reads as it did. -/
def logFullUptoRow : OpenClaim := { program := "ytpklbelejebcfaa", sum := "d2563580137a42a1b3219f3b7a3c86f83d3de0b13f919154a3a705ff68510cec", func := "tabularium/tabulariumlaw14.LogFull", spec := "logFull", inPlace := ["internal/abi.NoEscape"], unfollowed := true, recurses := true, apart := false, narrowed := true }
def LogFullUptoSaid : Prop := logFullUptoRow.holds Try.pinned (OpenSpec.upto logFullSpec)

/-- 'tabulariumlaw14.LogBack', WHERE WHAT IT READS IS OF BULK AT MOST 1048576: true; the input reads as it did. -/
def logBackUptoRow : OpenClaim := { program := "ytpklbelejebcfaa", sum := "d2563580137a42a1b3219f3b7a3c86f83d3de0b13f919154a3a705ff68510cec", func := "tabularium/tabulariumlaw14.LogBack", spec := "logBack", inPlace := ["internal/abi.NoEscape"], unfollowed := true, recurses := true, apart := false, narrowed := true }
def LogBackUptoSaid : Prop := logBackUptoRow.holds Try.pinned (OpenSpec.upto logBackSpec)

/-- 'tabulariumlaw14.LogStored', WHERE WHAT IT READS IS OF BULK AT MOST 1048576: true; the input reads as it did. -/
def logStoredUptoRow : OpenClaim := { program := "ytpklbelejebcfaa", sum := "d2563580137a42a1b3219f3b7a3c86f83d3de0b13f919154a3a705ff68510cec", func := "tabularium/tabulariumlaw14.LogStored", spec := "logStored", inPlace := ["internal/abi.NoEscape"], unfollowed := true, recurses := true, apart := false, narrowed := true }
def LogStoredUptoSaid : Prop := logStoredUptoRow.holds Try.pinned (OpenSpec.upto logStoredSpec)

/-- 'tabulariumlaw14.LogAdded', WHERE WHAT IT READS IS OF BULK AT MOST 1048576: true; the input reads as it did. -/
def logAddedUptoRow : OpenClaim := { program := "ytpklbelejebcfaa", sum := "d2563580137a42a1b3219f3b7a3c86f83d3de0b13f919154a3a705ff68510cec", func := "tabularium/tabulariumlaw14.LogAdded", spec := "logAdded", inPlace := ["internal/abi.NoEscape"], unfollowed := true, recurses := true, apart := false, narrowed := true }
def LogAddedUptoSaid : Prop := logAddedUptoRow.holds Try.pinned (OpenSpec.upto logAddedSpec)

end Rows
end Go.Proofs.Ytpklbelejebcfaa
