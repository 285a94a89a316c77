/-
  No cell of these rows narrows 'for every input' (looked for: loops, veiled, ifaces, maps, wideKeys, modest, calm, conditions, laid).
  DERIVED. THE GIVEN ROWS OF THIS SEAT. 5 by the template 'for every input the law returns true; each argument reads behind the call as it read before'; 0 by the template 'total and deterministic' (their statements: YtfolmcpfdcgliaaGreatTotals.lean).
  GIVEN WITH THE SEED: the statements are not yours to turn. If you find one false, say at which input.
  Laid BY PROGRAM, IN A SANDBOX (cutbox-rows.mjs): the forced cells as the released guide's own fill.sh prints them over the translation f67144b173cae36e… (all of the seat's roots in one cut). By AI agents, Wed Nov 11 2026. No macro, syntax, notation, axiom, sorry.
-/
import Derived.Test.YtfolmcpfdcgliaaGreatChecked
import GoSem.Claim
import GoSem.ClaimJoined
import GoSem.ClaimMapViews
import Derived.JoinedTies
import Derived.KernelRfl
namespace Go.Proofs.YtfolmcpfdcgliaaGreat
/- THE CELL 'sum', in the pinned program and in every row, IS THE sha256 OF THE DUMP (.gsa) THAT YtfolmcpfdcgliaaGreatProg.lean LOADS. Nothing in Lean hashes anything: it is a label: what it is worth is what the hold of that sum in a sandbox is worth. -/
noncomputable def Tryz.pinned : Pinned := { name := "ytfolmcpfdcgliaagreat", sum := "f67144b173cae36e90b12b171a0305729c06dbaec377779611247b3b3c598066", checked := Tryz.checked }
namespace Rows
def none {H : Type} : Left H := { results := [], args := [] }

/-- 'tabulariumlaw17.QuorumFew': WHATEVER THE INPUT: true; the input reads as it did. -/
def quorumFewSpec : ChangeSpec := { name := "quorumFew", fn := fun _ => fun
  | [d1, d2, d3] => { results := [.lit (.bool true)], args := [d1, d2, d3] }
  | _ => none }
def quorumFewRow : OpenClaim := { program := "ytfolmcpfdcgliaagreat", sum := "f67144b173cae36e90b12b171a0305729c06dbaec377779611247b3b3c598066", func := "tabularium/tabulariumlaw17.QuorumFew", spec := "quorumFew", inPlace := ["internal/abi.NoEscape", "internal/bytealg.MakeNoZero"], unfollowed := true, recurses := true, apart := false }
def QuorumFewSaid : Prop := quorumFewRow.holds Tryz.pinned (OpenSpec.ofChange quorumFewSpec)

/-- ITS FALSE NEIGHBOUR: 'it returns false'. Refute it at one input. -/
def quorumFewWrong : ChangeSpec := { name := "quorumFew", fn := fun _ => fun
  | [d1, d2, d3] => { results := [.lit (.bool false)], args := [d1, d2, d3] }
  | _ => none }
def QuorumFewWrongFalsely : Prop := quorumFewRow.holds Tryz.pinned (OpenSpec.ofChange quorumFewWrong)

/-- 'tabulariumlaw17.QuorumCopies': WHATEVER THE INPUT: true; the input reads as it did. -/
def quorumCopiesSpec : ChangeSpec := { name := "quorumCopies", fn := fun _ => fun
  | [d1, d2, d3, d4] => { results := [.lit (.bool true)], args := [d1, d2, d3, d4] }
  | _ => none }
def quorumCopiesRow : OpenClaim := { program := "ytfolmcpfdcgliaagreat", sum := "f67144b173cae36e90b12b171a0305729c06dbaec377779611247b3b3c598066", func := "tabularium/tabulariumlaw17.QuorumCopies", spec := "quorumCopies", inPlace := ["internal/abi.NoEscape", "internal/bytealg.MakeNoZero"], unfollowed := true, recurses := true, apart := false }
def QuorumCopiesSaid : Prop := quorumCopiesRow.holds Tryz.pinned (OpenSpec.ofChange quorumCopiesSpec)

/-- ITS FALSE NEIGHBOUR: 'it returns false'. Refute it at one input. -/
def quorumCopiesWrong : ChangeSpec := { name := "quorumCopies", fn := fun _ => fun
  | [d1, d2, d3, d4] => { results := [.lit (.bool false)], args := [d1, d2, d3, d4] }
  | _ => none }
def QuorumCopiesWrongFalsely : Prop := quorumCopiesRow.holds Tryz.pinned (OpenSpec.ofChange quorumCopiesWrong)

/-- 'tabulariumlaw17.QuorumFences': WHATEVER THE INPUT: true; the input reads as it did. -/
def quorumFencesSpec : ChangeSpec := { name := "quorumFences", fn := fun _ => fun
  | [d1, d2, d3, d4, d5] => { results := [.lit (.bool true)], args := [d1, d2, d3, d4, d5] }
  | _ => none }
def quorumFencesRow : OpenClaim := { program := "ytfolmcpfdcgliaagreat", sum := "f67144b173cae36e90b12b171a0305729c06dbaec377779611247b3b3c598066", func := "tabularium/tabulariumlaw17.QuorumFences", spec := "quorumFences", inPlace := ["internal/abi.NoEscape", "internal/bytealg.MakeNoZero"], unfollowed := true, recurses := true, apart := false }
def QuorumFencesSaid : Prop := quorumFencesRow.holds Tryz.pinned (OpenSpec.ofChange quorumFencesSpec)

/-- ITS FALSE NEIGHBOUR: 'it returns false'. Refute it at one input. -/
def quorumFencesWrong : ChangeSpec := { name := "quorumFences", fn := fun _ => fun
  | [d1, d2, d3, d4, d5] => { results := [.lit (.bool false)], args := [d1, d2, d3, d4, d5] }
  | _ => none }
def QuorumFencesWrongFalsely : Prop := quorumFencesRow.holds Tryz.pinned (OpenSpec.ofChange quorumFencesWrong)

/-- 'tabulariumlaw17.QuorumPlays': WHATEVER THE INPUT: true; the input reads as it did. -/
def quorumPlaysSpec : ChangeSpec := { name := "quorumPlays", fn := fun _ => fun
  | [d1, d2] => { results := [.lit (.bool true)], args := [d1, d2] }
  | _ => none }
def quorumPlaysRow : OpenClaim := { program := "ytfolmcpfdcgliaagreat", sum := "f67144b173cae36e90b12b171a0305729c06dbaec377779611247b3b3c598066", func := "tabularium/tabulariumlaw17.QuorumPlays", spec := "quorumPlays", inPlace := ["internal/abi.NoEscape", "internal/bytealg.MakeNoZero"], unfollowed := true, recurses := true, apart := false }
def QuorumPlaysSaid : Prop := quorumPlaysRow.holds Tryz.pinned (OpenSpec.ofChange quorumPlaysSpec)

/-- ITS FALSE NEIGHBOUR: 'it returns false'. Refute it at one input. -/
def quorumPlaysWrong : ChangeSpec := { name := "quorumPlays", fn := fun _ => fun
  | [d1, d2] => { results := [.lit (.bool false)], args := [d1, d2] }
  | _ => none }
def QuorumPlaysWrongFalsely : Prop := quorumPlaysRow.holds Tryz.pinned (OpenSpec.ofChange quorumPlaysWrong)

/-- 'tabulariumlaw17.QuorumLasts': WHATEVER THE INPUT: true; the input reads as it did. -/
def quorumLastsSpec : ChangeSpec := { name := "quorumLasts", fn := fun _ => fun
  | [d1, d2] => { results := [.lit (.bool true)], args := [d1, d2] }
  | _ => none }
def quorumLastsRow : OpenClaim := { program := "ytfolmcpfdcgliaagreat", sum := "f67144b173cae36e90b12b171a0305729c06dbaec377779611247b3b3c598066", func := "tabularium/tabulariumlaw17.QuorumLasts", spec := "quorumLasts", inPlace := ["internal/abi.NoEscape", "internal/bytealg.MakeNoZero"], unfollowed := true, recurses := true, apart := false }
def QuorumLastsSaid : Prop := quorumLastsRow.holds Tryz.pinned (OpenSpec.ofChange quorumLastsSpec)

/-- ITS FALSE NEIGHBOUR: 'it returns false'. Refute it at one input. -/
def quorumLastsWrong : ChangeSpec := { name := "quorumLasts", fn := fun _ => fun
  | [d1, d2] => { results := [.lit (.bool false)], args := [d1, d2] }
  | _ => none }
def QuorumLastsWrongFalsely : Prop := quorumLastsRow.holds Tryz.pinned (OpenSpec.ofChange quorumLastsWrong)

/- THE SECOND FORM. 'bulk': how many values and letters a reading holds, each counted each time it is reached (what is shared counts as often as it is met; a slice's spare places count too). A statement '..UptoSaid' is the law's where the arguments, and the package variables that the reading takes, are together of bulk at most 1048576: NARROWER than '..Said'. Prove '..Said' where nothing that the law and all that it calls make is longer than what came in: it says more and counts as full. Else prove '..UptoSaid'. A law counts once. -/
mutual
def uptoBulk {H : Type} : DataW H → Nat
  | .lit (.string bytes) => bytes.length + 1
  | .lit _ => 1
  | .nil => 1
  | .ptr d => uptoBulk d + 1
  | .slice elems spare => uptoBulkAll elems + uptoBulkAll spare + 1
  | .agg parts => uptoBulkAll parts + 1
  | .iface _ d => uptoBulk d + 1
  | .map entries => uptoBulkEntries entries + 1
  | .held _ => 1
def uptoBulkAll {H : Type} : List (DataW H) → Nat
  | [] => 0
  | d :: r => uptoBulk d + uptoBulkAll r
def uptoBulkEntries {H : Type} : List (Lit × DataW H) → Nat
  | [] => 0
  | x :: r => uptoBulkEntry x + uptoBulkEntries r
def uptoBulkEntry {H : Type} : Lit × DataW H → Nat
  | (.string bytes, d) => bytes.length + uptoBulk d + 1
  | (_, d) => uptoBulk d + 1
 end
def uptoSmall : (H : Type) → List (DataW H) → Bool := fun _ ds => decide (uptoBulkAll ds ≤ 1048576)
def OpenSpec.upto (s : _root_.Go.ChangeSpec) : _root_.Go.OpenSpec := { _root_.Go.OpenSpec.ofChange s with cond := some uptoSmall }

/-- 'tabulariumlaw17.QuorumFew', WHERE WHAT IT READS IS OF BULK AT MOST 1048576: true; the input reads as it did. -/
def quorumFewUptoRow : OpenClaim := { program := "ytfolmcpfdcgliaagreat", sum := "f67144b173cae36e90b12b171a0305729c06dbaec377779611247b3b3c598066", func := "tabularium/tabulariumlaw17.QuorumFew", spec := "quorumFew", inPlace := ["internal/abi.NoEscape", "internal/bytealg.MakeNoZero"], unfollowed := true, recurses := true, apart := false, narrowed := true }
def QuorumFewUptoSaid : Prop := quorumFewUptoRow.holds Tryz.pinned (OpenSpec.upto quorumFewSpec)

/-- 'tabulariumlaw17.QuorumCopies', WHERE WHAT IT READS IS OF BULK AT MOST 1048576: true; the input reads as it did. -/
def quorumCopiesUptoRow : OpenClaim := { program := "ytfolmcpfdcgliaagreat", sum := "f67144b173cae36e90b12b171a0305729c06dbaec377779611247b3b3c598066", func := "tabularium/tabulariumlaw17.QuorumCopies", spec := "quorumCopies", inPlace := ["internal/abi.NoEscape", "internal/bytealg.MakeNoZero"], unfollowed := true, recurses := true, apart := false, narrowed := true }
def QuorumCopiesUptoSaid : Prop := quorumCopiesUptoRow.holds Tryz.pinned (OpenSpec.upto quorumCopiesSpec)

/-- 'tabulariumlaw17.QuorumFences', WHERE WHAT IT READS IS OF BULK AT MOST 1048576: true; the input reads as it did. -/
def quorumFencesUptoRow : OpenClaim := { program := "ytfolmcpfdcgliaagreat", sum := "f67144b173cae36e90b12b171a0305729c06dbaec377779611247b3b3c598066", func := "tabularium/tabulariumlaw17.QuorumFences", spec := "quorumFences", inPlace := ["internal/abi.NoEscape", "internal/bytealg.MakeNoZero"], unfollowed := true, recurses := true, apart := false, narrowed := true }
def QuorumFencesUptoSaid : Prop := quorumFencesUptoRow.holds Tryz.pinned (OpenSpec.upto quorumFencesSpec)

/-- 'tabulariumlaw17.QuorumPlays', WHERE WHAT IT READS IS OF BULK AT MOST 1048576: true; the input reads as it did. -/
def quorumPlaysUptoRow : OpenClaim := { program := "ytfolmcpfdcgliaagreat", sum := "f67144b173cae36e90b12b171a0305729c06dbaec377779611247b3b3c598066", func := "tabularium/tabulariumlaw17.QuorumPlays", spec := "quorumPlays", inPlace := ["internal/abi.NoEscape", "internal/bytealg.MakeNoZero"], unfollowed := true, recurses := true, apart := false, narrowed := true }
def QuorumPlaysUptoSaid : Prop := quorumPlaysUptoRow.holds Tryz.pinned (OpenSpec.upto quorumPlaysSpec)

/-- 'tabulariumlaw17.QuorumLasts', WHERE WHAT IT READS IS OF BULK AT MOST 1048576: true; the input reads as it did. -/
def quorumLastsUptoRow : OpenClaim := { program := "ytfolmcpfdcgliaagreat", sum := "f67144b173cae36e90b12b171a0305729c06dbaec377779611247b3b3c598066", func := "tabularium/tabulariumlaw17.QuorumLasts", spec := "quorumLasts", inPlace := ["internal/abi.NoEscape", "internal/bytealg.MakeNoZero"], unfollowed := true, recurses := true, apart := false, narrowed := true }
def QuorumLastsUptoSaid : Prop := quorumLastsUptoRow.holds Tryz.pinned (OpenSpec.upto quorumLastsSpec)

end Rows
end Go.Proofs.YtfolmcpfdcgliaaGreat
