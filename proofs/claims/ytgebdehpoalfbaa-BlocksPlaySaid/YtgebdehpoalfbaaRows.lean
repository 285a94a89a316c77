/-
  No cell of these rows narrows 'for every input' (looked for: loops, veiled, ifaces, maps, wideKeys, modest, calm, conditions, laid).
  DERIVED. THE GIVEN ROWS OF THIS SEAT. 5 by the template 'for every input the law returns true; each argument reads behind the call as it read before'; 0 by the template 'total and deterministic' (their statements: YtgebdehpoalfbaaTotals.lean).
  GIVEN WITH THE SEED: the statements are not yours to turn. If you find one false, say at which input.
  Laid BY PROGRAM, IN A SANDBOX (cutbox-rows.mjs): the forced cells as the released guide's own fill.sh prints them over the translation 67fea2ed3c0c3705… (all of the seat's roots in one cut). By AI agents, Wed Nov 11 2026. No macro, syntax, notation, axiom, sorry.
-/
import Derived.Test.YtgebdehpoalfbaaChecked
import GoSem.Claim
import GoSem.ClaimJoined
import GoSem.ClaimMapViews
import Derived.JoinedTies
import Derived.KernelRfl
namespace Go.Proofs.Ytgebdehpoalfbaa
/- THE CELL 'sum', in the pinned program and in every row, IS THE sha256 OF THE DUMP (.gsa) THAT YtgebdehpoalfbaaProg.lean LOADS. Nothing in Lean hashes anything: it is a label: what it is worth is what the hold of that sum in a sandbox is worth. -/
noncomputable def Try.pinned : Pinned := { name := "ytgebdehpoalfbaa", sum := "67fea2ed3c0c370593c4b9c3d9ba8788d92a996de90410b8fc809489d7fda2d7", checked := Try.checked }
namespace Rows
def none {H : Type} : Left H := { results := [], args := [] }

/-- 'tabulariumlaw20.BlocksStale': WHATEVER THE INPUT: true; the input reads as it did. -/
def blocksStaleSpec : ChangeSpec := { name := "blocksStale", fn := fun _ => fun
  | [d1, d2] => { results := [.lit (.bool true)], args := [d1, d2] }
  | _ => none }
def blocksStaleRow : OpenClaim := { program := "ytgebdehpoalfbaa", sum := "67fea2ed3c0c370593c4b9c3d9ba8788d92a996de90410b8fc809489d7fda2d7", func := "tabularium/tabulariumlaw20.BlocksStale", spec := "blocksStale", unfollowed := true, recurses := true, apart := false }
def BlocksStaleSaid : Prop := blocksStaleRow.holds Try.pinned (OpenSpec.ofChange blocksStaleSpec)

/-- ITS FALSE NEIGHBOUR: 'it returns false'. Refute it at one input. -/
def blocksStaleWrong : ChangeSpec := { name := "blocksStale", fn := fun _ => fun
  | [d1, d2] => { results := [.lit (.bool false)], args := [d1, d2] }
  | _ => none }
def BlocksStaleWrongFalsely : Prop := blocksStaleRow.holds Try.pinned (OpenSpec.ofChange blocksStaleWrong)

/-- 'tabulariumlaw20.BlocksMore': WHATEVER THE INPUT: true; the input reads as it did. -/
def blocksMoreSpec : ChangeSpec := { name := "blocksMore", fn := fun _ => fun
  | [d1, d2, d3] => { results := [.lit (.bool true)], args := [d1, d2, d3] }
  | _ => none }
def blocksMoreRow : OpenClaim := { program := "ytgebdehpoalfbaa", sum := "67fea2ed3c0c370593c4b9c3d9ba8788d92a996de90410b8fc809489d7fda2d7", func := "tabularium/tabulariumlaw20.BlocksMore", spec := "blocksMore", unfollowed := true, recurses := true, apart := false }
def BlocksMoreSaid : Prop := blocksMoreRow.holds Try.pinned (OpenSpec.ofChange blocksMoreSpec)

/-- ITS FALSE NEIGHBOUR: 'it returns false'. Refute it at one input. -/
def blocksMoreWrong : ChangeSpec := { name := "blocksMore", fn := fun _ => fun
  | [d1, d2, d3] => { results := [.lit (.bool false)], args := [d1, d2, d3] }
  | _ => none }
def BlocksMoreWrongFalsely : Prop := blocksMoreRow.holds Try.pinned (OpenSpec.ofChange blocksMoreWrong)

/-- 'tabulariumlaw20.BlocksLast': WHATEVER THE INPUT: true; the input reads as it did. -/
def blocksLastSpec : ChangeSpec := { name := "blocksLast", fn := fun _ => fun
  | [d1, d2, d3, d4] => { results := [.lit (.bool true)], args := [d1, d2, d3, d4] }
  | _ => none }
def blocksLastRow : OpenClaim := { program := "ytgebdehpoalfbaa", sum := "67fea2ed3c0c370593c4b9c3d9ba8788d92a996de90410b8fc809489d7fda2d7", func := "tabularium/tabulariumlaw20.BlocksLast", spec := "blocksLast", unfollowed := true, recurses := true, apart := false }
def BlocksLastSaid : Prop := blocksLastRow.holds Try.pinned (OpenSpec.ofChange blocksLastSpec)

/-- ITS FALSE NEIGHBOUR: 'it returns false'. Refute it at one input. -/
def blocksLastWrong : ChangeSpec := { name := "blocksLast", fn := fun _ => fun
  | [d1, d2, d3, d4] => { results := [.lit (.bool false)], args := [d1, d2, d3, d4] }
  | _ => none }
def BlocksLastWrongFalsely : Prop := blocksLastRow.holds Try.pinned (OpenSpec.ofChange blocksLastWrong)

/-- 'tabulariumlaw20.BlocksHold': WHATEVER THE INPUT: true; the input reads as it did. -/
def blocksHoldSpec : ChangeSpec := { name := "blocksHold", fn := fun _ => fun
  | [d1, d2] => { results := [.lit (.bool true)], args := [d1, d2] }
  | _ => none }
def blocksHoldRow : OpenClaim := { program := "ytgebdehpoalfbaa", sum := "67fea2ed3c0c370593c4b9c3d9ba8788d92a996de90410b8fc809489d7fda2d7", func := "tabularium/tabulariumlaw20.BlocksHold", spec := "blocksHold", unfollowed := true, recurses := true, apart := false }
def BlocksHoldSaid : Prop := blocksHoldRow.holds Try.pinned (OpenSpec.ofChange blocksHoldSpec)

/-- ITS FALSE NEIGHBOUR: 'it returns false'. Refute it at one input. -/
def blocksHoldWrong : ChangeSpec := { name := "blocksHold", fn := fun _ => fun
  | [d1, d2] => { results := [.lit (.bool false)], args := [d1, d2] }
  | _ => none }
def BlocksHoldWrongFalsely : Prop := blocksHoldRow.holds Try.pinned (OpenSpec.ofChange blocksHoldWrong)

/-- 'tabulariumlaw20.BlocksPlay': WHATEVER THE INPUT: true; the input reads as it did. -/
def blocksPlaySpec : ChangeSpec := { name := "blocksPlay", fn := fun _ => fun
  | [d] => { results := [.lit (.bool true)], args := [d] }
  | _ => none }
def blocksPlayRow : OpenClaim := { program := "ytgebdehpoalfbaa", sum := "67fea2ed3c0c370593c4b9c3d9ba8788d92a996de90410b8fc809489d7fda2d7", func := "tabularium/tabulariumlaw20.BlocksPlay", spec := "blocksPlay", unfollowed := true, recurses := true, apart := false }
def BlocksPlaySaid : Prop := blocksPlayRow.holds Try.pinned (OpenSpec.ofChange blocksPlaySpec)

/-- ITS FALSE NEIGHBOUR: 'it returns false'. Refute it at one input. -/
def blocksPlayWrong : ChangeSpec := { name := "blocksPlay", fn := fun _ => fun
  | [d] => { results := [.lit (.bool false)], args := [d] }
  | _ => none }
def BlocksPlayWrongFalsely : Prop := blocksPlayRow.holds Try.pinned (OpenSpec.ofChange blocksPlayWrong)

/- THE SECOND FORM. 'bulk': how many values and letters a reading holds, each counted each time it is reached (what is shared counts as often as it is met; a slice's spare places count too). A statement '..UptoSaid' is the law's where the arguments, and the package variables that the reading takes, are together of bulk at most 1048576: NARROWER than '..Said'. Prove '..Said' where nothing that the law and all that it calls make is longer than what came in: it says more and counts as full. Else prove '..UptoSaid'. A law counts once. -/
mutual
def uptoBulk {H : Type} : DataW H → Nat
  | .lit (.string bytes) => bytes.length + 1
  | .lit _ => 1
  | .nil => 1
  | .ptr d => uptoBulk d + 1
  | .slice elems spare => uptoBulkAll elems + uptoBulkAll spare + 1
  | .agg parts => uptoBulkAll parts + 1
  | .iface _ d => uptoBulk d + 1
  | .map entries => uptoBulkEntries entries + 1
  | .held _ => 1
def uptoBulkAll {H : Type} : List (DataW H) → Nat
  | [] => 0
  | d :: r => uptoBulk d + uptoBulkAll r
def uptoBulkEntries {H : Type} : List (Lit × DataW H) → Nat
  | [] => 0
  | x :: r => uptoBulkEntry x + uptoBulkEntries r
def uptoBulkEntry {H : Type} : Lit × DataW H → Nat
  | (.string bytes, d) => bytes.length + uptoBulk d + 1
  | (_, d) => uptoBulk d + 1
 end
def uptoSmall : (H : Type) → List (DataW H) → Bool := fun _ ds => decide (uptoBulkAll ds ≤ 1048576)
def OpenSpec.upto (s : _root_.Go.ChangeSpec) : _root_.Go.OpenSpec := { _root_.Go.OpenSpec.ofChange s with cond := some uptoSmall }

/-- 'tabulariumlaw20.BlocksStale', WHERE WHAT IT READS IS OF BULK AT MOST 1048576: true; the input reads as it did. -/
def blocksStaleUptoRow : OpenClaim := { program := "ytgebdehpoalfbaa", sum := "67fea2ed3c0c370593c4b9c3d9ba8788d92a996de90410b8fc809489d7fda2d7", func := "tabularium/tabulariumlaw20.BlocksStale", spec := "blocksStale", unfollowed := true, recurses := true, apart := false, narrowed := true }
def BlocksStaleUptoSaid : Prop := blocksStaleUptoRow.holds Try.pinned (OpenSpec.upto blocksStaleSpec)

/-- 'tabulariumlaw20.BlocksMore', WHERE WHAT IT READS IS OF BULK AT MOST 1048576: true; the input reads as it did. -/
def blocksMoreUptoRow : OpenClaim := { program := "ytgebdehpoalfbaa", sum := "67fea2ed3c0c370593c4b9c3d9ba8788d92a996de90410b8fc809489d7fda2d7", func := "tabularium/tabulariumlaw20.BlocksMore", spec := "blocksMore", unfollowed := true, recurses := true, apart := false, narrowed := true }
def BlocksMoreUptoSaid : Prop := blocksMoreUptoRow.holds Try.pinned (OpenSpec.upto blocksMoreSpec)

/-- 'tabulariumlaw20.BlocksLast', WHERE WHAT IT READS IS OF BULK AT MOST 1048576: true; the input reads as it did. -/
def blocksLastUptoRow : OpenClaim := { program := "ytgebdehpoalfbaa", sum := "67fea2ed3c0c370593c4b9c3d9ba8788d92a996de90410b8fc809489d7fda2d7", func := "tabularium/tabulariumlaw20.BlocksLast", spec := "blocksLast", unfollowed := true, recurses := true, apart := false, narrowed := true }
def BlocksLastUptoSaid : Prop := blocksLastUptoRow.holds Try.pinned (OpenSpec.upto blocksLastSpec)

/-- 'tabulariumlaw20.BlocksHold', WHERE WHAT IT READS IS OF BULK AT MOST 1048576: true; the input reads as it did. -/
def blocksHoldUptoRow : OpenClaim := { program := "ytgebdehpoalfbaa", sum := "67fea2ed3c0c370593c4b9c3d9ba8788d92a996de90410b8fc809489d7fda2d7", func := "tabularium/tabulariumlaw20.BlocksHold", spec := "blocksHold", unfollowed := true, recurses := true, apart := false, narrowed := true }
def BlocksHoldUptoSaid : Prop := blocksHoldUptoRow.holds Try.pinned (OpenSpec.upto blocksHoldSpec)

/-- 'tabulariumlaw20.BlocksPlay', WHERE WHAT IT READS IS OF BULK AT MOST 1048576: true; the input reads as it did. -/
def blocksPlayUptoRow : OpenClaim := { program := "ytgebdehpoalfbaa", sum := "67fea2ed3c0c370593c4b9c3d9ba8788d92a996de90410b8fc809489d7fda2d7", func := "tabularium/tabulariumlaw20.BlocksPlay", spec := "blocksPlay", unfollowed := true, recurses := true, apart := false, narrowed := true }
def BlocksPlayUptoSaid : Prop := blocksPlayUptoRow.holds Try.pinned (OpenSpec.upto blocksPlaySpec)

end Rows
end Go.Proofs.Ytgebdehpoalfbaa
