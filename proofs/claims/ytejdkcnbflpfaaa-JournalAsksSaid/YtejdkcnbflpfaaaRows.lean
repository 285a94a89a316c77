/-
  No cell of these rows narrows 'for every input' (looked for: loops, veiled, ifaces, maps, wideKeys, modest, calm, conditions, laid).
  DERIVED. THE GIVEN ROWS OF THIS SEAT. 3 by the template 'for every input the law returns true; each argument reads behind the call as it read before'; 0 by the template 'total and deterministic' (their statements: YtejdkcnbflpfaaaTotals.lean).
  GIVEN WITH THE SEED: the statements are not yours to turn. If you find one false, say at which input.
  Laid BY PROGRAM, IN A SANDBOX (cutbox-rows.mjs): the forced cells as the released guide's own fill.sh prints them over the translation f4362c2a63404cb7… (all of the seat's roots in one cut). By AI agents, Wed Nov 11 2026. No macro, syntax, notation, axiom, sorry.
-/
import Derived.Test.YtejdkcnbflpfaaaChecked
import GoSem.Claim
import GoSem.ClaimJoined
import GoSem.ClaimMapViews
import Derived.JoinedTies
import Derived.KernelRfl
namespace Go.Proofs.Ytejdkcnbflpfaaa
/- THE CELL 'sum', in the pinned program and in every row, IS THE sha256 OF THE DUMP (.gsa) THAT YtejdkcnbflpfaaaProg.lean LOADS. Nothing in Lean hashes anything: it is a label: what it is worth is what the hold of that sum in a sandbox is worth. -/
noncomputable def Try.pinned : Pinned := { name := "ytejdkcnbflpfaaa", sum := "f4362c2a63404cb79fb151ad06395b8c4c1998ae2168c277b6d0c6e9136302df", checked := Try.checked }
namespace Rows
def none {H : Type} : Left H := { results := [], args := [] }

/-- 'tabulariumlaw15.JournalAsks': WHATEVER THE INPUT: true; the input reads as it did. -/
def journalAsksSpec : ChangeSpec := { name := "journalAsks", fn := fun _ => fun
  | [d1, d2, d3, d4] => { results := [.lit (.bool true)], args := [d1, d2, d3, d4] }
  | _ => none }
def journalAsksRow : OpenClaim := { program := "ytejdkcnbflpfaaa", sum := "f4362c2a63404cb79fb151ad06395b8c4c1998ae2168c277b6d0c6e9136302df", func := "tabularium/tabulariumlaw15.JournalAsks", spec := "journalAsks", inPlace := ["internal/abi.NoEscape", "internal/bytealg.MakeNoZero"], unfollowed := true, recurses := true, apart := false }
def JournalAsksSaid : Prop := journalAsksRow.holds Try.pinned (OpenSpec.ofChange journalAsksSpec)

/-- ITS FALSE NEIGHBOUR: 'it returns false'. Refute it at one input. -/
def journalAsksWrong : ChangeSpec := { name := "journalAsks", fn := fun _ => fun
  | [d1, d2, d3, d4] => { results := [.lit (.bool false)], args := [d1, d2, d3, d4] }
  | _ => none }
def JournalAsksWrongFalsely : Prop := journalAsksRow.holds Try.pinned (OpenSpec.ofChange journalAsksWrong)

/-- 'tabulariumlaw15.JournalFences': WHATEVER THE INPUT: true; the input reads as it did. -/
def journalFencesSpec : ChangeSpec := { name := "journalFences", fn := fun _ => fun
  | [d1, d2, d3] => { results := [.lit (.bool true)], args := [d1, d2, d3] }
  | _ => none }
def journalFencesRow : OpenClaim := { program := "ytejdkcnbflpfaaa", sum := "f4362c2a63404cb79fb151ad06395b8c4c1998ae2168c277b6d0c6e9136302df", func := "tabularium/tabulariumlaw15.JournalFences", spec := "journalFences", inPlace := ["internal/abi.NoEscape", "internal/bytealg.MakeNoZero"], unfollowed := true, recurses := true, apart := false }
def JournalFencesSaid : Prop := journalFencesRow.holds Try.pinned (OpenSpec.ofChange journalFencesSpec)

/-- ITS FALSE NEIGHBOUR: 'it returns false'. Refute it at one input. -/
def journalFencesWrong : ChangeSpec := { name := "journalFences", fn := fun _ => fun
  | [d1, d2, d3] => { results := [.lit (.bool false)], args := [d1, d2, d3] }
  | _ => none }
def JournalFencesWrongFalsely : Prop := journalFencesRow.holds Try.pinned (OpenSpec.ofChange journalFencesWrong)

/-- 'tabulariumlaw15.JournalCopies': WHATEVER THE INPUT: true; the input reads as it did. -/
def journalCopiesSpec : ChangeSpec := { name := "journalCopies", fn := fun _ => fun
  | [d1, d2] => { results := [.lit (.bool true)], args := [d1, d2] }
  | _ => none }
def journalCopiesRow : OpenClaim := { program := "ytejdkcnbflpfaaa", sum := "f4362c2a63404cb79fb151ad06395b8c4c1998ae2168c277b6d0c6e9136302df", func := "tabularium/tabulariumlaw15.JournalCopies", spec := "journalCopies", inPlace := ["internal/abi.NoEscape", "internal/bytealg.MakeNoZero"], unfollowed := true, recurses := true, apart := false }
def JournalCopiesSaid : Prop := journalCopiesRow.holds Try.pinned (OpenSpec.ofChange journalCopiesSpec)

/-- ITS FALSE NEIGHBOUR: 'it returns false'. Refute it at one input. -/
def journalCopiesWrong : ChangeSpec := { name := "journalCopies", fn := fun _ => fun
  | [d1, d2] => { results := [.lit (.bool false)], args := [d1, d2] }
  | _ => none }
def JournalCopiesWrongFalsely : Prop := journalCopiesRow.holds Try.pinned (OpenSpec.ofChange journalCopiesWrong)

/- THE SECOND FORM. 'bulk': how many values and letters a reading holds, each counted each time it is reached (what is shared counts as often as it is met; a slice's spare places count too). A statement '..UptoSaid' is the law's where the arguments, and the package variables that the reading takes, are together of bulk at most 1048576: NARROWER than '..Said'. Prove '..Said' where nothing that the law and all that it calls make is longer than what came in: it says more and counts as full. Else prove '..UptoSaid'. A law counts once. -/
mutual
def uptoBulk {H : Type} : DataW H → Nat
  | .lit (.string bytes) => bytes.length + 1
  | .lit _ => 1
  | .nil => 1
  | .ptr d => uptoBulk d + 1
  | .slice elems spare => uptoBulkAll elems + uptoBulkAll spare + 1
  | .agg parts => uptoBulkAll parts + 1
  | .iface _ d => uptoBulk d + 1
  | .map entries => uptoBulkEntries entries + 1
  | .held _ => 1
def uptoBulkAll {H : Type} : List (DataW H) → Nat
  | [] => 0
  | d :: r => uptoBulk d + uptoBulkAll r
def uptoBulkEntries {H : Type} : List (Lit × DataW H) → Nat
  | [] => 0
  | x :: r => uptoBulkEntry x + uptoBulkEntries r
def uptoBulkEntry {H : Type} : Lit × DataW H → Nat
  | (.string bytes, d) => bytes.length + uptoBulk d + 1
  | (_, d) => uptoBulk d + 1
 end
def uptoSmall : (H : Type) → List (DataW H) → Bool := fun _ ds => decide (uptoBulkAll ds ≤ 1048576)
def OpenSpec.upto (s : _root_.Go.ChangeSpec) : _root_.Go.OpenSpec := { _root_.Go.OpenSpec.ofChange s with cond := some uptoSmall }

/-- 'tabulariumlaw15.JournalAsks', WHERE WHAT IT READS IS OF BULK AT MOST 1048576: true; the input reads as it did. -/
def journalAsksUptoRow : OpenClaim := { program := "ytejdkcnbflpfaaa", sum := "f4362c2a63404cb79fb151ad06395b8c4c1998ae2168c277b6d0c6e9136302df", func := "tabularium/tabulariumlaw15.JournalAsks", spec := "journalAsks", inPlace := ["internal/abi.NoEscape", "internal/bytealg.MakeNoZero"], unfollowed := true, recurses := true, apart := false, narrowed := true }
def JournalAsksUptoSaid : Prop := journalAsksUptoRow.holds Try.pinned (OpenSpec.upto journalAsksSpec)

/-- 'tabulariumlaw15.JournalFences', WHERE WHAT IT READS IS OF BULK AT MOST 1048576: true; the input reads as it did. -/
def journalFencesUptoRow : OpenClaim := { program := "ytejdkcnbflpfaaa", sum := "f4362c2a63404cb79fb151ad06395b8c4c1998ae2168c277b6d0c6e9136302df", func := "tabularium/tabulariumlaw15.JournalFences", spec := "journalFences", inPlace := ["internal/abi.NoEscape", "internal/bytealg.MakeNoZero"], unfollowed := true, recurses := true, apart := false, narrowed := true }
def JournalFencesUptoSaid : Prop := journalFencesUptoRow.holds Try.pinned (OpenSpec.upto journalFencesSpec)

/-- 'tabulariumlaw15.JournalCopies', WHERE WHAT IT READS IS OF BULK AT MOST 1048576: true; the input reads as it did. -/
def journalCopiesUptoRow : OpenClaim := { program := "ytejdkcnbflpfaaa", sum := "f4362c2a63404cb79fb151ad06395b8c4c1998ae2168c277b6d0c6e9136302df", func := "tabularium/tabulariumlaw15.JournalCopies", spec := "journalCopies", inPlace := ["internal/abi.NoEscape", "internal/bytealg.MakeNoZero"], unfollowed := true, recurses := true, apart := false, narrowed := true }
def JournalCopiesUptoSaid : Prop := journalCopiesUptoRow.holds Try.pinned (OpenSpec.upto journalCopiesSpec)

end Rows
end Go.Proofs.Ytejdkcnbflpfaaa
