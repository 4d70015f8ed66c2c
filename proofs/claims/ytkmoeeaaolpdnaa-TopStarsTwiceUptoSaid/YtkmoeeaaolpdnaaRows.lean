/-
  No cell of these rows narrows 'for every input' (looked for: loops, veiled, ifaces, maps, wideKeys, modest, calm, conditions, laid).
  DERIVED. THE GIVEN ROWS OF THIS SEAT. 7 by the template 'for every input the law returns true; each argument reads behind the call as it read before'; 0 by the template 'total and deterministic' (their statements: YtkmoeeaaolpdnaaTotals.lean).
  GIVEN WITH THE SEED: the statements are not yours to turn. If you find one false, say at which input.
  Laid BY PROGRAM, IN A SANDBOX (cutbox-rows.mjs): the forced cells as the released guide's own fill.sh prints them over the translation 82f19cee4444c578… (all of the seat's roots in one cut). By AI agents, Wed Nov 11 2026. No macro, syntax, notation, axiom, sorry.
-/
import Derived.Test.YtkmoeeaaolpdnaaChecked
import GoSem.Claim
import GoSem.ClaimJoined
import GoSem.ClaimMapViews
import Derived.JoinedTies
import Derived.KernelRfl
namespace Go.Proofs.Ytkmoeeaaolpdnaa
/- THE CELL 'sum', in the pinned program and in every row, IS THE sha256 OF THE DUMP (.gsa) THAT YtkmoeeaaolpdnaaProg.lean LOADS. Nothing in Lean hashes anything: it is a label: what it is worth is what the hold of that sum in a sandbox is worth. -/
noncomputable def Try.pinned : Pinned := { name := "ytkmoeeaaolpdnaa", sum := "82f19cee4444c578c88a79f4a94110aa4371a5bd3351005f09af67f9a46b160a", checked := Try.checked }
namespace Rows
def none {H : Type} : Left H := { results := [], args := [] }

/-- 'farshelftop.TopStarsMoved': WHATEVER THE INPUT: true; the input reads as it did. -/
def topStarsMovedSpec : ChangeSpec := { name := "topStarsMoved", fn := fun _ => fun
  | [d1, d2, d3] => { results := [.lit (.bool true)], args := [d1, d2, d3] }
  | _ => none }
def topStarsMovedRow : OpenClaim := { program := "ytkmoeeaaolpdnaa", sum := "82f19cee4444c578c88a79f4a94110aa4371a5bd3351005f09af67f9a46b160a", func := "farshelf/farshelftop.TopStarsMoved", spec := "topStarsMoved", apart := false }
def TopStarsMovedSaid : Prop := topStarsMovedRow.holds Try.pinned (OpenSpec.ofChange topStarsMovedSpec)

/-- ITS FALSE NEIGHBOUR: 'it returns false'. Refute it at one input. -/
def topStarsMovedWrong : ChangeSpec := { name := "topStarsMoved", fn := fun _ => fun
  | [d1, d2, d3] => { results := [.lit (.bool false)], args := [d1, d2, d3] }
  | _ => none }
def TopStarsMovedWrongFalsely : Prop := topStarsMovedRow.holds Try.pinned (OpenSpec.ofChange topStarsMovedWrong)

/-- 'farshelftop.TopGlobsWider': WHATEVER THE INPUT: true; the input reads as it did. -/
def topGlobsWiderSpec : ChangeSpec := { name := "topGlobsWider", fn := fun _ => fun
  | [d1, d2, d3, d4] => { results := [.lit (.bool true)], args := [d1, d2, d3, d4] }
  | _ => none }
def topGlobsWiderRow : OpenClaim := { program := "ytkmoeeaaolpdnaa", sum := "82f19cee4444c578c88a79f4a94110aa4371a5bd3351005f09af67f9a46b160a", func := "farshelf/farshelftop.TopGlobsWider", spec := "topGlobsWider", apart := false }
def TopGlobsWiderSaid : Prop := topGlobsWiderRow.holds Try.pinned (OpenSpec.ofChange topGlobsWiderSpec)

/-- ITS FALSE NEIGHBOUR: 'it returns false'. Refute it at one input. -/
def topGlobsWiderWrong : ChangeSpec := { name := "topGlobsWider", fn := fun _ => fun
  | [d1, d2, d3, d4] => { results := [.lit (.bool false)], args := [d1, d2, d3, d4] }
  | _ => none }
def TopGlobsWiderWrongFalsely : Prop := topGlobsWiderRow.holds Try.pinned (OpenSpec.ofChange topGlobsWiderWrong)

/-- 'farshelftop.TopGlobsNamed': WHATEVER THE INPUT: true; the input reads as it did. -/
def topGlobsNamedSpec : ChangeSpec := { name := "topGlobsNamed", fn := fun _ => fun
  | [d1, d2, d3, d4] => { results := [.lit (.bool true)], args := [d1, d2, d3, d4] }
  | _ => none }
def topGlobsNamedRow : OpenClaim := { program := "ytkmoeeaaolpdnaa", sum := "82f19cee4444c578c88a79f4a94110aa4371a5bd3351005f09af67f9a46b160a", func := "farshelf/farshelftop.TopGlobsNamed", spec := "topGlobsNamed", unfollowed := true, recurses := true, apart := false }
def TopGlobsNamedSaid : Prop := topGlobsNamedRow.holds Try.pinned (OpenSpec.ofChange topGlobsNamedSpec)

/-- ITS FALSE NEIGHBOUR: 'it returns false'. Refute it at one input. -/
def topGlobsNamedWrong : ChangeSpec := { name := "topGlobsNamed", fn := fun _ => fun
  | [d1, d2, d3, d4] => { results := [.lit (.bool false)], args := [d1, d2, d3, d4] }
  | _ => none }
def TopGlobsNamedWrongFalsely : Prop := topGlobsNamedRow.holds Try.pinned (OpenSpec.ofChange topGlobsNamedWrong)

/-- 'farshelftop.TopMarksCounted': WHATEVER THE INPUT: true; the input reads as it did. -/
def topMarksCountedSpec : ChangeSpec := { name := "topMarksCounted", fn := fun _ => fun
  | [d1, d2] => { results := [.lit (.bool true)], args := [d1, d2] }
  | _ => none }
def topMarksCountedRow : OpenClaim := { program := "ytkmoeeaaolpdnaa", sum := "82f19cee4444c578c88a79f4a94110aa4371a5bd3351005f09af67f9a46b160a", func := "farshelf/farshelftop.TopMarksCounted", spec := "topMarksCounted", apart := false }
def TopMarksCountedSaid : Prop := topMarksCountedRow.holds Try.pinned (OpenSpec.ofChange topMarksCountedSpec)

/-- ITS FALSE NEIGHBOUR: 'it returns false'. Refute it at one input. -/
def topMarksCountedWrong : ChangeSpec := { name := "topMarksCounted", fn := fun _ => fun
  | [d1, d2] => { results := [.lit (.bool false)], args := [d1, d2] }
  | _ => none }
def TopMarksCountedWrongFalsely : Prop := topMarksCountedRow.holds Try.pinned (OpenSpec.ofChange topMarksCountedWrong)

/-- 'farshelftop.TopGlobsJoined': WHATEVER THE INPUT: true; the input reads as it did. -/
def topGlobsJoinedSpec : ChangeSpec := { name := "topGlobsJoined", fn := fun _ => fun
  | [d1, d2, d3, d4, d5] => { results := [.lit (.bool true)], args := [d1, d2, d3, d4, d5] }
  | _ => none }
def topGlobsJoinedRow : OpenClaim := { program := "ytkmoeeaaolpdnaa", sum := "82f19cee4444c578c88a79f4a94110aa4371a5bd3351005f09af67f9a46b160a", func := "farshelf/farshelftop.TopGlobsJoined", spec := "topGlobsJoined", apart := false }
def TopGlobsJoinedSaid : Prop := topGlobsJoinedRow.holds Try.pinned (OpenSpec.ofChange topGlobsJoinedSpec)

/-- ITS FALSE NEIGHBOUR: 'it returns false'. Refute it at one input. -/
def topGlobsJoinedWrong : ChangeSpec := { name := "topGlobsJoined", fn := fun _ => fun
  | [d1, d2, d3, d4, d5] => { results := [.lit (.bool false)], args := [d1, d2, d3, d4, d5] }
  | _ => none }
def TopGlobsJoinedWrongFalsely : Prop := topGlobsJoinedRow.holds Try.pinned (OpenSpec.ofChange topGlobsJoinedWrong)

/-- 'farshelftop.TopGlobsTurned': WHATEVER THE INPUT: true; the input reads as it did. -/
def topGlobsTurnedSpec : ChangeSpec := { name := "topGlobsTurned", fn := fun _ => fun
  | [d1, d2] => { results := [.lit (.bool true)], args := [d1, d2] }
  | _ => none }
def topGlobsTurnedRow : OpenClaim := { program := "ytkmoeeaaolpdnaa", sum := "82f19cee4444c578c88a79f4a94110aa4371a5bd3351005f09af67f9a46b160a", func := "farshelf/farshelftop.TopGlobsTurned", spec := "topGlobsTurned", apart := false }
def TopGlobsTurnedSaid : Prop := topGlobsTurnedRow.holds Try.pinned (OpenSpec.ofChange topGlobsTurnedSpec)

/-- ITS FALSE NEIGHBOUR: 'it returns false'. Refute it at one input. -/
def topGlobsTurnedWrong : ChangeSpec := { name := "topGlobsTurned", fn := fun _ => fun
  | [d1, d2] => { results := [.lit (.bool false)], args := [d1, d2] }
  | _ => none }
def TopGlobsTurnedWrongFalsely : Prop := topGlobsTurnedRow.holds Try.pinned (OpenSpec.ofChange topGlobsTurnedWrong)

/-- 'farshelftop.TopStarsTwice': WHATEVER THE INPUT: true; the input reads as it did. -/
def topStarsTwiceSpec : ChangeSpec := { name := "topStarsTwice", fn := fun _ => fun
  | [d1, d2, d3] => { results := [.lit (.bool true)], args := [d1, d2, d3] }
  | _ => none }
def topStarsTwiceRow : OpenClaim := { program := "ytkmoeeaaolpdnaa", sum := "82f19cee4444c578c88a79f4a94110aa4371a5bd3351005f09af67f9a46b160a", func := "farshelf/farshelftop.TopStarsTwice", spec := "topStarsTwice", inPlace := ["internal/bytealg.IndexByteString"], apart := false }
def TopStarsTwiceSaid : Prop := topStarsTwiceRow.holds Try.pinned (OpenSpec.ofChange topStarsTwiceSpec)

/-- ITS FALSE NEIGHBOUR: 'it returns false'. Refute it at one input. -/
def topStarsTwiceWrong : ChangeSpec := { name := "topStarsTwice", fn := fun _ => fun
  | [d1, d2, d3] => { results := [.lit (.bool false)], args := [d1, d2, d3] }
  | _ => none }
def TopStarsTwiceWrongFalsely : Prop := topStarsTwiceRow.holds Try.pinned (OpenSpec.ofChange topStarsTwiceWrong)

/- THE SECOND FORM. 'bulk': how many values and letters a reading holds, each counted each time it is reached (what is shared counts as often as it is met; a slice's spare places count too). A statement '..UptoSaid' is the law's where the arguments, and the package variables that the reading takes, are together of bulk at most 1048576: NARROWER than '..Said'. Prove '..Said' where nothing that the law and all that it calls make is longer than what came in: it says more and counts as full. Else prove '..UptoSaid'. A law counts once. -/
mutual
def uptoBulk {H : Type} : DataW H → Nat
  | .lit (.string bytes) => bytes.length + 1
  | .lit _ => 1
  | .nil => 1
  | .ptr d => uptoBulk d + 1
  | .slice elems spare => uptoBulkAll elems + uptoBulkAll spare + 1
  | .agg parts => uptoBulkAll parts + 1
  | .iface _ d => uptoBulk d + 1
  | .map entries => uptoBulkEntries entries + 1
  | .held _ => 1
def uptoBulkAll {H : Type} : List (DataW H) → Nat
  | [] => 0
  | d :: r => uptoBulk d + uptoBulkAll r
def uptoBulkEntries {H : Type} : List (Lit × DataW H) → Nat
  | [] => 0
  | x :: r => uptoBulkEntry x + uptoBulkEntries r
def uptoBulkEntry {H : Type} : Lit × DataW H → Nat
  | (.string bytes, d) => bytes.length + uptoBulk d + 1
  | (_, d) => uptoBulk d + 1
 end
def uptoSmall : (H : Type) → List (DataW H) → Bool := fun _ ds => decide (uptoBulkAll ds ≤ 1048576)
def OpenSpec.upto (s : _root_.Go.ChangeSpec) : _root_.Go.OpenSpec := { _root_.Go.OpenSpec.ofChange s with cond := some uptoSmall }

/-- 'farshelftop.TopStarsMoved', WHERE WHAT IT READS IS OF BULK AT MOST 1048576: true; the input reads as it did. -/
def topStarsMovedUptoRow : OpenClaim := { program := "ytkmoeeaaolpdnaa", sum := "82f19cee4444c578c88a79f4a94110aa4371a5bd3351005f09af67f9a46b160a", func := "farshelf/farshelftop.TopStarsMoved", spec := "topStarsMoved", apart := false, narrowed := true }
def TopStarsMovedUptoSaid : Prop := topStarsMovedUptoRow.holds Try.pinned (OpenSpec.upto topStarsMovedSpec)

/-- 'farshelftop.TopGlobsWider', WHERE WHAT IT READS IS OF BULK AT MOST 1048576: true; the input reads as it did. -/
def topGlobsWiderUptoRow : OpenClaim := { program := "ytkmoeeaaolpdnaa", sum := "82f19cee4444c578c88a79f4a94110aa4371a5bd3351005f09af67f9a46b160a", func := "farshelf/farshelftop.TopGlobsWider", spec := "topGlobsWider", apart := false, narrowed := true }
def TopGlobsWiderUptoSaid : Prop := topGlobsWiderUptoRow.holds Try.pinned (OpenSpec.upto topGlobsWiderSpec)

/-- 'farshelftop.TopGlobsNamed', WHERE WHAT IT READS IS OF BULK AT MOST 1048576: true; the input reads as it did. -/
def topGlobsNamedUptoRow : OpenClaim := { program := "ytkmoeeaaolpdnaa", sum := "82f19cee4444c578c88a79f4a94110aa4371a5bd3351005f09af67f9a46b160a", func := "farshelf/farshelftop.TopGlobsNamed", spec := "topGlobsNamed", unfollowed := true, recurses := true, apart := false, narrowed := true }
def TopGlobsNamedUptoSaid : Prop := topGlobsNamedUptoRow.holds Try.pinned (OpenSpec.upto topGlobsNamedSpec)

/-- 'farshelftop.TopMarksCounted', WHERE WHAT IT READS IS OF BULK AT MOST 1048576: true; the input reads as it did. -/
def topMarksCountedUptoRow : OpenClaim := { program := "ytkmoeeaaolpdnaa", sum := "82f19cee4444c578c88a79f4a94110aa4371a5bd3351005f09af67f9a46b160a", func := "farshelf/farshelftop.TopMarksCounted", spec := "topMarksCounted", apart := false, narrowed := true }
def TopMarksCountedUptoSaid : Prop := topMarksCountedUptoRow.holds Try.pinned (OpenSpec.upto topMarksCountedSpec)

/-- 'farshelftop.TopGlobsJoined', WHERE WHAT IT READS IS OF BULK AT MOST 1048576: true; the input reads as it did. -/
def topGlobsJoinedUptoRow : OpenClaim := { program := "ytkmoeeaaolpdnaa", sum := "82f19cee4444c578c88a79f4a94110aa4371a5bd3351005f09af67f9a46b160a", func := "farshelf/farshelftop.TopGlobsJoined", spec := "topGlobsJoined", apart := false, narrowed := true }
def TopGlobsJoinedUptoSaid : Prop := topGlobsJoinedUptoRow.holds Try.pinned (OpenSpec.upto topGlobsJoinedSpec)

/-- 'farshelftop.TopGlobsTurned', WHERE WHAT IT READS IS OF BULK AT MOST 1048576: true; the input reads as it did. -/
def topGlobsTurnedUptoRow : OpenClaim := { program := "ytkmoeeaaolpdnaa", sum := "82f19cee4444c578c88a79f4a94110aa4371a5bd3351005f09af67f9a46b160a", func := "farshelf/farshelftop.TopGlobsTurned", spec := "topGlobsTurned", apart := false, narrowed := true }
def TopGlobsTurnedUptoSaid : Prop := topGlobsTurnedUptoRow.holds Try.pinned (OpenSpec.upto topGlobsTurnedSpec)

/-- 'farshelftop.TopStarsTwice', WHERE WHAT IT READS IS OF BULK AT MOST 1048576: true; the input reads as it did. -/
def topStarsTwiceUptoRow : OpenClaim := { program := "ytkmoeeaaolpdnaa", sum := "82f19cee4444c578c88a79f4a94110aa4371a5bd3351005f09af67f9a46b160a", func := "farshelf/farshelftop.TopStarsTwice", spec := "topStarsTwice", inPlace := ["internal/bytealg.IndexByteString"], apart := false, narrowed := true }
def TopStarsTwiceUptoSaid : Prop := topStarsTwiceUptoRow.holds Try.pinned (OpenSpec.upto topStarsTwiceSpec)

end Rows
end Go.Proofs.Ytkmoeeaaolpdnaa
