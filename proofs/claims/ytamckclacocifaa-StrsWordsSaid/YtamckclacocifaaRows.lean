/-
  No cell of these rows narrows 'for every input' (looked for: loops, veiled, ifaces, maps, wideKeys, modest, calm, conditions, laid).
  DERIVED. THE GIVEN ROWS OF THIS SEAT. 9 by the template 'for every input the law returns true; each argument reads behind the call as it read before'; 0 by the template 'total and deterministic' (their statements: YtamckclacocifaaTotals.lean).
  GIVEN WITH THE SEED: the statements are not yours to turn. If you find one false, say at which input.
  Laid BY PROGRAM, IN A SANDBOX (cutbox-rows.mjs): the forced cells as the released guide's own fill.sh prints them over the translation f5590dcac00d3c93… (all of the seat's roots in one cut). By AI agents, Wed Nov 11 2026. No macro, syntax, notation, axiom, sorry.
-/
import Derived.Test.YtamckclacocifaaChecked
import GoSem.Claim
import GoSem.ClaimJoined
import GoSem.ClaimMapViews
import Derived.JoinedTies
import Derived.KernelRfl
namespace Go.Proofs.Ytamckclacocifaa
/- THE CELL 'sum', in the pinned program and in every row, IS THE sha256 OF THE DUMP (.gsa) THAT YtamckclacocifaaProg.lean LOADS. Nothing in Lean hashes anything: it is a label: what it is worth is what the hold of that sum in a sandbox is worth. -/
noncomputable def Try.pinned : Pinned := { name := "ytamckclacocifaa", sum := "f5590dcac00d3c938194a11696ff7684b6ca0aeed121b0db4014cf8a781a2747", checked := Try.checked }
namespace Rows
def none {H : Type} : Left H := { results := [], args := [] }

/-- 'synthesislaw04.StrsSplits': WHATEVER THE INPUT: true; the input reads as it did. -/
def strsSplitsSpec : ChangeSpec := { name := "strsSplits", fn := fun _ => fun
  | [d] => { results := [.lit (.bool true)], args := [d] }
  | _ => none }
def strsSplitsRow : OpenClaim := { program := "ytamckclacocifaa", sum := "f5590dcac00d3c938194a11696ff7684b6ca0aeed121b0db4014cf8a781a2747", func := "synthesis/synthesislaw04.StrsSplits", spec := "strsSplits", apart := false }
def StrsSplitsSaid : Prop := strsSplitsRow.holds Try.pinned (OpenSpec.ofChange strsSplitsSpec)

/-- ITS FALSE NEIGHBOUR: 'it returns false'. Refute it at one input. -/
def strsSplitsWrong : ChangeSpec := { name := "strsSplits", fn := fun _ => fun
  | [d] => { results := [.lit (.bool false)], args := [d] }
  | _ => none }
def StrsSplitsWrongFalsely : Prop := strsSplitsRow.holds Try.pinned (OpenSpec.ofChange strsSplitsWrong)

/-- 'synthesislaw04.StrsCases': WHATEVER THE INPUT: true; the input reads as it did. -/
def strsCasesSpec : ChangeSpec := { name := "strsCases", fn := fun _ => fun
  | [d] => { results := [.lit (.bool true)], args := [d] }
  | _ => none }
def strsCasesRow : OpenClaim := { program := "ytamckclacocifaa", sum := "f5590dcac00d3c938194a11696ff7684b6ca0aeed121b0db4014cf8a781a2747", func := "synthesis/synthesislaw04.StrsCases", spec := "strsCases", apart := false }
def StrsCasesSaid : Prop := strsCasesRow.holds Try.pinned (OpenSpec.ofChange strsCasesSpec)

/-- ITS FALSE NEIGHBOUR: 'it returns false'. Refute it at one input. -/
def strsCasesWrong : ChangeSpec := { name := "strsCases", fn := fun _ => fun
  | [d] => { results := [.lit (.bool false)], args := [d] }
  | _ => none }
def StrsCasesWrongFalsely : Prop := strsCasesRow.holds Try.pinned (OpenSpec.ofChange strsCasesWrong)

/-- 'synthesislaw04.StrsRepeats': WHATEVER THE INPUT: true; the input reads as it did. -/
def strsRepeatsSpec : ChangeSpec := { name := "strsRepeats", fn := fun _ => fun
  | [d1, d2] => { results := [.lit (.bool true)], args := [d1, d2] }
  | _ => none }
def strsRepeatsRow : OpenClaim := { program := "ytamckclacocifaa", sum := "f5590dcac00d3c938194a11696ff7684b6ca0aeed121b0db4014cf8a781a2747", func := "synthesis/synthesislaw04.StrsRepeats", spec := "strsRepeats", apart := false }
def StrsRepeatsSaid : Prop := strsRepeatsRow.holds Try.pinned (OpenSpec.ofChange strsRepeatsSpec)

/-- ITS FALSE NEIGHBOUR: 'it returns false'. Refute it at one input. -/
def strsRepeatsWrong : ChangeSpec := { name := "strsRepeats", fn := fun _ => fun
  | [d1, d2] => { results := [.lit (.bool false)], args := [d1, d2] }
  | _ => none }
def StrsRepeatsWrongFalsely : Prop := strsRepeatsRow.holds Try.pinned (OpenSpec.ofChange strsRepeatsWrong)

/-- 'synthesislaw04.StrsSlices': WHATEVER THE INPUT: true; the input reads as it did. -/
def strsSlicesSpec : ChangeSpec := { name := "strsSlices", fn := fun _ => fun
  | [d1, d2, d3] => { results := [.lit (.bool true)], args := [d1, d2, d3] }
  | _ => none }
def strsSlicesRow : OpenClaim := { program := "ytamckclacocifaa", sum := "f5590dcac00d3c938194a11696ff7684b6ca0aeed121b0db4014cf8a781a2747", func := "synthesis/synthesislaw04.StrsSlices", spec := "strsSlices", apart := false }
def StrsSlicesSaid : Prop := strsSlicesRow.holds Try.pinned (OpenSpec.ofChange strsSlicesSpec)

/-- ITS FALSE NEIGHBOUR: 'it returns false'. Refute it at one input. -/
def strsSlicesWrong : ChangeSpec := { name := "strsSlices", fn := fun _ => fun
  | [d1, d2, d3] => { results := [.lit (.bool false)], args := [d1, d2, d3] }
  | _ => none }
def StrsSlicesWrongFalsely : Prop := strsSlicesRow.holds Try.pinned (OpenSpec.ofChange strsSlicesWrong)

/-- 'synthesislaw04.StrsFinds': WHATEVER THE INPUT: true; the input reads as it did. -/
def strsFindsSpec : ChangeSpec := { name := "strsFinds", fn := fun _ => fun
  | [d1, d2, d3] => { results := [.lit (.bool true)], args := [d1, d2, d3] }
  | _ => none }
def strsFindsRow : OpenClaim := { program := "ytamckclacocifaa", sum := "f5590dcac00d3c938194a11696ff7684b6ca0aeed121b0db4014cf8a781a2747", func := "synthesis/synthesislaw04.StrsFinds", spec := "strsFinds", apart := false }
def StrsFindsSaid : Prop := strsFindsRow.holds Try.pinned (OpenSpec.ofChange strsFindsSpec)

/-- ITS FALSE NEIGHBOUR: 'it returns false'. Refute it at one input. -/
def strsFindsWrong : ChangeSpec := { name := "strsFinds", fn := fun _ => fun
  | [d1, d2, d3] => { results := [.lit (.bool false)], args := [d1, d2, d3] }
  | _ => none }
def StrsFindsWrongFalsely : Prop := strsFindsRow.holds Try.pinned (OpenSpec.ofChange strsFindsWrong)

/-- 'synthesislaw04.StrsKeeps': WHATEVER THE INPUT: true; the input reads as it did. -/
def strsKeepsSpec : ChangeSpec := { name := "strsKeeps", fn := fun _ => fun
  | [d1, d2] => { results := [.lit (.bool true)], args := [d1, d2] }
  | _ => none }
def strsKeepsRow : OpenClaim := { program := "ytamckclacocifaa", sum := "f5590dcac00d3c938194a11696ff7684b6ca0aeed121b0db4014cf8a781a2747", func := "synthesis/synthesislaw04.StrsKeeps", spec := "strsKeeps", apart := false }
def StrsKeepsSaid : Prop := strsKeepsRow.holds Try.pinned (OpenSpec.ofChange strsKeepsSpec)

/-- ITS FALSE NEIGHBOUR: 'it returns false'. Refute it at one input. -/
def strsKeepsWrong : ChangeSpec := { name := "strsKeeps", fn := fun _ => fun
  | [d1, d2] => { results := [.lit (.bool false)], args := [d1, d2] }
  | _ => none }
def StrsKeepsWrongFalsely : Prop := strsKeepsRow.holds Try.pinned (OpenSpec.ofChange strsKeepsWrong)

/-- 'synthesislaw04.StrsShows': WHATEVER THE INPUT: true; the input reads as it did. -/
def strsShowsSpec : ChangeSpec := { name := "strsShows", fn := fun _ => fun
  | [d] => { results := [.lit (.bool true)], args := [d] }
  | _ => none }
def strsShowsRow : OpenClaim := { program := "ytamckclacocifaa", sum := "f5590dcac00d3c938194a11696ff7684b6ca0aeed121b0db4014cf8a781a2747", func := "synthesis/synthesislaw04.StrsShows", spec := "strsShows", apart := false }
def StrsShowsSaid : Prop := strsShowsRow.holds Try.pinned (OpenSpec.ofChange strsShowsSpec)

/-- ITS FALSE NEIGHBOUR: 'it returns false'. Refute it at one input. -/
def strsShowsWrong : ChangeSpec := { name := "strsShows", fn := fun _ => fun
  | [d] => { results := [.lit (.bool false)], args := [d] }
  | _ => none }
def StrsShowsWrongFalsely : Prop := strsShowsRow.holds Try.pinned (OpenSpec.ofChange strsShowsWrong)

/-- 'synthesislaw04.StrsReads': WHATEVER THE INPUT: true; the input reads as it did. -/
def strsReadsSpec : ChangeSpec := { name := "strsReads", fn := fun _ => fun
  | [d] => { results := [.lit (.bool true)], args := [d] }
  | _ => none }
def strsReadsRow : OpenClaim := { program := "ytamckclacocifaa", sum := "f5590dcac00d3c938194a11696ff7684b6ca0aeed121b0db4014cf8a781a2747", func := "synthesis/synthesislaw04.StrsReads", spec := "strsReads", apart := false }
def StrsReadsSaid : Prop := strsReadsRow.holds Try.pinned (OpenSpec.ofChange strsReadsSpec)

/-- ITS FALSE NEIGHBOUR: 'it returns false'. Refute it at one input. -/
def strsReadsWrong : ChangeSpec := { name := "strsReads", fn := fun _ => fun
  | [d] => { results := [.lit (.bool false)], args := [d] }
  | _ => none }
def StrsReadsWrongFalsely : Prop := strsReadsRow.holds Try.pinned (OpenSpec.ofChange strsReadsWrong)

/-- 'synthesislaw04.StrsWords': WHATEVER THE INPUT: true; the input reads as it did. -/
def strsWordsSpec : ChangeSpec := { name := "strsWords", fn := fun _ => fun
  | [d1, d2] => { results := [.lit (.bool true)], args := [d1, d2] }
  | _ => none }
def strsWordsRow : OpenClaim := { program := "ytamckclacocifaa", sum := "f5590dcac00d3c938194a11696ff7684b6ca0aeed121b0db4014cf8a781a2747", func := "synthesis/synthesislaw04.StrsWords", spec := "strsWords", apart := false }
def StrsWordsSaid : Prop := strsWordsRow.holds Try.pinned (OpenSpec.ofChange strsWordsSpec)

/-- ITS FALSE NEIGHBOUR: 'it returns false'. Refute it at one input. -/
def strsWordsWrong : ChangeSpec := { name := "strsWords", fn := fun _ => fun
  | [d1, d2] => { results := [.lit (.bool false)], args := [d1, d2] }
  | _ => none }
def StrsWordsWrongFalsely : Prop := strsWordsRow.holds Try.pinned (OpenSpec.ofChange strsWordsWrong)

/- THE SECOND FORM. 'bulk': how many values and letters a reading holds, each counted each time it is reached (what is shared counts as often as it is met; a slice's spare places count too). A statement '..UptoSaid' is the law's where the arguments, and the package variables that the reading takes, are together of bulk at most 1048576: NARROWER than '..Said'. Prove '..Said' where nothing that the law and all that it calls make is longer than what came in: it says more and counts as full. Else prove '..UptoSaid'. A law counts once. -/
mutual
def uptoBulk {H : Type} : DataW H → Nat
  | .lit (.string bytes) => bytes.length + 1
  | .lit _ => 1
  | .nil => 1
  | .ptr d => uptoBulk d + 1
  | .slice elems spare => uptoBulkAll elems + uptoBulkAll spare + 1
  | .agg parts => uptoBulkAll parts + 1
  | .iface _ d => uptoBulk d + 1
  | .map entries => uptoBulkEntries entries + 1
  | .held _ => 1
def uptoBulkAll {H : Type} : List (DataW H) → Nat
  | [] => 0
  | d :: r => uptoBulk d + uptoBulkAll r
def uptoBulkEntries {H : Type} : List (Lit × DataW H) → Nat
  | [] => 0
  | x :: r => uptoBulkEntry x + uptoBulkEntries r
def uptoBulkEntry {H : Type} : Lit × DataW H → Nat
  | (.string bytes, d) => bytes.length + uptoBulk d + 1
  | (_, d) => uptoBulk d + 1
 end
def uptoSmall : (H : Type) → List (DataW H) → Bool := fun _ ds => decide (uptoBulkAll ds ≤ 1048576)
def OpenSpec.upto (s : _root_.Go.ChangeSpec) : _root_.Go.OpenSpec := { _root_.Go.OpenSpec.ofChange s with cond := some uptoSmall }

/-- 'synthesislaw04.StrsSplits', WHERE WHAT IT READS IS OF BULK AT MOST 1048576: true; the input reads as it did. -/
def strsSplitsUptoRow : OpenClaim := { program := "ytamckclacocifaa", sum := "f5590dcac00d3c938194a11696ff7684b6ca0aeed121b0db4014cf8a781a2747", func := "synthesis/synthesislaw04.StrsSplits", spec := "strsSplits", apart := false, narrowed := true }
def StrsSplitsUptoSaid : Prop := strsSplitsUptoRow.holds Try.pinned (OpenSpec.upto strsSplitsSpec)

/-- 'synthesislaw04.StrsCases', WHERE WHAT IT READS IS OF BULK AT MOST 1048576: true; the input reads as it did. -/
def strsCasesUptoRow : OpenClaim := { program := "ytamckclacocifaa", sum := "f5590dcac00d3c938194a11696ff7684b6ca0aeed121b0db4014cf8a781a2747", func := "synthesis/synthesislaw04.StrsCases", spec := "strsCases", apart := false, narrowed := true }
def StrsCasesUptoSaid : Prop := strsCasesUptoRow.holds Try.pinned (OpenSpec.upto strsCasesSpec)

/-- 'synthesislaw04.StrsRepeats', WHERE WHAT IT READS IS OF BULK AT MOST 1048576: true; the input reads as it did. -/
def strsRepeatsUptoRow : OpenClaim := { program := "ytamckclacocifaa", sum := "f5590dcac00d3c938194a11696ff7684b6ca0aeed121b0db4014cf8a781a2747", func := "synthesis/synthesislaw04.StrsRepeats", spec := "strsRepeats", apart := false, narrowed := true }
def StrsRepeatsUptoSaid : Prop := strsRepeatsUptoRow.holds Try.pinned (OpenSpec.upto strsRepeatsSpec)

/-- 'synthesislaw04.StrsSlices', WHERE WHAT IT READS IS OF BULK AT MOST 1048576: true; the input reads as it did. -/
def strsSlicesUptoRow : OpenClaim := { program := "ytamckclacocifaa", sum := "f5590dcac00d3c938194a11696ff7684b6ca0aeed121b0db4014cf8a781a2747", func := "synthesis/synthesislaw04.StrsSlices", spec := "strsSlices", apart := false, narrowed := true }
def StrsSlicesUptoSaid : Prop := strsSlicesUptoRow.holds Try.pinned (OpenSpec.upto strsSlicesSpec)

/-- 'synthesislaw04.StrsFinds', WHERE WHAT IT READS IS OF BULK AT MOST 1048576: true; the input reads as it did. -/
def strsFindsUptoRow : OpenClaim := { program := "ytamckclacocifaa", sum := "f5590dcac00d3c938194a11696ff7684b6ca0aeed121b0db4014cf8a781a2747", func := "synthesis/synthesislaw04.StrsFinds", spec := "strsFinds", apart := false, narrowed := true }
def StrsFindsUptoSaid : Prop := strsFindsUptoRow.holds Try.pinned (OpenSpec.upto strsFindsSpec)

/-- 'synthesislaw04.StrsKeeps', WHERE WHAT IT READS IS OF BULK AT MOST 1048576: true; the input reads as it did. -/
def strsKeepsUptoRow : OpenClaim := { program := "ytamckclacocifaa", sum := "f5590dcac00d3c938194a11696ff7684b6ca0aeed121b0db4014cf8a781a2747", func := "synthesis/synthesislaw04.StrsKeeps", spec := "strsKeeps", apart := false, narrowed := true }
def StrsKeepsUptoSaid : Prop := strsKeepsUptoRow.holds Try.pinned (OpenSpec.upto strsKeepsSpec)

/-- 'synthesislaw04.StrsShows', WHERE WHAT IT READS IS OF BULK AT MOST 1048576: true; the input reads as it did. -/
def strsShowsUptoRow : OpenClaim := { program := "ytamckclacocifaa", sum := "f5590dcac00d3c938194a11696ff7684b6ca0aeed121b0db4014cf8a781a2747", func := "synthesis/synthesislaw04.StrsShows", spec := "strsShows", apart := false, narrowed := true }
def StrsShowsUptoSaid : Prop := strsShowsUptoRow.holds Try.pinned (OpenSpec.upto strsShowsSpec)

/-- 'synthesislaw04.StrsReads', WHERE WHAT IT READS IS OF BULK AT MOST 1048576: true; the input reads as it did. -/
def strsReadsUptoRow : OpenClaim := { program := "ytamckclacocifaa", sum := "f5590dcac00d3c938194a11696ff7684b6ca0aeed121b0db4014cf8a781a2747", func := "synthesis/synthesislaw04.StrsReads", spec := "strsReads", apart := false, narrowed := true }
def StrsReadsUptoSaid : Prop := strsReadsUptoRow.holds Try.pinned (OpenSpec.upto strsReadsSpec)

/-- 'synthesislaw04.StrsWords', WHERE WHAT IT READS IS OF BULK AT MOST 1048576: true; the input reads as it did. -/
def strsWordsUptoRow : OpenClaim := { program := "ytamckclacocifaa", sum := "f5590dcac00d3c938194a11696ff7684b6ca0aeed121b0db4014cf8a781a2747", func := "synthesis/synthesislaw04.StrsWords", spec := "strsWords", apart := false, narrowed := true }
def StrsWordsUptoSaid : Prop := strsWordsUptoRow.holds Try.pinned (OpenSpec.upto strsWordsSpec)

end Rows
end Go.Proofs.Ytamckclacocifaa
