/-
  No cell of these rows narrows 'for every input' (looked for: loops, veiled, ifaces, maps, wideKeys, modest, calm, conditions, laid).
  DERIVED. THE GIVEN ROWS OF THIS SEAT. 12 by the template 'for every input the law returns true; each argument reads behind the call as it read before'; 0 by the template 'total and deterministic' (their statements: YtkfjhannbnijkaaTotals.lean).
  GIVEN WITH THE SEED: the statements are not yours to turn. If you find one false, say at which input.
  Laid BY PROGRAM, IN A SANDBOX (cutbox-rows.mjs): the forced cells as the released guide's own fill.sh prints them over the translation 562939eee67e1134… (all of the seat's roots in one cut). By AI agents, Wed Nov 11 2026. No macro, syntax, notation, axiom, sorry.
-/
import Derived.Test.YtkfjhannbnijkaaChecked
import GoSem.Claim
import GoSem.ClaimJoined
import GoSem.ClaimMapViews
import Derived.JoinedTies
import Derived.KernelRfl
namespace Go.Proofs.Ytkfjhannbnijkaa
/- THE CELL 'sum', in the pinned program and in every row, IS THE sha256 OF THE DUMP (.gsa) THAT YtkfjhannbnijkaaProg.lean LOADS. Nothing in Lean hashes anything: it is a label: what it is worth is what the hold of that sum in a sandbox is worth. -/
noncomputable def Try.pinned : Pinned := { name := "ytkfjhannbnijkaa", sum := "562939eee67e1134f378f3b7a20308f6ac7c3f59a44c0e7a8be5f1bddaed6482", checked := Try.checked }
namespace Rows
def none {H : Type} : Left H := { results := [], args := [] }

/-- 'calamuslaw10.EmbedSequences': WHATEVER THE INPUT: true; the input reads as it did. -/
def embedSequencesSpec : ChangeSpec := { name := "embedSequences", fn := fun _ => fun
  | [d1, d2, d3] => { results := [.lit (.bool true)], args := [d1, d2, d3] }
  | _ => none }
def embedSequencesRow : OpenClaim := { program := "ytkfjhannbnijkaa", sum := "562939eee67e1134f378f3b7a20308f6ac7c3f59a44c0e7a8be5f1bddaed6482", func := "calamus/calamuslaw10.EmbedSequences", spec := "embedSequences", apart := false }
def EmbedSequencesSaid : Prop := embedSequencesRow.holds Try.pinned (OpenSpec.ofChange embedSequencesSpec)

/-- ITS FALSE NEIGHBOUR: 'it returns false'. Refute it at one input. -/
def embedSequencesWrong : ChangeSpec := { name := "embedSequences", fn := fun _ => fun
  | [d1, d2, d3] => { results := [.lit (.bool false)], args := [d1, d2, d3] }
  | _ => none }
def EmbedSequencesWrongFalsely : Prop := embedSequencesRow.holds Try.pinned (OpenSpec.ofChange embedSequencesWrong)

/-- 'calamuslaw10.EmbedOnce': WHATEVER THE INPUT: true; the input reads as it did. -/
def embedOnceSpec : ChangeSpec := { name := "embedOnce", fn := fun _ => fun
  | [d1, d2] => { results := [.lit (.bool true)], args := [d1, d2] }
  | _ => none }
def embedOnceRow : OpenClaim := { program := "ytkfjhannbnijkaa", sum := "562939eee67e1134f378f3b7a20308f6ac7c3f59a44c0e7a8be5f1bddaed6482", func := "calamus/calamuslaw10.EmbedOnce", spec := "embedOnce", recurses := true, apart := false }
def EmbedOnceSaid : Prop := embedOnceRow.holds Try.pinned (OpenSpec.ofChange embedOnceSpec)

/-- ITS FALSE NEIGHBOUR: 'it returns false'. Refute it at one input. -/
def embedOnceWrong : ChangeSpec := { name := "embedOnce", fn := fun _ => fun
  | [d1, d2] => { results := [.lit (.bool false)], args := [d1, d2] }
  | _ => none }
def EmbedOnceWrongFalsely : Prop := embedOnceRow.holds Try.pinned (OpenSpec.ofChange embedOnceWrong)

/-- 'calamuslaw10.EmbedWithout': WHATEVER THE INPUT: true; the input reads as it did. -/
def embedWithoutSpec : ChangeSpec := { name := "embedWithout", fn := fun _ => fun
  | [d1, d2, d3, d4] => { results := [.lit (.bool true)], args := [d1, d2, d3, d4] }
  | _ => none }
def embedWithoutRow : OpenClaim := { program := "ytkfjhannbnijkaa", sum := "562939eee67e1134f378f3b7a20308f6ac7c3f59a44c0e7a8be5f1bddaed6482", func := "calamus/calamuslaw10.EmbedWithout", spec := "embedWithout", apart := false }
def EmbedWithoutSaid : Prop := embedWithoutRow.holds Try.pinned (OpenSpec.ofChange embedWithoutSpec)

/-- ITS FALSE NEIGHBOUR: 'it returns false'. Refute it at one input. -/
def embedWithoutWrong : ChangeSpec := { name := "embedWithout", fn := fun _ => fun
  | [d1, d2, d3, d4] => { results := [.lit (.bool false)], args := [d1, d2, d3, d4] }
  | _ => none }
def EmbedWithoutWrongFalsely : Prop := embedWithoutRow.holds Try.pinned (OpenSpec.ofChange embedWithoutWrong)

/-- 'calamuslaw10.EmbedSingle': WHATEVER THE INPUT: true; the input reads as it did. -/
def embedSingleSpec : ChangeSpec := { name := "embedSingle", fn := fun _ => fun
  | [d1, d2, d3] => { results := [.lit (.bool true)], args := [d1, d2, d3] }
  | _ => none }
def embedSingleRow : OpenClaim := { program := "ytkfjhannbnijkaa", sum := "562939eee67e1134f378f3b7a20308f6ac7c3f59a44c0e7a8be5f1bddaed6482", func := "calamus/calamuslaw10.EmbedSingle", spec := "embedSingle", apart := false }
def EmbedSingleSaid : Prop := embedSingleRow.holds Try.pinned (OpenSpec.ofChange embedSingleSpec)

/-- ITS FALSE NEIGHBOUR: 'it returns false'. Refute it at one input. -/
def embedSingleWrong : ChangeSpec := { name := "embedSingle", fn := fun _ => fun
  | [d1, d2, d3] => { results := [.lit (.bool false)], args := [d1, d2, d3] }
  | _ => none }
def EmbedSingleWrongFalsely : Prop := embedSingleRow.holds Try.pinned (OpenSpec.ofChange embedSingleWrong)

/-- 'calamuslaw10.EmbedRuns': WHATEVER THE INPUT: true; the input reads as it did. -/
def embedRunsSpec : ChangeSpec := { name := "embedRuns", fn := fun _ => fun
  | [] => { results := [.lit (.bool true)], args := [] }
  | _ => none }
def embedRunsRow : OpenClaim := { program := "ytkfjhannbnijkaa", sum := "562939eee67e1134f378f3b7a20308f6ac7c3f59a44c0e7a8be5f1bddaed6482", func := "calamus/calamuslaw10.EmbedRuns", spec := "embedRuns", recurses := true, apart := false }
def EmbedRunsSaid : Prop := embedRunsRow.holds Try.pinned (OpenSpec.ofChange embedRunsSpec)

/-- ITS FALSE NEIGHBOUR: 'it returns false'. Refute it at one input. -/
def embedRunsWrong : ChangeSpec := { name := "embedRuns", fn := fun _ => fun
  | [] => { results := [.lit (.bool false)], args := [] }
  | _ => none }
def EmbedRunsWrongFalsely : Prop := embedRunsRow.holds Try.pinned (OpenSpec.ofChange embedRunsWrong)

/-- 'calamuslaw10.EmbedMatches': WHATEVER THE INPUT: true; the input reads as it did. -/
def embedMatchesSpec : ChangeSpec := { name := "embedMatches", fn := fun _ => fun
  | [d] => { results := [.lit (.bool true)], args := [d] }
  | _ => none }
def embedMatchesRow : OpenClaim := { program := "ytkfjhannbnijkaa", sum := "562939eee67e1134f378f3b7a20308f6ac7c3f59a44c0e7a8be5f1bddaed6482", func := "calamus/calamuslaw10.EmbedMatches", spec := "embedMatches", unfollowed := true, recurses := true, apart := false }
def EmbedMatchesSaid : Prop := embedMatchesRow.holds Try.pinned (OpenSpec.ofChange embedMatchesSpec)

/-- ITS FALSE NEIGHBOUR: 'it returns false'. Refute it at one input. -/
def embedMatchesWrong : ChangeSpec := { name := "embedMatches", fn := fun _ => fun
  | [d] => { results := [.lit (.bool false)], args := [d] }
  | _ => none }
def EmbedMatchesWrongFalsely : Prop := embedMatchesRow.holds Try.pinned (OpenSpec.ofChange embedMatchesWrong)

/-- 'calamuslaw10.EmbedLevels': WHATEVER THE INPUT: true; the input reads as it did. -/
def embedLevelsSpec : ChangeSpec := { name := "embedLevels", fn := fun _ => fun
  | [d1, d2] => { results := [.lit (.bool true)], args := [d1, d2] }
  | _ => none }
def embedLevelsRow : OpenClaim := { program := "ytkfjhannbnijkaa", sum := "562939eee67e1134f378f3b7a20308f6ac7c3f59a44c0e7a8be5f1bddaed6482", func := "calamus/calamuslaw10.EmbedLevels", spec := "embedLevels", unfollowed := true, recurses := true, apart := false }
def EmbedLevelsSaid : Prop := embedLevelsRow.holds Try.pinned (OpenSpec.ofChange embedLevelsSpec)

/-- ITS FALSE NEIGHBOUR: 'it returns false'. Refute it at one input. -/
def embedLevelsWrong : ChangeSpec := { name := "embedLevels", fn := fun _ => fun
  | [d1, d2] => { results := [.lit (.bool false)], args := [d1, d2] }
  | _ => none }
def EmbedLevelsWrongFalsely : Prop := embedLevelsRow.holds Try.pinned (OpenSpec.ofChange embedLevelsWrong)

/-- 'calamuslaw10.EmbedIsolates': WHATEVER THE INPUT: true; the input reads as it did. -/
def embedIsolatesSpec : ChangeSpec := { name := "embedIsolates", fn := fun _ => fun
  | [d1, d2, d3, d4, d5, d6] => { results := [.lit (.bool true)], args := [d1, d2, d3, d4, d5, d6] }
  | _ => none }
def embedIsolatesRow : OpenClaim := { program := "ytkfjhannbnijkaa", sum := "562939eee67e1134f378f3b7a20308f6ac7c3f59a44c0e7a8be5f1bddaed6482", func := "calamus/calamuslaw10.EmbedIsolates", spec := "embedIsolates", unfollowed := true, recurses := true, apart := false }
def EmbedIsolatesSaid : Prop := embedIsolatesRow.holds Try.pinned (OpenSpec.ofChange embedIsolatesSpec)

/-- ITS FALSE NEIGHBOUR: 'it returns false'. Refute it at one input. -/
def embedIsolatesWrong : ChangeSpec := { name := "embedIsolates", fn := fun _ => fun
  | [d1, d2, d3, d4, d5, d6] => { results := [.lit (.bool false)], args := [d1, d2, d3, d4, d5, d6] }
  | _ => none }
def EmbedIsolatesWrongFalsely : Prop := embedIsolatesRow.holds Try.pinned (OpenSpec.ofChange embedIsolatesWrong)

/-- 'calamuslaw10.EmbedBounds': WHATEVER THE INPUT: true; the input reads as it did. -/
def embedBoundsSpec : ChangeSpec := { name := "embedBounds", fn := fun _ => fun
  | [d1, d2] => { results := [.lit (.bool true)], args := [d1, d2] }
  | _ => none }
def embedBoundsRow : OpenClaim := { program := "ytkfjhannbnijkaa", sum := "562939eee67e1134f378f3b7a20308f6ac7c3f59a44c0e7a8be5f1bddaed6482", func := "calamus/calamuslaw10.EmbedBounds", spec := "embedBounds", unfollowed := true, recurses := true, apart := false }
def EmbedBoundsSaid : Prop := embedBoundsRow.holds Try.pinned (OpenSpec.ofChange embedBoundsSpec)

/-- ITS FALSE NEIGHBOUR: 'it returns false'. Refute it at one input. -/
def embedBoundsWrong : ChangeSpec := { name := "embedBounds", fn := fun _ => fun
  | [d1, d2] => { results := [.lit (.bool false)], args := [d1, d2] }
  | _ => none }
def EmbedBoundsWrongFalsely : Prop := embedBoundsRow.holds Try.pinned (OpenSpec.ofChange embedBoundsWrong)

/-- 'calamuslaw10.EmbedParagraphs': WHATEVER THE INPUT: true; the input reads as it did. -/
def embedParagraphsSpec : ChangeSpec := { name := "embedParagraphs", fn := fun _ => fun
  | [d1, d2, d3] => { results := [.lit (.bool true)], args := [d1, d2, d3] }
  | _ => none }
def embedParagraphsRow : OpenClaim := { program := "ytkfjhannbnijkaa", sum := "562939eee67e1134f378f3b7a20308f6ac7c3f59a44c0e7a8be5f1bddaed6482", func := "calamus/calamuslaw10.EmbedParagraphs", spec := "embedParagraphs", unfollowed := true, recurses := true, apart := false }
def EmbedParagraphsSaid : Prop := embedParagraphsRow.holds Try.pinned (OpenSpec.ofChange embedParagraphsSpec)

/-- ITS FALSE NEIGHBOUR: 'it returns false'. Refute it at one input. -/
def embedParagraphsWrong : ChangeSpec := { name := "embedParagraphs", fn := fun _ => fun
  | [d1, d2, d3] => { results := [.lit (.bool false)], args := [d1, d2, d3] }
  | _ => none }
def EmbedParagraphsWrongFalsely : Prop := embedParagraphsRow.holds Try.pinned (OpenSpec.ofChange embedParagraphsWrong)

/-- 'calamuslaw10.EmbedPlain': WHATEVER THE INPUT: true; the input reads as it did. -/
def embedPlainSpec : ChangeSpec := { name := "embedPlain", fn := fun _ => fun
  | [d1, d2] => { results := [.lit (.bool true)], args := [d1, d2] }
  | _ => none }
def embedPlainRow : OpenClaim := { program := "ytkfjhannbnijkaa", sum := "562939eee67e1134f378f3b7a20308f6ac7c3f59a44c0e7a8be5f1bddaed6482", func := "calamus/calamuslaw10.EmbedPlain", spec := "embedPlain", unfollowed := true, recurses := true, apart := false }
def EmbedPlainSaid : Prop := embedPlainRow.holds Try.pinned (OpenSpec.ofChange embedPlainSpec)

/-- ITS FALSE NEIGHBOUR: 'it returns false'. Refute it at one input. -/
def embedPlainWrong : ChangeSpec := { name := "embedPlain", fn := fun _ => fun
  | [d1, d2] => { results := [.lit (.bool false)], args := [d1, d2] }
  | _ => none }
def EmbedPlainWrongFalsely : Prop := embedPlainRow.holds Try.pinned (OpenSpec.ofChange embedPlainWrong)

/-- 'calamuslaw10.EmbedKnown': WHATEVER THE INPUT: true; the input reads as it did. -/
def embedKnownSpec : ChangeSpec := { name := "embedKnown", fn := fun _ => fun
  | [] => { results := [.lit (.bool true)], args := [] }
  | _ => none }
def embedKnownRow : OpenClaim := { program := "ytkfjhannbnijkaa", sum := "562939eee67e1134f378f3b7a20308f6ac7c3f59a44c0e7a8be5f1bddaed6482", func := "calamus/calamuslaw10.EmbedKnown", spec := "embedKnown", unfollowed := true, recurses := true, apart := false }
def EmbedKnownSaid : Prop := embedKnownRow.holds Try.pinned (OpenSpec.ofChange embedKnownSpec)

/-- ITS FALSE NEIGHBOUR: 'it returns false'. Refute it at one input. -/
def embedKnownWrong : ChangeSpec := { name := "embedKnown", fn := fun _ => fun
  | [] => { results := [.lit (.bool false)], args := [] }
  | _ => none }
def EmbedKnownWrongFalsely : Prop := embedKnownRow.holds Try.pinned (OpenSpec.ofChange embedKnownWrong)

/- THE SECOND FORM. 'bulk': how many values and letters a reading holds, each counted each time it is reached (what is shared counts as often as it is met; a slice's spare places count too). A statement '..UptoSaid' is the law's where the arguments, and the package variables that the reading takes, are together of bulk at most 1048576: NARROWER than '..Said'. Prove '..Said' where nothing that the law and all that it calls make is longer than what came in: it says more and counts as full. Else prove '..UptoSaid'. A law counts once. -/
mutual
def uptoBulk {H : Type} : DataW H → Nat
  | .lit (.string bytes) => bytes.length + 1
  | .lit _ => 1
  | .nil => 1
  | .ptr d => uptoBulk d + 1
  | .slice elems spare => uptoBulkAll elems + uptoBulkAll spare + 1
  | .agg parts => uptoBulkAll parts + 1
  | .iface _ d => uptoBulk d + 1
  | .map entries => uptoBulkEntries entries + 1
  | .held _ => 1
def uptoBulkAll {H : Type} : List (DataW H) → Nat
  | [] => 0
  | d :: r => uptoBulk d + uptoBulkAll r
def uptoBulkEntries {H : Type} : List (Lit × DataW H) → Nat
  | [] => 0
  | x :: r => uptoBulkEntry x + uptoBulkEntries r
def uptoBulkEntry {H : Type} : Lit × DataW H → Nat
  | (.string bytes, d) => bytes.length + uptoBulk d + 1
  | (_, d) => uptoBulk d + 1
 end
def uptoSmall : (H : Type) → List (DataW H) → Bool := fun _ ds => decide (uptoBulkAll ds ≤ 1048576)
def OpenSpec.upto (s : _root_.Go.ChangeSpec) : _root_.Go.OpenSpec := { _root_.Go.OpenSpec.ofChange s with cond := some uptoSmall }

/-- 'calamuslaw10.EmbedSequences', WHERE WHAT IT READS IS OF BULK AT MOST 1048576: true; the input reads as it did. -/
def embedSequencesUptoRow : OpenClaim := { program := "ytkfjhannbnijkaa", sum := "562939eee67e1134f378f3b7a20308f6ac7c3f59a44c0e7a8be5f1bddaed6482", func := "calamus/calamuslaw10.EmbedSequences", spec := "embedSequences", apart := false, narrowed := true }
def EmbedSequencesUptoSaid : Prop := embedSequencesUptoRow.holds Try.pinned (OpenSpec.upto embedSequencesSpec)

/-- 'calamuslaw10.EmbedOnce', WHERE WHAT IT READS IS OF BULK AT MOST 1048576: true; the input reads as it did. -/
def embedOnceUptoRow : OpenClaim := { program := "ytkfjhannbnijkaa", sum := "562939eee67e1134f378f3b7a20308f6ac7c3f59a44c0e7a8be5f1bddaed6482", func := "calamus/calamuslaw10.EmbedOnce", spec := "embedOnce", recurses := true, apart := false, narrowed := true }
def EmbedOnceUptoSaid : Prop := embedOnceUptoRow.holds Try.pinned (OpenSpec.upto embedOnceSpec)

/-- 'calamuslaw10.EmbedWithout', WHERE WHAT IT READS IS OF BULK AT MOST 1048576: true; the input reads as it did. -/
def embedWithoutUptoRow : OpenClaim := { program := "ytkfjhannbnijkaa", sum := "562939eee67e1134f378f3b7a20308f6ac7c3f59a44c0e7a8be5f1bddaed6482", func := "calamus/calamuslaw10.EmbedWithout", spec := "embedWithout", apart := false, narrowed := true }
def EmbedWithoutUptoSaid : Prop := embedWithoutUptoRow.holds Try.pinned (OpenSpec.upto embedWithoutSpec)

/-- 'calamuslaw10.EmbedSingle', WHERE WHAT IT READS IS OF BULK AT MOST 1048576: true; the input reads as it did. -/
def embedSingleUptoRow : OpenClaim := { program := "ytkfjhannbnijkaa", sum := "562939eee67e1134f378f3b7a20308f6ac7c3f59a44c0e7a8be5f1bddaed6482", func := "calamus/calamuslaw10.EmbedSingle", spec := "embedSingle", apart := false, narrowed := true }
def EmbedSingleUptoSaid : Prop := embedSingleUptoRow.holds Try.pinned (OpenSpec.upto embedSingleSpec)

/-- 'calamuslaw10.EmbedRuns', WHERE WHAT IT READS IS OF BULK AT MOST 1048576: true; the input reads as it did. -/
def embedRunsUptoRow : OpenClaim := { program := "ytkfjhannbnijkaa", sum := "562939eee67e1134f378f3b7a20308f6ac7c3f59a44c0e7a8be5f1bddaed6482", func := "calamus/calamuslaw10.EmbedRuns", spec := "embedRuns", recurses := true, apart := false, narrowed := true }
def EmbedRunsUptoSaid : Prop := embedRunsUptoRow.holds Try.pinned (OpenSpec.upto embedRunsSpec)

/-- 'calamuslaw10.EmbedMatches', WHERE WHAT IT READS IS OF BULK AT MOST 1048576: true; the input reads as it did. -/
def embedMatchesUptoRow : OpenClaim := { program := "ytkfjhannbnijkaa", sum := "562939eee67e1134f378f3b7a20308f6ac7c3f59a44c0e7a8be5f1bddaed6482", func := "calamus/calamuslaw10.EmbedMatches", spec := "embedMatches", unfollowed := true, recurses := true, apart := false, narrowed := true }
def EmbedMatchesUptoSaid : Prop := embedMatchesUptoRow.holds Try.pinned (OpenSpec.upto embedMatchesSpec)

/-- 'calamuslaw10.EmbedLevels', WHERE WHAT IT READS IS OF BULK AT MOST 1048576: true; the input reads as it did. -/
def embedLevelsUptoRow : OpenClaim := { program := "ytkfjhannbnijkaa", sum := "562939eee67e1134f378f3b7a20308f6ac7c3f59a44c0e7a8be5f1bddaed6482", func := "calamus/calamuslaw10.EmbedLevels", spec := "embedLevels", unfollowed := true, recurses := true, apart := false, narrowed := true }
def EmbedLevelsUptoSaid : Prop := embedLevelsUptoRow.holds Try.pinned (OpenSpec.upto embedLevelsSpec)

/-- 'calamuslaw10.EmbedIsolates', WHERE WHAT IT READS IS OF BULK AT MOST 1048576: true; the input reads as it did. -/
def embedIsolatesUptoRow : OpenClaim := { program := "ytkfjhannbnijkaa", sum := "562939eee67e1134f378f3b7a20308f6ac7c3f59a44c0e7a8be5f1bddaed6482", func := "calamus/calamuslaw10.EmbedIsolates", spec := "embedIsolates", unfollowed := true, recurses := true, apart := false, narrowed := true }
def EmbedIsolatesUptoSaid : Prop := embedIsolatesUptoRow.holds Try.pinned (OpenSpec.upto embedIsolatesSpec)

/-- 'calamuslaw10.EmbedBounds', WHERE WHAT IT READS IS OF BULK AT MOST 1048576: true; the input reads as it did. -/
def embedBoundsUptoRow : OpenClaim := { program := "ytkfjhannbnijkaa", sum := "562939eee67e1134f378f3b7a20308f6ac7c3f59a44c0e7a8be5f1bddaed6482", func := "calamus/calamuslaw10.EmbedBounds", spec := "embedBounds", unfollowed := true, recurses := true, apart := false, narrowed := true }
def EmbedBoundsUptoSaid : Prop := embedBoundsUptoRow.holds Try.pinned (OpenSpec.upto embedBoundsSpec)

/-- 'calamuslaw10.EmbedParagraphs', WHERE WHAT IT READS IS OF BULK AT MOST 1048576: true; the input reads as it did. -/
def embedParagraphsUptoRow : OpenClaim := { program := "ytkfjhannbnijkaa", sum := "562939eee67e1134f378f3b7a20308f6ac7c3f59a44c0e7a8be5f1bddaed6482", func := "calamus/calamuslaw10.EmbedParagraphs", spec := "embedParagraphs", unfollowed := true, recurses := true, apart := false, narrowed := true }
def EmbedParagraphsUptoSaid : Prop := embedParagraphsUptoRow.holds Try.pinned (OpenSpec.upto embedParagraphsSpec)

/-- 'calamuslaw10.EmbedPlain', WHERE WHAT IT READS IS OF BULK AT MOST 1048576: true; the input reads as it did. -/
def embedPlainUptoRow : OpenClaim := { program := "ytkfjhannbnijkaa", sum := "562939eee67e1134f378f3b7a20308f6ac7c3f59a44c0e7a8be5f1bddaed6482", func := "calamus/calamuslaw10.EmbedPlain", spec := "embedPlain", unfollowed := true, recurses := true, apart := false, narrowed := true }
def EmbedPlainUptoSaid : Prop := embedPlainUptoRow.holds Try.pinned (OpenSpec.upto embedPlainSpec)

/-- 'calamuslaw10.EmbedKnown', WHERE WHAT IT READS IS OF BULK AT MOST 1048576: true; the input reads as it did. -/
def embedKnownUptoRow : OpenClaim := { program := "ytkfjhannbnijkaa", sum := "562939eee67e1134f378f3b7a20308f6ac7c3f59a44c0e7a8be5f1bddaed6482", func := "calamus/calamuslaw10.EmbedKnown", spec := "embedKnown", unfollowed := true, recurses := true, apart := false, narrowed := true }
def EmbedKnownUptoSaid : Prop := embedKnownUptoRow.holds Try.pinned (OpenSpec.upto embedKnownSpec)

end Rows
end Go.Proofs.Ytkfjhannbnijkaa
