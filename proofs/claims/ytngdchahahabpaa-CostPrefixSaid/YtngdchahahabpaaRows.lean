/-
  No cell of these rows narrows 'for every input' (looked for: loops, veiled, ifaces, maps, wideKeys, modest, calm, conditions, laid).
  DERIVED. THE GIVEN ROWS OF THIS SEAT. 8 by the template 'for every input the law returns true; each argument reads behind the call as it read before'; 0 by the template 'total and deterministic' (their statements: YtngdchahahabpaaTotals.lean).
  GIVEN WITH THE SEED: the statements are not yours to turn. If you find one false, say at which input.
  Laid BY PROGRAM, IN A SANDBOX (cutbox-rows.mjs): the forced cells as the released guide's own fill.sh prints them over the translation 1fa09a9eead63663… (all of the seat's roots in one cut). By AI agents, Wed Nov 11 2026. No macro, syntax, notation, axiom, sorry.
-/
import Derived.Test.YtngdchahahabpaaChecked
import GoSem.Claim
import GoSem.ClaimJoined
import GoSem.ClaimMapViews
import Derived.JoinedTies
import Derived.KernelRfl
namespace Go.Proofs.Ytngdchahahabpaa
/- THE CELL 'sum', in the pinned program and in every row, IS THE sha256 OF THE DUMP (.gsa) THAT YtngdchahahabpaaProg.lean LOADS. Nothing in Lean hashes anything: it is a label: what it is worth is what the hold of that sum in a sandbox is worth. -/
noncomputable def Try.pinned : Pinned := { name := "ytngdchahahabpaa", sum := "1fa09a9eead63663e850185700c04e82e5e0dd8b17120dac8b75b2be757fd710", checked := Try.checked }
namespace Rows
def none {H : Type} : Left H := { results := [], args := [] }

/-- 'lazyclaw47.PreludeSources': WHATEVER THE INPUT: true; the input reads as it did. -/
def preludeSourcesSpec : ChangeSpec := { name := "preludeSources", fn := fun _ => fun
  | [d1, d2] => { results := [.lit (.bool true)], args := [d1, d2] }
  | _ => none }
def preludeSourcesRow : OpenClaim := { program := "ytngdchahahabpaa", sum := "1fa09a9eead63663e850185700c04e82e5e0dd8b17120dac8b75b2be757fd710", func := "lazyc/lazyclaw47.PreludeSources", spec := "preludeSources", apart := false }
def PreludeSourcesSaid : Prop := preludeSourcesRow.holds Try.pinned (OpenSpec.ofChange preludeSourcesSpec)

/-- ITS FALSE NEIGHBOUR: 'it returns false'. Refute it at one input. -/
def preludeSourcesWrong : ChangeSpec := { name := "preludeSources", fn := fun _ => fun
  | [d1, d2] => { results := [.lit (.bool false)], args := [d1, d2] }
  | _ => none }
def PreludeSourcesWrongFalsely : Prop := preludeSourcesRow.holds Try.pinned (OpenSpec.ofChange preludeSourcesWrong)

/-- 'lazyclaw47.PreludeSource': WHATEVER THE INPUT: true; the input reads as it did. -/
def preludeSourceSpec : ChangeSpec := { name := "preludeSource", fn := fun _ => fun
  | [d] => { results := [.lit (.bool true)], args := [d] }
  | _ => none }
def preludeSourceRow : OpenClaim := { program := "ytngdchahahabpaa", sum := "1fa09a9eead63663e850185700c04e82e5e0dd8b17120dac8b75b2be757fd710", func := "lazyc/lazyclaw47.PreludeSource", spec := "preludeSource", apart := false }
def PreludeSourceSaid : Prop := preludeSourceRow.holds Try.pinned (OpenSpec.ofChange preludeSourceSpec)

/-- ITS FALSE NEIGHBOUR: 'it returns false'. Refute it at one input. -/
def preludeSourceWrong : ChangeSpec := { name := "preludeSource", fn := fun _ => fun
  | [d] => { results := [.lit (.bool false)], args := [d] }
  | _ => none }
def PreludeSourceWrongFalsely : Prop := preludeSourceRow.holds Try.pinned (OpenSpec.ofChange preludeSourceWrong)

/-- 'lazyclaw43.CostCheck': WHATEVER THE INPUT: true; the input reads as it did. -/
def costCheckSpec : ChangeSpec := { name := "costCheck", fn := fun _ => fun
  | [d] => { results := [.lit (.bool true)], args := [d] }
  | _ => none }
def costCheckRow : OpenClaim := { program := "ytngdchahahabpaa", sum := "1fa09a9eead63663e850185700c04e82e5e0dd8b17120dac8b75b2be757fd710", func := "lazyc/lazyclaw43.CostCheck", spec := "costCheck", recurses := true, apart := false }
def CostCheckSaid : Prop := costCheckRow.holds Try.pinned (OpenSpec.ofChange costCheckSpec)

/-- ITS FALSE NEIGHBOUR: 'it returns false'. Refute it at one input. -/
def costCheckWrong : ChangeSpec := { name := "costCheck", fn := fun _ => fun
  | [d] => { results := [.lit (.bool false)], args := [d] }
  | _ => none }
def CostCheckWrongFalsely : Prop := costCheckRow.holds Try.pinned (OpenSpec.ofChange costCheckWrong)

/-- 'lazyclaw43.CostAge': WHATEVER THE INPUT: true; the input reads as it did. -/
def costAgeSpec : ChangeSpec := { name := "costAge", fn := fun _ => fun
  | [d] => { results := [.lit (.bool true)], args := [d] }
  | _ => none }
def costAgeRow : OpenClaim := { program := "ytngdchahahabpaa", sum := "1fa09a9eead63663e850185700c04e82e5e0dd8b17120dac8b75b2be757fd710", func := "lazyc/lazyclaw43.CostAge", spec := "costAge", recurses := true, apart := false }
def CostAgeSaid : Prop := costAgeRow.holds Try.pinned (OpenSpec.ofChange costAgeSpec)

/-- ITS FALSE NEIGHBOUR: 'it returns false'. Refute it at one input. -/
def costAgeWrong : ChangeSpec := { name := "costAge", fn := fun _ => fun
  | [d] => { results := [.lit (.bool false)], args := [d] }
  | _ => none }
def CostAgeWrongFalsely : Prop := costAgeRow.holds Try.pinned (OpenSpec.ofChange costAgeWrong)

/-- 'lazyclaw43.CostBound': WHATEVER THE INPUT: true; the input reads as it did. -/
def costBoundSpec : ChangeSpec := { name := "costBound", fn := fun _ => fun
  | [d1, d2] => { results := [.lit (.bool true)], args := [d1, d2] }
  | _ => none }
def costBoundRow : OpenClaim := { program := "ytngdchahahabpaa", sum := "1fa09a9eead63663e850185700c04e82e5e0dd8b17120dac8b75b2be757fd710", func := "lazyc/lazyclaw43.CostBound", spec := "costBound", recurses := true, apart := false }
def CostBoundSaid : Prop := costBoundRow.holds Try.pinned (OpenSpec.ofChange costBoundSpec)

/-- ITS FALSE NEIGHBOUR: 'it returns false'. Refute it at one input. -/
def costBoundWrong : ChangeSpec := { name := "costBound", fn := fun _ => fun
  | [d1, d2] => { results := [.lit (.bool false)], args := [d1, d2] }
  | _ => none }
def CostBoundWrongFalsely : Prop := costBoundRow.holds Try.pinned (OpenSpec.ofChange costBoundWrong)

/-- 'lazyclaw43.CostPrefix': WHATEVER THE INPUT: true; the input reads as it did. -/
def costPrefixSpec : ChangeSpec := { name := "costPrefix", fn := fun _ => fun
  | [d1, d2] => { results := [.lit (.bool true)], args := [d1, d2] }
  | _ => none }
def costPrefixRow : OpenClaim := { program := "ytngdchahahabpaa", sum := "1fa09a9eead63663e850185700c04e82e5e0dd8b17120dac8b75b2be757fd710", func := "lazyc/lazyclaw43.CostPrefix", spec := "costPrefix", recurses := true, apart := false }
def CostPrefixSaid : Prop := costPrefixRow.holds Try.pinned (OpenSpec.ofChange costPrefixSpec)

/-- ITS FALSE NEIGHBOUR: 'it returns false'. Refute it at one input. -/
def costPrefixWrong : ChangeSpec := { name := "costPrefix", fn := fun _ => fun
  | [d1, d2] => { results := [.lit (.bool false)], args := [d1, d2] }
  | _ => none }
def CostPrefixWrongFalsely : Prop := costPrefixRow.holds Try.pinned (OpenSpec.ofChange costPrefixWrong)

/-- 'lazyclaw43.CostCounts': WHATEVER THE INPUT: true; the input reads as it did. -/
def costCountsSpec : ChangeSpec := { name := "costCounts", fn := fun _ => fun
  | [d] => { results := [.lit (.bool true)], args := [d] }
  | _ => none }
def costCountsRow : OpenClaim := { program := "ytngdchahahabpaa", sum := "1fa09a9eead63663e850185700c04e82e5e0dd8b17120dac8b75b2be757fd710", func := "lazyc/lazyclaw43.CostCounts", spec := "costCounts", recurses := true, apart := false }
def CostCountsSaid : Prop := costCountsRow.holds Try.pinned (OpenSpec.ofChange costCountsSpec)

/-- ITS FALSE NEIGHBOUR: 'it returns false'. Refute it at one input. -/
def costCountsWrong : ChangeSpec := { name := "costCounts", fn := fun _ => fun
  | [d] => { results := [.lit (.bool false)], args := [d] }
  | _ => none }
def CostCountsWrongFalsely : Prop := costCountsRow.holds Try.pinned (OpenSpec.ofChange costCountsWrong)

/-- 'lazyclaw43.CostPossible': WHATEVER THE INPUT: true; the input reads as it did. -/
def costPossibleSpec : ChangeSpec := { name := "costPossible", fn := fun _ => fun
  | [d] => { results := [.lit (.bool true)], args := [d] }
  | _ => none }
def costPossibleRow : OpenClaim := { program := "ytngdchahahabpaa", sum := "1fa09a9eead63663e850185700c04e82e5e0dd8b17120dac8b75b2be757fd710", func := "lazyc/lazyclaw43.CostPossible", spec := "costPossible", recurses := true, apart := false }
def CostPossibleSaid : Prop := costPossibleRow.holds Try.pinned (OpenSpec.ofChange costPossibleSpec)

/-- ITS FALSE NEIGHBOUR: 'it returns false'. Refute it at one input. -/
def costPossibleWrong : ChangeSpec := { name := "costPossible", fn := fun _ => fun
  | [d] => { results := [.lit (.bool false)], args := [d] }
  | _ => none }
def CostPossibleWrongFalsely : Prop := costPossibleRow.holds Try.pinned (OpenSpec.ofChange costPossibleWrong)

/- THE SECOND FORM. 'bulk': how many values and letters a reading holds, each counted each time it is reached (what is shared counts as often as it is met; a slice's spare places count too). A statement '..UptoSaid' is the law's where the arguments, and the package variables that the reading takes, are together of bulk at most 1048576: NARROWER than '..Said'. Prove '..Said' where nothing that the law and all that it calls make is longer than what came in: it says more and counts as full. Else prove '..UptoSaid'. A law counts once. -/
mutual
def uptoBulk {H : Type} : DataW H → Nat
  | .lit (.string bytes) => bytes.length + 1
  | .lit _ => 1
  | .nil => 1
  | .ptr d => uptoBulk d + 1
  | .slice elems spare => uptoBulkAll elems + uptoBulkAll spare + 1
  | .agg parts => uptoBulkAll parts + 1
  | .iface _ d => uptoBulk d + 1
  | .map entries => uptoBulkEntries entries + 1
  | .held _ => 1
def uptoBulkAll {H : Type} : List (DataW H) → Nat
  | [] => 0
  | d :: r => uptoBulk d + uptoBulkAll r
def uptoBulkEntries {H : Type} : List (Lit × DataW H) → Nat
  | [] => 0
  | x :: r => uptoBulkEntry x + uptoBulkEntries r
def uptoBulkEntry {H : Type} : Lit × DataW H → Nat
  | (.string bytes, d) => bytes.length + uptoBulk d + 1
  | (_, d) => uptoBulk d + 1
 end
def uptoSmall : (H : Type) → List (DataW H) → Bool := fun _ ds => decide (uptoBulkAll ds ≤ 1048576)
def OpenSpec.upto (s : _root_.Go.ChangeSpec) : _root_.Go.OpenSpec := { _root_.Go.OpenSpec.ofChange s with cond := some uptoSmall }

/-- 'lazyclaw47.PreludeSources', WHERE WHAT IT READS IS OF BULK AT MOST 1048576: true; the input reads as it did. -/
def preludeSourcesUptoRow : OpenClaim := { program := "ytngdchahahabpaa", sum := "1fa09a9eead63663e850185700c04e82e5e0dd8b17120dac8b75b2be757fd710", func := "lazyc/lazyclaw47.PreludeSources", spec := "preludeSources", apart := false, narrowed := true }
def PreludeSourcesUptoSaid : Prop := preludeSourcesUptoRow.holds Try.pinned (OpenSpec.upto preludeSourcesSpec)

/-- 'lazyclaw47.PreludeSource', WHERE WHAT IT READS IS OF BULK AT MOST 1048576: true; the input reads as it did. -/
def preludeSourceUptoRow : OpenClaim := { program := "ytngdchahahabpaa", sum := "1fa09a9eead63663e850185700c04e82e5e0dd8b17120dac8b75b2be757fd710", func := "lazyc/lazyclaw47.PreludeSource", spec := "preludeSource", apart := false, narrowed := true }
def PreludeSourceUptoSaid : Prop := preludeSourceUptoRow.holds Try.pinned (OpenSpec.upto preludeSourceSpec)

/-- 'lazyclaw43.CostCheck', WHERE WHAT IT READS IS OF BULK AT MOST 1048576: true; the input reads as it did. -/
def costCheckUptoRow : OpenClaim := { program := "ytngdchahahabpaa", sum := "1fa09a9eead63663e850185700c04e82e5e0dd8b17120dac8b75b2be757fd710", func := "lazyc/lazyclaw43.CostCheck", spec := "costCheck", recurses := true, apart := false, narrowed := true }
def CostCheckUptoSaid : Prop := costCheckUptoRow.holds Try.pinned (OpenSpec.upto costCheckSpec)

/-- 'lazyclaw43.CostAge', WHERE WHAT IT READS IS OF BULK AT MOST 1048576: true; the input reads as it did. -/
def costAgeUptoRow : OpenClaim := { program := "ytngdchahahabpaa", sum := "1fa09a9eead63663e850185700c04e82e5e0dd8b17120dac8b75b2be757fd710", func := "lazyc/lazyclaw43.CostAge", spec := "costAge", recurses := true, apart := false, narrowed := true }
def CostAgeUptoSaid : Prop := costAgeUptoRow.holds Try.pinned (OpenSpec.upto costAgeSpec)

/-- 'lazyclaw43.CostBound', WHERE WHAT IT READS IS OF BULK AT MOST 1048576: true; the input reads as it did. -/
def costBoundUptoRow : OpenClaim := { program := "ytngdchahahabpaa", sum := "1fa09a9eead63663e850185700c04e82e5e0dd8b17120dac8b75b2be757fd710", func := "lazyc/lazyclaw43.CostBound", spec := "costBound", recurses := true, apart := false, narrowed := true }
def CostBoundUptoSaid : Prop := costBoundUptoRow.holds Try.pinned (OpenSpec.upto costBoundSpec)

/-- 'lazyclaw43.CostPrefix', WHERE WHAT IT READS IS OF BULK AT MOST 1048576: true; the input reads as it did. -/
def costPrefixUptoRow : OpenClaim := { program := "ytngdchahahabpaa", sum := "1fa09a9eead63663e850185700c04e82e5e0dd8b17120dac8b75b2be757fd710", func := "lazyc/lazyclaw43.CostPrefix", spec := "costPrefix", recurses := true, apart := false, narrowed := true }
def CostPrefixUptoSaid : Prop := costPrefixUptoRow.holds Try.pinned (OpenSpec.upto costPrefixSpec)

/-- 'lazyclaw43.CostCounts', WHERE WHAT IT READS IS OF BULK AT MOST 1048576: true; the input reads as it did. -/
def costCountsUptoRow : OpenClaim := { program := "ytngdchahahabpaa", sum := "1fa09a9eead63663e850185700c04e82e5e0dd8b17120dac8b75b2be757fd710", func := "lazyc/lazyclaw43.CostCounts", spec := "costCounts", recurses := true, apart := false, narrowed := true }
def CostCountsUptoSaid : Prop := costCountsUptoRow.holds Try.pinned (OpenSpec.upto costCountsSpec)

/-- 'lazyclaw43.CostPossible', WHERE WHAT IT READS IS OF BULK AT MOST 1048576: true; the input reads as it did. -/
def costPossibleUptoRow : OpenClaim := { program := "ytngdchahahabpaa", sum := "1fa09a9eead63663e850185700c04e82e5e0dd8b17120dac8b75b2be757fd710", func := "lazyc/lazyclaw43.CostPossible", spec := "costPossible", recurses := true, apart := false, narrowed := true }
def CostPossibleUptoSaid : Prop := costPossibleUptoRow.holds Try.pinned (OpenSpec.upto costPossibleSpec)

end Rows
end Go.Proofs.Ytngdchahahabpaa
