/-
  No cell of these rows narrows 'for every input' (looked for: loops, veiled, ifaces, maps, wideKeys, modest, calm, conditions, laid).
  DERIVED. THE GIVEN ROWS OF THIS SEAT. 12 by the template 'for every input the law returns true; each argument reads behind the call as it read before'; 0 by the template 'total and deterministic' (their statements: YtobniolmielikaaTotals.lean).
  GIVEN WITH THE SEED: the statements are not yours to turn. If you find one false, say at which input.
  Laid BY PROGRAM, IN A SANDBOX (cutbox-rows.mjs): the forced cells as the released guide's own fill.sh prints them over the translation ac5aae9e2ae8a975… (all of the seat's roots in one cut). By AI agents, Wed Nov 11 2026. No macro, syntax, notation, axiom, sorry.
-/
import Derived.Test.YtobniolmielikaaChecked
import GoSem.Claim
import GoSem.ClaimJoined
import GoSem.ClaimMapViews
import Derived.JoinedTies
import Derived.KernelRfl
namespace Go.Proofs.Ytobniolmielikaa
/- THE CELL 'sum', in the pinned program and in every row, IS THE sha256 OF THE DUMP (.gsa) THAT YtobniolmielikaaProg.lean LOADS. Nothing in Lean hashes anything: it is a label: what it is worth is what the hold of that sum in a sandbox is worth. -/
noncomputable def Try.pinned : Pinned := { name := "ytobniolmielikaa", sum := "ac5aae9e2ae8a975e6d403925dd21324551c500d0ec590fdf1245be2ff6c8364", checked := Try.checked }
namespace Rows
def none {H : Type} : Left H := { results := [], args := [] }

/-- 'lazyclaw39.HeapValid': WHATEVER THE INPUT: true; the input reads as it did. -/
def heapValidSpec : ChangeSpec := { name := "heapValid", fn := fun _ => fun
  | [d] => { results := [.lit (.bool true)], args := [d] }
  | _ => none }
def heapValidRow : OpenClaim := { program := "ytobniolmielikaa", sum := "ac5aae9e2ae8a975e6d403925dd21324551c500d0ec590fdf1245be2ff6c8364", func := "lazyc/lazyclaw39.HeapValid", spec := "heapValid", apart := false }
def HeapValidSaid : Prop := heapValidRow.holds Try.pinned (OpenSpec.ofChange heapValidSpec)

/-- ITS FALSE NEIGHBOUR: 'it returns false'. Refute it at one input. -/
def heapValidWrong : ChangeSpec := { name := "heapValid", fn := fun _ => fun
  | [d] => { results := [.lit (.bool false)], args := [d] }
  | _ => none }
def HeapValidWrongFalsely : Prop := heapValidRow.holds Try.pinned (OpenSpec.ofChange heapValidWrong)

/-- 'lazyclaw39.HeapAlloc': WHATEVER THE INPUT: true; the input reads as it did. -/
def heapAllocSpec : ChangeSpec := { name := "heapAlloc", fn := fun _ => fun
  | [d1, d2] => { results := [.lit (.bool true)], args := [d1, d2] }
  | _ => none }
def heapAllocRow : OpenClaim := { program := "ytobniolmielikaa", sum := "ac5aae9e2ae8a975e6d403925dd21324551c500d0ec590fdf1245be2ff6c8364", func := "lazyc/lazyclaw39.HeapAlloc", spec := "heapAlloc", recurses := true, apart := false }
def HeapAllocSaid : Prop := heapAllocRow.holds Try.pinned (OpenSpec.ofChange heapAllocSpec)

/-- ITS FALSE NEIGHBOUR: 'it returns false'. Refute it at one input. -/
def heapAllocWrong : ChangeSpec := { name := "heapAlloc", fn := fun _ => fun
  | [d1, d2] => { results := [.lit (.bool false)], args := [d1, d2] }
  | _ => none }
def HeapAllocWrongFalsely : Prop := heapAllocRow.holds Try.pinned (OpenSpec.ofChange heapAllocWrong)

/-- 'lazyclaw39.HeapRemembered': WHATEVER THE INPUT: true; the input reads as it did. -/
def heapRememberedSpec : ChangeSpec := { name := "heapRemembered", fn := fun _ => fun
  | [d] => { results := [.lit (.bool true)], args := [d] }
  | _ => none }
def heapRememberedRow : OpenClaim := { program := "ytobniolmielikaa", sum := "ac5aae9e2ae8a975e6d403925dd21324551c500d0ec590fdf1245be2ff6c8364", func := "lazyc/lazyclaw39.HeapRemembered", spec := "heapRemembered", recurses := true, apart := false }
def HeapRememberedSaid : Prop := heapRememberedRow.holds Try.pinned (OpenSpec.ofChange heapRememberedSpec)

/-- ITS FALSE NEIGHBOUR: 'it returns false'. Refute it at one input. -/
def heapRememberedWrong : ChangeSpec := { name := "heapRemembered", fn := fun _ => fun
  | [d] => { results := [.lit (.bool false)], args := [d] }
  | _ => none }
def HeapRememberedWrongFalsely : Prop := heapRememberedRow.holds Try.pinned (OpenSpec.ofChange heapRememberedWrong)

/-- 'lazyclaw39.HeapScript': WHATEVER THE INPUT: true; the input reads as it did. -/
def heapScriptSpec : ChangeSpec := { name := "heapScript", fn := fun _ => fun
  | [d] => { results := [.lit (.bool true)], args := [d] }
  | _ => none }
def heapScriptRow : OpenClaim := { program := "ytobniolmielikaa", sum := "ac5aae9e2ae8a975e6d403925dd21324551c500d0ec590fdf1245be2ff6c8364", func := "lazyc/lazyclaw39.HeapScript", spec := "heapScript", recurses := true, apart := false }
def HeapScriptSaid : Prop := heapScriptRow.holds Try.pinned (OpenSpec.ofChange heapScriptSpec)

/-- ITS FALSE NEIGHBOUR: 'it returns false'. Refute it at one input. -/
def heapScriptWrong : ChangeSpec := { name := "heapScript", fn := fun _ => fun
  | [d] => { results := [.lit (.bool false)], args := [d] }
  | _ => none }
def HeapScriptWrongFalsely : Prop := heapScriptRow.holds Try.pinned (OpenSpec.ofChange heapScriptWrong)

/-- 'lazyclaw39.HeapClone': WHATEVER THE INPUT: true; the input reads as it did. -/
def heapCloneSpec : ChangeSpec := { name := "heapClone", fn := fun _ => fun
  | [d] => { results := [.lit (.bool true)], args := [d] }
  | _ => none }
def heapCloneRow : OpenClaim := { program := "ytobniolmielikaa", sum := "ac5aae9e2ae8a975e6d403925dd21324551c500d0ec590fdf1245be2ff6c8364", func := "lazyc/lazyclaw39.HeapClone", spec := "heapClone", recurses := true, apart := false }
def HeapCloneSaid : Prop := heapCloneRow.holds Try.pinned (OpenSpec.ofChange heapCloneSpec)

/-- ITS FALSE NEIGHBOUR: 'it returns false'. Refute it at one input. -/
def heapCloneWrong : ChangeSpec := { name := "heapClone", fn := fun _ => fun
  | [d] => { results := [.lit (.bool false)], args := [d] }
  | _ => none }
def HeapCloneWrongFalsely : Prop := heapCloneRow.holds Try.pinned (OpenSpec.ofChange heapCloneWrong)

/-- 'lazyclaw39.HeapNil': WHATEVER THE INPUT: true; the input reads as it did. -/
def heapNilSpec : ChangeSpec := { name := "heapNil", fn := fun _ => fun
  | [d1, d2, d3] => { results := [.lit (.bool true)], args := [d1, d2, d3] }
  | _ => none }
def heapNilRow : OpenClaim := { program := "ytobniolmielikaa", sum := "ac5aae9e2ae8a975e6d403925dd21324551c500d0ec590fdf1245be2ff6c8364", func := "lazyc/lazyclaw39.HeapNil", spec := "heapNil", recurses := true, apart := false }
def HeapNilSaid : Prop := heapNilRow.holds Try.pinned (OpenSpec.ofChange heapNilSpec)

/-- ITS FALSE NEIGHBOUR: 'it returns false'. Refute it at one input. -/
def heapNilWrong : ChangeSpec := { name := "heapNil", fn := fun _ => fun
  | [d1, d2, d3] => { results := [.lit (.bool false)], args := [d1, d2, d3] }
  | _ => none }
def HeapNilWrongFalsely : Prop := heapNilRow.holds Try.pinned (OpenSpec.ofChange heapNilWrong)

/-- 'lazyclaw40.CollectGraph': WHATEVER THE INPUT: true; the input reads as it did. -/
def collectGraphSpec : ChangeSpec := { name := "collectGraph", fn := fun _ => fun
  | [d1, d2] => { results := [.lit (.bool true)], args := [d1, d2] }
  | _ => none }
def collectGraphRow : OpenClaim := { program := "ytobniolmielikaa", sum := "ac5aae9e2ae8a975e6d403925dd21324551c500d0ec590fdf1245be2ff6c8364", func := "lazyc/lazyclaw40.CollectGraph", spec := "collectGraph", unfollowed := true, recurses := true, apart := false }
def CollectGraphSaid : Prop := collectGraphRow.holds Try.pinned (OpenSpec.ofChange collectGraphSpec)

/-- ITS FALSE NEIGHBOUR: 'it returns false'. Refute it at one input. -/
def collectGraphWrong : ChangeSpec := { name := "collectGraph", fn := fun _ => fun
  | [d1, d2] => { results := [.lit (.bool false)], args := [d1, d2] }
  | _ => none }
def CollectGraphWrongFalsely : Prop := collectGraphRow.holds Try.pinned (OpenSpec.ofChange collectGraphWrong)

/-- 'lazyclaw40.CollectMajor': WHATEVER THE INPUT: true; the input reads as it did. -/
def collectMajorSpec : ChangeSpec := { name := "collectMajor", fn := fun _ => fun
  | [d1, d2] => { results := [.lit (.bool true)], args := [d1, d2] }
  | _ => none }
def collectMajorRow : OpenClaim := { program := "ytobniolmielikaa", sum := "ac5aae9e2ae8a975e6d403925dd21324551c500d0ec590fdf1245be2ff6c8364", func := "lazyc/lazyclaw40.CollectMajor", spec := "collectMajor", unfollowed := true, recurses := true, apart := false }
def CollectMajorSaid : Prop := collectMajorRow.holds Try.pinned (OpenSpec.ofChange collectMajorSpec)

/-- ITS FALSE NEIGHBOUR: 'it returns false'. Refute it at one input. -/
def collectMajorWrong : ChangeSpec := { name := "collectMajor", fn := fun _ => fun
  | [d1, d2] => { results := [.lit (.bool false)], args := [d1, d2] }
  | _ => none }
def CollectMajorWrongFalsely : Prop := collectMajorRow.holds Try.pinned (OpenSpec.ofChange collectMajorWrong)

/-- 'lazyclaw40.CollectIsomorphic': WHATEVER THE INPUT: true; the input reads as it did. -/
def collectIsomorphicSpec : ChangeSpec := { name := "collectIsomorphic", fn := fun _ => fun
  | [d1, d2, d3] => { results := [.lit (.bool true)], args := [d1, d2, d3] }
  | _ => none }
def collectIsomorphicRow : OpenClaim := { program := "ytobniolmielikaa", sum := "ac5aae9e2ae8a975e6d403925dd21324551c500d0ec590fdf1245be2ff6c8364", func := "lazyc/lazyclaw40.CollectIsomorphic", spec := "collectIsomorphic", unfollowed := true, recurses := true, apart := false }
def CollectIsomorphicSaid : Prop := collectIsomorphicRow.holds Try.pinned (OpenSpec.ofChange collectIsomorphicSpec)

/-- ITS FALSE NEIGHBOUR: 'it returns false'. Refute it at one input. -/
def collectIsomorphicWrong : ChangeSpec := { name := "collectIsomorphic", fn := fun _ => fun
  | [d1, d2, d3] => { results := [.lit (.bool false)], args := [d1, d2, d3] }
  | _ => none }
def CollectIsomorphicWrongFalsely : Prop := collectIsomorphicRow.holds Try.pinned (OpenSpec.ofChange collectIsomorphicWrong)

/-- 'lazyclaw40.CollectMinor': WHATEVER THE INPUT: true; the input reads as it did. -/
def collectMinorSpec : ChangeSpec := { name := "collectMinor", fn := fun _ => fun
  | [d1, d2] => { results := [.lit (.bool true)], args := [d1, d2] }
  | _ => none }
def collectMinorRow : OpenClaim := { program := "ytobniolmielikaa", sum := "ac5aae9e2ae8a975e6d403925dd21324551c500d0ec590fdf1245be2ff6c8364", func := "lazyc/lazyclaw40.CollectMinor", spec := "collectMinor", unfollowed := true, recurses := true, apart := false }
def CollectMinorSaid : Prop := collectMinorRow.holds Try.pinned (OpenSpec.ofChange collectMinorSpec)

/-- ITS FALSE NEIGHBOUR: 'it returns false'. Refute it at one input. -/
def collectMinorWrong : ChangeSpec := { name := "collectMinor", fn := fun _ => fun
  | [d1, d2] => { results := [.lit (.bool false)], args := [d1, d2] }
  | _ => none }
def CollectMinorWrongFalsely : Prop := collectMinorRow.holds Try.pinned (OpenSpec.ofChange collectMinorWrong)

/-- 'lazyclaw40.CollectCompress': WHATEVER THE INPUT: true; the input reads as it did. -/
def collectCompressSpec : ChangeSpec := { name := "collectCompress", fn := fun _ => fun
  | [d1, d2] => { results := [.lit (.bool true)], args := [d1, d2] }
  | _ => none }
def collectCompressRow : OpenClaim := { program := "ytobniolmielikaa", sum := "ac5aae9e2ae8a975e6d403925dd21324551c500d0ec590fdf1245be2ff6c8364", func := "lazyc/lazyclaw40.CollectCompress", spec := "collectCompress", unfollowed := true, recurses := true, apart := false }
def CollectCompressSaid : Prop := collectCompressRow.holds Try.pinned (OpenSpec.ofChange collectCompressSpec)

/-- ITS FALSE NEIGHBOUR: 'it returns false'. Refute it at one input. -/
def collectCompressWrong : ChangeSpec := { name := "collectCompress", fn := fun _ => fun
  | [d1, d2] => { results := [.lit (.bool false)], args := [d1, d2] }
  | _ => none }
def CollectCompressWrongFalsely : Prop := collectCompressRow.holds Try.pinned (OpenSpec.ofChange collectCompressWrong)

/-- 'lazyclaw40.CollectIndirections': WHATEVER THE INPUT: true; the input reads as it did. -/
def collectIndirectionsSpec : ChangeSpec := { name := "collectIndirections", fn := fun _ => fun
  | [d1, d2] => { results := [.lit (.bool true)], args := [d1, d2] }
  | _ => none }
def collectIndirectionsRow : OpenClaim := { program := "ytobniolmielikaa", sum := "ac5aae9e2ae8a975e6d403925dd21324551c500d0ec590fdf1245be2ff6c8364", func := "lazyc/lazyclaw40.CollectIndirections", spec := "collectIndirections", unfollowed := true, recurses := true, apart := false }
def CollectIndirectionsSaid : Prop := collectIndirectionsRow.holds Try.pinned (OpenSpec.ofChange collectIndirectionsSpec)

/-- ITS FALSE NEIGHBOUR: 'it returns false'. Refute it at one input. -/
def collectIndirectionsWrong : ChangeSpec := { name := "collectIndirections", fn := fun _ => fun
  | [d1, d2] => { results := [.lit (.bool false)], args := [d1, d2] }
  | _ => none }
def CollectIndirectionsWrongFalsely : Prop := collectIndirectionsRow.holds Try.pinned (OpenSpec.ofChange collectIndirectionsWrong)

/- THE SECOND FORM. 'bulk': how many values and letters a reading holds, each counted each time it is reached (what is shared counts as often as it is met; a slice's spare places count too). A statement '..UptoSaid' is the law's where the arguments, and the package variables that the reading takes, are together of bulk at most 1048576: NARROWER than '..Said'. Prove '..Said' where nothing that the law and all that it calls make is longer than what came in: it says more and counts as full. Else prove '..UptoSaid'. A law counts once. -/
mutual
def uptoBulk {H : Type} : DataW H → Nat
  | .lit (.string bytes) => bytes.length + 1
  | .lit _ => 1
  | .nil => 1
  | .ptr d => uptoBulk d + 1
  | .slice elems spare => uptoBulkAll elems + uptoBulkAll spare + 1
  | .agg parts => uptoBulkAll parts + 1
  | .iface _ d => uptoBulk d + 1
  | .map entries => uptoBulkEntries entries + 1
  | .held _ => 1
def uptoBulkAll {H : Type} : List (DataW H) → Nat
  | [] => 0
  | d :: r => uptoBulk d + uptoBulkAll r
def uptoBulkEntries {H : Type} : List (Lit × DataW H) → Nat
  | [] => 0
  | x :: r => uptoBulkEntry x + uptoBulkEntries r
def uptoBulkEntry {H : Type} : Lit × DataW H → Nat
  | (.string bytes, d) => bytes.length + uptoBulk d + 1
  | (_, d) => uptoBulk d + 1
 end
def uptoSmall : (H : Type) → List (DataW H) → Bool := fun _ ds => decide (uptoBulkAll ds ≤ 1048576)
def OpenSpec.upto (s : _root_.Go.ChangeSpec) : _root_.Go.OpenSpec := { _root_.Go.OpenSpec.ofChange s with cond := some uptoSmall }

/-- 'lazyclaw39.HeapValid', WHERE WHAT IT READS IS OF BULK AT MOST 1048576: true; the input reads as it did. -/
def heapValidUptoRow : OpenClaim := { program := "ytobniolmielikaa", sum := "ac5aae9e2ae8a975e6d403925dd21324551c500d0ec590fdf1245be2ff6c8364", func := "lazyc/lazyclaw39.HeapValid", spec := "heapValid", apart := false, narrowed := true }
def HeapValidUptoSaid : Prop := heapValidUptoRow.holds Try.pinned (OpenSpec.upto heapValidSpec)

/-- 'lazyclaw39.HeapAlloc', WHERE WHAT IT READS IS OF BULK AT MOST 1048576: true; the input reads as it did. -/
def heapAllocUptoRow : OpenClaim := { program := "ytobniolmielikaa", sum := "ac5aae9e2ae8a975e6d403925dd21324551c500d0ec590fdf1245be2ff6c8364", func := "lazyc/lazyclaw39.HeapAlloc", spec := "heapAlloc", recurses := true, apart := false, narrowed := true }
def HeapAllocUptoSaid : Prop := heapAllocUptoRow.holds Try.pinned (OpenSpec.upto heapAllocSpec)

/-- 'lazyclaw39.HeapRemembered', WHERE WHAT IT READS IS OF BULK AT MOST 1048576: true; the input reads as it did. -/
def heapRememberedUptoRow : OpenClaim := { program := "ytobniolmielikaa", sum := "ac5aae9e2ae8a975e6d403925dd21324551c500d0ec590fdf1245be2ff6c8364", func := "lazyc/lazyclaw39.HeapRemembered", spec := "heapRemembered", recurses := true, apart := false, narrowed := true }
def HeapRememberedUptoSaid : Prop := heapRememberedUptoRow.holds Try.pinned (OpenSpec.upto heapRememberedSpec)

/-- 'lazyclaw39.HeapScript', WHERE WHAT IT READS IS OF BULK AT MOST 1048576: true; the input reads as it did. -/
def heapScriptUptoRow : OpenClaim := { program := "ytobniolmielikaa", sum := "ac5aae9e2ae8a975e6d403925dd21324551c500d0ec590fdf1245be2ff6c8364", func := "lazyc/lazyclaw39.HeapScript", spec := "heapScript", recurses := true, apart := false, narrowed := true }
def HeapScriptUptoSaid : Prop := heapScriptUptoRow.holds Try.pinned (OpenSpec.upto heapScriptSpec)

/-- 'lazyclaw39.HeapClone', WHERE WHAT IT READS IS OF BULK AT MOST 1048576: true; the input reads as it did. -/
def heapCloneUptoRow : OpenClaim := { program := "ytobniolmielikaa", sum := "ac5aae9e2ae8a975e6d403925dd21324551c500d0ec590fdf1245be2ff6c8364", func := "lazyc/lazyclaw39.HeapClone", spec := "heapClone", recurses := true, apart := false, narrowed := true }
def HeapCloneUptoSaid : Prop := heapCloneUptoRow.holds Try.pinned (OpenSpec.upto heapCloneSpec)

/-- 'lazyclaw39.HeapNil', WHERE WHAT IT READS IS OF BULK AT MOST 1048576: true; the input reads as it did. -/
def heapNilUptoRow : OpenClaim := { program := "ytobniolmielikaa", sum := "ac5aae9e2ae8a975e6d403925dd21324551c500d0ec590fdf1245be2ff6c8364", func := "lazyc/lazyclaw39.HeapNil", spec := "heapNil", recurses := true, apart := false, narrowed := true }
def HeapNilUptoSaid : Prop := heapNilUptoRow.holds Try.pinned (OpenSpec.upto heapNilSpec)

/-- 'lazyclaw40.CollectGraph', WHERE WHAT IT READS IS OF BULK AT MOST 1048576: true; the input reads as it did. -/
def collectGraphUptoRow : OpenClaim := { program := "ytobniolmielikaa", sum := "ac5aae9e2ae8a975e6d403925dd21324551c500d0ec590fdf1245be2ff6c8364", func := "lazyc/lazyclaw40.CollectGraph", spec := "collectGraph", unfollowed := true, recurses := true, apart := false, narrowed := true }
def CollectGraphUptoSaid : Prop := collectGraphUptoRow.holds Try.pinned (OpenSpec.upto collectGraphSpec)

/-- 'lazyclaw40.CollectMajor', WHERE WHAT IT READS IS OF BULK AT MOST 1048576: true; the input reads as it did. -/
def collectMajorUptoRow : OpenClaim := { program := "ytobniolmielikaa", sum := "ac5aae9e2ae8a975e6d403925dd21324551c500d0ec590fdf1245be2ff6c8364", func := "lazyc/lazyclaw40.CollectMajor", spec := "collectMajor", unfollowed := true, recurses := true, apart := false, narrowed := true }
def CollectMajorUptoSaid : Prop := collectMajorUptoRow.holds Try.pinned (OpenSpec.upto collectMajorSpec)

/-- 'lazyclaw40.CollectIsomorphic', WHERE WHAT IT READS IS OF BULK AT MOST 1048576: true; the input reads as it did. -/
def collectIsomorphicUptoRow : OpenClaim := { program := "ytobniolmielikaa", sum := "ac5aae9e2ae8a975e6d403925dd21324551c500d0ec590fdf1245be2ff6c8364", func := "lazyc/lazyclaw40.CollectIsomorphic", spec := "collectIsomorphic", unfollowed := true, recurses := true, apart := false, narrowed := true }
def CollectIsomorphicUptoSaid : Prop := collectIsomorphicUptoRow.holds Try.pinned (OpenSpec.upto collectIsomorphicSpec)

/-- 'lazyclaw40.CollectMinor', WHERE WHAT IT READS IS OF BULK AT MOST 1048576: true; the input reads as it did. -/
def collectMinorUptoRow : OpenClaim := { program := "ytobniolmielikaa", sum := "ac5aae9e2ae8a975e6d403925dd21324551c500d0ec590fdf1245be2ff6c8364", func := "lazyc/lazyclaw40.CollectMinor", spec := "collectMinor", unfollowed := true, recurses := true, apart := false, narrowed := true }
def CollectMinorUptoSaid : Prop := collectMinorUptoRow.holds Try.pinned (OpenSpec.upto collectMinorSpec)

/-- 'lazyclaw40.CollectCompress', WHERE WHAT IT READS IS OF BULK AT MOST 1048576: true; the input reads as it did. -/
def collectCompressUptoRow : OpenClaim := { program := "ytobniolmielikaa", sum := "ac5aae9e2ae8a975e6d403925dd21324551c500d0ec590fdf1245be2ff6c8364", func := "lazyc/lazyclaw40.CollectCompress", spec := "collectCompress", unfollowed := true, recurses := true, apart := false, narrowed := true }
def CollectCompressUptoSaid : Prop := collectCompressUptoRow.holds Try.pinned (OpenSpec.upto collectCompressSpec)

/-- 'lazyclaw40.CollectIndirections', WHERE WHAT IT READS IS OF BULK AT MOST 1048576: true; the input reads as it did. -/
def collectIndirectionsUptoRow : OpenClaim := { program := "ytobniolmielikaa", sum := "ac5aae9e2ae8a975e6d403925dd21324551c500d0ec590fdf1245be2ff6c8364", func := "lazyc/lazyclaw40.CollectIndirections", spec := "collectIndirections", unfollowed := true, recurses := true, apart := false, narrowed := true }
def CollectIndirectionsUptoSaid : Prop := collectIndirectionsUptoRow.holds Try.pinned (OpenSpec.upto collectIndirectionsSpec)

end Rows
end Go.Proofs.Ytobniolmielikaa
