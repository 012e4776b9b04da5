/-
  NARROWER THAN 'FOR EVERY INPUT', by the rows' own cells (each row's printed sentence says how): HeapPuts: loops · HeapNil: loops · HeapReads: loops · HeapCmp: loops · HeapLoads: loops · CollectBlobs: loops.
  DERIVED. THE GIVEN ROWS OF THIS SEAT. 8 by the template 'for every input the law returns true; each argument reads behind the call as it read before'; 0 by the template 'total and deterministic' (their statements: YtpmephcfamcbjaaGreatTotals.lean).
  GIVEN WITH THE SEED: the statements are not yours to turn. If you find one false, say at which input.
  Laid BY PROGRAM, IN A SANDBOX (cutbox-rows.mjs): the forced cells as the released guide's own fill.sh prints them over the translation 6cd42105f2e5a02a… (all of the seat's roots in one cut). By AI agents, Wed Nov 11 2026. No macro, syntax, notation, axiom, sorry.
-/
import Derived.Test.YtpmephcfamcbjaaGreatChecked
import GoSem.Claim
import GoSem.ClaimJoined
import GoSem.ClaimMapViews
import Derived.JoinedTies
import Derived.KernelRfl
namespace Go.Proofs.YtpmephcfamcbjaaGreat
/- THE CELL 'sum', in the pinned program and in every row, IS THE sha256 OF THE DUMP (.gsa) THAT YtpmephcfamcbjaaGreatProg.lean LOADS. Nothing in Lean hashes anything: it is a label: what it is worth is what the hold of that sum in a sandbox is worth. -/
noncomputable def Tryz.pinned : Pinned := { name := "ytpmephcfamcbjaagreat", sum := "6cd42105f2e5a02aa5ccd1da3353da0891b2488da35c7f031fdbf5b759a05893", checked := Tryz.checked }
namespace Rows
def none {H : Type} : Left H := { results := [], args := [] }

/-- 'stagehandlaw23.HeapShape': WHATEVER THE INPUT: true; the input reads as it did. -/
def heapShapeSpec : ChangeSpec := { name := "heapShape", fn := fun _ => fun
  | [d] => { results := [.lit (.bool true)], args := [d] }
  | _ => none }
def heapShapeRow : OpenClaim := { program := "ytpmephcfamcbjaagreat", sum := "6cd42105f2e5a02aa5ccd1da3353da0891b2488da35c7f031fdbf5b759a05893", func := "stagehand/stagehandlaw23.HeapShape", spec := "heapShape", unfollowed := true, recurses := true, apart := false }
def HeapShapeSaid : Prop := heapShapeRow.holds Tryz.pinned (OpenSpec.ofChange heapShapeSpec)

/-- ITS FALSE NEIGHBOUR: 'it returns false'. Refute it at one input. -/
def heapShapeWrong : ChangeSpec := { name := "heapShape", fn := fun _ => fun
  | [d] => { results := [.lit (.bool false)], args := [d] }
  | _ => none }
def HeapShapeWrongFalsely : Prop := heapShapeRow.holds Tryz.pinned (OpenSpec.ofChange heapShapeWrong)

/-- 'stagehandlaw23.HeapKnown': WHATEVER THE INPUT: true; the input reads as it did. -/
def heapKnownSpec : ChangeSpec := { name := "heapKnown", fn := fun _ => fun
  | [] => { results := [.lit (.bool true)], args := [] }
  | _ => none }
def heapKnownRow : OpenClaim := { program := "ytpmephcfamcbjaagreat", sum := "6cd42105f2e5a02aa5ccd1da3353da0891b2488da35c7f031fdbf5b759a05893", func := "stagehand/stagehandlaw23.HeapKnown", spec := "heapKnown", unfollowed := true, recurses := true, apart := false }
def HeapKnownSaid : Prop := heapKnownRow.holds Tryz.pinned (OpenSpec.ofChange heapKnownSpec)

/-- ITS FALSE NEIGHBOUR: 'it returns false'. Refute it at one input. -/
def heapKnownWrong : ChangeSpec := { name := "heapKnown", fn := fun _ => fun
  | [] => { results := [.lit (.bool false)], args := [] }
  | _ => none }
def HeapKnownWrongFalsely : Prop := heapKnownRow.holds Tryz.pinned (OpenSpec.ofChange heapKnownWrong)

/-- 'stagehandlaw23.HeapPuts': WHATEVER THE INPUT: true; the input reads as it did. -/
def heapPutsSpec : ChangeSpec := { name := "heapPuts", fn := fun _ => fun
  | [d1, d2] => { results := [.lit (.bool true)], args := [d1, d2] }
  | _ => none }
def heapPutsRow : OpenClaim := { program := "ytpmephcfamcbjaagreat", sum := "6cd42105f2e5a02aa5ccd1da3353da0891b2488da35c7f031fdbf5b759a05893", func := "stagehand/stagehandlaw23.HeapPuts", spec := "heapPuts", unfollowed := true, recurses := true, loops := true, apart := false }
def HeapPutsSaid : Prop := heapPutsRow.holds Tryz.pinned (OpenSpec.ofChange heapPutsSpec)

/-- ITS FALSE NEIGHBOUR: 'it returns false'. Refute it at one input. -/
def heapPutsWrong : ChangeSpec := { name := "heapPuts", fn := fun _ => fun
  | [d1, d2] => { results := [.lit (.bool false)], args := [d1, d2] }
  | _ => none }
def HeapPutsWrongFalsely : Prop := heapPutsRow.holds Tryz.pinned (OpenSpec.ofChange heapPutsWrong)

/-- 'stagehandlaw23.HeapNil': WHATEVER THE INPUT: true; the input reads as it did. -/
def heapNilSpec : ChangeSpec := { name := "heapNil", fn := fun _ => fun
  | [d1, d2, d3] => { results := [.lit (.bool true)], args := [d1, d2, d3] }
  | _ => none }
def heapNilRow : OpenClaim := { program := "ytpmephcfamcbjaagreat", sum := "6cd42105f2e5a02aa5ccd1da3353da0891b2488da35c7f031fdbf5b759a05893", func := "stagehand/stagehandlaw23.HeapNil", spec := "heapNil", inPlace := ["internal/bytealg.abigen_runtime_cmpstring"], unfollowed := true, recurses := true, loops := true, apart := false }
def HeapNilSaid : Prop := heapNilRow.holds Tryz.pinned (OpenSpec.ofChange heapNilSpec)

/-- ITS FALSE NEIGHBOUR: 'it returns false'. Refute it at one input. -/
def heapNilWrong : ChangeSpec := { name := "heapNil", fn := fun _ => fun
  | [d1, d2, d3] => { results := [.lit (.bool false)], args := [d1, d2, d3] }
  | _ => none }
def HeapNilWrongFalsely : Prop := heapNilRow.holds Tryz.pinned (OpenSpec.ofChange heapNilWrong)

/-- 'stagehandlaw23.HeapReads': WHATEVER THE INPUT: true; the input reads as it did. -/
def heapReadsSpec : ChangeSpec := { name := "heapReads", fn := fun _ => fun
  | [d1, d2, d3] => { results := [.lit (.bool true)], args := [d1, d2, d3] }
  | _ => none }
def heapReadsRow : OpenClaim := { program := "ytpmephcfamcbjaagreat", sum := "6cd42105f2e5a02aa5ccd1da3353da0891b2488da35c7f031fdbf5b759a05893", func := "stagehand/stagehandlaw23.HeapReads", spec := "heapReads", unfollowed := true, recurses := true, loops := true, apart := false }
def HeapReadsSaid : Prop := heapReadsRow.holds Tryz.pinned (OpenSpec.ofChange heapReadsSpec)

/-- ITS FALSE NEIGHBOUR: 'it returns false'. Refute it at one input. -/
def heapReadsWrong : ChangeSpec := { name := "heapReads", fn := fun _ => fun
  | [d1, d2, d3] => { results := [.lit (.bool false)], args := [d1, d2, d3] }
  | _ => none }
def HeapReadsWrongFalsely : Prop := heapReadsRow.holds Tryz.pinned (OpenSpec.ofChange heapReadsWrong)

/-- 'stagehandlaw23.HeapCmp': WHATEVER THE INPUT: true; the input reads as it did. -/
def heapCmpSpec : ChangeSpec := { name := "heapCmp", fn := fun _ => fun
  | [d1, d2] => { results := [.lit (.bool true)], args := [d1, d2] }
  | _ => none }
def heapCmpRow : OpenClaim := { program := "ytpmephcfamcbjaagreat", sum := "6cd42105f2e5a02aa5ccd1da3353da0891b2488da35c7f031fdbf5b759a05893", func := "stagehand/stagehandlaw23.HeapCmp", spec := "heapCmp", inPlace := ["internal/bytealg.abigen_runtime_cmpstring"], unfollowed := true, recurses := true, loops := true, apart := false }
def HeapCmpSaid : Prop := heapCmpRow.holds Tryz.pinned (OpenSpec.ofChange heapCmpSpec)

/-- ITS FALSE NEIGHBOUR: 'it returns false'. Refute it at one input. -/
def heapCmpWrong : ChangeSpec := { name := "heapCmp", fn := fun _ => fun
  | [d1, d2] => { results := [.lit (.bool false)], args := [d1, d2] }
  | _ => none }
def HeapCmpWrongFalsely : Prop := heapCmpRow.holds Tryz.pinned (OpenSpec.ofChange heapCmpWrong)

/-- 'stagehandlaw23.HeapLoads': WHATEVER THE INPUT: true; the input reads as it did. -/
def heapLoadsSpec : ChangeSpec := { name := "heapLoads", fn := fun _ => fun
  | [d1, d2] => { results := [.lit (.bool true)], args := [d1, d2] }
  | _ => none }
def heapLoadsRow : OpenClaim := { program := "ytpmephcfamcbjaagreat", sum := "6cd42105f2e5a02aa5ccd1da3353da0891b2488da35c7f031fdbf5b759a05893", func := "stagehand/stagehandlaw23.HeapLoads", spec := "heapLoads", unfollowed := true, recurses := true, loops := true, apart := false }
def HeapLoadsSaid : Prop := heapLoadsRow.holds Tryz.pinned (OpenSpec.ofChange heapLoadsSpec)

/-- ITS FALSE NEIGHBOUR: 'it returns false'. Refute it at one input. -/
def heapLoadsWrong : ChangeSpec := { name := "heapLoads", fn := fun _ => fun
  | [d1, d2] => { results := [.lit (.bool false)], args := [d1, d2] }
  | _ => none }
def HeapLoadsWrongFalsely : Prop := heapLoadsRow.holds Tryz.pinned (OpenSpec.ofChange heapLoadsWrong)

/-- 'stagehandlaw24.CollectBlobs': WHATEVER THE INPUT: true; the input reads as it did. -/
def collectBlobsSpec : ChangeSpec := { name := "collectBlobs", fn := fun _ => fun
  | [d] => { results := [.lit (.bool true)], args := [d] }
  | _ => none }
def collectBlobsRow : OpenClaim := { program := "ytpmephcfamcbjaagreat", sum := "6cd42105f2e5a02aa5ccd1da3353da0891b2488da35c7f031fdbf5b759a05893", func := "stagehand/stagehandlaw24.CollectBlobs", spec := "collectBlobs", unfollowed := true, recurses := true, loops := true, apart := false }
def CollectBlobsSaid : Prop := collectBlobsRow.holds Tryz.pinned (OpenSpec.ofChange collectBlobsSpec)

/-- ITS FALSE NEIGHBOUR: 'it returns false'. Refute it at one input. -/
def collectBlobsWrong : ChangeSpec := { name := "collectBlobs", fn := fun _ => fun
  | [d] => { results := [.lit (.bool false)], args := [d] }
  | _ => none }
def CollectBlobsWrongFalsely : Prop := collectBlobsRow.holds Tryz.pinned (OpenSpec.ofChange collectBlobsWrong)

/- THE SECOND FORM. 'bulk': how many values and letters a reading holds, each counted each time it is reached (what is shared counts as often as it is met; a slice's spare places count too). A statement '..UptoSaid' is the law's where the arguments, and the package variables that the reading takes, are together of bulk at most 1048576: NARROWER than '..Said'. Prove '..Said' where nothing that the law and all that it calls make is longer than what came in: it says more and counts as full. Else prove '..UptoSaid'. A law counts once. -/
mutual
def uptoBulk {H : Type} : DataW H → Nat
  | .lit (.string bytes) => bytes.length + 1
  | .lit _ => 1
  | .nil => 1
  | .ptr d => uptoBulk d + 1
  | .slice elems spare => uptoBulkAll elems + uptoBulkAll spare + 1
  | .agg parts => uptoBulkAll parts + 1
  | .iface _ d => uptoBulk d + 1
  | .map entries => uptoBulkEntries entries + 1
  | .held _ => 1
def uptoBulkAll {H : Type} : List (DataW H) → Nat
  | [] => 0
  | d :: r => uptoBulk d + uptoBulkAll r
def uptoBulkEntries {H : Type} : List (Lit × DataW H) → Nat
  | [] => 0
  | x :: r => uptoBulkEntry x + uptoBulkEntries r
def uptoBulkEntry {H : Type} : Lit × DataW H → Nat
  | (.string bytes, d) => bytes.length + uptoBulk d + 1
  | (_, d) => uptoBulk d + 1
 end
def uptoSmall : (H : Type) → List (DataW H) → Bool := fun _ ds => decide (uptoBulkAll ds ≤ 1048576)
def OpenSpec.upto (s : _root_.Go.ChangeSpec) : _root_.Go.OpenSpec := { _root_.Go.OpenSpec.ofChange s with cond := some uptoSmall }

/-- 'stagehandlaw23.HeapShape', WHERE WHAT IT READS IS OF BULK AT MOST 1048576: true; the input reads as it did. -/
def heapShapeUptoRow : OpenClaim := { program := "ytpmephcfamcbjaagreat", sum := "6cd42105f2e5a02aa5ccd1da3353da0891b2488da35c7f031fdbf5b759a05893", func := "stagehand/stagehandlaw23.HeapShape", spec := "heapShape", unfollowed := true, recurses := true, apart := false, narrowed := true }
def HeapShapeUptoSaid : Prop := heapShapeUptoRow.holds Tryz.pinned (OpenSpec.upto heapShapeSpec)

/-- 'stagehandlaw23.HeapKnown', WHERE WHAT IT READS IS OF BULK AT MOST 1048576: true; the input reads as it did. -/
def heapKnownUptoRow : OpenClaim := { program := "ytpmephcfamcbjaagreat", sum := "6cd42105f2e5a02aa5ccd1da3353da0891b2488da35c7f031fdbf5b759a05893", func := "stagehand/stagehandlaw23.HeapKnown", spec := "heapKnown", unfollowed := true, recurses := true, apart := false, narrowed := true }
def HeapKnownUptoSaid : Prop := heapKnownUptoRow.holds Tryz.pinned (OpenSpec.upto heapKnownSpec)

/-- 'stagehandlaw23.HeapPuts', WHERE WHAT IT READS IS OF BULK AT MOST 1048576: true; the input reads as it did. -/
def heapPutsUptoRow : OpenClaim := { program := "ytpmephcfamcbjaagreat", sum := "6cd42105f2e5a02aa5ccd1da3353da0891b2488da35c7f031fdbf5b759a05893", func := "stagehand/stagehandlaw23.HeapPuts", spec := "heapPuts", unfollowed := true, recurses := true, loops := true, apart := false, narrowed := true }
def HeapPutsUptoSaid : Prop := heapPutsUptoRow.holds Tryz.pinned (OpenSpec.upto heapPutsSpec)

/-- 'stagehandlaw23.HeapNil', WHERE WHAT IT READS IS OF BULK AT MOST 1048576: true; the input reads as it did. -/
def heapNilUptoRow : OpenClaim := { program := "ytpmephcfamcbjaagreat", sum := "6cd42105f2e5a02aa5ccd1da3353da0891b2488da35c7f031fdbf5b759a05893", func := "stagehand/stagehandlaw23.HeapNil", spec := "heapNil", inPlace := ["internal/bytealg.abigen_runtime_cmpstring"], unfollowed := true, recurses := true, loops := true, apart := false, narrowed := true }
def HeapNilUptoSaid : Prop := heapNilUptoRow.holds Tryz.pinned (OpenSpec.upto heapNilSpec)

/-- 'stagehandlaw23.HeapReads', WHERE WHAT IT READS IS OF BULK AT MOST 1048576: true; the input reads as it did. -/
def heapReadsUptoRow : OpenClaim := { program := "ytpmephcfamcbjaagreat", sum := "6cd42105f2e5a02aa5ccd1da3353da0891b2488da35c7f031fdbf5b759a05893", func := "stagehand/stagehandlaw23.HeapReads", spec := "heapReads", unfollowed := true, recurses := true, loops := true, apart := false, narrowed := true }
def HeapReadsUptoSaid : Prop := heapReadsUptoRow.holds Tryz.pinned (OpenSpec.upto heapReadsSpec)

/-- 'stagehandlaw23.HeapCmp', WHERE WHAT IT READS IS OF BULK AT MOST 1048576: true; the input reads as it did. -/
def heapCmpUptoRow : OpenClaim := { program := "ytpmephcfamcbjaagreat", sum := "6cd42105f2e5a02aa5ccd1da3353da0891b2488da35c7f031fdbf5b759a05893", func := "stagehand/stagehandlaw23.HeapCmp", spec := "heapCmp", inPlace := ["internal/bytealg.abigen_runtime_cmpstring"], unfollowed := true, recurses := true, loops := true, apart := false, narrowed := true }
def HeapCmpUptoSaid : Prop := heapCmpUptoRow.holds Tryz.pinned (OpenSpec.upto heapCmpSpec)

/-- 'stagehandlaw23.HeapLoads', WHERE WHAT IT READS IS OF BULK AT MOST 1048576: true; the input reads as it did. -/
def heapLoadsUptoRow : OpenClaim := { program := "ytpmephcfamcbjaagreat", sum := "6cd42105f2e5a02aa5ccd1da3353da0891b2488da35c7f031fdbf5b759a05893", func := "stagehand/stagehandlaw23.HeapLoads", spec := "heapLoads", unfollowed := true, recurses := true, loops := true, apart := false, narrowed := true }
def HeapLoadsUptoSaid : Prop := heapLoadsUptoRow.holds Tryz.pinned (OpenSpec.upto heapLoadsSpec)

/-- 'stagehandlaw24.CollectBlobs', WHERE WHAT IT READS IS OF BULK AT MOST 1048576: true; the input reads as it did. -/
def collectBlobsUptoRow : OpenClaim := { program := "ytpmephcfamcbjaagreat", sum := "6cd42105f2e5a02aa5ccd1da3353da0891b2488da35c7f031fdbf5b759a05893", func := "stagehand/stagehandlaw24.CollectBlobs", spec := "collectBlobs", unfollowed := true, recurses := true, loops := true, apart := false, narrowed := true }
def CollectBlobsUptoSaid : Prop := collectBlobsUptoRow.holds Tryz.pinned (OpenSpec.upto collectBlobsSpec)

end Rows
end Go.Proofs.YtpmephcfamcbjaaGreat
