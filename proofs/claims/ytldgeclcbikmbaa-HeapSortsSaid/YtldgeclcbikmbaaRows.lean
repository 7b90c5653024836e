/-
  No cell of these rows narrows 'for every input' (looked for: loops, veiled, ifaces, maps, wideKeys, modest, calm, conditions, laid).
  DERIVED. THE GIVEN ROWS OF THIS SEAT. 4 by the template 'for every input the law returns true; each argument reads behind the call as it read before'; 0 by the template 'total and deterministic' (their statements: YtldgeclcbikmbaaTotals.lean).
  GIVEN WITH THE SEED: the statements are not yours to turn. If you find one false, say at which input.
  Laid BY PROGRAM, IN A SANDBOX (cutbox-rows.mjs): the forced cells as the released guide's own fill.sh prints them over the translation dbc7ebe5cac494f6… (all of the seat's roots in one cut). By AI agents, Wed Nov 11 2026. No macro, syntax, notation, axiom, sorry.
-/
import Derived.Test.YtldgeclcbikmbaaChecked
import GoSem.Claim
import GoSem.ClaimJoined
import GoSem.ClaimMapViews
import Derived.JoinedTies
import Derived.KernelRfl
namespace Go.Proofs.Ytldgeclcbikmbaa
/- THE CELL 'sum', in the pinned program and in every row, IS THE sha256 OF THE DUMP (.gsa) THAT YtldgeclcbikmbaaProg.lean LOADS. Nothing in Lean hashes anything: it is a label: what it is worth is what the hold of that sum in a sandbox is worth. -/
noncomputable def Try.pinned : Pinned := { name := "ytldgeclcbikmbaa", sum := "dbc7ebe5cac494f6b797a9ef4a3f6d4a0a100fc077fb99668f627019f8ff1bc3", checked := Try.checked }
namespace Rows
def none {H : Type} : Left H := { results := [], args := [] }

/-- 'fulcrumlaw19.HeapConsts': WHATEVER THE INPUT: true; the input reads as it did. -/
def heapConstsSpec : ChangeSpec := { name := "heapConsts", fn := fun _ => fun
  | [d] => { results := [.lit (.bool true)], args := [d] }
  | _ => none }
def heapConstsRow : OpenClaim := { program := "ytldgeclcbikmbaa", sum := "dbc7ebe5cac494f6b797a9ef4a3f6d4a0a100fc077fb99668f627019f8ff1bc3", func := "fulcrum/fulcrumlaw19.HeapConsts", spec := "heapConsts", unfollowed := true, recurses := true, apart := false }
def HeapConstsSaid : Prop := heapConstsRow.holds Try.pinned (OpenSpec.ofChange heapConstsSpec)

/-- ITS FALSE NEIGHBOUR: 'it returns false'. Refute it at one input. -/
def heapConstsWrong : ChangeSpec := { name := "heapConsts", fn := fun _ => fun
  | [d] => { results := [.lit (.bool false)], args := [d] }
  | _ => none }
def HeapConstsWrongFalsely : Prop := heapConstsRow.holds Try.pinned (OpenSpec.ofChange heapConstsWrong)

/-- 'fulcrumlaw19.HeapOwn': WHATEVER THE INPUT: true; the input reads as it did. -/
def heapOwnSpec : ChangeSpec := { name := "heapOwn", fn := fun _ => fun
  | [d1, d2] => { results := [.lit (.bool true)], args := [d1, d2] }
  | _ => none }
def heapOwnRow : OpenClaim := { program := "ytldgeclcbikmbaa", sum := "dbc7ebe5cac494f6b797a9ef4a3f6d4a0a100fc077fb99668f627019f8ff1bc3", func := "fulcrum/fulcrumlaw19.HeapOwn", spec := "heapOwn", unfollowed := true, recurses := true, apart := false }
def HeapOwnSaid : Prop := heapOwnRow.holds Try.pinned (OpenSpec.ofChange heapOwnSpec)

/-- ITS FALSE NEIGHBOUR: 'it returns false'. Refute it at one input. -/
def heapOwnWrong : ChangeSpec := { name := "heapOwn", fn := fun _ => fun
  | [d1, d2] => { results := [.lit (.bool false)], args := [d1, d2] }
  | _ => none }
def HeapOwnWrongFalsely : Prop := heapOwnRow.holds Try.pinned (OpenSpec.ofChange heapOwnWrong)

/-- 'fulcrumlaw19.HeapFinite': WHATEVER THE INPUT: true; the input reads as it did. -/
def heapFiniteSpec : ChangeSpec := { name := "heapFinite", fn := fun _ => fun
  | [d1, d2] => { results := [.lit (.bool true)], args := [d1, d2] }
  | _ => none }
def heapFiniteRow : OpenClaim := { program := "ytldgeclcbikmbaa", sum := "dbc7ebe5cac494f6b797a9ef4a3f6d4a0a100fc077fb99668f627019f8ff1bc3", func := "fulcrum/fulcrumlaw19.HeapFinite", spec := "heapFinite", unfollowed := true, recurses := true, apart := false }
def HeapFiniteSaid : Prop := heapFiniteRow.holds Try.pinned (OpenSpec.ofChange heapFiniteSpec)

/-- ITS FALSE NEIGHBOUR: 'it returns false'. Refute it at one input. -/
def heapFiniteWrong : ChangeSpec := { name := "heapFinite", fn := fun _ => fun
  | [d1, d2] => { results := [.lit (.bool false)], args := [d1, d2] }
  | _ => none }
def HeapFiniteWrongFalsely : Prop := heapFiniteRow.holds Try.pinned (OpenSpec.ofChange heapFiniteWrong)

/-- 'fulcrumlaw19.HeapSorts': WHATEVER THE INPUT: true; the input reads as it did. -/
def heapSortsSpec : ChangeSpec := { name := "heapSorts", fn := fun _ => fun
  | [d1, d2] => { results := [.lit (.bool true)], args := [d1, d2] }
  | _ => none }
def heapSortsRow : OpenClaim := { program := "ytldgeclcbikmbaa", sum := "dbc7ebe5cac494f6b797a9ef4a3f6d4a0a100fc077fb99668f627019f8ff1bc3", func := "fulcrum/fulcrumlaw19.HeapSorts", spec := "heapSorts", unfollowed := true, recurses := true, apart := false }
def HeapSortsSaid : Prop := heapSortsRow.holds Try.pinned (OpenSpec.ofChange heapSortsSpec)

/-- ITS FALSE NEIGHBOUR: 'it returns false'. Refute it at one input. -/
def heapSortsWrong : ChangeSpec := { name := "heapSorts", fn := fun _ => fun
  | [d1, d2] => { results := [.lit (.bool false)], args := [d1, d2] }
  | _ => none }
def HeapSortsWrongFalsely : Prop := heapSortsRow.holds Try.pinned (OpenSpec.ofChange heapSortsWrong)

/- THE SECOND FORM. 'bulk': how many values and letters a reading holds, each counted each time it is reached (what is shared counts as often as it is met; a slice's spare places count too). A statement '..UptoSaid' is the law's where the arguments, and the package variables that the reading takes, are together of bulk at most 1048576: NARROWER than '..Said'. Prove '..Said' where nothing that the law and all that it calls make is longer than what came in: it says more and counts as full. Else prove '..UptoSaid'. A law counts once. -/
mutual
def uptoBulk {H : Type} : DataW H → Nat
  | .lit (.string bytes) => bytes.length + 1
  | .lit _ => 1
  | .nil => 1
  | .ptr d => uptoBulk d + 1
  | .slice elems spare => uptoBulkAll elems + uptoBulkAll spare + 1
  | .agg parts => uptoBulkAll parts + 1
  | .iface _ d => uptoBulk d + 1
  | .map entries => uptoBulkEntries entries + 1
  | .held _ => 1
def uptoBulkAll {H : Type} : List (DataW H) → Nat
  | [] => 0
  | d :: r => uptoBulk d + uptoBulkAll r
def uptoBulkEntries {H : Type} : List (Lit × DataW H) → Nat
  | [] => 0
  | x :: r => uptoBulkEntry x + uptoBulkEntries r
def uptoBulkEntry {H : Type} : Lit × DataW H → Nat
  | (.string bytes, d) => bytes.length + uptoBulk d + 1
  | (_, d) => uptoBulk d + 1
 end
def uptoSmall : (H : Type) → List (DataW H) → Bool := fun _ ds => decide (uptoBulkAll ds ≤ 1048576)
def OpenSpec.upto (s : _root_.Go.ChangeSpec) : _root_.Go.OpenSpec := { _root_.Go.OpenSpec.ofChange s with cond := some uptoSmall }

/-- 'fulcrumlaw19.HeapConsts', WHERE WHAT IT READS IS OF BULK AT MOST 1048576: true; the input reads as it did. -/
def heapConstsUptoRow : OpenClaim := { program := "ytldgeclcbikmbaa", sum := "dbc7ebe5cac494f6b797a9ef4a3f6d4a0a100fc077fb99668f627019f8ff1bc3", func := "fulcrum/fulcrumlaw19.HeapConsts", spec := "heapConsts", unfollowed := true, recurses := true, apart := false, narrowed := true }
def HeapConstsUptoSaid : Prop := heapConstsUptoRow.holds Try.pinned (OpenSpec.upto heapConstsSpec)

/-- 'fulcrumlaw19.HeapOwn', WHERE WHAT IT READS IS OF BULK AT MOST 1048576: true; the input reads as it did. -/
def heapOwnUptoRow : OpenClaim := { program := "ytldgeclcbikmbaa", sum := "dbc7ebe5cac494f6b797a9ef4a3f6d4a0a100fc077fb99668f627019f8ff1bc3", func := "fulcrum/fulcrumlaw19.HeapOwn", spec := "heapOwn", unfollowed := true, recurses := true, apart := false, narrowed := true }
def HeapOwnUptoSaid : Prop := heapOwnUptoRow.holds Try.pinned (OpenSpec.upto heapOwnSpec)

/-- 'fulcrumlaw19.HeapFinite', WHERE WHAT IT READS IS OF BULK AT MOST 1048576: true; the input reads as it did. -/
def heapFiniteUptoRow : OpenClaim := { program := "ytldgeclcbikmbaa", sum := "dbc7ebe5cac494f6b797a9ef4a3f6d4a0a100fc077fb99668f627019f8ff1bc3", func := "fulcrum/fulcrumlaw19.HeapFinite", spec := "heapFinite", unfollowed := true, recurses := true, apart := false, narrowed := true }
def HeapFiniteUptoSaid : Prop := heapFiniteUptoRow.holds Try.pinned (OpenSpec.upto heapFiniteSpec)

/-- 'fulcrumlaw19.HeapSorts', WHERE WHAT IT READS IS OF BULK AT MOST 1048576: true; the input reads as it did. -/
def heapSortsUptoRow : OpenClaim := { program := "ytldgeclcbikmbaa", sum := "dbc7ebe5cac494f6b797a9ef4a3f6d4a0a100fc077fb99668f627019f8ff1bc3", func := "fulcrum/fulcrumlaw19.HeapSorts", spec := "heapSorts", unfollowed := true, recurses := true, apart := false, narrowed := true }
def HeapSortsUptoSaid : Prop := heapSortsUptoRow.holds Try.pinned (OpenSpec.upto heapSortsSpec)

end Rows
end Go.Proofs.Ytldgeclcbikmbaa
