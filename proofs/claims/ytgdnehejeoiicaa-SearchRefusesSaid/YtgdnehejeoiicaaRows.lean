/-
  No cell of these rows narrows 'for every input' (looked for: loops, veiled, ifaces, maps, wideKeys, modest, calm, conditions, laid).
  DERIVED. THE GIVEN ROWS OF THIS SEAT. 2 by the template 'for every input the law returns true; each argument reads behind the call as it read before'; 0 by the template 'total and deterministic' (their statements: YtgdnehejeoiicaaTotals.lean).
  GIVEN WITH THE SEED: the statements are not yours to turn. If you find one false, say at which input.
  Laid BY PROGRAM, IN A SANDBOX (cutbox-rows.mjs): the forced cells as the released guide's own fill.sh prints them over the translation cfd3e77e2961ca52… (all of the seat's roots in one cut). By AI agents, Wed Nov 11 2026. No macro, syntax, notation, axiom, sorry.
-/
import Derived.Test.YtgdnehejeoiicaaChecked
import GoSem.Claim
import GoSem.ClaimJoined
import GoSem.ClaimMapViews
import Derived.JoinedTies
import Derived.KernelRfl
namespace Go.Proofs.Ytgdnehejeoiicaa
/- THE CELL 'sum', in the pinned program and in every row, IS THE sha256 OF THE DUMP (.gsa) THAT YtgdnehejeoiicaaProg.lean LOADS. Nothing in Lean hashes anything: it is a label: what it is worth is what the hold of that sum in a sandbox is worth. -/
noncomputable def Try.pinned : Pinned := { name := "ytgdnehejeoiicaa", sum := "cfd3e77e2961ca52da87f82d905b5d7d716c374f5be7b7d83ef22dcbd8a4ec84", checked := Try.checked }
namespace Rows
def none {H : Type} : Left H := { results := [], args := [] }

/-- 'fulcrumlaw22.SearchRefuses': WHATEVER THE INPUT: true; the input reads as it did. -/
def searchRefusesSpec : ChangeSpec := { name := "searchRefuses", fn := fun _ => fun
  | [d1, d2] => { results := [.lit (.bool true)], args := [d1, d2] }
  | _ => none }
def searchRefusesRow : OpenClaim := { program := "ytgdnehejeoiicaa", sum := "cfd3e77e2961ca52da87f82d905b5d7d716c374f5be7b7d83ef22dcbd8a4ec84", func := "fulcrum/fulcrumlaw22.SearchRefuses", spec := "searchRefuses", unfollowed := true, recurses := true, apart := false }
def SearchRefusesSaid : Prop := searchRefusesRow.holds Try.pinned (OpenSpec.ofChange searchRefusesSpec)

/-- ITS FALSE NEIGHBOUR: 'it returns false'. Refute it at one input. -/
def searchRefusesWrong : ChangeSpec := { name := "searchRefuses", fn := fun _ => fun
  | [d1, d2] => { results := [.lit (.bool false)], args := [d1, d2] }
  | _ => none }
def SearchRefusesWrongFalsely : Prop := searchRefusesRow.holds Try.pinned (OpenSpec.ofChange searchRefusesWrong)

/-- 'fulcrumlaw20.UnitsOwn': WHATEVER THE INPUT: true; the input reads as it did. -/
def unitsOwnSpec : ChangeSpec := { name := "unitsOwn", fn := fun _ => fun
  | [d] => { results := [.lit (.bool true)], args := [d] }
  | _ => none }
def unitsOwnRow : OpenClaim := { program := "ytgdnehejeoiicaa", sum := "cfd3e77e2961ca52da87f82d905b5d7d716c374f5be7b7d83ef22dcbd8a4ec84", func := "fulcrum/fulcrumlaw20.UnitsOwn", spec := "unitsOwn", unfollowed := true, recurses := true, apart := false }
def UnitsOwnSaid : Prop := unitsOwnRow.holds Try.pinned (OpenSpec.ofChange unitsOwnSpec)

/-- ITS FALSE NEIGHBOUR: 'it returns false'. Refute it at one input. -/
def unitsOwnWrong : ChangeSpec := { name := "unitsOwn", fn := fun _ => fun
  | [d] => { results := [.lit (.bool false)], args := [d] }
  | _ => none }
def UnitsOwnWrongFalsely : Prop := unitsOwnRow.holds Try.pinned (OpenSpec.ofChange unitsOwnWrong)

/- THE SECOND FORM. 'bulk': how many values and letters a reading holds, each counted each time it is reached (what is shared counts as often as it is met; a slice's spare places count too). A statement '..UptoSaid' is the law's where the arguments, and the package variables that the reading takes, are together of bulk at most 1048576: NARROWER than '..Said'. Prove '..Said' where nothing that the law and all that it calls make is longer than what came in: it says more and counts as full. Else prove '..UptoSaid'. A law counts once. -/
mutual
def uptoBulk {H : Type} : DataW H → Nat
  | .lit (.string bytes) => bytes.length + 1
  | .lit _ => 1
  | .nil => 1
  | .ptr d => uptoBulk d + 1
  | .slice elems spare => uptoBulkAll elems + uptoBulkAll spare + 1
  | .agg parts => uptoBulkAll parts + 1
  | .iface _ d => uptoBulk d + 1
  | .map entries => uptoBulkEntries entries + 1
  | .held _ => 1
def uptoBulkAll {H : Type} : List (DataW H) → Nat
  | [] => 0
  | d :: r => uptoBulk d + uptoBulkAll r
def uptoBulkEntries {H : Type} : List (Lit × DataW H) → Nat
  | [] => 0
  | x :: r => uptoBulkEntry x + uptoBulkEntries r
def uptoBulkEntry {H : Type} : Lit × DataW H → Nat
  | (.string bytes, d) => bytes.length + uptoBulk d + 1
  | (_, d) => uptoBulk d + 1
 end
def uptoSmall : (H : Type) → List (DataW H) → Bool := fun _ ds => decide (uptoBulkAll ds ≤ 1048576)
def OpenSpec.upto (s : _root_.Go.ChangeSpec) : _root_.Go.OpenSpec := { _root_.Go.OpenSpec.ofChange s with cond := some uptoSmall }

/-- 'fulcrumlaw22.SearchRefuses', WHERE WHAT IT READS IS OF BULK AT MOST 1048576: true; the input reads as it did. -/
def searchRefusesUptoRow : OpenClaim := { program := "ytgdnehejeoiicaa", sum := "cfd3e77e2961ca52da87f82d905b5d7d716c374f5be7b7d83ef22dcbd8a4ec84", func := "fulcrum/fulcrumlaw22.SearchRefuses", spec := "searchRefuses", unfollowed := true, recurses := true, apart := false, narrowed := true }
def SearchRefusesUptoSaid : Prop := searchRefusesUptoRow.holds Try.pinned (OpenSpec.upto searchRefusesSpec)

/-- 'fulcrumlaw20.UnitsOwn', WHERE WHAT IT READS IS OF BULK AT MOST 1048576: true; the input reads as it did. -/
def unitsOwnUptoRow : OpenClaim := { program := "ytgdnehejeoiicaa", sum := "cfd3e77e2961ca52da87f82d905b5d7d716c374f5be7b7d83ef22dcbd8a4ec84", func := "fulcrum/fulcrumlaw20.UnitsOwn", spec := "unitsOwn", unfollowed := true, recurses := true, apart := false, narrowed := true }
def UnitsOwnUptoSaid : Prop := unitsOwnUptoRow.holds Try.pinned (OpenSpec.upto unitsOwnSpec)

end Rows
end Go.Proofs.Ytgdnehejeoiicaa
