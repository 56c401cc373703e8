/-
  No cell of these rows narrows 'for every input' (looked for: loops, veiled, ifaces, maps, wideKeys, modest, calm, conditions, laid).
  DERIVED. THE GIVEN ROWS OF THIS SEAT. 3 by the template 'for every input the law returns true; each argument reads behind the call as it read before'; 0 by the template 'total and deterministic' (their statements: YtmmipjlogdggiaaTotals.lean).
  GIVEN WITH THE SEED: the statements are not yours to turn. If you find one false, say at which input.
  Laid BY PROGRAM, IN A SANDBOX (cutbox-rows.mjs): the forced cells as the released guide's own fill.sh prints them over the translation f52390f014d649f9… (all of the seat's roots in one cut). By AI agents, Wed Nov 11 2026. No macro, syntax, notation, axiom, sorry.
-/
import Derived.Test.YtmmipjlogdggiaaChecked
import GoSem.Claim
import GoSem.ClaimJoined
import GoSem.ClaimMapViews
import Derived.JoinedTies
import Derived.KernelRfl
namespace Go.Proofs.Ytmmipjlogdggiaa
/- THE CELL 'sum', in the pinned program and in every row, IS THE sha256 OF THE DUMP (.gsa) THAT YtmmipjlogdggiaaProg.lean LOADS. Nothing in Lean hashes anything: it is a label: what it is worth is what the hold of that sum in a sandbox is worth. -/
noncomputable def Try.pinned : Pinned := { name := "ytmmipjlogdggiaa", sum := "f52390f014d649f9383284b3f669e6286aff721d913f9cd9d1fb4dcda14f89bd", checked := Try.checked }
namespace Rows
def none {H : Type} : Left H := { results := [], args := [] }

/-- 'laws.FnExecAll': WHATEVER THE INPUT: true; the input reads as it did. -/
def fnExecAllSpec : ChangeSpec := { name := "fnExecAll", fn := fun _ => fun
  | [d] => { results := [.lit (.bool true)], args := [d] }
  | _ => none }
def fnExecAllRow : OpenClaim := { program := "ytmmipjlogdggiaa", sum := "f52390f014d649f9383284b3f669e6286aff721d913f9cd9d1fb4dcda14f89bd", func := "loop.example/fathomline/laws.FnExecAll", spec := "fnExecAll", unfollowed := true, recurses := true, apart := false }
def FnExecAllSaid : Prop := fnExecAllRow.holds Try.pinned (OpenSpec.ofChange fnExecAllSpec)

/-- ITS FALSE NEIGHBOUR: 'it returns false'. Refute it at one input. -/
def fnExecAllWrong : ChangeSpec := { name := "fnExecAll", fn := fun _ => fun
  | [d] => { results := [.lit (.bool false)], args := [d] }
  | _ => none }
def FnExecAllWrongFalsely : Prop := fnExecAllRow.holds Try.pinned (OpenSpec.ofChange fnExecAllWrong)

/-- 'laws.FnOrderHas': WHATEVER THE INPUT: true; the input reads as it did. -/
def fnOrderHasSpec : ChangeSpec := { name := "fnOrderHas", fn := fun _ => fun
  | [d] => { results := [.lit (.bool true)], args := [d] }
  | _ => none }
def fnOrderHasRow : OpenClaim := { program := "ytmmipjlogdggiaa", sum := "f52390f014d649f9383284b3f669e6286aff721d913f9cd9d1fb4dcda14f89bd", func := "loop.example/fathomline/laws.FnOrderHas", spec := "fnOrderHas", unfollowed := true, recurses := true, apart := false }
def FnOrderHasSaid : Prop := fnOrderHasRow.holds Try.pinned (OpenSpec.ofChange fnOrderHasSpec)

/-- ITS FALSE NEIGHBOUR: 'it returns false'. Refute it at one input. -/
def fnOrderHasWrong : ChangeSpec := { name := "fnOrderHas", fn := fun _ => fun
  | [d] => { results := [.lit (.bool false)], args := [d] }
  | _ => none }
def FnOrderHasWrongFalsely : Prop := fnOrderHasRow.holds Try.pinned (OpenSpec.ofChange fnOrderHasWrong)

/-- 'laws.FnOrderNested': WHATEVER THE INPUT: true; the input reads as it did. -/
def fnOrderNestedSpec : ChangeSpec := { name := "fnOrderNested", fn := fun _ => fun
  | [d] => { results := [.lit (.bool true)], args := [d] }
  | _ => none }
def fnOrderNestedRow : OpenClaim := { program := "ytmmipjlogdggiaa", sum := "f52390f014d649f9383284b3f669e6286aff721d913f9cd9d1fb4dcda14f89bd", func := "loop.example/fathomline/laws.FnOrderNested", spec := "fnOrderNested", unfollowed := true, recurses := true, apart := false }
def FnOrderNestedSaid : Prop := fnOrderNestedRow.holds Try.pinned (OpenSpec.ofChange fnOrderNestedSpec)

/-- ITS FALSE NEIGHBOUR: 'it returns false'. Refute it at one input. -/
def fnOrderNestedWrong : ChangeSpec := { name := "fnOrderNested", fn := fun _ => fun
  | [d] => { results := [.lit (.bool false)], args := [d] }
  | _ => none }
def FnOrderNestedWrongFalsely : Prop := fnOrderNestedRow.holds Try.pinned (OpenSpec.ofChange fnOrderNestedWrong)

/- THE SECOND FORM. 'bulk': how many values and letters a reading holds, each counted each time it is reached (what is shared counts as often as it is met; a slice's spare places count too). A statement '..UptoSaid' is the law's where the arguments, and the package variables that the reading takes, are together of bulk at most 1048576: NARROWER than '..Said'. Prove '..Said' where nothing that the law and all that it calls make is longer than what came in: it says more and counts as full. Else prove '..UptoSaid'. A law counts once. -/
mutual
def uptoBulk {H : Type} : DataW H → Nat
  | .lit (.string bytes) => bytes.length + 1
  | .lit _ => 1
  | .nil => 1
  | .ptr d => uptoBulk d + 1
  | .slice elems spare => uptoBulkAll elems + uptoBulkAll spare + 1
  | .agg parts => uptoBulkAll parts + 1
  | .iface _ d => uptoBulk d + 1
  | .map entries => uptoBulkEntries entries + 1
  | .held _ => 1
def uptoBulkAll {H : Type} : List (DataW H) → Nat
  | [] => 0
  | d :: r => uptoBulk d + uptoBulkAll r
def uptoBulkEntries {H : Type} : List (Lit × DataW H) → Nat
  | [] => 0
  | x :: r => uptoBulkEntry x + uptoBulkEntries r
def uptoBulkEntry {H : Type} : Lit × DataW H → Nat
  | (.string bytes, d) => bytes.length + uptoBulk d + 1
  | (_, d) => uptoBulk d + 1
 end
def uptoSmall : (H : Type) → List (DataW H) → Bool := fun _ ds => decide (uptoBulkAll ds ≤ 1048576)
def OpenSpec.upto (s : _root_.Go.ChangeSpec) : _root_.Go.OpenSpec := { _root_.Go.OpenSpec.ofChange s with cond := some uptoSmall }

/-- 'laws.FnExecAll', WHERE WHAT IT READS IS OF BULK AT MOST 1048576: true; the input reads as it did. -/
def fnExecAllUptoRow : OpenClaim := { program := "ytmmipjlogdggiaa", sum := "f52390f014d649f9383284b3f669e6286aff721d913f9cd9d1fb4dcda14f89bd", func := "loop.example/fathomline/laws.FnExecAll", spec := "fnExecAll", unfollowed := true, recurses := true, apart := false, narrowed := true }
def FnExecAllUptoSaid : Prop := fnExecAllUptoRow.holds Try.pinned (OpenSpec.upto fnExecAllSpec)

/-- 'laws.FnOrderHas', WHERE WHAT IT READS IS OF BULK AT MOST 1048576: true; the input reads as it did. -/
def fnOrderHasUptoRow : OpenClaim := { program := "ytmmipjlogdggiaa", sum := "f52390f014d649f9383284b3f669e6286aff721d913f9cd9d1fb4dcda14f89bd", func := "loop.example/fathomline/laws.FnOrderHas", spec := "fnOrderHas", unfollowed := true, recurses := true, apart := false, narrowed := true }
def FnOrderHasUptoSaid : Prop := fnOrderHasUptoRow.holds Try.pinned (OpenSpec.upto fnOrderHasSpec)

/-- 'laws.FnOrderNested', WHERE WHAT IT READS IS OF BULK AT MOST 1048576: true; the input reads as it did. -/
def fnOrderNestedUptoRow : OpenClaim := { program := "ytmmipjlogdggiaa", sum := "f52390f014d649f9383284b3f669e6286aff721d913f9cd9d1fb4dcda14f89bd", func := "loop.example/fathomline/laws.FnOrderNested", spec := "fnOrderNested", unfollowed := true, recurses := true, apart := false, narrowed := true }
def FnOrderNestedUptoSaid : Prop := fnOrderNestedUptoRow.holds Try.pinned (OpenSpec.upto fnOrderNestedSpec)

end Rows
end Go.Proofs.Ytmmipjlogdggiaa
