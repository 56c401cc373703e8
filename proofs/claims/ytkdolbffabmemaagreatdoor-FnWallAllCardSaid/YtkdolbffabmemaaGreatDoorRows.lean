/-
  NARROWER THAN 'FOR EVERY INPUT', by the rows' own cells (each row's printed sentence says how): FnOrderSome: laid · FnOrderRead: laid · FnOrderReader: laid · FnOrderStore: laid · FnOrderInside: laid · FnOrderWall: laid · FnOrderWaitWall: laid · FnWallAll: laid.
  DERIVED. THE GIVEN ROWS OF THIS SEAT. 8 by the template 'for every input the law returns true; each argument reads behind the call as it read before'; 0 by the template 'total and deterministic' (their statements: YtkdolbffabmemaaGreatDoorTotals.lean).
  GIVEN WITH THE SEED: the statements are not yours to turn. If you find one false, say at which input.
  Laid BY PROGRAM, IN A SANDBOX (cutbox-rows.mjs): the forced cells as the released guide's own fill.sh prints them over the translation 9ff4943b7fea2992… (all of the seat's roots in one cut). By AI agents, Wed Nov 11 2026. No macro, syntax, notation, axiom, sorry.
-/
import Derived.Test.YtkdolbffabmemaaGreatDoorChecked
import GoSem.Claim
import GoSem.ClaimJoined
import GoSem.ClaimMapViews
import Derived.JoinedTies
import Derived.KernelRfl
namespace Go.Proofs.YtkdolbffabmemaaGreatDoor
/- THE CELL 'sum', in the pinned program and in every row, IS THE sha256 OF THE DUMP (.gsa) THAT YtkdolbffabmemaaGreatDoorProg.lean LOADS. Nothing in Lean hashes anything: it is a label: what it is worth is what the hold of that sum in a sandbox is worth. -/
noncomputable def Tryz.pinned : Pinned := { name := "ytkdolbffabmemaagreatdoor", sum := "9ff4943b7fea29924bb5de98d3e9a65c0bd96361a6918a445e278b7aef881c15", checked := Tryz.checked }
namespace Rows
def none {H : Type} : Left H := { results := [], args := [] }

/- WHAT THE LISTED PACKAGE-LEVEL VARIABLES READ AS WHEN THE CALL BEGINS. Each datum BY PROGRAM (the guide's laid-datum.mjs) off the statement by which the dump's own 'gosem.cut.vars' lays the variable. In a bare row this is a premise. The card (YtkdolbffabmemaaGreatDoorCards.lean) ties it to the program's text. -/
def laid_math_bits_deBruijn64tab {H : Type} : DataW H := .agg [.lit (.int .u8 0), .lit (.int .u8 1), .lit (.int .u8 56), .lit (.int .u8 2), .lit (.int .u8 57), .lit (.int .u8 49), .lit (.int .u8 28), .lit (.int .u8 3), .lit (.int .u8 61), .lit (.int .u8 58), .lit (.int .u8 42), .lit (.int .u8 50), .lit (.int .u8 38), .lit (.int .u8 29), .lit (.int .u8 17), .lit (.int .u8 4), .lit (.int .u8 62), .lit (.int .u8 47), .lit (.int .u8 59), .lit (.int .u8 36), .lit (.int .u8 45), .lit (.int .u8 43), .lit (.int .u8 51), .lit (.int .u8 22), .lit (.int .u8 53), .lit (.int .u8 39), .lit (.int .u8 33), .lit (.int .u8 30), .lit (.int .u8 24), .lit (.int .u8 18), .lit (.int .u8 12), .lit (.int .u8 5), .lit (.int .u8 63), .lit (.int .u8 55), .lit (.int .u8 48), .lit (.int .u8 27), .lit (.int .u8 60), .lit (.int .u8 41), .lit (.int .u8 37), .lit (.int .u8 16), .lit (.int .u8 46), .lit (.int .u8 35), .lit (.int .u8 44), .lit (.int .u8 21), .lit (.int .u8 52), .lit (.int .u8 32), .lit (.int .u8 23), .lit (.int .u8 11), .lit (.int .u8 54), .lit (.int .u8 26), .lit (.int .u8 40), .lit (.int .u8 15), .lit (.int .u8 34), .lit (.int .u8 20), .lit (.int .u8 31), .lit (.int .u8 10), .lit (.int .u8 25), .lit (.int .u8 14), .lit (.int .u8 19), .lit (.int .u8 9), .lit (.int .u8 13), .lit (.int .u8 8), .lit (.int .u8 7), .lit (.int .u8 6)]

/-- 'laws.FnOrderSome': WHATEVER THE INPUT: true; the input reads as it did. -/
def fnOrderSomeSpec : ChangeSpec := { name := "fnOrderSome", fn := fun _ => fun
  | [d] => { results := [.lit (.bool true)], args := [d] }
  | _ => none }
def fnOrderSomeRow : OpenClaim := { program := "ytkdolbffabmemaagreatdoor", sum := "9ff4943b7fea29924bb5de98d3e9a65c0bd96361a6918a445e278b7aef881c15", func := "loop.example/fathomline/laws.FnOrderSome", spec := "fnOrderSome", unfollowed := true, recurses := true, named := ["math/bits.deBruijn64tab"], apart := false, laid := [("math/bits.deBruijn64tab", laid_math_bits_deBruijn64tab)] }
def FnOrderSomeSaid : Prop := fnOrderSomeRow.holds Tryz.pinned (OpenSpec.ofChange fnOrderSomeSpec)

/-- ITS FALSE NEIGHBOUR: 'it returns false'. Refute it at one input. -/
def fnOrderSomeWrong : ChangeSpec := { name := "fnOrderSome", fn := fun _ => fun
  | [d] => { results := [.lit (.bool false)], args := [d] }
  | _ => none }
def FnOrderSomeWrongFalsely : Prop := fnOrderSomeRow.holds Tryz.pinned (OpenSpec.ofChange fnOrderSomeWrong)

/-- 'laws.FnOrderRead': WHATEVER THE INPUT: true; the input reads as it did. -/
def fnOrderReadSpec : ChangeSpec := { name := "fnOrderRead", fn := fun _ => fun
  | [d] => { results := [.lit (.bool true)], args := [d] }
  | _ => none }
def fnOrderReadRow : OpenClaim := { program := "ytkdolbffabmemaagreatdoor", sum := "9ff4943b7fea29924bb5de98d3e9a65c0bd96361a6918a445e278b7aef881c15", func := "loop.example/fathomline/laws.FnOrderRead", spec := "fnOrderRead", unfollowed := true, recurses := true, named := ["math/bits.deBruijn64tab"], apart := false, laid := [("math/bits.deBruijn64tab", laid_math_bits_deBruijn64tab)] }
def FnOrderReadSaid : Prop := fnOrderReadRow.holds Tryz.pinned (OpenSpec.ofChange fnOrderReadSpec)

/-- ITS FALSE NEIGHBOUR: 'it returns false'. Refute it at one input. -/
def fnOrderReadWrong : ChangeSpec := { name := "fnOrderRead", fn := fun _ => fun
  | [d] => { results := [.lit (.bool false)], args := [d] }
  | _ => none }
def FnOrderReadWrongFalsely : Prop := fnOrderReadRow.holds Tryz.pinned (OpenSpec.ofChange fnOrderReadWrong)

/-- 'laws.FnOrderReader': WHATEVER THE INPUT: true; the input reads as it did. -/
def fnOrderReaderSpec : ChangeSpec := { name := "fnOrderReader", fn := fun _ => fun
  | [d1, d2] => { results := [.lit (.bool true)], args := [d1, d2] }
  | _ => none }
def fnOrderReaderRow : OpenClaim := { program := "ytkdolbffabmemaagreatdoor", sum := "9ff4943b7fea29924bb5de98d3e9a65c0bd96361a6918a445e278b7aef881c15", func := "loop.example/fathomline/laws.FnOrderReader", spec := "fnOrderReader", unfollowed := true, recurses := true, named := ["math/bits.deBruijn64tab"], apart := false, laid := [("math/bits.deBruijn64tab", laid_math_bits_deBruijn64tab)] }
def FnOrderReaderSaid : Prop := fnOrderReaderRow.holds Tryz.pinned (OpenSpec.ofChange fnOrderReaderSpec)

/-- ITS FALSE NEIGHBOUR: 'it returns false'. Refute it at one input. -/
def fnOrderReaderWrong : ChangeSpec := { name := "fnOrderReader", fn := fun _ => fun
  | [d1, d2] => { results := [.lit (.bool false)], args := [d1, d2] }
  | _ => none }
def FnOrderReaderWrongFalsely : Prop := fnOrderReaderRow.holds Tryz.pinned (OpenSpec.ofChange fnOrderReaderWrong)

/-- 'laws.FnOrderStore': WHATEVER THE INPUT: true; the input reads as it did. -/
def fnOrderStoreSpec : ChangeSpec := { name := "fnOrderStore", fn := fun _ => fun
  | [d] => { results := [.lit (.bool true)], args := [d] }
  | _ => none }
def fnOrderStoreRow : OpenClaim := { program := "ytkdolbffabmemaagreatdoor", sum := "9ff4943b7fea29924bb5de98d3e9a65c0bd96361a6918a445e278b7aef881c15", func := "loop.example/fathomline/laws.FnOrderStore", spec := "fnOrderStore", unfollowed := true, recurses := true, named := ["math/bits.deBruijn64tab"], apart := false, laid := [("math/bits.deBruijn64tab", laid_math_bits_deBruijn64tab)] }
def FnOrderStoreSaid : Prop := fnOrderStoreRow.holds Tryz.pinned (OpenSpec.ofChange fnOrderStoreSpec)

/-- ITS FALSE NEIGHBOUR: 'it returns false'. Refute it at one input. -/
def fnOrderStoreWrong : ChangeSpec := { name := "fnOrderStore", fn := fun _ => fun
  | [d] => { results := [.lit (.bool false)], args := [d] }
  | _ => none }
def FnOrderStoreWrongFalsely : Prop := fnOrderStoreRow.holds Tryz.pinned (OpenSpec.ofChange fnOrderStoreWrong)

/-- 'laws.FnOrderInside': WHATEVER THE INPUT: true; the input reads as it did. -/
def fnOrderInsideSpec : ChangeSpec := { name := "fnOrderInside", fn := fun _ => fun
  | [d1, d2] => { results := [.lit (.bool true)], args := [d1, d2] }
  | _ => none }
def fnOrderInsideRow : OpenClaim := { program := "ytkdolbffabmemaagreatdoor", sum := "9ff4943b7fea29924bb5de98d3e9a65c0bd96361a6918a445e278b7aef881c15", func := "loop.example/fathomline/laws.FnOrderInside", spec := "fnOrderInside", unfollowed := true, recurses := true, named := ["math/bits.deBruijn64tab"], apart := false, laid := [("math/bits.deBruijn64tab", laid_math_bits_deBruijn64tab)] }
def FnOrderInsideSaid : Prop := fnOrderInsideRow.holds Tryz.pinned (OpenSpec.ofChange fnOrderInsideSpec)

/-- ITS FALSE NEIGHBOUR: 'it returns false'. Refute it at one input. -/
def fnOrderInsideWrong : ChangeSpec := { name := "fnOrderInside", fn := fun _ => fun
  | [d1, d2] => { results := [.lit (.bool false)], args := [d1, d2] }
  | _ => none }
def FnOrderInsideWrongFalsely : Prop := fnOrderInsideRow.holds Tryz.pinned (OpenSpec.ofChange fnOrderInsideWrong)

/-- 'laws.FnOrderWall': WHATEVER THE INPUT: true; the input reads as it did. -/
def fnOrderWallSpec : ChangeSpec := { name := "fnOrderWall", fn := fun _ => fun
  | [d1, d2] => { results := [.lit (.bool true)], args := [d1, d2] }
  | _ => none }
def fnOrderWallRow : OpenClaim := { program := "ytkdolbffabmemaagreatdoor", sum := "9ff4943b7fea29924bb5de98d3e9a65c0bd96361a6918a445e278b7aef881c15", func := "loop.example/fathomline/laws.FnOrderWall", spec := "fnOrderWall", unfollowed := true, recurses := true, named := ["math/bits.deBruijn64tab"], apart := false, laid := [("math/bits.deBruijn64tab", laid_math_bits_deBruijn64tab)] }
def FnOrderWallSaid : Prop := fnOrderWallRow.holds Tryz.pinned (OpenSpec.ofChange fnOrderWallSpec)

/-- ITS FALSE NEIGHBOUR: 'it returns false'. Refute it at one input. -/
def fnOrderWallWrong : ChangeSpec := { name := "fnOrderWall", fn := fun _ => fun
  | [d1, d2] => { results := [.lit (.bool false)], args := [d1, d2] }
  | _ => none }
def FnOrderWallWrongFalsely : Prop := fnOrderWallRow.holds Tryz.pinned (OpenSpec.ofChange fnOrderWallWrong)

/-- 'laws.FnOrderWaitWall': WHATEVER THE INPUT: true; the input reads as it did. -/
def fnOrderWaitWallSpec : ChangeSpec := { name := "fnOrderWaitWall", fn := fun _ => fun
  | [d1, d2] => { results := [.lit (.bool true)], args := [d1, d2] }
  | _ => none }
def fnOrderWaitWallRow : OpenClaim := { program := "ytkdolbffabmemaagreatdoor", sum := "9ff4943b7fea29924bb5de98d3e9a65c0bd96361a6918a445e278b7aef881c15", func := "loop.example/fathomline/laws.FnOrderWaitWall", spec := "fnOrderWaitWall", unfollowed := true, recurses := true, named := ["math/bits.deBruijn64tab"], apart := false, laid := [("math/bits.deBruijn64tab", laid_math_bits_deBruijn64tab)] }
def FnOrderWaitWallSaid : Prop := fnOrderWaitWallRow.holds Tryz.pinned (OpenSpec.ofChange fnOrderWaitWallSpec)

/-- ITS FALSE NEIGHBOUR: 'it returns false'. Refute it at one input. -/
def fnOrderWaitWallWrong : ChangeSpec := { name := "fnOrderWaitWall", fn := fun _ => fun
  | [d1, d2] => { results := [.lit (.bool false)], args := [d1, d2] }
  | _ => none }
def FnOrderWaitWallWrongFalsely : Prop := fnOrderWaitWallRow.holds Tryz.pinned (OpenSpec.ofChange fnOrderWaitWallWrong)

/-- 'laws.FnWallAll': WHATEVER THE INPUT: true; the input reads as it did. -/
def fnWallAllSpec : ChangeSpec := { name := "fnWallAll", fn := fun _ => fun
  | [d] => { results := [.lit (.bool true)], args := [d] }
  | _ => none }
def fnWallAllRow : OpenClaim := { program := "ytkdolbffabmemaagreatdoor", sum := "9ff4943b7fea29924bb5de98d3e9a65c0bd96361a6918a445e278b7aef881c15", func := "loop.example/fathomline/laws.FnWallAll", spec := "fnWallAll", unfollowed := true, recurses := true, named := ["math/bits.deBruijn64tab"], apart := false, laid := [("math/bits.deBruijn64tab", laid_math_bits_deBruijn64tab)] }
def FnWallAllSaid : Prop := fnWallAllRow.holds Tryz.pinned (OpenSpec.ofChange fnWallAllSpec)

/-- ITS FALSE NEIGHBOUR: 'it returns false'. Refute it at one input. -/
def fnWallAllWrong : ChangeSpec := { name := "fnWallAll", fn := fun _ => fun
  | [d] => { results := [.lit (.bool false)], args := [d] }
  | _ => none }
def FnWallAllWrongFalsely : Prop := fnWallAllRow.holds Tryz.pinned (OpenSpec.ofChange fnWallAllWrong)

/- THE SECOND FORM. 'bulk': how many values and letters a reading holds, each counted each time it is reached (what is shared counts as often as it is met; a slice's spare places count too). A statement '..UptoSaid' is the law's where the arguments, and the package variables that the reading takes, are together of bulk at most 1048576: NARROWER than '..Said'. Prove '..Said' where nothing that the law and all that it calls make is longer than what came in: it says more and counts as full. Else prove '..UptoSaid'. A law counts once. -/
mutual
def uptoBulk {H : Type} : DataW H → Nat
  | .lit (.string bytes) => bytes.length + 1
  | .lit _ => 1
  | .nil => 1
  | .ptr d => uptoBulk d + 1
  | .slice elems spare => uptoBulkAll elems + uptoBulkAll spare + 1
  | .agg parts => uptoBulkAll parts + 1
  | .iface _ d => uptoBulk d + 1
  | .map entries => uptoBulkEntries entries + 1
  | .held _ => 1
def uptoBulkAll {H : Type} : List (DataW H) → Nat
  | [] => 0
  | d :: r => uptoBulk d + uptoBulkAll r
def uptoBulkEntries {H : Type} : List (Lit × DataW H) → Nat
  | [] => 0
  | x :: r => uptoBulkEntry x + uptoBulkEntries r
def uptoBulkEntry {H : Type} : Lit × DataW H → Nat
  | (.string bytes, d) => bytes.length + uptoBulk d + 1
  | (_, d) => uptoBulk d + 1
 end
def uptoSmall : (H : Type) → List (DataW H) → Bool := fun _ ds => decide (uptoBulkAll ds ≤ 1048576)
def OpenSpec.upto (s : _root_.Go.ChangeSpec) : _root_.Go.OpenSpec := { _root_.Go.OpenSpec.ofChange s with cond := some uptoSmall }

/-- 'laws.FnOrderSome', WHERE WHAT IT READS IS OF BULK AT MOST 1048576: true; the input reads as it did. -/
def fnOrderSomeUptoRow : OpenClaim := { program := "ytkdolbffabmemaagreatdoor", sum := "9ff4943b7fea29924bb5de98d3e9a65c0bd96361a6918a445e278b7aef881c15", func := "loop.example/fathomline/laws.FnOrderSome", spec := "fnOrderSome", unfollowed := true, recurses := true, named := ["math/bits.deBruijn64tab"], apart := false, laid := [("math/bits.deBruijn64tab", laid_math_bits_deBruijn64tab)], narrowed := true }
def FnOrderSomeUptoSaid : Prop := fnOrderSomeUptoRow.holds Tryz.pinned (OpenSpec.upto fnOrderSomeSpec)

/-- 'laws.FnOrderRead', WHERE WHAT IT READS IS OF BULK AT MOST 1048576: true; the input reads as it did. -/
def fnOrderReadUptoRow : OpenClaim := { program := "ytkdolbffabmemaagreatdoor", sum := "9ff4943b7fea29924bb5de98d3e9a65c0bd96361a6918a445e278b7aef881c15", func := "loop.example/fathomline/laws.FnOrderRead", spec := "fnOrderRead", unfollowed := true, recurses := true, named := ["math/bits.deBruijn64tab"], apart := false, laid := [("math/bits.deBruijn64tab", laid_math_bits_deBruijn64tab)], narrowed := true }
def FnOrderReadUptoSaid : Prop := fnOrderReadUptoRow.holds Tryz.pinned (OpenSpec.upto fnOrderReadSpec)

/-- 'laws.FnOrderReader', WHERE WHAT IT READS IS OF BULK AT MOST 1048576: true; the input reads as it did. -/
def fnOrderReaderUptoRow : OpenClaim := { program := "ytkdolbffabmemaagreatdoor", sum := "9ff4943b7fea29924bb5de98d3e9a65c0bd96361a6918a445e278b7aef881c15", func := "loop.example/fathomline/laws.FnOrderReader", spec := "fnOrderReader", unfollowed := true, recurses := true, named := ["math/bits.deBruijn64tab"], apart := false, laid := [("math/bits.deBruijn64tab", laid_math_bits_deBruijn64tab)], narrowed := true }
def FnOrderReaderUptoSaid : Prop := fnOrderReaderUptoRow.holds Tryz.pinned (OpenSpec.upto fnOrderReaderSpec)

/-- 'laws.FnOrderStore', WHERE WHAT IT READS IS OF BULK AT MOST 1048576: true; the input reads as it did. -/
def fnOrderStoreUptoRow : OpenClaim := { program := "ytkdolbffabmemaagreatdoor", sum := "9ff4943b7fea29924bb5de98d3e9a65c0bd96361a6918a445e278b7aef881c15", func := "loop.example/fathomline/laws.FnOrderStore", spec := "fnOrderStore", unfollowed := true, recurses := true, named := ["math/bits.deBruijn64tab"], apart := false, laid := [("math/bits.deBruijn64tab", laid_math_bits_deBruijn64tab)], narrowed := true }
def FnOrderStoreUptoSaid : Prop := fnOrderStoreUptoRow.holds Tryz.pinned (OpenSpec.upto fnOrderStoreSpec)

/-- 'laws.FnOrderInside', WHERE WHAT IT READS IS OF BULK AT MOST 1048576: true; the input reads as it did. -/
def fnOrderInsideUptoRow : OpenClaim := { program := "ytkdolbffabmemaagreatdoor", sum := "9ff4943b7fea29924bb5de98d3e9a65c0bd96361a6918a445e278b7aef881c15", func := "loop.example/fathomline/laws.FnOrderInside", spec := "fnOrderInside", unfollowed := true, recurses := true, named := ["math/bits.deBruijn64tab"], apart := false, laid := [("math/bits.deBruijn64tab", laid_math_bits_deBruijn64tab)], narrowed := true }
def FnOrderInsideUptoSaid : Prop := fnOrderInsideUptoRow.holds Tryz.pinned (OpenSpec.upto fnOrderInsideSpec)

/-- 'laws.FnOrderWall', WHERE WHAT IT READS IS OF BULK AT MOST 1048576: true; the input reads as it did. -/
def fnOrderWallUptoRow : OpenClaim := { program := "ytkdolbffabmemaagreatdoor", sum := "9ff4943b7fea29924bb5de98d3e9a65c0bd96361a6918a445e278b7aef881c15", func := "loop.example/fathomline/laws.FnOrderWall", spec := "fnOrderWall", unfollowed := true, recurses := true, named := ["math/bits.deBruijn64tab"], apart := false, laid := [("math/bits.deBruijn64tab", laid_math_bits_deBruijn64tab)], narrowed := true }
def FnOrderWallUptoSaid : Prop := fnOrderWallUptoRow.holds Tryz.pinned (OpenSpec.upto fnOrderWallSpec)

/-- 'laws.FnOrderWaitWall', WHERE WHAT IT READS IS OF BULK AT MOST 1048576: true; the input reads as it did. -/
def fnOrderWaitWallUptoRow : OpenClaim := { program := "ytkdolbffabmemaagreatdoor", sum := "9ff4943b7fea29924bb5de98d3e9a65c0bd96361a6918a445e278b7aef881c15", func := "loop.example/fathomline/laws.FnOrderWaitWall", spec := "fnOrderWaitWall", unfollowed := true, recurses := true, named := ["math/bits.deBruijn64tab"], apart := false, laid := [("math/bits.deBruijn64tab", laid_math_bits_deBruijn64tab)], narrowed := true }
def FnOrderWaitWallUptoSaid : Prop := fnOrderWaitWallUptoRow.holds Tryz.pinned (OpenSpec.upto fnOrderWaitWallSpec)

/-- 'laws.FnWallAll', WHERE WHAT IT READS IS OF BULK AT MOST 1048576: true; the input reads as it did. -/
def fnWallAllUptoRow : OpenClaim := { program := "ytkdolbffabmemaagreatdoor", sum := "9ff4943b7fea29924bb5de98d3e9a65c0bd96361a6918a445e278b7aef881c15", func := "loop.example/fathomline/laws.FnWallAll", spec := "fnWallAll", unfollowed := true, recurses := true, named := ["math/bits.deBruijn64tab"], apart := false, laid := [("math/bits.deBruijn64tab", laid_math_bits_deBruijn64tab)], narrowed := true }
def FnWallAllUptoSaid : Prop := fnWallAllUptoRow.holds Tryz.pinned (OpenSpec.upto fnWallAllSpec)

end Rows
end Go.Proofs.YtkdolbffabmemaaGreatDoor
