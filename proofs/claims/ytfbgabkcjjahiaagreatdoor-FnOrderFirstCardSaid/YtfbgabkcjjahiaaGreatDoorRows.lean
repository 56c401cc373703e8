/-
  NARROWER THAN 'FOR EVERY INPUT', by the rows' own cells (each row's printed sentence says how): FnWhyExec: laid · FnWhyExecFirst: laid · FnWhyLine: laid · FnOrderSeen: laid · FnOrderMore: laid · FnWhyOrder: laid · FnOrderOne: laid · FnOrderFirst: laid · FnOrderAlone: laid · FnOrderIdle: laid · FnOrderTake: laid · FnOrderGive: laid.
  DERIVED. THE GIVEN ROWS OF THIS SEAT. 12 by the template 'for every input the law returns true; each argument reads behind the call as it read before'; 0 by the template 'total and deterministic' (their statements: YtfbgabkcjjahiaaGreatDoorTotals.lean).
  GIVEN WITH THE SEED: the statements are not yours to turn. If you find one false, say at which input.
  Laid BY PROGRAM, IN A SANDBOX (cutbox-rows.mjs): the forced cells as the released guide's own fill.sh prints them over the translation 959a594172e3e662… (all of the seat's roots in one cut). By AI agents, Wed Nov 11 2026. No macro, syntax, notation, axiom, sorry.
-/
import Derived.Test.YtfbgabkcjjahiaaGreatDoorChecked
import GoSem.Claim
import GoSem.ClaimJoined
import GoSem.ClaimMapViews
import Derived.JoinedTies
import Derived.KernelRfl
namespace Go.Proofs.YtfbgabkcjjahiaaGreatDoor
/- THE CELL 'sum', in the pinned program and in every row, IS THE sha256 OF THE DUMP (.gsa) THAT YtfbgabkcjjahiaaGreatDoorProg.lean LOADS. Nothing in Lean hashes anything: it is a label: what it is worth is what the hold of that sum in a sandbox is worth. -/
noncomputable def Tryz.pinned : Pinned := { name := "ytfbgabkcjjahiaagreatdoor", sum := "959a594172e3e662f9148f18582eff8713c0390f8d43b6150e9d365583509c15", checked := Tryz.checked }
namespace Rows
def none {H : Type} : Left H := { results := [], args := [] }

/- WHAT THE LISTED PACKAGE-LEVEL VARIABLES READ AS WHEN THE CALL BEGINS. Each datum BY PROGRAM (the guide's laid-datum.mjs) off the statement by which the dump's own 'gosem.cut.vars' lays the variable. In a bare row this is a premise. The card (YtfbgabkcjjahiaaGreatDoorCards.lean) ties it to the program's text. -/
def laid_math_bits_deBruijn64tab {H : Type} : DataW H := .agg [.lit (.int .u8 0), .lit (.int .u8 1), .lit (.int .u8 56), .lit (.int .u8 2), .lit (.int .u8 57), .lit (.int .u8 49), .lit (.int .u8 28), .lit (.int .u8 3), .lit (.int .u8 61), .lit (.int .u8 58), .lit (.int .u8 42), .lit (.int .u8 50), .lit (.int .u8 38), .lit (.int .u8 29), .lit (.int .u8 17), .lit (.int .u8 4), .lit (.int .u8 62), .lit (.int .u8 47), .lit (.int .u8 59), .lit (.int .u8 36), .lit (.int .u8 45), .lit (.int .u8 43), .lit (.int .u8 51), .lit (.int .u8 22), .lit (.int .u8 53), .lit (.int .u8 39), .lit (.int .u8 33), .lit (.int .u8 30), .lit (.int .u8 24), .lit (.int .u8 18), .lit (.int .u8 12), .lit (.int .u8 5), .lit (.int .u8 63), .lit (.int .u8 55), .lit (.int .u8 48), .lit (.int .u8 27), .lit (.int .u8 60), .lit (.int .u8 41), .lit (.int .u8 37), .lit (.int .u8 16), .lit (.int .u8 46), .lit (.int .u8 35), .lit (.int .u8 44), .lit (.int .u8 21), .lit (.int .u8 52), .lit (.int .u8 32), .lit (.int .u8 23), .lit (.int .u8 11), .lit (.int .u8 54), .lit (.int .u8 26), .lit (.int .u8 40), .lit (.int .u8 15), .lit (.int .u8 34), .lit (.int .u8 20), .lit (.int .u8 31), .lit (.int .u8 10), .lit (.int .u8 25), .lit (.int .u8 14), .lit (.int .u8 19), .lit (.int .u8 9), .lit (.int .u8 13), .lit (.int .u8 8), .lit (.int .u8 7), .lit (.int .u8 6)]

/-- 'laws.FnWhyExec': WHATEVER THE INPUT: true; the input reads as it did. -/
def fnWhyExecSpec : ChangeSpec := { name := "fnWhyExec", fn := fun _ => fun
  | [d] => { results := [.lit (.bool true)], args := [d] }
  | _ => none }
def fnWhyExecRow : OpenClaim := { program := "ytfbgabkcjjahiaagreatdoor", sum := "959a594172e3e662f9148f18582eff8713c0390f8d43b6150e9d365583509c15", func := "loop.example/fathomline/laws.FnWhyExec", spec := "fnWhyExec", unfollowed := true, recurses := true, named := ["math/bits.deBruijn64tab"], apart := false, laid := [("math/bits.deBruijn64tab", laid_math_bits_deBruijn64tab)] }
def FnWhyExecSaid : Prop := fnWhyExecRow.holds Tryz.pinned (OpenSpec.ofChange fnWhyExecSpec)

/-- ITS FALSE NEIGHBOUR: 'it returns false'. Refute it at one input. -/
def fnWhyExecWrong : ChangeSpec := { name := "fnWhyExec", fn := fun _ => fun
  | [d] => { results := [.lit (.bool false)], args := [d] }
  | _ => none }
def FnWhyExecWrongFalsely : Prop := fnWhyExecRow.holds Tryz.pinned (OpenSpec.ofChange fnWhyExecWrong)

/-- 'laws.FnWhyExecFirst': WHATEVER THE INPUT: true; the input reads as it did. -/
def fnWhyExecFirstSpec : ChangeSpec := { name := "fnWhyExecFirst", fn := fun _ => fun
  | [d] => { results := [.lit (.bool true)], args := [d] }
  | _ => none }
def fnWhyExecFirstRow : OpenClaim := { program := "ytfbgabkcjjahiaagreatdoor", sum := "959a594172e3e662f9148f18582eff8713c0390f8d43b6150e9d365583509c15", func := "loop.example/fathomline/laws.FnWhyExecFirst", spec := "fnWhyExecFirst", unfollowed := true, recurses := true, named := ["math/bits.deBruijn64tab"], apart := false, laid := [("math/bits.deBruijn64tab", laid_math_bits_deBruijn64tab)] }
def FnWhyExecFirstSaid : Prop := fnWhyExecFirstRow.holds Tryz.pinned (OpenSpec.ofChange fnWhyExecFirstSpec)

/-- ITS FALSE NEIGHBOUR: 'it returns false'. Refute it at one input. -/
def fnWhyExecFirstWrong : ChangeSpec := { name := "fnWhyExecFirst", fn := fun _ => fun
  | [d] => { results := [.lit (.bool false)], args := [d] }
  | _ => none }
def FnWhyExecFirstWrongFalsely : Prop := fnWhyExecFirstRow.holds Tryz.pinned (OpenSpec.ofChange fnWhyExecFirstWrong)

/-- 'laws.FnWhyLine': WHATEVER THE INPUT: true; the input reads as it did. -/
def fnWhyLineSpec : ChangeSpec := { name := "fnWhyLine", fn := fun _ => fun
  | [d] => { results := [.lit (.bool true)], args := [d] }
  | _ => none }
def fnWhyLineRow : OpenClaim := { program := "ytfbgabkcjjahiaagreatdoor", sum := "959a594172e3e662f9148f18582eff8713c0390f8d43b6150e9d365583509c15", func := "loop.example/fathomline/laws.FnWhyLine", spec := "fnWhyLine", unfollowed := true, recurses := true, named := ["math/bits.deBruijn64tab"], apart := false, laid := [("math/bits.deBruijn64tab", laid_math_bits_deBruijn64tab)] }
def FnWhyLineSaid : Prop := fnWhyLineRow.holds Tryz.pinned (OpenSpec.ofChange fnWhyLineSpec)

/-- ITS FALSE NEIGHBOUR: 'it returns false'. Refute it at one input. -/
def fnWhyLineWrong : ChangeSpec := { name := "fnWhyLine", fn := fun _ => fun
  | [d] => { results := [.lit (.bool false)], args := [d] }
  | _ => none }
def FnWhyLineWrongFalsely : Prop := fnWhyLineRow.holds Tryz.pinned (OpenSpec.ofChange fnWhyLineWrong)

/-- 'laws.FnOrderSeen': WHATEVER THE INPUT: true; the input reads as it did. -/
def fnOrderSeenSpec : ChangeSpec := { name := "fnOrderSeen", fn := fun _ => fun
  | [d] => { results := [.lit (.bool true)], args := [d] }
  | _ => none }
def fnOrderSeenRow : OpenClaim := { program := "ytfbgabkcjjahiaagreatdoor", sum := "959a594172e3e662f9148f18582eff8713c0390f8d43b6150e9d365583509c15", func := "loop.example/fathomline/laws.FnOrderSeen", spec := "fnOrderSeen", unfollowed := true, recurses := true, named := ["math/bits.deBruijn64tab"], apart := false, laid := [("math/bits.deBruijn64tab", laid_math_bits_deBruijn64tab)] }
def FnOrderSeenSaid : Prop := fnOrderSeenRow.holds Tryz.pinned (OpenSpec.ofChange fnOrderSeenSpec)

/-- ITS FALSE NEIGHBOUR: 'it returns false'. Refute it at one input. -/
def fnOrderSeenWrong : ChangeSpec := { name := "fnOrderSeen", fn := fun _ => fun
  | [d] => { results := [.lit (.bool false)], args := [d] }
  | _ => none }
def FnOrderSeenWrongFalsely : Prop := fnOrderSeenRow.holds Tryz.pinned (OpenSpec.ofChange fnOrderSeenWrong)

/-- 'laws.FnOrderMore': WHATEVER THE INPUT: true; the input reads as it did. -/
def fnOrderMoreSpec : ChangeSpec := { name := "fnOrderMore", fn := fun _ => fun
  | [d] => { results := [.lit (.bool true)], args := [d] }
  | _ => none }
def fnOrderMoreRow : OpenClaim := { program := "ytfbgabkcjjahiaagreatdoor", sum := "959a594172e3e662f9148f18582eff8713c0390f8d43b6150e9d365583509c15", func := "loop.example/fathomline/laws.FnOrderMore", spec := "fnOrderMore", unfollowed := true, recurses := true, named := ["math/bits.deBruijn64tab"], apart := false, laid := [("math/bits.deBruijn64tab", laid_math_bits_deBruijn64tab)] }
def FnOrderMoreSaid : Prop := fnOrderMoreRow.holds Tryz.pinned (OpenSpec.ofChange fnOrderMoreSpec)

/-- ITS FALSE NEIGHBOUR: 'it returns false'. Refute it at one input. -/
def fnOrderMoreWrong : ChangeSpec := { name := "fnOrderMore", fn := fun _ => fun
  | [d] => { results := [.lit (.bool false)], args := [d] }
  | _ => none }
def FnOrderMoreWrongFalsely : Prop := fnOrderMoreRow.holds Tryz.pinned (OpenSpec.ofChange fnOrderMoreWrong)

/-- 'laws.FnWhyOrder': WHATEVER THE INPUT: true; the input reads as it did. -/
def fnWhyOrderSpec : ChangeSpec := { name := "fnWhyOrder", fn := fun _ => fun
  | [d] => { results := [.lit (.bool true)], args := [d] }
  | _ => none }
def fnWhyOrderRow : OpenClaim := { program := "ytfbgabkcjjahiaagreatdoor", sum := "959a594172e3e662f9148f18582eff8713c0390f8d43b6150e9d365583509c15", func := "loop.example/fathomline/laws.FnWhyOrder", spec := "fnWhyOrder", unfollowed := true, recurses := true, named := ["math/bits.deBruijn64tab"], apart := false, laid := [("math/bits.deBruijn64tab", laid_math_bits_deBruijn64tab)] }
def FnWhyOrderSaid : Prop := fnWhyOrderRow.holds Tryz.pinned (OpenSpec.ofChange fnWhyOrderSpec)

/-- ITS FALSE NEIGHBOUR: 'it returns false'. Refute it at one input. -/
def fnWhyOrderWrong : ChangeSpec := { name := "fnWhyOrder", fn := fun _ => fun
  | [d] => { results := [.lit (.bool false)], args := [d] }
  | _ => none }
def FnWhyOrderWrongFalsely : Prop := fnWhyOrderRow.holds Tryz.pinned (OpenSpec.ofChange fnWhyOrderWrong)

/-- 'laws.FnOrderOne': WHATEVER THE INPUT: true; the input reads as it did. -/
def fnOrderOneSpec : ChangeSpec := { name := "fnOrderOne", fn := fun _ => fun
  | [d] => { results := [.lit (.bool true)], args := [d] }
  | _ => none }
def fnOrderOneRow : OpenClaim := { program := "ytfbgabkcjjahiaagreatdoor", sum := "959a594172e3e662f9148f18582eff8713c0390f8d43b6150e9d365583509c15", func := "loop.example/fathomline/laws.FnOrderOne", spec := "fnOrderOne", unfollowed := true, recurses := true, named := ["math/bits.deBruijn64tab"], apart := false, laid := [("math/bits.deBruijn64tab", laid_math_bits_deBruijn64tab)] }
def FnOrderOneSaid : Prop := fnOrderOneRow.holds Tryz.pinned (OpenSpec.ofChange fnOrderOneSpec)

/-- ITS FALSE NEIGHBOUR: 'it returns false'. Refute it at one input. -/
def fnOrderOneWrong : ChangeSpec := { name := "fnOrderOne", fn := fun _ => fun
  | [d] => { results := [.lit (.bool false)], args := [d] }
  | _ => none }
def FnOrderOneWrongFalsely : Prop := fnOrderOneRow.holds Tryz.pinned (OpenSpec.ofChange fnOrderOneWrong)

/-- 'laws.FnOrderFirst': WHATEVER THE INPUT: true; the input reads as it did. -/
def fnOrderFirstSpec : ChangeSpec := { name := "fnOrderFirst", fn := fun _ => fun
  | [d] => { results := [.lit (.bool true)], args := [d] }
  | _ => none }
def fnOrderFirstRow : OpenClaim := { program := "ytfbgabkcjjahiaagreatdoor", sum := "959a594172e3e662f9148f18582eff8713c0390f8d43b6150e9d365583509c15", func := "loop.example/fathomline/laws.FnOrderFirst", spec := "fnOrderFirst", unfollowed := true, recurses := true, named := ["math/bits.deBruijn64tab"], apart := false, laid := [("math/bits.deBruijn64tab", laid_math_bits_deBruijn64tab)] }
def FnOrderFirstSaid : Prop := fnOrderFirstRow.holds Tryz.pinned (OpenSpec.ofChange fnOrderFirstSpec)

/-- ITS FALSE NEIGHBOUR: 'it returns false'. Refute it at one input. -/
def fnOrderFirstWrong : ChangeSpec := { name := "fnOrderFirst", fn := fun _ => fun
  | [d] => { results := [.lit (.bool false)], args := [d] }
  | _ => none }
def FnOrderFirstWrongFalsely : Prop := fnOrderFirstRow.holds Tryz.pinned (OpenSpec.ofChange fnOrderFirstWrong)

/-- 'laws.FnOrderAlone': WHATEVER THE INPUT: true; the input reads as it did. -/
def fnOrderAloneSpec : ChangeSpec := { name := "fnOrderAlone", fn := fun _ => fun
  | [d1, d2] => { results := [.lit (.bool true)], args := [d1, d2] }
  | _ => none }
def fnOrderAloneRow : OpenClaim := { program := "ytfbgabkcjjahiaagreatdoor", sum := "959a594172e3e662f9148f18582eff8713c0390f8d43b6150e9d365583509c15", func := "loop.example/fathomline/laws.FnOrderAlone", spec := "fnOrderAlone", unfollowed := true, recurses := true, named := ["math/bits.deBruijn64tab"], apart := false, laid := [("math/bits.deBruijn64tab", laid_math_bits_deBruijn64tab)] }
def FnOrderAloneSaid : Prop := fnOrderAloneRow.holds Tryz.pinned (OpenSpec.ofChange fnOrderAloneSpec)

/-- ITS FALSE NEIGHBOUR: 'it returns false'. Refute it at one input. -/
def fnOrderAloneWrong : ChangeSpec := { name := "fnOrderAlone", fn := fun _ => fun
  | [d1, d2] => { results := [.lit (.bool false)], args := [d1, d2] }
  | _ => none }
def FnOrderAloneWrongFalsely : Prop := fnOrderAloneRow.holds Tryz.pinned (OpenSpec.ofChange fnOrderAloneWrong)

/-- 'laws.FnOrderIdle': WHATEVER THE INPUT: true; the input reads as it did. -/
def fnOrderIdleSpec : ChangeSpec := { name := "fnOrderIdle", fn := fun _ => fun
  | [d] => { results := [.lit (.bool true)], args := [d] }
  | _ => none }
def fnOrderIdleRow : OpenClaim := { program := "ytfbgabkcjjahiaagreatdoor", sum := "959a594172e3e662f9148f18582eff8713c0390f8d43b6150e9d365583509c15", func := "loop.example/fathomline/laws.FnOrderIdle", spec := "fnOrderIdle", unfollowed := true, recurses := true, named := ["math/bits.deBruijn64tab"], apart := false, laid := [("math/bits.deBruijn64tab", laid_math_bits_deBruijn64tab)] }
def FnOrderIdleSaid : Prop := fnOrderIdleRow.holds Tryz.pinned (OpenSpec.ofChange fnOrderIdleSpec)

/-- ITS FALSE NEIGHBOUR: 'it returns false'. Refute it at one input. -/
def fnOrderIdleWrong : ChangeSpec := { name := "fnOrderIdle", fn := fun _ => fun
  | [d] => { results := [.lit (.bool false)], args := [d] }
  | _ => none }
def FnOrderIdleWrongFalsely : Prop := fnOrderIdleRow.holds Tryz.pinned (OpenSpec.ofChange fnOrderIdleWrong)

/-- 'laws.FnOrderTake': WHATEVER THE INPUT: true; the input reads as it did. -/
def fnOrderTakeSpec : ChangeSpec := { name := "fnOrderTake", fn := fun _ => fun
  | [d1, d2] => { results := [.lit (.bool true)], args := [d1, d2] }
  | _ => none }
def fnOrderTakeRow : OpenClaim := { program := "ytfbgabkcjjahiaagreatdoor", sum := "959a594172e3e662f9148f18582eff8713c0390f8d43b6150e9d365583509c15", func := "loop.example/fathomline/laws.FnOrderTake", spec := "fnOrderTake", unfollowed := true, recurses := true, named := ["math/bits.deBruijn64tab"], apart := false, laid := [("math/bits.deBruijn64tab", laid_math_bits_deBruijn64tab)] }
def FnOrderTakeSaid : Prop := fnOrderTakeRow.holds Tryz.pinned (OpenSpec.ofChange fnOrderTakeSpec)

/-- ITS FALSE NEIGHBOUR: 'it returns false'. Refute it at one input. -/
def fnOrderTakeWrong : ChangeSpec := { name := "fnOrderTake", fn := fun _ => fun
  | [d1, d2] => { results := [.lit (.bool false)], args := [d1, d2] }
  | _ => none }
def FnOrderTakeWrongFalsely : Prop := fnOrderTakeRow.holds Tryz.pinned (OpenSpec.ofChange fnOrderTakeWrong)

/-- 'laws.FnOrderGive': WHATEVER THE INPUT: true; the input reads as it did. -/
def fnOrderGiveSpec : ChangeSpec := { name := "fnOrderGive", fn := fun _ => fun
  | [d1, d2] => { results := [.lit (.bool true)], args := [d1, d2] }
  | _ => none }
def fnOrderGiveRow : OpenClaim := { program := "ytfbgabkcjjahiaagreatdoor", sum := "959a594172e3e662f9148f18582eff8713c0390f8d43b6150e9d365583509c15", func := "loop.example/fathomline/laws.FnOrderGive", spec := "fnOrderGive", unfollowed := true, recurses := true, named := ["math/bits.deBruijn64tab"], apart := false, laid := [("math/bits.deBruijn64tab", laid_math_bits_deBruijn64tab)] }
def FnOrderGiveSaid : Prop := fnOrderGiveRow.holds Tryz.pinned (OpenSpec.ofChange fnOrderGiveSpec)

/-- ITS FALSE NEIGHBOUR: 'it returns false'. Refute it at one input. -/
def fnOrderGiveWrong : ChangeSpec := { name := "fnOrderGive", fn := fun _ => fun
  | [d1, d2] => { results := [.lit (.bool false)], args := [d1, d2] }
  | _ => none }
def FnOrderGiveWrongFalsely : Prop := fnOrderGiveRow.holds Tryz.pinned (OpenSpec.ofChange fnOrderGiveWrong)

/- THE SECOND FORM. 'bulk': how many values and letters a reading holds, each counted each time it is reached (what is shared counts as often as it is met; a slice's spare places count too). A statement '..UptoSaid' is the law's where the arguments, and the package variables that the reading takes, are together of bulk at most 1048576: NARROWER than '..Said'. Prove '..Said' where nothing that the law and all that it calls make is longer than what came in: it says more and counts as full. Else prove '..UptoSaid'. A law counts once. -/
mutual
def uptoBulk {H : Type} : DataW H → Nat
  | .lit (.string bytes) => bytes.length + 1
  | .lit _ => 1
  | .nil => 1
  | .ptr d => uptoBulk d + 1
  | .slice elems spare => uptoBulkAll elems + uptoBulkAll spare + 1
  | .agg parts => uptoBulkAll parts + 1
  | .iface _ d => uptoBulk d + 1
  | .map entries => uptoBulkEntries entries + 1
  | .held _ => 1
def uptoBulkAll {H : Type} : List (DataW H) → Nat
  | [] => 0
  | d :: r => uptoBulk d + uptoBulkAll r
def uptoBulkEntries {H : Type} : List (Lit × DataW H) → Nat
  | [] => 0
  | x :: r => uptoBulkEntry x + uptoBulkEntries r
def uptoBulkEntry {H : Type} : Lit × DataW H → Nat
  | (.string bytes, d) => bytes.length + uptoBulk d + 1
  | (_, d) => uptoBulk d + 1
 end
def uptoSmall : (H : Type) → List (DataW H) → Bool := fun _ ds => decide (uptoBulkAll ds ≤ 1048576)
def OpenSpec.upto (s : _root_.Go.ChangeSpec) : _root_.Go.OpenSpec := { _root_.Go.OpenSpec.ofChange s with cond := some uptoSmall }

/-- 'laws.FnWhyExec', WHERE WHAT IT READS IS OF BULK AT MOST 1048576: true; the input reads as it did. -/
def fnWhyExecUptoRow : OpenClaim := { program := "ytfbgabkcjjahiaagreatdoor", sum := "959a594172e3e662f9148f18582eff8713c0390f8d43b6150e9d365583509c15", func := "loop.example/fathomline/laws.FnWhyExec", spec := "fnWhyExec", unfollowed := true, recurses := true, named := ["math/bits.deBruijn64tab"], apart := false, laid := [("math/bits.deBruijn64tab", laid_math_bits_deBruijn64tab)], narrowed := true }
def FnWhyExecUptoSaid : Prop := fnWhyExecUptoRow.holds Tryz.pinned (OpenSpec.upto fnWhyExecSpec)

/-- 'laws.FnWhyExecFirst', WHERE WHAT IT READS IS OF BULK AT MOST 1048576: true; the input reads as it did. -/
def fnWhyExecFirstUptoRow : OpenClaim := { program := "ytfbgabkcjjahiaagreatdoor", sum := "959a594172e3e662f9148f18582eff8713c0390f8d43b6150e9d365583509c15", func := "loop.example/fathomline/laws.FnWhyExecFirst", spec := "fnWhyExecFirst", unfollowed := true, recurses := true, named := ["math/bits.deBruijn64tab"], apart := false, laid := [("math/bits.deBruijn64tab", laid_math_bits_deBruijn64tab)], narrowed := true }
def FnWhyExecFirstUptoSaid : Prop := fnWhyExecFirstUptoRow.holds Tryz.pinned (OpenSpec.upto fnWhyExecFirstSpec)

/-- 'laws.FnWhyLine', WHERE WHAT IT READS IS OF BULK AT MOST 1048576: true; the input reads as it did. -/
def fnWhyLineUptoRow : OpenClaim := { program := "ytfbgabkcjjahiaagreatdoor", sum := "959a594172e3e662f9148f18582eff8713c0390f8d43b6150e9d365583509c15", func := "loop.example/fathomline/laws.FnWhyLine", spec := "fnWhyLine", unfollowed := true, recurses := true, named := ["math/bits.deBruijn64tab"], apart := false, laid := [("math/bits.deBruijn64tab", laid_math_bits_deBruijn64tab)], narrowed := true }
def FnWhyLineUptoSaid : Prop := fnWhyLineUptoRow.holds Tryz.pinned (OpenSpec.upto fnWhyLineSpec)

/-- 'laws.FnOrderSeen', WHERE WHAT IT READS IS OF BULK AT MOST 1048576: true; the input reads as it did. -/
def fnOrderSeenUptoRow : OpenClaim := { program := "ytfbgabkcjjahiaagreatdoor", sum := "959a594172e3e662f9148f18582eff8713c0390f8d43b6150e9d365583509c15", func := "loop.example/fathomline/laws.FnOrderSeen", spec := "fnOrderSeen", unfollowed := true, recurses := true, named := ["math/bits.deBruijn64tab"], apart := false, laid := [("math/bits.deBruijn64tab", laid_math_bits_deBruijn64tab)], narrowed := true }
def FnOrderSeenUptoSaid : Prop := fnOrderSeenUptoRow.holds Tryz.pinned (OpenSpec.upto fnOrderSeenSpec)

/-- 'laws.FnOrderMore', WHERE WHAT IT READS IS OF BULK AT MOST 1048576: true; the input reads as it did. -/
def fnOrderMoreUptoRow : OpenClaim := { program := "ytfbgabkcjjahiaagreatdoor", sum := "959a594172e3e662f9148f18582eff8713c0390f8d43b6150e9d365583509c15", func := "loop.example/fathomline/laws.FnOrderMore", spec := "fnOrderMore", unfollowed := true, recurses := true, named := ["math/bits.deBruijn64tab"], apart := false, laid := [("math/bits.deBruijn64tab", laid_math_bits_deBruijn64tab)], narrowed := true }
def FnOrderMoreUptoSaid : Prop := fnOrderMoreUptoRow.holds Tryz.pinned (OpenSpec.upto fnOrderMoreSpec)

/-- 'laws.FnWhyOrder', WHERE WHAT IT READS IS OF BULK AT MOST 1048576: true; the input reads as it did. -/
def fnWhyOrderUptoRow : OpenClaim := { program := "ytfbgabkcjjahiaagreatdoor", sum := "959a594172e3e662f9148f18582eff8713c0390f8d43b6150e9d365583509c15", func := "loop.example/fathomline/laws.FnWhyOrder", spec := "fnWhyOrder", unfollowed := true, recurses := true, named := ["math/bits.deBruijn64tab"], apart := false, laid := [("math/bits.deBruijn64tab", laid_math_bits_deBruijn64tab)], narrowed := true }
def FnWhyOrderUptoSaid : Prop := fnWhyOrderUptoRow.holds Tryz.pinned (OpenSpec.upto fnWhyOrderSpec)

/-- 'laws.FnOrderOne', WHERE WHAT IT READS IS OF BULK AT MOST 1048576: true; the input reads as it did. -/
def fnOrderOneUptoRow : OpenClaim := { program := "ytfbgabkcjjahiaagreatdoor", sum := "959a594172e3e662f9148f18582eff8713c0390f8d43b6150e9d365583509c15", func := "loop.example/fathomline/laws.FnOrderOne", spec := "fnOrderOne", unfollowed := true, recurses := true, named := ["math/bits.deBruijn64tab"], apart := false, laid := [("math/bits.deBruijn64tab", laid_math_bits_deBruijn64tab)], narrowed := true }
def FnOrderOneUptoSaid : Prop := fnOrderOneUptoRow.holds Tryz.pinned (OpenSpec.upto fnOrderOneSpec)

/-- 'laws.FnOrderFirst', WHERE WHAT IT READS IS OF BULK AT MOST 1048576: true; the input reads as it did. -/
def fnOrderFirstUptoRow : OpenClaim := { program := "ytfbgabkcjjahiaagreatdoor", sum := "959a594172e3e662f9148f18582eff8713c0390f8d43b6150e9d365583509c15", func := "loop.example/fathomline/laws.FnOrderFirst", spec := "fnOrderFirst", unfollowed := true, recurses := true, named := ["math/bits.deBruijn64tab"], apart := false, laid := [("math/bits.deBruijn64tab", laid_math_bits_deBruijn64tab)], narrowed := true }
def FnOrderFirstUptoSaid : Prop := fnOrderFirstUptoRow.holds Tryz.pinned (OpenSpec.upto fnOrderFirstSpec)

/-- 'laws.FnOrderAlone', WHERE WHAT IT READS IS OF BULK AT MOST 1048576: true; the input reads as it did. -/
def fnOrderAloneUptoRow : OpenClaim := { program := "ytfbgabkcjjahiaagreatdoor", sum := "959a594172e3e662f9148f18582eff8713c0390f8d43b6150e9d365583509c15", func := "loop.example/fathomline/laws.FnOrderAlone", spec := "fnOrderAlone", unfollowed := true, recurses := true, named := ["math/bits.deBruijn64tab"], apart := false, laid := [("math/bits.deBruijn64tab", laid_math_bits_deBruijn64tab)], narrowed := true }
def FnOrderAloneUptoSaid : Prop := fnOrderAloneUptoRow.holds Tryz.pinned (OpenSpec.upto fnOrderAloneSpec)

/-- 'laws.FnOrderIdle', WHERE WHAT IT READS IS OF BULK AT MOST 1048576: true; the input reads as it did. -/
def fnOrderIdleUptoRow : OpenClaim := { program := "ytfbgabkcjjahiaagreatdoor", sum := "959a594172e3e662f9148f18582eff8713c0390f8d43b6150e9d365583509c15", func := "loop.example/fathomline/laws.FnOrderIdle", spec := "fnOrderIdle", unfollowed := true, recurses := true, named := ["math/bits.deBruijn64tab"], apart := false, laid := [("math/bits.deBruijn64tab", laid_math_bits_deBruijn64tab)], narrowed := true }
def FnOrderIdleUptoSaid : Prop := fnOrderIdleUptoRow.holds Tryz.pinned (OpenSpec.upto fnOrderIdleSpec)

/-- 'laws.FnOrderTake', WHERE WHAT IT READS IS OF BULK AT MOST 1048576: true; the input reads as it did. -/
def fnOrderTakeUptoRow : OpenClaim := { program := "ytfbgabkcjjahiaagreatdoor", sum := "959a594172e3e662f9148f18582eff8713c0390f8d43b6150e9d365583509c15", func := "loop.example/fathomline/laws.FnOrderTake", spec := "fnOrderTake", unfollowed := true, recurses := true, named := ["math/bits.deBruijn64tab"], apart := false, laid := [("math/bits.deBruijn64tab", laid_math_bits_deBruijn64tab)], narrowed := true }
def FnOrderTakeUptoSaid : Prop := fnOrderTakeUptoRow.holds Tryz.pinned (OpenSpec.upto fnOrderTakeSpec)

/-- 'laws.FnOrderGive', WHERE WHAT IT READS IS OF BULK AT MOST 1048576: true; the input reads as it did. -/
def fnOrderGiveUptoRow : OpenClaim := { program := "ytfbgabkcjjahiaagreatdoor", sum := "959a594172e3e662f9148f18582eff8713c0390f8d43b6150e9d365583509c15", func := "loop.example/fathomline/laws.FnOrderGive", spec := "fnOrderGive", unfollowed := true, recurses := true, named := ["math/bits.deBruijn64tab"], apart := false, laid := [("math/bits.deBruijn64tab", laid_math_bits_deBruijn64tab)], narrowed := true }
def FnOrderGiveUptoSaid : Prop := fnOrderGiveUptoRow.holds Tryz.pinned (OpenSpec.upto fnOrderGiveSpec)

end Rows
end Go.Proofs.YtfbgabkcjjahiaaGreatDoor
