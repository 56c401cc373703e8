/-
  NARROWER THAN 'FOR EVERY INPUT', by the rows' own cells (each row's printed sentence says how): FnOrderHolds: laid · FnOrderRing: laid · FnOrderRingNot: laid · FnOrderLine: laid · FnOrderLineHolds: laid · FnOrderLineWait: laid.
  DERIVED. THE GIVEN ROWS OF THIS SEAT. 6 by the template 'for every input the law returns true; each argument reads behind the call as it read before'; 0 by the template 'total and deterministic' (their statements: YtfdbminedccccaaGreatDoorTotals.lean).
  GIVEN WITH THE SEED: the statements are not yours to turn. If you find one false, say at which input.
  Laid BY PROGRAM, IN A SANDBOX (cutbox-rows.mjs): the forced cells as the released guide's own fill.sh prints them over the translation cd4ff18d602b0770… (all of the seat's roots in one cut). By AI agents, Wed Nov 11 2026. No macro, syntax, notation, axiom, sorry.
-/
import Derived.Test.YtfdbminedccccaaGreatDoorChecked
import GoSem.Claim
import GoSem.ClaimJoined
import GoSem.ClaimMapViews
import Derived.JoinedTies
import Derived.KernelRfl
namespace Go.Proofs.YtfdbminedccccaaGreatDoor
/- THE CELL 'sum', in the pinned program and in every row, IS THE sha256 OF THE DUMP (.gsa) THAT YtfdbminedccccaaGreatDoorProg.lean LOADS. Nothing in Lean hashes anything: it is a label: what it is worth is what the hold of that sum in a sandbox is worth. -/
noncomputable def Tryz.pinned : Pinned := { name := "ytfdbminedccccaagreatdoor", sum := "cd4ff18d602b0770a8d899b651dcaa74201f3aef0e0a2075de97fe198e4c850e", checked := Tryz.checked }
namespace Rows
def none {H : Type} : Left H := { results := [], args := [] }

/- WHAT THE LISTED PACKAGE-LEVEL VARIABLES READ AS WHEN THE CALL BEGINS. Each datum BY PROGRAM (the guide's laid-datum.mjs) off the statement by which the dump's own 'gosem.cut.vars' lays the variable. In a bare row this is a premise. The card (YtfdbminedccccaaGreatDoorCards.lean) ties it to the program's text. -/
def laid_math_bits_deBruijn64tab {H : Type} : DataW H := .agg [.lit (.int .u8 0), .lit (.int .u8 1), .lit (.int .u8 56), .lit (.int .u8 2), .lit (.int .u8 57), .lit (.int .u8 49), .lit (.int .u8 28), .lit (.int .u8 3), .lit (.int .u8 61), .lit (.int .u8 58), .lit (.int .u8 42), .lit (.int .u8 50), .lit (.int .u8 38), .lit (.int .u8 29), .lit (.int .u8 17), .lit (.int .u8 4), .lit (.int .u8 62), .lit (.int .u8 47), .lit (.int .u8 59), .lit (.int .u8 36), .lit (.int .u8 45), .lit (.int .u8 43), .lit (.int .u8 51), .lit (.int .u8 22), .lit (.int .u8 53), .lit (.int .u8 39), .lit (.int .u8 33), .lit (.int .u8 30), .lit (.int .u8 24), .lit (.int .u8 18), .lit (.int .u8 12), .lit (.int .u8 5), .lit (.int .u8 63), .lit (.int .u8 55), .lit (.int .u8 48), .lit (.int .u8 27), .lit (.int .u8 60), .lit (.int .u8 41), .lit (.int .u8 37), .lit (.int .u8 16), .lit (.int .u8 46), .lit (.int .u8 35), .lit (.int .u8 44), .lit (.int .u8 21), .lit (.int .u8 52), .lit (.int .u8 32), .lit (.int .u8 23), .lit (.int .u8 11), .lit (.int .u8 54), .lit (.int .u8 26), .lit (.int .u8 40), .lit (.int .u8 15), .lit (.int .u8 34), .lit (.int .u8 20), .lit (.int .u8 31), .lit (.int .u8 10), .lit (.int .u8 25), .lit (.int .u8 14), .lit (.int .u8 19), .lit (.int .u8 9), .lit (.int .u8 13), .lit (.int .u8 8), .lit (.int .u8 7), .lit (.int .u8 6)]

/-- 'laws.FnOrderHolds': WHATEVER THE INPUT: true; the input reads as it did. -/
def fnOrderHoldsSpec : ChangeSpec := { name := "fnOrderHolds", fn := fun _ => fun
  | [d] => { results := [.lit (.bool true)], args := [d] }
  | _ => none }
def fnOrderHoldsRow : OpenClaim := { program := "ytfdbminedccccaagreatdoor", sum := "cd4ff18d602b0770a8d899b651dcaa74201f3aef0e0a2075de97fe198e4c850e", func := "loop.example/fathomline/laws.FnOrderHolds", spec := "fnOrderHolds", unfollowed := true, recurses := true, named := ["math/bits.deBruijn64tab"], apart := false, laid := [("math/bits.deBruijn64tab", laid_math_bits_deBruijn64tab)] }
def FnOrderHoldsSaid : Prop := fnOrderHoldsRow.holds Tryz.pinned (OpenSpec.ofChange fnOrderHoldsSpec)

/-- ITS FALSE NEIGHBOUR: 'it returns false'. Refute it at one input. -/
def fnOrderHoldsWrong : ChangeSpec := { name := "fnOrderHolds", fn := fun _ => fun
  | [d] => { results := [.lit (.bool false)], args := [d] }
  | _ => none }
def FnOrderHoldsWrongFalsely : Prop := fnOrderHoldsRow.holds Tryz.pinned (OpenSpec.ofChange fnOrderHoldsWrong)

/-- 'laws.FnOrderRing': WHATEVER THE INPUT: true; the input reads as it did. -/
def fnOrderRingSpec : ChangeSpec := { name := "fnOrderRing", fn := fun _ => fun
  | [d] => { results := [.lit (.bool true)], args := [d] }
  | _ => none }
def fnOrderRingRow : OpenClaim := { program := "ytfdbminedccccaagreatdoor", sum := "cd4ff18d602b0770a8d899b651dcaa74201f3aef0e0a2075de97fe198e4c850e", func := "loop.example/fathomline/laws.FnOrderRing", spec := "fnOrderRing", unfollowed := true, recurses := true, named := ["math/bits.deBruijn64tab"], apart := false, laid := [("math/bits.deBruijn64tab", laid_math_bits_deBruijn64tab)] }
def FnOrderRingSaid : Prop := fnOrderRingRow.holds Tryz.pinned (OpenSpec.ofChange fnOrderRingSpec)

/-- ITS FALSE NEIGHBOUR: 'it returns false'. Refute it at one input. -/
def fnOrderRingWrong : ChangeSpec := { name := "fnOrderRing", fn := fun _ => fun
  | [d] => { results := [.lit (.bool false)], args := [d] }
  | _ => none }
def FnOrderRingWrongFalsely : Prop := fnOrderRingRow.holds Tryz.pinned (OpenSpec.ofChange fnOrderRingWrong)

/-- 'laws.FnOrderRingNot': WHATEVER THE INPUT: true; the input reads as it did. -/
def fnOrderRingNotSpec : ChangeSpec := { name := "fnOrderRingNot", fn := fun _ => fun
  | [d] => { results := [.lit (.bool true)], args := [d] }
  | _ => none }
def fnOrderRingNotRow : OpenClaim := { program := "ytfdbminedccccaagreatdoor", sum := "cd4ff18d602b0770a8d899b651dcaa74201f3aef0e0a2075de97fe198e4c850e", func := "loop.example/fathomline/laws.FnOrderRingNot", spec := "fnOrderRingNot", unfollowed := true, recurses := true, named := ["math/bits.deBruijn64tab"], apart := false, laid := [("math/bits.deBruijn64tab", laid_math_bits_deBruijn64tab)] }
def FnOrderRingNotSaid : Prop := fnOrderRingNotRow.holds Tryz.pinned (OpenSpec.ofChange fnOrderRingNotSpec)

/-- ITS FALSE NEIGHBOUR: 'it returns false'. Refute it at one input. -/
def fnOrderRingNotWrong : ChangeSpec := { name := "fnOrderRingNot", fn := fun _ => fun
  | [d] => { results := [.lit (.bool false)], args := [d] }
  | _ => none }
def FnOrderRingNotWrongFalsely : Prop := fnOrderRingNotRow.holds Tryz.pinned (OpenSpec.ofChange fnOrderRingNotWrong)

/-- 'laws.FnOrderLine': WHATEVER THE INPUT: true; the input reads as it did. -/
def fnOrderLineSpec : ChangeSpec := { name := "fnOrderLine", fn := fun _ => fun
  | [d] => { results := [.lit (.bool true)], args := [d] }
  | _ => none }
def fnOrderLineRow : OpenClaim := { program := "ytfdbminedccccaagreatdoor", sum := "cd4ff18d602b0770a8d899b651dcaa74201f3aef0e0a2075de97fe198e4c850e", func := "loop.example/fathomline/laws.FnOrderLine", spec := "fnOrderLine", unfollowed := true, recurses := true, named := ["math/bits.deBruijn64tab"], apart := false, laid := [("math/bits.deBruijn64tab", laid_math_bits_deBruijn64tab)] }
def FnOrderLineSaid : Prop := fnOrderLineRow.holds Tryz.pinned (OpenSpec.ofChange fnOrderLineSpec)

/-- ITS FALSE NEIGHBOUR: 'it returns false'. Refute it at one input. -/
def fnOrderLineWrong : ChangeSpec := { name := "fnOrderLine", fn := fun _ => fun
  | [d] => { results := [.lit (.bool false)], args := [d] }
  | _ => none }
def FnOrderLineWrongFalsely : Prop := fnOrderLineRow.holds Tryz.pinned (OpenSpec.ofChange fnOrderLineWrong)

/-- 'laws.FnOrderLineHolds': WHATEVER THE INPUT: true; the input reads as it did. -/
def fnOrderLineHoldsSpec : ChangeSpec := { name := "fnOrderLineHolds", fn := fun _ => fun
  | [d] => { results := [.lit (.bool true)], args := [d] }
  | _ => none }
def fnOrderLineHoldsRow : OpenClaim := { program := "ytfdbminedccccaagreatdoor", sum := "cd4ff18d602b0770a8d899b651dcaa74201f3aef0e0a2075de97fe198e4c850e", func := "loop.example/fathomline/laws.FnOrderLineHolds", spec := "fnOrderLineHolds", unfollowed := true, recurses := true, named := ["math/bits.deBruijn64tab"], apart := false, laid := [("math/bits.deBruijn64tab", laid_math_bits_deBruijn64tab)] }
def FnOrderLineHoldsSaid : Prop := fnOrderLineHoldsRow.holds Tryz.pinned (OpenSpec.ofChange fnOrderLineHoldsSpec)

/-- ITS FALSE NEIGHBOUR: 'it returns false'. Refute it at one input. -/
def fnOrderLineHoldsWrong : ChangeSpec := { name := "fnOrderLineHolds", fn := fun _ => fun
  | [d] => { results := [.lit (.bool false)], args := [d] }
  | _ => none }
def FnOrderLineHoldsWrongFalsely : Prop := fnOrderLineHoldsRow.holds Tryz.pinned (OpenSpec.ofChange fnOrderLineHoldsWrong)

/-- 'laws.FnOrderLineWait': WHATEVER THE INPUT: true; the input reads as it did. -/
def fnOrderLineWaitSpec : ChangeSpec := { name := "fnOrderLineWait", fn := fun _ => fun
  | [d] => { results := [.lit (.bool true)], args := [d] }
  | _ => none }
def fnOrderLineWaitRow : OpenClaim := { program := "ytfdbminedccccaagreatdoor", sum := "cd4ff18d602b0770a8d899b651dcaa74201f3aef0e0a2075de97fe198e4c850e", func := "loop.example/fathomline/laws.FnOrderLineWait", spec := "fnOrderLineWait", unfollowed := true, recurses := true, named := ["math/bits.deBruijn64tab"], apart := false, laid := [("math/bits.deBruijn64tab", laid_math_bits_deBruijn64tab)] }
def FnOrderLineWaitSaid : Prop := fnOrderLineWaitRow.holds Tryz.pinned (OpenSpec.ofChange fnOrderLineWaitSpec)

/-- ITS FALSE NEIGHBOUR: 'it returns false'. Refute it at one input. -/
def fnOrderLineWaitWrong : ChangeSpec := { name := "fnOrderLineWait", fn := fun _ => fun
  | [d] => { results := [.lit (.bool false)], args := [d] }
  | _ => none }
def FnOrderLineWaitWrongFalsely : Prop := fnOrderLineWaitRow.holds Tryz.pinned (OpenSpec.ofChange fnOrderLineWaitWrong)

/- THE SECOND FORM. 'bulk': how many values and letters a reading holds, each counted each time it is reached (what is shared counts as often as it is met; a slice's spare places count too). A statement '..UptoSaid' is the law's where the arguments, and the package variables that the reading takes, are together of bulk at most 1048576: NARROWER than '..Said'. Prove '..Said' where nothing that the law and all that it calls make is longer than what came in: it says more and counts as full. Else prove '..UptoSaid'. A law counts once. -/
mutual
def uptoBulk {H : Type} : DataW H → Nat
  | .lit (.string bytes) => bytes.length + 1
  | .lit _ => 1
  | .nil => 1
  | .ptr d => uptoBulk d + 1
  | .slice elems spare => uptoBulkAll elems + uptoBulkAll spare + 1
  | .agg parts => uptoBulkAll parts + 1
  | .iface _ d => uptoBulk d + 1
  | .map entries => uptoBulkEntries entries + 1
  | .held _ => 1
def uptoBulkAll {H : Type} : List (DataW H) → Nat
  | [] => 0
  | d :: r => uptoBulk d + uptoBulkAll r
def uptoBulkEntries {H : Type} : List (Lit × DataW H) → Nat
  | [] => 0
  | x :: r => uptoBulkEntry x + uptoBulkEntries r
def uptoBulkEntry {H : Type} : Lit × DataW H → Nat
  | (.string bytes, d) => bytes.length + uptoBulk d + 1
  | (_, d) => uptoBulk d + 1
 end
def uptoSmall : (H : Type) → List (DataW H) → Bool := fun _ ds => decide (uptoBulkAll ds ≤ 1048576)
def OpenSpec.upto (s : _root_.Go.ChangeSpec) : _root_.Go.OpenSpec := { _root_.Go.OpenSpec.ofChange s with cond := some uptoSmall }

/-- 'laws.FnOrderHolds', WHERE WHAT IT READS IS OF BULK AT MOST 1048576: true; the input reads as it did. -/
def fnOrderHoldsUptoRow : OpenClaim := { program := "ytfdbminedccccaagreatdoor", sum := "cd4ff18d602b0770a8d899b651dcaa74201f3aef0e0a2075de97fe198e4c850e", func := "loop.example/fathomline/laws.FnOrderHolds", spec := "fnOrderHolds", unfollowed := true, recurses := true, named := ["math/bits.deBruijn64tab"], apart := false, laid := [("math/bits.deBruijn64tab", laid_math_bits_deBruijn64tab)], narrowed := true }
def FnOrderHoldsUptoSaid : Prop := fnOrderHoldsUptoRow.holds Tryz.pinned (OpenSpec.upto fnOrderHoldsSpec)

/-- 'laws.FnOrderRing', WHERE WHAT IT READS IS OF BULK AT MOST 1048576: true; the input reads as it did. -/
def fnOrderRingUptoRow : OpenClaim := { program := "ytfdbminedccccaagreatdoor", sum := "cd4ff18d602b0770a8d899b651dcaa74201f3aef0e0a2075de97fe198e4c850e", func := "loop.example/fathomline/laws.FnOrderRing", spec := "fnOrderRing", unfollowed := true, recurses := true, named := ["math/bits.deBruijn64tab"], apart := false, laid := [("math/bits.deBruijn64tab", laid_math_bits_deBruijn64tab)], narrowed := true }
def FnOrderRingUptoSaid : Prop := fnOrderRingUptoRow.holds Tryz.pinned (OpenSpec.upto fnOrderRingSpec)

/-- 'laws.FnOrderRingNot', WHERE WHAT IT READS IS OF BULK AT MOST 1048576: true; the input reads as it did. -/
def fnOrderRingNotUptoRow : OpenClaim := { program := "ytfdbminedccccaagreatdoor", sum := "cd4ff18d602b0770a8d899b651dcaa74201f3aef0e0a2075de97fe198e4c850e", func := "loop.example/fathomline/laws.FnOrderRingNot", spec := "fnOrderRingNot", unfollowed := true, recurses := true, named := ["math/bits.deBruijn64tab"], apart := false, laid := [("math/bits.deBruijn64tab", laid_math_bits_deBruijn64tab)], narrowed := true }
def FnOrderRingNotUptoSaid : Prop := fnOrderRingNotUptoRow.holds Tryz.pinned (OpenSpec.upto fnOrderRingNotSpec)

/-- 'laws.FnOrderLine', WHERE WHAT IT READS IS OF BULK AT MOST 1048576: true; the input reads as it did. -/
def fnOrderLineUptoRow : OpenClaim := { program := "ytfdbminedccccaagreatdoor", sum := "cd4ff18d602b0770a8d899b651dcaa74201f3aef0e0a2075de97fe198e4c850e", func := "loop.example/fathomline/laws.FnOrderLine", spec := "fnOrderLine", unfollowed := true, recurses := true, named := ["math/bits.deBruijn64tab"], apart := false, laid := [("math/bits.deBruijn64tab", laid_math_bits_deBruijn64tab)], narrowed := true }
def FnOrderLineUptoSaid : Prop := fnOrderLineUptoRow.holds Tryz.pinned (OpenSpec.upto fnOrderLineSpec)

/-- 'laws.FnOrderLineHolds', WHERE WHAT IT READS IS OF BULK AT MOST 1048576: true; the input reads as it did. -/
def fnOrderLineHoldsUptoRow : OpenClaim := { program := "ytfdbminedccccaagreatdoor", sum := "cd4ff18d602b0770a8d899b651dcaa74201f3aef0e0a2075de97fe198e4c850e", func := "loop.example/fathomline/laws.FnOrderLineHolds", spec := "fnOrderLineHolds", unfollowed := true, recurses := true, named := ["math/bits.deBruijn64tab"], apart := false, laid := [("math/bits.deBruijn64tab", laid_math_bits_deBruijn64tab)], narrowed := true }
def FnOrderLineHoldsUptoSaid : Prop := fnOrderLineHoldsUptoRow.holds Tryz.pinned (OpenSpec.upto fnOrderLineHoldsSpec)

/-- 'laws.FnOrderLineWait', WHERE WHAT IT READS IS OF BULK AT MOST 1048576: true; the input reads as it did. -/
def fnOrderLineWaitUptoRow : OpenClaim := { program := "ytfdbminedccccaagreatdoor", sum := "cd4ff18d602b0770a8d899b651dcaa74201f3aef0e0a2075de97fe198e4c850e", func := "loop.example/fathomline/laws.FnOrderLineWait", spec := "fnOrderLineWait", unfollowed := true, recurses := true, named := ["math/bits.deBruijn64tab"], apart := false, laid := [("math/bits.deBruijn64tab", laid_math_bits_deBruijn64tab)], narrowed := true }
def FnOrderLineWaitUptoSaid : Prop := fnOrderLineWaitUptoRow.holds Tryz.pinned (OpenSpec.upto fnOrderLineWaitSpec)

end Rows
end Go.Proofs.YtfdbminedccccaaGreatDoor
