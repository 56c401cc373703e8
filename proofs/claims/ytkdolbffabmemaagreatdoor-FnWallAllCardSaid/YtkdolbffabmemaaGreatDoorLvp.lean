/-
 What the program's types are.
-/
import Derived.Test.YtkdolbffabmemaaGreatDoorLvm
import Derived.Test.YtkdolbffabmemaaGreatDoorProg
namespace Go.Proofs.YtkdolbffabmemaaGreatDoor
open Go.RowKit
@[push_cast] theorem szT_3 : szT Tryz.prog 3 = 1 := by kernel_rfl
@[push_cast] theorem byT_3 : byT Tryz.prog 3 = 8 := by kernel_rfl
@[push_cast] theorem aggT_3 : aggT Tryz.prog 3 = some false := by kernel_rfl
@[push_cast] theorem elT_3 : elT Tryz.prog 3 = none := by kernel_rfl
@[push_cast] theorem arrT_3 : arrT Tryz.prog 3 = none := by kernel_rfl
@[push_cast] theorem strT_3 : strT Tryz.prog 3 = false := by kernel_rfl
@[push_cast] theorem intT_3 : intT Tryz.prog 3 = some .i64 := by kernel_rfl
@[push_cast] theorem zeroT_3 : zeroT Tryz.prog 3 = some (.int .i64 0) := by kernel_rfl
@[push_cast] theorem szT_4 : szT Tryz.prog 4 = 1 := by kernel_rfl
@[push_cast] theorem byT_4 : byT Tryz.prog 4 = 1 := by kernel_rfl
@[push_cast] theorem aggT_4 : aggT Tryz.prog 4 = some false := by kernel_rfl
@[push_cast] theorem elT_4 : elT Tryz.prog 4 = none := by kernel_rfl
@[push_cast] theorem arrT_4 : arrT Tryz.prog 4 = none := by kernel_rfl
@[push_cast] theorem strT_4 : strT Tryz.prog 4 = false := by kernel_rfl
@[push_cast] theorem intT_4 : intT Tryz.prog 4 = none := by kernel_rfl
@[push_cast] theorem boolT_4 : boolT Tryz.prog 4 = true := by kernel_rfl
@[push_cast] theorem zeroT_4 : zeroT Tryz.prog 4 = some (.bool false) := by kernel_rfl
@[push_cast] theorem szT_5 : szT Tryz.prog 5 = 1 := by kernel_rfl
@[push_cast] theorem byT_5 : byT Tryz.prog 5 = 1 := by kernel_rfl
@[push_cast] theorem aggT_5 : aggT Tryz.prog 5 = some false := by kernel_rfl
@[push_cast] theorem elT_5 : elT Tryz.prog 5 = none := by kernel_rfl
@[push_cast] theorem arrT_5 : arrT Tryz.prog 5 = none := by kernel_rfl
@[push_cast] theorem strT_5 : strT Tryz.prog 5 = false := by kernel_rfl
@[push_cast] theorem intT_5 : intT Tryz.prog 5 = some .u8 := by kernel_rfl
@[push_cast] theorem zeroT_5 : zeroT Tryz.prog 5 = some (.int .u8 0) := by kernel_rfl
@[push_cast] theorem szT_9 : szT Tryz.prog 9 = 1 := by kernel_rfl
@[push_cast] theorem byT_9 : byT Tryz.prog 9 = 16 := by kernel_rfl
@[push_cast] theorem aggT_9 : aggT Tryz.prog 9 = some false := by kernel_rfl
@[push_cast] theorem elT_9 : elT Tryz.prog 9 = none := by kernel_rfl
@[push_cast] theorem arrT_9 : arrT Tryz.prog 9 = none := by kernel_rfl
@[push_cast] theorem strT_9 : strT Tryz.prog 9 = true := by kernel_rfl
@[push_cast] theorem intT_9 : intT Tryz.prog 9 = none := by kernel_rfl
@[push_cast] theorem szT_22 : szT Tryz.prog 22 = 1 := by kernel_rfl
@[push_cast] theorem byT_22 : byT Tryz.prog 22 = 24 := by kernel_rfl
@[push_cast] theorem aggT_22 : aggT Tryz.prog 22 = some false := by kernel_rfl
@[push_cast] theorem elT_22 : elT Tryz.prog 22 = some 5 := by kernel_rfl
@[push_cast] theorem arrT_22 : arrT Tryz.prog 22 = none := by kernel_rfl
@[push_cast] theorem strT_22 : strT Tryz.prog 22 = false := by kernel_rfl
@[push_cast] theorem intT_22 : intT Tryz.prog 22 = none := by kernel_rfl
@[push_cast] theorem zeroT_22 : zeroT Tryz.prog 22 = some (.nilsl) := by kernel_rfl
@[push_cast] theorem szT_23 : szT Tryz.prog 23 = 1 := by kernel_rfl
@[push_cast] theorem byT_23 : byT Tryz.prog 23 = 24 := by kernel_rfl
@[push_cast] theorem aggT_23 : aggT Tryz.prog 23 = some false := by kernel_rfl
@[push_cast] theorem elT_23 : elT Tryz.prog 23 = some 38 := by kernel_rfl
@[push_cast] theorem arrT_23 : arrT Tryz.prog 23 = none := by kernel_rfl
@[push_cast] theorem strT_23 : strT Tryz.prog 23 = false := by kernel_rfl
@[push_cast] theorem intT_23 : intT Tryz.prog 23 = none := by kernel_rfl
@[push_cast] theorem zeroT_23 : zeroT Tryz.prog 23 = some (.nilsl) := by kernel_rfl
@[push_cast] theorem szT_25 : szT Tryz.prog 25 = 1 := by kernel_rfl
@[push_cast] theorem byT_25 : byT Tryz.prog 25 = 24 := by kernel_rfl
@[push_cast] theorem aggT_25 : aggT Tryz.prog 25 = some true := by kernel_rfl
@[push_cast] theorem elT_25 : elT Tryz.prog 25 = none := by kernel_rfl
@[push_cast] theorem arrT_25 : arrT Tryz.prog 25 = none := by kernel_rfl
@[push_cast] theorem strT_25 : strT Tryz.prog 25 = false := by kernel_rfl
@[push_cast] theorem intT_25 : intT Tryz.prog 25 = none := by kernel_rfl
@[push_cast] theorem zeroT_25 : zeroT Tryz.prog 25 = some (.agg [.nilsl]) := by kernel_rfl
@[push_cast] theorem offT_25_0 : offT Tryz.prog 25 0 = some (0, 23) := by kernel_rfl
@[push_cast] theorem placesT_25 : placesT Tryz.prog 25 = some fun i => [(0, 1)][i]? := by kernel_rfl
@[push_cast] theorem szT_28 : szT Tryz.prog 28 = 1 := by kernel_rfl
@[push_cast] theorem byT_28 : byT Tryz.prog 28 = 24 := by kernel_rfl
@[push_cast] theorem aggT_28 : aggT Tryz.prog 28 = some false := by kernel_rfl
@[push_cast] theorem elT_28 : elT Tryz.prog 28 = some 34 := by kernel_rfl
@[push_cast] theorem arrT_28 : arrT Tryz.prog 28 = none := by kernel_rfl
@[push_cast] theorem strT_28 : strT Tryz.prog 28 = false := by kernel_rfl
@[push_cast] theorem intT_28 : intT Tryz.prog 28 = none := by kernel_rfl
@[push_cast] theorem zeroT_28 : zeroT Tryz.prog 28 = some (.nilsl) := by kernel_rfl
@[push_cast] theorem szT_32 : szT Tryz.prog 32 = 1 := by kernel_rfl
@[push_cast] theorem byT_32 : byT Tryz.prog 32 = 24 := by kernel_rfl
@[push_cast] theorem aggT_32 : aggT Tryz.prog 32 = some false := by kernel_rfl
@[push_cast] theorem elT_32 : elT Tryz.prog 32 = some 3 := by kernel_rfl
@[push_cast] theorem arrT_32 : arrT Tryz.prog 32 = none := by kernel_rfl
@[push_cast] theorem strT_32 : strT Tryz.prog 32 = false := by kernel_rfl
@[push_cast] theorem intT_32 : intT Tryz.prog 32 = none := by kernel_rfl
@[push_cast] theorem zeroT_32 : zeroT Tryz.prog 32 = some (.nilsl) := by kernel_rfl
@[push_cast] theorem szT_34 : szT Tryz.prog 34 = 2 := by kernel_rfl
@[push_cast] theorem byT_34 : byT Tryz.prog 34 = 48 := by kernel_rfl
@[push_cast] theorem aggT_34 : aggT Tryz.prog 34 = some true := by kernel_rfl
@[push_cast] theorem elT_34 : elT Tryz.prog 34 = none := by kernel_rfl
@[push_cast] theorem arrT_34 : arrT Tryz.prog 34 = none := by kernel_rfl
@[push_cast] theorem strT_34 : strT Tryz.prog 34 = false := by kernel_rfl
@[push_cast] theorem intT_34 : intT Tryz.prog 34 = none := by kernel_rfl
@[push_cast] theorem zeroT_34 : zeroT Tryz.prog 34 = some (.agg [.nilsl, .nilsl]) := by kernel_rfl
@[push_cast] theorem offT_34_0 : offT Tryz.prog 34 0 = some (0, 32) := by kernel_rfl
@[push_cast] theorem offT_34_1 : offT Tryz.prog 34 1 = some (1, 32) := by kernel_rfl
@[push_cast] theorem placesT_34 : placesT Tryz.prog 34 = some fun i => [(0, 1), (1, 1)][i]? := by kernel_rfl
@[push_cast] theorem szT_38 : szT Tryz.prog 38 = 1 := by kernel_rfl
@[push_cast] theorem byT_38 : byT Tryz.prog 38 = 24 := by kernel_rfl
@[push_cast] theorem aggT_38 : aggT Tryz.prog 38 = some false := by kernel_rfl
@[push_cast] theorem elT_38 : elT Tryz.prog 38 = some 40 := by kernel_rfl
@[push_cast] theorem arrT_38 : arrT Tryz.prog 38 = none := by kernel_rfl
@[push_cast] theorem strT_38 : strT Tryz.prog 38 = false := by kernel_rfl
@[push_cast] theorem intT_38 : intT Tryz.prog 38 = none := by kernel_rfl
@[push_cast] theorem zeroT_38 : zeroT Tryz.prog 38 = some (.nilsl) := by kernel_rfl
@[push_cast] theorem szT_40 : szT Tryz.prog 40 = 3 := by kernel_rfl
@[push_cast] theorem byT_40 : byT Tryz.prog 40 = 24 := by kernel_rfl
@[push_cast] theorem aggT_40 : aggT Tryz.prog 40 = some true := by kernel_rfl
@[push_cast] theorem elT_40 : elT Tryz.prog 40 = none := by kernel_rfl
@[push_cast] theorem arrT_40 : arrT Tryz.prog 40 = none := by kernel_rfl
@[push_cast] theorem strT_40 : strT Tryz.prog 40 = false := by kernel_rfl
@[push_cast] theorem intT_40 : intT Tryz.prog 40 = none := by kernel_rfl
@[push_cast] theorem zeroT_40 : zeroT Tryz.prog 40 = some (.agg [.int .i64 0, .int .i64 0, .int .i64 0]) := by kernel_rfl
@[push_cast] theorem offT_40_0 : offT Tryz.prog 40 0 = some (0, 3) := by kernel_rfl
@[push_cast] theorem offT_40_1 : offT Tryz.prog 40 1 = some (1, 3) := by kernel_rfl
@[push_cast] theorem offT_40_2 : offT Tryz.prog 40 2 = some (2, 3) := by kernel_rfl
@[push_cast] theorem placesT_40 : placesT Tryz.prog 40 = some fun i => [(0, 1), (1, 1), (2, 1)][i]? := by kernel_rfl
@[push_cast] theorem szT_53 : szT Tryz.prog 53 = 1 := by kernel_rfl
@[push_cast] theorem byT_53 : byT Tryz.prog 53 = 24 := by kernel_rfl
@[push_cast] theorem aggT_53 : aggT Tryz.prog 53 = some false := by kernel_rfl
@[push_cast] theorem elT_53 : elT Tryz.prog 53 = some 93 := by kernel_rfl
@[push_cast] theorem arrT_53 : arrT Tryz.prog 53 = none := by kernel_rfl
@[push_cast] theorem strT_53 : strT Tryz.prog 53 = false := by kernel_rfl
@[push_cast] theorem intT_53 : intT Tryz.prog 53 = none := by kernel_rfl
@[push_cast] theorem zeroT_53 : zeroT Tryz.prog 53 = some (.nilsl) := by kernel_rfl
@[push_cast] theorem szT_55 : szT Tryz.prog 55 = 3 := by kernel_rfl
@[push_cast] theorem byT_55 : byT Tryz.prog 55 = 72 := by kernel_rfl
@[push_cast] theorem aggT_55 : aggT Tryz.prog 55 = some true := by kernel_rfl
@[push_cast] theorem elT_55 : elT Tryz.prog 55 = none := by kernel_rfl
@[push_cast] theorem arrT_55 : arrT Tryz.prog 55 = none := by kernel_rfl
@[push_cast] theorem strT_55 : strT Tryz.prog 55 = false := by kernel_rfl
@[push_cast] theorem intT_55 : intT Tryz.prog 55 = none := by kernel_rfl
@[push_cast] theorem zeroT_55 : zeroT Tryz.prog 55 = some (.agg [.nilsl, .nilsl, .nilsl]) := by kernel_rfl
@[push_cast] theorem offT_55_0 : offT Tryz.prog 55 0 = some (0, 25) := by kernel_rfl
@[push_cast] theorem offT_55_1 : offT Tryz.prog 55 1 = some (1, 53) := by kernel_rfl
@[push_cast] theorem offT_55_2 : offT Tryz.prog 55 2 = some (2, 38) := by kernel_rfl
@[push_cast] theorem placesT_55 : placesT Tryz.prog 55 = some fun i => [(0, 1), (1, 1), (2, 1)][i]? := by kernel_rfl
@[push_cast] theorem szT_57 : szT Tryz.prog 57 = 1 := by kernel_rfl
@[push_cast] theorem byT_57 : byT Tryz.prog 57 = 24 := by kernel_rfl
@[push_cast] theorem aggT_57 : aggT Tryz.prog 57 = some false := by kernel_rfl
@[push_cast] theorem elT_57 : elT Tryz.prog 57 = some 61 := by kernel_rfl
@[push_cast] theorem arrT_57 : arrT Tryz.prog 57 = none := by kernel_rfl
@[push_cast] theorem strT_57 : strT Tryz.prog 57 = false := by kernel_rfl
@[push_cast] theorem intT_57 : intT Tryz.prog 57 = none := by kernel_rfl
@[push_cast] theorem zeroT_57 : zeroT Tryz.prog 57 = some (.nilsl) := by kernel_rfl
@[push_cast] theorem szT_59 : szT Tryz.prog 59 = 1 := by kernel_rfl
@[push_cast] theorem byT_59 : byT Tryz.prog 59 = 24 := by kernel_rfl
@[push_cast] theorem aggT_59 : aggT Tryz.prog 59 = some false := by kernel_rfl
@[push_cast] theorem elT_59 : elT Tryz.prog 59 = some 32 := by kernel_rfl
@[push_cast] theorem arrT_59 : arrT Tryz.prog 59 = none := by kernel_rfl
@[push_cast] theorem strT_59 : strT Tryz.prog 59 = false := by kernel_rfl
@[push_cast] theorem intT_59 : intT Tryz.prog 59 = none := by kernel_rfl
@[push_cast] theorem zeroT_59 : zeroT Tryz.prog 59 = some (.nilsl) := by kernel_rfl
@[push_cast] theorem szT_61 : szT Tryz.prog 61 = 2 := by kernel_rfl
@[push_cast] theorem byT_61 : byT Tryz.prog 61 = 48 := by kernel_rfl
@[push_cast] theorem aggT_61 : aggT Tryz.prog 61 = some true := by kernel_rfl
@[push_cast] theorem elT_61 : elT Tryz.prog 61 = none := by kernel_rfl
@[push_cast] theorem arrT_61 : arrT Tryz.prog 61 = none := by kernel_rfl
@[push_cast] theorem strT_61 : strT Tryz.prog 61 = false := by kernel_rfl
@[push_cast] theorem intT_61 : intT Tryz.prog 61 = none := by kernel_rfl
@[push_cast] theorem zeroT_61 : zeroT Tryz.prog 61 = some (.agg [.nilsl, .nilsl]) := by kernel_rfl
@[push_cast] theorem offT_61_0 : offT Tryz.prog 61 0 = some (0, 32) := by kernel_rfl
@[push_cast] theorem offT_61_1 : offT Tryz.prog 61 1 = some (1, 59) := by kernel_rfl
@[push_cast] theorem placesT_61 : placesT Tryz.prog 61 = some fun i => [(0, 1), (1, 1)][i]? := by kernel_rfl
@[push_cast] theorem szT_63 : szT Tryz.prog 63 = 1 := by kernel_rfl
@[push_cast] theorem byT_63 : byT Tryz.prog 63 = 24 := by kernel_rfl
@[push_cast] theorem aggT_63 : aggT Tryz.prog 63 = some false := by kernel_rfl
@[push_cast] theorem elT_63 : elT Tryz.prog 63 = some 138 := by kernel_rfl
@[push_cast] theorem arrT_63 : arrT Tryz.prog 63 = none := by kernel_rfl
@[push_cast] theorem strT_63 : strT Tryz.prog 63 = false := by kernel_rfl
@[push_cast] theorem intT_63 : intT Tryz.prog 63 = none := by kernel_rfl
@[push_cast] theorem zeroT_63 : zeroT Tryz.prog 63 = some (.nilsl) := by kernel_rfl
@[push_cast] theorem szT_86 : szT Tryz.prog 86 = 2 := by kernel_rfl
@[push_cast] theorem byT_86 : byT Tryz.prog 86 = 32 := by kernel_rfl
@[push_cast] theorem aggT_86 : aggT Tryz.prog 86 = some true := by kernel_rfl
@[push_cast] theorem elT_86 : elT Tryz.prog 86 = none := by kernel_rfl
@[push_cast] theorem arrT_86 : arrT Tryz.prog 86 = none := by kernel_rfl
@[push_cast] theorem strT_86 : strT Tryz.prog 86 = false := by kernel_rfl
@[push_cast] theorem intT_86 : intT Tryz.prog 86 = none := by kernel_rfl
@[push_cast] theorem zeroT_86 : zeroT Tryz.prog 86 = some (.agg [.nilsl, .int .i64 0]) := by kernel_rfl
@[push_cast] theorem offT_86_0 : offT Tryz.prog 86 0 = some (0, 22) := by kernel_rfl
@[push_cast] theorem offT_86_1 : offT Tryz.prog 86 1 = some (1, 3) := by kernel_rfl
@[push_cast] theorem placesT_86 : placesT Tryz.prog 86 = some fun i => [(0, 1), (1, 1)][i]? := by kernel_rfl
@[push_cast] theorem szT_93 : szT Tryz.prog 93 = 3 := by kernel_rfl
@[push_cast] theorem byT_93 : byT Tryz.prog 93 = 24 := by kernel_rfl
@[push_cast] theorem aggT_93 : aggT Tryz.prog 93 = some true := by kernel_rfl
@[push_cast] theorem elT_93 : elT Tryz.prog 93 = none := by kernel_rfl
@[push_cast] theorem arrT_93 : arrT Tryz.prog 93 = none := by kernel_rfl
@[push_cast] theorem strT_93 : strT Tryz.prog 93 = false := by kernel_rfl
@[push_cast] theorem intT_93 : intT Tryz.prog 93 = none := by kernel_rfl
@[push_cast] theorem zeroT_93 : zeroT Tryz.prog 93 = some (.agg [.int .i64 0, .int .i64 0, .bool false]) := by kernel_rfl
@[push_cast] theorem offT_93_0 : offT Tryz.prog 93 0 = some (0, 3) := by kernel_rfl
@[push_cast] theorem offT_93_1 : offT Tryz.prog 93 1 = some (1, 3) := by kernel_rfl
@[push_cast] theorem offT_93_2 : offT Tryz.prog 93 2 = some (2, 4) := by kernel_rfl
@[push_cast] theorem placesT_93 : placesT Tryz.prog 93 = some fun i => [(0, 1), (1, 1), (2, 1)][i]? := by kernel_rfl
@[push_cast] theorem szT_94 : szT Tryz.prog 94 = 1 := by kernel_rfl
@[push_cast] theorem byT_94 : byT Tryz.prog 94 = 24 := by kernel_rfl
@[push_cast] theorem aggT_94 : aggT Tryz.prog 94 = some false := by kernel_rfl
@[push_cast] theorem elT_94 : elT Tryz.prog 94 = some 59 := by kernel_rfl
@[push_cast] theorem arrT_94 : arrT Tryz.prog 94 = none := by kernel_rfl
@[push_cast] theorem strT_94 : strT Tryz.prog 94 = false := by kernel_rfl
@[push_cast] theorem intT_94 : intT Tryz.prog 94 = none := by kernel_rfl
@[push_cast] theorem zeroT_94 : zeroT Tryz.prog 94 = some (.nilsl) := by kernel_rfl
@[push_cast] theorem szT_105 : szT Tryz.prog 105 = 1 := by kernel_rfl
@[push_cast] theorem byT_105 : byT Tryz.prog 105 = 24 := by kernel_rfl
@[push_cast] theorem aggT_105 : aggT Tryz.prog 105 = some false := by kernel_rfl
@[push_cast] theorem elT_105 : elT Tryz.prog 105 = some 143 := by kernel_rfl
@[push_cast] theorem arrT_105 : arrT Tryz.prog 105 = none := by kernel_rfl
@[push_cast] theorem strT_105 : strT Tryz.prog 105 = false := by kernel_rfl
@[push_cast] theorem intT_105 : intT Tryz.prog 105 = none := by kernel_rfl
@[push_cast] theorem zeroT_105 : zeroT Tryz.prog 105 = some (.nilsl) := by kernel_rfl
@[push_cast] theorem szT_119 : szT Tryz.prog 119 = 1 := by kernel_rfl
@[push_cast] theorem byT_119 : byT Tryz.prog 119 = 24 := by kernel_rfl
@[push_cast] theorem aggT_119 : aggT Tryz.prog 119 = some false := by kernel_rfl
@[push_cast] theorem elT_119 : elT Tryz.prog 119 = some 4 := by kernel_rfl
@[push_cast] theorem arrT_119 : arrT Tryz.prog 119 = none := by kernel_rfl
@[push_cast] theorem strT_119 : strT Tryz.prog 119 = false := by kernel_rfl
@[push_cast] theorem intT_119 : intT Tryz.prog 119 = none := by kernel_rfl
@[push_cast] theorem zeroT_119 : zeroT Tryz.prog 119 = some (.nilsl) := by kernel_rfl
@[push_cast] theorem szT_121 : szT Tryz.prog 121 = 6 := by kernel_rfl
@[push_cast] theorem byT_121 : byT Tryz.prog 121 = 144 := by kernel_rfl
@[push_cast] theorem aggT_121 : aggT Tryz.prog 121 = some true := by kernel_rfl
@[push_cast] theorem elT_121 : elT Tryz.prog 121 = none := by kernel_rfl
@[push_cast] theorem arrT_121 : arrT Tryz.prog 121 = none := by kernel_rfl
@[push_cast] theorem strT_121 : strT Tryz.prog 121 = false := by kernel_rfl
@[push_cast] theorem intT_121 : intT Tryz.prog 121 = none := by kernel_rfl
@[push_cast] theorem zeroT_121 : zeroT Tryz.prog 121 = some (.agg [.nilsl, .nilsl, .nilsl, .nilsl, .nilsl, .nilsl]) := by kernel_rfl
@[push_cast] theorem offT_121_0 : offT Tryz.prog 121 0 = some (0, 25) := by kernel_rfl
@[push_cast] theorem offT_121_1 : offT Tryz.prog 121 1 = some (1, 53) := by kernel_rfl
@[push_cast] theorem offT_121_2 : offT Tryz.prog 121 2 = some (2, 119) := by kernel_rfl
@[push_cast] theorem offT_121_3 : offT Tryz.prog 121 3 = some (3, 119) := by kernel_rfl
@[push_cast] theorem offT_121_4 : offT Tryz.prog 121 4 = some (4, 32) := by kernel_rfl
@[push_cast] theorem offT_121_5 : offT Tryz.prog 121 5 = some (5, 32) := by kernel_rfl
@[push_cast] theorem placesT_121 : placesT Tryz.prog 121 = some fun i => [(0, 1), (1, 1), (2, 1), (3, 1), (4, 1), (5, 1)][i]? := by kernel_rfl
@[push_cast] theorem szT_138 : szT Tryz.prog 138 = 1 := by kernel_rfl
@[push_cast] theorem byT_138 : byT Tryz.prog 138 = 8 := by kernel_rfl
@[push_cast] theorem aggT_138 : aggT Tryz.prog 138 = some false := by kernel_rfl
@[push_cast] theorem elT_138 : elT Tryz.prog 138 = none := by kernel_rfl
@[push_cast] theorem arrT_138 : arrT Tryz.prog 138 = none := by kernel_rfl
@[push_cast] theorem strT_138 : strT Tryz.prog 138 = false := by kernel_rfl
@[push_cast] theorem intT_138 : intT Tryz.prog 138 = some .u64 := by kernel_rfl
@[push_cast] theorem zeroT_138 : zeroT Tryz.prog 138 = some (.int .u64 0) := by kernel_rfl
@[push_cast] theorem szT_142 : szT Tryz.prog 142 = 2 := by kernel_rfl
@[push_cast] theorem byT_142 : byT Tryz.prog 142 = 16 := by kernel_rfl
@[push_cast] theorem aggT_142 : aggT Tryz.prog 142 = some true := by kernel_rfl
@[push_cast] theorem elT_142 : elT Tryz.prog 142 = none := by kernel_rfl
@[push_cast] theorem arrT_142 : arrT Tryz.prog 142 = none := by kernel_rfl
@[push_cast] theorem strT_142 : strT Tryz.prog 142 = false := by kernel_rfl
@[push_cast] theorem intT_142 : intT Tryz.prog 142 = none := by kernel_rfl
@[push_cast] theorem zeroT_142 : zeroT Tryz.prog 142 = some (.agg [.int .i64 0, .int .i64 0]) := by kernel_rfl
@[push_cast] theorem offT_142_0 : offT Tryz.prog 142 0 = some (0, 3) := by kernel_rfl
@[push_cast] theorem offT_142_1 : offT Tryz.prog 142 1 = some (1, 3) := by kernel_rfl
@[push_cast] theorem placesT_142 : placesT Tryz.prog 142 = some fun i => [(0, 1), (1, 1)][i]? := by kernel_rfl
@[push_cast] theorem szT_143 : szT Tryz.prog 143 = 4 := by kernel_rfl
@[push_cast] theorem byT_143 : byT Tryz.prog 143 = 32 := by kernel_rfl
@[push_cast] theorem aggT_143 : aggT Tryz.prog 143 = some true := by kernel_rfl
@[push_cast] theorem elT_143 : elT Tryz.prog 143 = none := by kernel_rfl
@[push_cast] theorem arrT_143 : arrT Tryz.prog 143 = some (2, 142) := by kernel_rfl
@[push_cast] theorem strT_143 : strT Tryz.prog 143 = false := by kernel_rfl
@[push_cast] theorem intT_143 : intT Tryz.prog 143 = none := by kernel_rfl
@[push_cast] theorem zeroT_143 : zeroT Tryz.prog 143 = some (.agg [.int .i64 0, .int .i64 0, .int .i64 0, .int .i64 0]) := by kernel_rfl
@[push_cast] theorem placesT_143 : placesT Tryz.prog 143 = some fun i => some (i * 2, 2) := by kernel_rfl
@[push_cast] theorem szT_148 : szT Tryz.prog 148 = 1 := by kernel_rfl
@[push_cast] theorem byT_148 : byT Tryz.prog 148 = 24 := by kernel_rfl
@[push_cast] theorem aggT_148 : aggT Tryz.prog 148 = some false := by kernel_rfl
@[push_cast] theorem elT_148 : elT Tryz.prog 148 = some 119 := by kernel_rfl
@[push_cast] theorem arrT_148 : arrT Tryz.prog 148 = none := by kernel_rfl
@[push_cast] theorem strT_148 : strT Tryz.prog 148 = false := by kernel_rfl
@[push_cast] theorem intT_148 : intT Tryz.prog 148 = none := by kernel_rfl
@[push_cast] theorem zeroT_148 : zeroT Tryz.prog 148 = some (.nilsl) := by kernel_rfl
@[push_cast] theorem szT_150 : szT Tryz.prog 150 = 1 := by kernel_rfl
@[push_cast] theorem byT_150 : byT Tryz.prog 150 = 24 := by kernel_rfl
@[push_cast] theorem aggT_150 : aggT Tryz.prog 150 = some true := by kernel_rfl
@[push_cast] theorem elT_150 : elT Tryz.prog 150 = none := by kernel_rfl
@[push_cast] theorem arrT_150 : arrT Tryz.prog 150 = none := by kernel_rfl
@[push_cast] theorem strT_150 : strT Tryz.prog 150 = false := by kernel_rfl
@[push_cast] theorem intT_150 : intT Tryz.prog 150 = none := by kernel_rfl
@[push_cast] theorem zeroT_150 : zeroT Tryz.prog 150 = some (.agg [.nilsl]) := by kernel_rfl
@[push_cast] theorem offT_150_0 : offT Tryz.prog 150 0 = some (0, 148) := by kernel_rfl
@[push_cast] theorem placesT_150 : placesT Tryz.prog 150 = some fun i => [(0, 1)][i]? := by kernel_rfl
@[push_cast] theorem szT_161 : szT Tryz.prog 161 = 1 := by kernel_rfl
@[push_cast] theorem byT_161 : byT Tryz.prog 161 = 8 := by kernel_rfl
@[push_cast] theorem aggT_161 : aggT Tryz.prog 161 = some false := by kernel_rfl
@[push_cast] theorem elT_161 : elT Tryz.prog 161 = none := by kernel_rfl
@[push_cast] theorem arrT_161 : arrT Tryz.prog 161 = none := by kernel_rfl
@[push_cast] theorem strT_161 : strT Tryz.prog 161 = false := by kernel_rfl
@[push_cast] theorem intT_161 : intT Tryz.prog 161 = some .u64 := by kernel_rfl
@[push_cast] theorem zeroT_161 : zeroT Tryz.prog 161 = some (.int .u64 0) := by kernel_rfl
@[push_cast] theorem szT_168 : szT Tryz.prog 168 = 64 := by kernel_rfl
@[push_cast] theorem byT_168 : byT Tryz.prog 168 = 64 := by kernel_rfl
@[push_cast] theorem aggT_168 : aggT Tryz.prog 168 = some true := by kernel_rfl
@[push_cast] theorem elT_168 : elT Tryz.prog 168 = none := by kernel_rfl
@[push_cast] theorem arrT_168 : arrT Tryz.prog 168 = some (64, 5) := by kernel_rfl
@[push_cast] theorem strT_168 : strT Tryz.prog 168 = false := by kernel_rfl
@[push_cast] theorem intT_168 : intT Tryz.prog 168 = none := by kernel_rfl
@[push_cast] theorem zeroT_168 : zeroT Tryz.prog 168 = some (.agg [.int .u8 0, .int .u8 0, .int .u8 0, .int .u8 0, .int .u8 0, .int .u8 0, .int .u8 0, .int .u8 0, .int .u8 0, .int .u8 0, .int .u8 0, .int .u8 0, .int .u8 0, .int .u8 0, .int .u8 0, .int .u8 0, .int .u8 0, .int .u8 0, .int .u8 0, .int .u8 0, .int .u8 0, .int .u8 0, .int .u8 0, .int .u8 0, .int .u8 0, .int .u8 0, .int .u8 0, .int .u8 0, .int .u8 0, .int .u8 0, .int .u8 0, .int .u8 0, .int .u8 0, .int .u8 0, .int .u8 0, .int .u8 0, .int .u8 0, .int .u8 0, .int .u8 0, .int .u8 0, .int .u8 0, .int .u8 0, .int .u8 0, .int .u8 0, .int .u8 0, .int .u8 0, .int .u8 0, .int .u8 0, .int .u8 0, .int .u8 0, .int .u8 0, .int .u8 0, .int .u8 0, .int .u8 0, .int .u8 0, .int .u8 0, .int .u8 0, .int .u8 0, .int .u8 0, .int .u8 0, .int .u8 0, .int .u8 0, .int .u8 0, .int .u8 0]) := by kernel_rfl
@[push_cast] theorem placesT_168 : placesT Tryz.prog 168 = some fun i => some (i * 1, 1) := by kernel_rfl
@[push_cast] theorem szT_178 : szT Tryz.prog 178 = 1 := by kernel_rfl
@[push_cast] theorem byT_178 : byT Tryz.prog 178 = 4 := by kernel_rfl
@[push_cast] theorem aggT_178 : aggT Tryz.prog 178 = some false := by kernel_rfl
@[push_cast] theorem elT_178 : elT Tryz.prog 178 = none := by kernel_rfl
@[push_cast] theorem arrT_178 : arrT Tryz.prog 178 = none := by kernel_rfl
@[push_cast] theorem strT_178 : strT Tryz.prog 178 = false := by kernel_rfl
@[push_cast] theorem intT_178 : intT Tryz.prog 178 = some .u32 := by kernel_rfl
@[push_cast] theorem zeroT_178 : zeroT Tryz.prog 178 = some (.int .u32 0) := by kernel_rfl
@[push_cast] theorem szT_180 : szT Tryz.prog 180 = 1 := by kernel_rfl
@[push_cast] theorem byT_180 : byT Tryz.prog 180 = 8 := by kernel_rfl
@[push_cast] theorem aggT_180 : aggT Tryz.prog 180 = some false := by kernel_rfl
@[push_cast] theorem elT_180 : elT Tryz.prog 180 = none := by kernel_rfl
@[push_cast] theorem arrT_180 : arrT Tryz.prog 180 = none := by kernel_rfl
@[push_cast] theorem strT_180 : strT Tryz.prog 180 = false := by kernel_rfl
@[push_cast] theorem intT_180 : intT Tryz.prog 180 = some .u64 := by kernel_rfl
@[push_cast] theorem zeroT_180 : zeroT Tryz.prog 180 = some (.int .u64 0) := by kernel_rfl
end Go.Proofs.YtkdolbffabmemaaGreatDoor
