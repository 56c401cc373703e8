/-
 What the program's types are.
-/
import Derived.Test.YtfbgabkcjjahiaaGreatDoorCvm
import Derived.Test.YtfbgabkcjjahiaaGreatDoorProg
namespace Go.Proofs.YtfbgabkcjjahiaaGreatDoor
open Go.RowKit
@[push_cast] theorem szT_3 : szT Tryz.prog 3 = 1 := by kernel_rfl
@[push_cast] theorem byT_3 : byT Tryz.prog 3 = 8 := by kernel_rfl
@[push_cast] theorem aggT_3 : aggT Tryz.prog 3 = some false := by kernel_rfl
@[push_cast] theorem elT_3 : elT Tryz.prog 3 = none := by kernel_rfl
@[push_cast] theorem arrT_3 : arrT Tryz.prog 3 = none := by kernel_rfl
@[push_cast] theorem strT_3 : strT Tryz.prog 3 = false := by kernel_rfl
@[push_cast] theorem intT_3 : intT Tryz.prog 3 = some .i64 := by kernel_rfl
@[push_cast] theorem zeroT_3 : zeroT Tryz.prog 3 = some (.int .i64 0) := by kernel_rfl
@[push_cast] theorem szT_4 : szT Tryz.prog 4 = 1 := by kernel_rfl
@[push_cast] theorem byT_4 : byT Tryz.prog 4 = 1 := by kernel_rfl
@[push_cast] theorem aggT_4 : aggT Tryz.prog 4 = some false := by kernel_rfl
@[push_cast] theorem elT_4 : elT Tryz.prog 4 = none := by kernel_rfl
@[push_cast] theorem arrT_4 : arrT Tryz.prog 4 = none := by kernel_rfl
@[push_cast] theorem strT_4 : strT Tryz.prog 4 = false := by kernel_rfl
@[push_cast] theorem intT_4 : intT Tryz.prog 4 = none := by kernel_rfl
@[push_cast] theorem boolT_4 : boolT Tryz.prog 4 = true := by kernel_rfl
@[push_cast] theorem zeroT_4 : zeroT Tryz.prog 4 = some (.bool false) := by kernel_rfl
@[push_cast] theorem szT_5 : szT Tryz.prog 5 = 1 := by kernel_rfl
@[push_cast] theorem byT_5 : byT Tryz.prog 5 = 1 := by kernel_rfl
@[push_cast] theorem aggT_5 : aggT Tryz.prog 5 = some false := by kernel_rfl
@[push_cast] theorem elT_5 : elT Tryz.prog 5 = none := by kernel_rfl
@[push_cast] theorem arrT_5 : arrT Tryz.prog 5 = none := by kernel_rfl
@[push_cast] theorem strT_5 : strT Tryz.prog 5 = false := by kernel_rfl
@[push_cast] theorem intT_5 : intT Tryz.prog 5 = some .u8 := by kernel_rfl
@[push_cast] theorem zeroT_5 : zeroT Tryz.prog 5 = some (.int .u8 0) := by kernel_rfl
@[push_cast] theorem szT_9 : szT Tryz.prog 9 = 1 := by kernel_rfl
@[push_cast] theorem byT_9 : byT Tryz.prog 9 = 16 := by kernel_rfl
@[push_cast] theorem aggT_9 : aggT Tryz.prog 9 = some false := by kernel_rfl
@[push_cast] theorem elT_9 : elT Tryz.prog 9 = none := by kernel_rfl
@[push_cast] theorem arrT_9 : arrT Tryz.prog 9 = none := by kernel_rfl
@[push_cast] theorem strT_9 : strT Tryz.prog 9 = true := by kernel_rfl
@[push_cast] theorem intT_9 : intT Tryz.prog 9 = none := by kernel_rfl
@[push_cast] theorem szT_22 : szT Tryz.prog 22 = 1 := by kernel_rfl
@[push_cast] theorem byT_22 : byT Tryz.prog 22 = 24 := by kernel_rfl
@[push_cast] theorem aggT_22 : aggT Tryz.prog 22 = some false := by kernel_rfl
@[push_cast] theorem elT_22 : elT Tryz.prog 22 = some 5 := by kernel_rfl
@[push_cast] theorem arrT_22 : arrT Tryz.prog 22 = none := by kernel_rfl
@[push_cast] theorem strT_22 : strT Tryz.prog 22 = false := by kernel_rfl
@[push_cast] theorem intT_22 : intT Tryz.prog 22 = none := by kernel_rfl
@[push_cast] theorem zeroT_22 : zeroT Tryz.prog 22 = some (.nilsl) := by kernel_rfl
@[push_cast] theorem szT_23 : szT Tryz.prog 23 = 1 := by kernel_rfl
@[push_cast] theorem byT_23 : byT Tryz.prog 23 = 24 := by kernel_rfl
@[push_cast] theorem aggT_23 : aggT Tryz.prog 23 = some false := by kernel_rfl
@[push_cast] theorem elT_23 : elT Tryz.prog 23 = some 60 := by kernel_rfl
@[push_cast] theorem arrT_23 : arrT Tryz.prog 23 = none := by kernel_rfl
@[push_cast] theorem strT_23 : strT Tryz.prog 23 = false := by kernel_rfl
@[push_cast] theorem intT_23 : intT Tryz.prog 23 = none := by kernel_rfl
@[push_cast] theorem zeroT_23 : zeroT Tryz.prog 23 = some (.nilsl) := by kernel_rfl
@[push_cast] theorem szT_25 : szT Tryz.prog 25 = 1 := by kernel_rfl
@[push_cast] theorem byT_25 : byT Tryz.prog 25 = 24 := by kernel_rfl
@[push_cast] theorem aggT_25 : aggT Tryz.prog 25 = some true := by kernel_rfl
@[push_cast] theorem elT_25 : elT Tryz.prog 25 = none := by kernel_rfl
@[push_cast] theorem arrT_25 : arrT Tryz.prog 25 = none := by kernel_rfl
@[push_cast] theorem strT_25 : strT Tryz.prog 25 = false := by kernel_rfl
@[push_cast] theorem intT_25 : intT Tryz.prog 25 = none := by kernel_rfl
@[push_cast] theorem zeroT_25 : zeroT Tryz.prog 25 = some (.agg [.nilsl]) := by kernel_rfl
@[push_cast] theorem offT_25_0 : offT Tryz.prog 25 0 = some (0, 23) := by kernel_rfl
@[push_cast] theorem placesT_25 : placesT Tryz.prog 25 = some fun i => [(0, 1)][i]? := by kernel_rfl
@[push_cast] theorem szT_26 : szT Tryz.prog 26 = 1 := by kernel_rfl
@[push_cast] theorem byT_26 : byT Tryz.prog 26 = 24 := by kernel_rfl
@[push_cast] theorem aggT_26 : aggT Tryz.prog 26 = some false := by kernel_rfl
@[push_cast] theorem elT_26 : elT Tryz.prog 26 = some 3 := by kernel_rfl
@[push_cast] theorem arrT_26 : arrT Tryz.prog 26 = none := by kernel_rfl
@[push_cast] theorem strT_26 : strT Tryz.prog 26 = false := by kernel_rfl
@[push_cast] theorem intT_26 : intT Tryz.prog 26 = none := by kernel_rfl
@[push_cast] theorem zeroT_26 : zeroT Tryz.prog 26 = some (.nilsl) := by kernel_rfl
@[push_cast] theorem szT_28 : szT Tryz.prog 28 = 2 := by kernel_rfl
@[push_cast] theorem byT_28 : byT Tryz.prog 28 = 48 := by kernel_rfl
@[push_cast] theorem aggT_28 : aggT Tryz.prog 28 = some true := by kernel_rfl
@[push_cast] theorem elT_28 : elT Tryz.prog 28 = none := by kernel_rfl
@[push_cast] theorem arrT_28 : arrT Tryz.prog 28 = none := by kernel_rfl
@[push_cast] theorem strT_28 : strT Tryz.prog 28 = false := by kernel_rfl
@[push_cast] theorem intT_28 : intT Tryz.prog 28 = none := by kernel_rfl
@[push_cast] theorem zeroT_28 : zeroT Tryz.prog 28 = some (.agg [.nilsl, .nilsl]) := by kernel_rfl
@[push_cast] theorem offT_28_0 : offT Tryz.prog 28 0 = some (0, 26) := by kernel_rfl
@[push_cast] theorem offT_28_1 : offT Tryz.prog 28 1 = some (1, 26) := by kernel_rfl
@[push_cast] theorem placesT_28 : placesT Tryz.prog 28 = some fun i => [(0, 1), (1, 1)][i]? := by kernel_rfl
@[push_cast] theorem szT_31 : szT Tryz.prog 31 = 1 := by kernel_rfl
@[push_cast] theorem byT_31 : byT Tryz.prog 31 = 24 := by kernel_rfl
@[push_cast] theorem aggT_31 : aggT Tryz.prog 31 = some false := by kernel_rfl
@[push_cast] theorem elT_31 : elT Tryz.prog 31 = some 26 := by kernel_rfl
@[push_cast] theorem arrT_31 : arrT Tryz.prog 31 = none := by kernel_rfl
@[push_cast] theorem strT_31 : strT Tryz.prog 31 = false := by kernel_rfl
@[push_cast] theorem intT_31 : intT Tryz.prog 31 = none := by kernel_rfl
@[push_cast] theorem zeroT_31 : zeroT Tryz.prog 31 = some (.nilsl) := by kernel_rfl
@[push_cast] theorem szT_33 : szT Tryz.prog 33 = 2 := by kernel_rfl
@[push_cast] theorem byT_33 : byT Tryz.prog 33 = 48 := by kernel_rfl
@[push_cast] theorem aggT_33 : aggT Tryz.prog 33 = some true := by kernel_rfl
@[push_cast] theorem elT_33 : elT Tryz.prog 33 = none := by kernel_rfl
@[push_cast] theorem arrT_33 : arrT Tryz.prog 33 = none := by kernel_rfl
@[push_cast] theorem strT_33 : strT Tryz.prog 33 = false := by kernel_rfl
@[push_cast] theorem intT_33 : intT Tryz.prog 33 = none := by kernel_rfl
@[push_cast] theorem zeroT_33 : zeroT Tryz.prog 33 = some (.agg [.nilsl, .nilsl]) := by kernel_rfl
@[push_cast] theorem offT_33_0 : offT Tryz.prog 33 0 = some (0, 26) := by kernel_rfl
@[push_cast] theorem offT_33_1 : offT Tryz.prog 33 1 = some (1, 31) := by kernel_rfl
@[push_cast] theorem placesT_33 : placesT Tryz.prog 33 = some fun i => [(0, 1), (1, 1)][i]? := by kernel_rfl
@[push_cast] theorem szT_42 : szT Tryz.prog 42 = 1 := by kernel_rfl
@[push_cast] theorem byT_42 : byT Tryz.prog 42 = 24 := by kernel_rfl
@[push_cast] theorem aggT_42 : aggT Tryz.prog 42 = some false := by kernel_rfl
@[push_cast] theorem elT_42 : elT Tryz.prog 42 = some 33 := by kernel_rfl
@[push_cast] theorem arrT_42 : arrT Tryz.prog 42 = none := by kernel_rfl
@[push_cast] theorem strT_42 : strT Tryz.prog 42 = false := by kernel_rfl
@[push_cast] theorem intT_42 : intT Tryz.prog 42 = none := by kernel_rfl
@[push_cast] theorem zeroT_42 : zeroT Tryz.prog 42 = some (.nilsl) := by kernel_rfl
@[push_cast] theorem szT_46 : szT Tryz.prog 46 = 1 := by kernel_rfl
@[push_cast] theorem byT_46 : byT Tryz.prog 46 = 24 := by kernel_rfl
@[push_cast] theorem aggT_46 : aggT Tryz.prog 46 = some false := by kernel_rfl
@[push_cast] theorem elT_46 : elT Tryz.prog 46 = some 87 := by kernel_rfl
@[push_cast] theorem arrT_46 : arrT Tryz.prog 46 = none := by kernel_rfl
@[push_cast] theorem strT_46 : strT Tryz.prog 46 = false := by kernel_rfl
@[push_cast] theorem intT_46 : intT Tryz.prog 46 = none := by kernel_rfl
@[push_cast] theorem zeroT_46 : zeroT Tryz.prog 46 = some (.nilsl) := by kernel_rfl
@[push_cast] theorem szT_51 : szT Tryz.prog 51 = 1 := by kernel_rfl
@[push_cast] theorem byT_51 : byT Tryz.prog 51 = 24 := by kernel_rfl
@[push_cast] theorem aggT_51 : aggT Tryz.prog 51 = some false := by kernel_rfl
@[push_cast] theorem elT_51 : elT Tryz.prog 51 = some 28 := by kernel_rfl
@[push_cast] theorem arrT_51 : arrT Tryz.prog 51 = none := by kernel_rfl
@[push_cast] theorem strT_51 : strT Tryz.prog 51 = false := by kernel_rfl
@[push_cast] theorem intT_51 : intT Tryz.prog 51 = none := by kernel_rfl
@[push_cast] theorem zeroT_51 : zeroT Tryz.prog 51 = some (.nilsl) := by kernel_rfl
@[push_cast] theorem szT_60 : szT Tryz.prog 60 = 1 := by kernel_rfl
@[push_cast] theorem byT_60 : byT Tryz.prog 60 = 24 := by kernel_rfl
@[push_cast] theorem aggT_60 : aggT Tryz.prog 60 = some false := by kernel_rfl
@[push_cast] theorem elT_60 : elT Tryz.prog 60 = some 62 := by kernel_rfl
@[push_cast] theorem arrT_60 : arrT Tryz.prog 60 = none := by kernel_rfl
@[push_cast] theorem strT_60 : strT Tryz.prog 60 = false := by kernel_rfl
@[push_cast] theorem intT_60 : intT Tryz.prog 60 = none := by kernel_rfl
@[push_cast] theorem zeroT_60 : zeroT Tryz.prog 60 = some (.nilsl) := by kernel_rfl
@[push_cast] theorem szT_62 : szT Tryz.prog 62 = 3 := by kernel_rfl
@[push_cast] theorem byT_62 : byT Tryz.prog 62 = 24 := by kernel_rfl
@[push_cast] theorem aggT_62 : aggT Tryz.prog 62 = some true := by kernel_rfl
@[push_cast] theorem elT_62 : elT Tryz.prog 62 = none := by kernel_rfl
@[push_cast] theorem arrT_62 : arrT Tryz.prog 62 = none := by kernel_rfl
@[push_cast] theorem strT_62 : strT Tryz.prog 62 = false := by kernel_rfl
@[push_cast] theorem intT_62 : intT Tryz.prog 62 = none := by kernel_rfl
@[push_cast] theorem zeroT_62 : zeroT Tryz.prog 62 = some (.agg [.int .i64 0, .int .i64 0, .int .i64 0]) := by kernel_rfl
@[push_cast] theorem offT_62_0 : offT Tryz.prog 62 0 = some (0, 3) := by kernel_rfl
@[push_cast] theorem offT_62_1 : offT Tryz.prog 62 1 = some (1, 3) := by kernel_rfl
@[push_cast] theorem offT_62_2 : offT Tryz.prog 62 2 = some (2, 3) := by kernel_rfl
@[push_cast] theorem placesT_62 : placesT Tryz.prog 62 = some fun i => [(0, 1), (1, 1), (2, 1)][i]? := by kernel_rfl
@[push_cast] theorem szT_74 : szT Tryz.prog 74 = 3 := by kernel_rfl
@[push_cast] theorem byT_74 : byT Tryz.prog 74 = 72 := by kernel_rfl
@[push_cast] theorem aggT_74 : aggT Tryz.prog 74 = some true := by kernel_rfl
@[push_cast] theorem elT_74 : elT Tryz.prog 74 = none := by kernel_rfl
@[push_cast] theorem arrT_74 : arrT Tryz.prog 74 = none := by kernel_rfl
@[push_cast] theorem strT_74 : strT Tryz.prog 74 = false := by kernel_rfl
@[push_cast] theorem intT_74 : intT Tryz.prog 74 = none := by kernel_rfl
@[push_cast] theorem zeroT_74 : zeroT Tryz.prog 74 = some (.agg [.nilsl, .nilsl, .nilsl]) := by kernel_rfl
@[push_cast] theorem offT_74_0 : offT Tryz.prog 74 0 = some (0, 25) := by kernel_rfl
@[push_cast] theorem offT_74_1 : offT Tryz.prog 74 1 = some (1, 46) := by kernel_rfl
@[push_cast] theorem offT_74_2 : offT Tryz.prog 74 2 = some (2, 60) := by kernel_rfl
@[push_cast] theorem placesT_74 : placesT Tryz.prog 74 = some fun i => [(0, 1), (1, 1), (2, 1)][i]? := by kernel_rfl
@[push_cast] theorem szT_80 : szT Tryz.prog 80 = 1 := by kernel_rfl
@[push_cast] theorem byT_80 : byT Tryz.prog 80 = 24 := by kernel_rfl
@[push_cast] theorem aggT_80 : aggT Tryz.prog 80 = some false := by kernel_rfl
@[push_cast] theorem elT_80 : elT Tryz.prog 80 = some 128 := by kernel_rfl
@[push_cast] theorem arrT_80 : arrT Tryz.prog 80 = none := by kernel_rfl
@[push_cast] theorem strT_80 : strT Tryz.prog 80 = false := by kernel_rfl
@[push_cast] theorem intT_80 : intT Tryz.prog 80 = none := by kernel_rfl
@[push_cast] theorem zeroT_80 : zeroT Tryz.prog 80 = some (.nilsl) := by kernel_rfl
@[push_cast] theorem szT_87 : szT Tryz.prog 87 = 3 := by kernel_rfl
@[push_cast] theorem byT_87 : byT Tryz.prog 87 = 24 := by kernel_rfl
@[push_cast] theorem aggT_87 : aggT Tryz.prog 87 = some true := by kernel_rfl
@[push_cast] theorem elT_87 : elT Tryz.prog 87 = none := by kernel_rfl
@[push_cast] theorem arrT_87 : arrT Tryz.prog 87 = none := by kernel_rfl
@[push_cast] theorem strT_87 : strT Tryz.prog 87 = false := by kernel_rfl
@[push_cast] theorem intT_87 : intT Tryz.prog 87 = none := by kernel_rfl
@[push_cast] theorem zeroT_87 : zeroT Tryz.prog 87 = some (.agg [.int .i64 0, .int .i64 0, .bool false]) := by kernel_rfl
@[push_cast] theorem offT_87_0 : offT Tryz.prog 87 0 = some (0, 3) := by kernel_rfl
@[push_cast] theorem offT_87_1 : offT Tryz.prog 87 1 = some (1, 3) := by kernel_rfl
@[push_cast] theorem offT_87_2 : offT Tryz.prog 87 2 = some (2, 4) := by kernel_rfl
@[push_cast] theorem placesT_87 : placesT Tryz.prog 87 = some fun i => [(0, 1), (1, 1), (2, 1)][i]? := by kernel_rfl
@[push_cast] theorem szT_106 : szT Tryz.prog 106 = 2 := by kernel_rfl
@[push_cast] theorem byT_106 : byT Tryz.prog 106 = 32 := by kernel_rfl
@[push_cast] theorem aggT_106 : aggT Tryz.prog 106 = some true := by kernel_rfl
@[push_cast] theorem elT_106 : elT Tryz.prog 106 = none := by kernel_rfl
@[push_cast] theorem arrT_106 : arrT Tryz.prog 106 = none := by kernel_rfl
@[push_cast] theorem strT_106 : strT Tryz.prog 106 = false := by kernel_rfl
@[push_cast] theorem intT_106 : intT Tryz.prog 106 = none := by kernel_rfl
@[push_cast] theorem zeroT_106 : zeroT Tryz.prog 106 = some (.agg [.nilsl, .int .i64 0]) := by kernel_rfl
@[push_cast] theorem offT_106_0 : offT Tryz.prog 106 0 = some (0, 22) := by kernel_rfl
@[push_cast] theorem offT_106_1 : offT Tryz.prog 106 1 = some (1, 3) := by kernel_rfl
@[push_cast] theorem placesT_106 : placesT Tryz.prog 106 = some fun i => [(0, 1), (1, 1)][i]? := by kernel_rfl
@[push_cast] theorem szT_109 : szT Tryz.prog 109 = 1 := by kernel_rfl
@[push_cast] theorem byT_109 : byT Tryz.prog 109 = 24 := by kernel_rfl
@[push_cast] theorem aggT_109 : aggT Tryz.prog 109 = some false := by kernel_rfl
@[push_cast] theorem elT_109 : elT Tryz.prog 109 = some 31 := by kernel_rfl
@[push_cast] theorem arrT_109 : arrT Tryz.prog 109 = none := by kernel_rfl
@[push_cast] theorem strT_109 : strT Tryz.prog 109 = false := by kernel_rfl
@[push_cast] theorem intT_109 : intT Tryz.prog 109 = none := by kernel_rfl
@[push_cast] theorem zeroT_109 : zeroT Tryz.prog 109 = some (.nilsl) := by kernel_rfl
@[push_cast] theorem szT_126 : szT Tryz.prog 126 = 1 := by kernel_rfl
@[push_cast] theorem byT_126 : byT Tryz.prog 126 = 24 := by kernel_rfl
@[push_cast] theorem aggT_126 : aggT Tryz.prog 126 = some false := by kernel_rfl
@[push_cast] theorem elT_126 : elT Tryz.prog 126 = some 161 := by kernel_rfl
@[push_cast] theorem arrT_126 : arrT Tryz.prog 126 = none := by kernel_rfl
@[push_cast] theorem strT_126 : strT Tryz.prog 126 = false := by kernel_rfl
@[push_cast] theorem intT_126 : intT Tryz.prog 126 = none := by kernel_rfl
@[push_cast] theorem zeroT_126 : zeroT Tryz.prog 126 = some (.nilsl) := by kernel_rfl
@[push_cast] theorem szT_128 : szT Tryz.prog 128 = 1 := by kernel_rfl
@[push_cast] theorem byT_128 : byT Tryz.prog 128 = 8 := by kernel_rfl
@[push_cast] theorem aggT_128 : aggT Tryz.prog 128 = some false := by kernel_rfl
@[push_cast] theorem elT_128 : elT Tryz.prog 128 = none := by kernel_rfl
@[push_cast] theorem arrT_128 : arrT Tryz.prog 128 = none := by kernel_rfl
@[push_cast] theorem strT_128 : strT Tryz.prog 128 = false := by kernel_rfl
@[push_cast] theorem intT_128 : intT Tryz.prog 128 = some .u64 := by kernel_rfl
@[push_cast] theorem zeroT_128 : zeroT Tryz.prog 128 = some (.int .u64 0) := by kernel_rfl
@[push_cast] theorem szT_132 : szT Tryz.prog 132 = 1 := by kernel_rfl
@[push_cast] theorem byT_132 : byT Tryz.prog 132 = 24 := by kernel_rfl
@[push_cast] theorem aggT_132 : aggT Tryz.prog 132 = some false := by kernel_rfl
@[push_cast] theorem elT_132 : elT Tryz.prog 132 = some 4 := by kernel_rfl
@[push_cast] theorem arrT_132 : arrT Tryz.prog 132 = none := by kernel_rfl
@[push_cast] theorem strT_132 : strT Tryz.prog 132 = false := by kernel_rfl
@[push_cast] theorem intT_132 : intT Tryz.prog 132 = none := by kernel_rfl
@[push_cast] theorem zeroT_132 : zeroT Tryz.prog 132 = some (.nilsl) := by kernel_rfl
@[push_cast] theorem szT_134 : szT Tryz.prog 134 = 6 := by kernel_rfl
@[push_cast] theorem byT_134 : byT Tryz.prog 134 = 144 := by kernel_rfl
@[push_cast] theorem aggT_134 : aggT Tryz.prog 134 = some true := by kernel_rfl
@[push_cast] theorem elT_134 : elT Tryz.prog 134 = none := by kernel_rfl
@[push_cast] theorem arrT_134 : arrT Tryz.prog 134 = none := by kernel_rfl
@[push_cast] theorem strT_134 : strT Tryz.prog 134 = false := by kernel_rfl
@[push_cast] theorem intT_134 : intT Tryz.prog 134 = none := by kernel_rfl
@[push_cast] theorem zeroT_134 : zeroT Tryz.prog 134 = some (.agg [.nilsl, .nilsl, .nilsl, .nilsl, .nilsl, .nilsl]) := by kernel_rfl
@[push_cast] theorem offT_134_0 : offT Tryz.prog 134 0 = some (0, 25) := by kernel_rfl
@[push_cast] theorem offT_134_1 : offT Tryz.prog 134 1 = some (1, 46) := by kernel_rfl
@[push_cast] theorem offT_134_2 : offT Tryz.prog 134 2 = some (2, 132) := by kernel_rfl
@[push_cast] theorem offT_134_3 : offT Tryz.prog 134 3 = some (3, 132) := by kernel_rfl
@[push_cast] theorem offT_134_4 : offT Tryz.prog 134 4 = some (4, 26) := by kernel_rfl
@[push_cast] theorem offT_134_5 : offT Tryz.prog 134 5 = some (5, 26) := by kernel_rfl
@[push_cast] theorem placesT_134 : placesT Tryz.prog 134 = some fun i => [(0, 1), (1, 1), (2, 1), (3, 1), (4, 1), (5, 1)][i]? := by kernel_rfl
@[push_cast] theorem szT_138 : szT Tryz.prog 138 = 1 := by kernel_rfl
@[push_cast] theorem byT_138 : byT Tryz.prog 138 = 24 := by kernel_rfl
@[push_cast] theorem aggT_138 : aggT Tryz.prog 138 = some false := by kernel_rfl
@[push_cast] theorem elT_138 : elT Tryz.prog 138 = some 132 := by kernel_rfl
@[push_cast] theorem arrT_138 : arrT Tryz.prog 138 = none := by kernel_rfl
@[push_cast] theorem strT_138 : strT Tryz.prog 138 = false := by kernel_rfl
@[push_cast] theorem intT_138 : intT Tryz.prog 138 = none := by kernel_rfl
@[push_cast] theorem zeroT_138 : zeroT Tryz.prog 138 = some (.nilsl) := by kernel_rfl
@[push_cast] theorem szT_140 : szT Tryz.prog 140 = 1 := by kernel_rfl
@[push_cast] theorem byT_140 : byT Tryz.prog 140 = 24 := by kernel_rfl
@[push_cast] theorem aggT_140 : aggT Tryz.prog 140 = some true := by kernel_rfl
@[push_cast] theorem elT_140 : elT Tryz.prog 140 = none := by kernel_rfl
@[push_cast] theorem arrT_140 : arrT Tryz.prog 140 = none := by kernel_rfl
@[push_cast] theorem strT_140 : strT Tryz.prog 140 = false := by kernel_rfl
@[push_cast] theorem intT_140 : intT Tryz.prog 140 = none := by kernel_rfl
@[push_cast] theorem zeroT_140 : zeroT Tryz.prog 140 = some (.agg [.nilsl]) := by kernel_rfl
@[push_cast] theorem offT_140_0 : offT Tryz.prog 140 0 = some (0, 138) := by kernel_rfl
@[push_cast] theorem placesT_140 : placesT Tryz.prog 140 = some fun i => [(0, 1)][i]? := by kernel_rfl
@[push_cast] theorem szT_160 : szT Tryz.prog 160 = 2 := by kernel_rfl
@[push_cast] theorem byT_160 : byT Tryz.prog 160 = 16 := by kernel_rfl
@[push_cast] theorem aggT_160 : aggT Tryz.prog 160 = some true := by kernel_rfl
@[push_cast] theorem elT_160 : elT Tryz.prog 160 = none := by kernel_rfl
@[push_cast] theorem arrT_160 : arrT Tryz.prog 160 = none := by kernel_rfl
@[push_cast] theorem strT_160 : strT Tryz.prog 160 = false := by kernel_rfl
@[push_cast] theorem intT_160 : intT Tryz.prog 160 = none := by kernel_rfl
@[push_cast] theorem zeroT_160 : zeroT Tryz.prog 160 = some (.agg [.int .i64 0, .int .i64 0]) := by kernel_rfl
@[push_cast] theorem offT_160_0 : offT Tryz.prog 160 0 = some (0, 3) := by kernel_rfl
@[push_cast] theorem offT_160_1 : offT Tryz.prog 160 1 = some (1, 3) := by kernel_rfl
@[push_cast] theorem placesT_160 : placesT Tryz.prog 160 = some fun i => [(0, 1), (1, 1)][i]? := by kernel_rfl
@[push_cast] theorem szT_161 : szT Tryz.prog 161 = 4 := by kernel_rfl
@[push_cast] theorem byT_161 : byT Tryz.prog 161 = 32 := by kernel_rfl
@[push_cast] theorem aggT_161 : aggT Tryz.prog 161 = some true := by kernel_rfl
@[push_cast] theorem elT_161 : elT Tryz.prog 161 = none := by kernel_rfl
@[push_cast] theorem arrT_161 : arrT Tryz.prog 161 = some (2, 160) := by kernel_rfl
@[push_cast] theorem strT_161 : strT Tryz.prog 161 = false := by kernel_rfl
@[push_cast] theorem intT_161 : intT Tryz.prog 161 = none := by kernel_rfl
@[push_cast] theorem zeroT_161 : zeroT Tryz.prog 161 = some (.agg [.int .i64 0, .int .i64 0, .int .i64 0, .int .i64 0]) := by kernel_rfl
@[push_cast] theorem placesT_161 : placesT Tryz.prog 161 = some fun i => some (i * 2, 2) := by kernel_rfl
@[push_cast] theorem szT_165 : szT Tryz.prog 165 = 64 := by kernel_rfl
@[push_cast] theorem byT_165 : byT Tryz.prog 165 = 64 := by kernel_rfl
@[push_cast] theorem aggT_165 : aggT Tryz.prog 165 = some true := by kernel_rfl
@[push_cast] theorem elT_165 : elT Tryz.prog 165 = none := by kernel_rfl
@[push_cast] theorem arrT_165 : arrT Tryz.prog 165 = some (64, 5) := by kernel_rfl
@[push_cast] theorem strT_165 : strT Tryz.prog 165 = false := by kernel_rfl
@[push_cast] theorem intT_165 : intT Tryz.prog 165 = none := by kernel_rfl
@[push_cast] theorem zeroT_165 : zeroT Tryz.prog 165 = some (.agg [.int .u8 0, .int .u8 0, .int .u8 0, .int .u8 0, .int .u8 0, .int .u8 0, .int .u8 0, .int .u8 0, .int .u8 0, .int .u8 0, .int .u8 0, .int .u8 0, .int .u8 0, .int .u8 0, .int .u8 0, .int .u8 0, .int .u8 0, .int .u8 0, .int .u8 0, .int .u8 0, .int .u8 0, .int .u8 0, .int .u8 0, .int .u8 0, .int .u8 0, .int .u8 0, .int .u8 0, .int .u8 0, .int .u8 0, .int .u8 0, .int .u8 0, .int .u8 0, .int .u8 0, .int .u8 0, .int .u8 0, .int .u8 0, .int .u8 0, .int .u8 0, .int .u8 0, .int .u8 0, .int .u8 0, .int .u8 0, .int .u8 0, .int .u8 0, .int .u8 0, .int .u8 0, .int .u8 0, .int .u8 0, .int .u8 0, .int .u8 0, .int .u8 0, .int .u8 0, .int .u8 0, .int .u8 0, .int .u8 0, .int .u8 0, .int .u8 0, .int .u8 0, .int .u8 0, .int .u8 0, .int .u8 0, .int .u8 0, .int .u8 0, .int .u8 0]) := by kernel_rfl
@[push_cast] theorem placesT_165 : placesT Tryz.prog 165 = some fun i => some (i * 1, 1) := by kernel_rfl
@[push_cast] theorem szT_166 : szT Tryz.prog 166 = 1 := by kernel_rfl
@[push_cast] theorem byT_166 : byT Tryz.prog 166 = 8 := by kernel_rfl
@[push_cast] theorem aggT_166 : aggT Tryz.prog 166 = some false := by kernel_rfl
@[push_cast] theorem elT_166 : elT Tryz.prog 166 = none := by kernel_rfl
@[push_cast] theorem arrT_166 : arrT Tryz.prog 166 = none := by kernel_rfl
@[push_cast] theorem strT_166 : strT Tryz.prog 166 = false := by kernel_rfl
@[push_cast] theorem intT_166 : intT Tryz.prog 166 = some .u64 := by kernel_rfl
@[push_cast] theorem zeroT_166 : zeroT Tryz.prog 166 = some (.int .u64 0) := by kernel_rfl
@[push_cast] theorem szT_192 : szT Tryz.prog 192 = 1 := by kernel_rfl
@[push_cast] theorem byT_192 : byT Tryz.prog 192 = 4 := by kernel_rfl
@[push_cast] theorem aggT_192 : aggT Tryz.prog 192 = some false := by kernel_rfl
@[push_cast] theorem elT_192 : elT Tryz.prog 192 = none := by kernel_rfl
@[push_cast] theorem arrT_192 : arrT Tryz.prog 192 = none := by kernel_rfl
@[push_cast] theorem strT_192 : strT Tryz.prog 192 = false := by kernel_rfl
@[push_cast] theorem intT_192 : intT Tryz.prog 192 = some .u32 := by kernel_rfl
@[push_cast] theorem zeroT_192 : zeroT Tryz.prog 192 = some (.int .u32 0) := by kernel_rfl
@[push_cast] theorem szT_195 : szT Tryz.prog 195 = 1 := by kernel_rfl
@[push_cast] theorem byT_195 : byT Tryz.prog 195 = 8 := by kernel_rfl
@[push_cast] theorem aggT_195 : aggT Tryz.prog 195 = some false := by kernel_rfl
@[push_cast] theorem elT_195 : elT Tryz.prog 195 = none := by kernel_rfl
@[push_cast] theorem arrT_195 : arrT Tryz.prog 195 = none := by kernel_rfl
@[push_cast] theorem strT_195 : strT Tryz.prog 195 = false := by kernel_rfl
@[push_cast] theorem intT_195 : intT Tryz.prog 195 = some .u64 := by kernel_rfl
@[push_cast] theorem zeroT_195 : zeroT Tryz.prog 195 = some (.int .u64 0) := by kernel_rfl
end Go.Proofs.YtfbgabkcjjahiaaGreatDoor
