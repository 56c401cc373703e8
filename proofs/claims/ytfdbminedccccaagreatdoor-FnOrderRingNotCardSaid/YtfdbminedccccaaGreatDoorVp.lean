/-
  What the program's types are.
-/
import Derived.Test.YtfdbminedccccaaGreatDoorVm
import Derived.Test.YtfdbminedccccaaGreatDoorProg
namespace Go.Proofs.YtfdbminedccccaaGreatDoor
open Go.RowKit

@[push_cast] theorem szT_3 : szT Tryz.prog 3 = 1 := by kernel_rfl
@[push_cast] theorem byT_3 : byT Tryz.prog 3 = 8 := by kernel_rfl
@[push_cast] theorem aggT_3 : aggT Tryz.prog 3 = some false := by kernel_rfl
@[push_cast] theorem elT_3 : elT Tryz.prog 3 = none := by kernel_rfl
@[push_cast] theorem arrT_3 : arrT Tryz.prog 3 = none := by kernel_rfl
@[push_cast] theorem strT_3 : strT Tryz.prog 3 = false := by kernel_rfl
@[push_cast] theorem intT_3 : intT Tryz.prog 3 = some .i64 := by kernel_rfl
@[push_cast] theorem zeroT_3 : zeroT Tryz.prog 3 = some (.int .i64 0) := by kernel_rfl
@[push_cast] theorem szT_4 : szT Tryz.prog 4 = 1 := by kernel_rfl
@[push_cast] theorem byT_4 : byT Tryz.prog 4 = 1 := by kernel_rfl
@[push_cast] theorem aggT_4 : aggT Tryz.prog 4 = some false := by kernel_rfl
@[push_cast] theorem elT_4 : elT Tryz.prog 4 = none := by kernel_rfl
@[push_cast] theorem arrT_4 : arrT Tryz.prog 4 = none := by kernel_rfl
@[push_cast] theorem strT_4 : strT Tryz.prog 4 = false := by kernel_rfl
@[push_cast] theorem intT_4 : intT Tryz.prog 4 = none := by kernel_rfl
@[push_cast] theorem boolT_4 : boolT Tryz.prog 4 = true := by kernel_rfl
@[push_cast] theorem zeroT_4 : zeroT Tryz.prog 4 = some (.bool false) := by kernel_rfl
@[push_cast] theorem szT_5 : szT Tryz.prog 5 = 1 := by kernel_rfl
@[push_cast] theorem byT_5 : byT Tryz.prog 5 = 1 := by kernel_rfl
@[push_cast] theorem aggT_5 : aggT Tryz.prog 5 = some false := by kernel_rfl
@[push_cast] theorem elT_5 : elT Tryz.prog 5 = none := by kernel_rfl
@[push_cast] theorem arrT_5 : arrT Tryz.prog 5 = none := by kernel_rfl
@[push_cast] theorem strT_5 : strT Tryz.prog 5 = false := by kernel_rfl
@[push_cast] theorem intT_5 : intT Tryz.prog 5 = some .u8 := by kernel_rfl
@[push_cast] theorem zeroT_5 : zeroT Tryz.prog 5 = some (.int .u8 0) := by kernel_rfl
@[push_cast] theorem szT_9 : szT Tryz.prog 9 = 1 := by kernel_rfl
@[push_cast] theorem byT_9 : byT Tryz.prog 9 = 16 := by kernel_rfl
@[push_cast] theorem aggT_9 : aggT Tryz.prog 9 = some false := by kernel_rfl
@[push_cast] theorem elT_9 : elT Tryz.prog 9 = none := by kernel_rfl
@[push_cast] theorem arrT_9 : arrT Tryz.prog 9 = none := by kernel_rfl
@[push_cast] theorem strT_9 : strT Tryz.prog 9 = true := by kernel_rfl
@[push_cast] theorem intT_9 : intT Tryz.prog 9 = none := by kernel_rfl
@[push_cast] theorem szT_22 : szT Tryz.prog 22 = 1 := by kernel_rfl
@[push_cast] theorem byT_22 : byT Tryz.prog 22 = 24 := by kernel_rfl
@[push_cast] theorem aggT_22 : aggT Tryz.prog 22 = some false := by kernel_rfl
@[push_cast] theorem elT_22 : elT Tryz.prog 22 = some 5 := by kernel_rfl
@[push_cast] theorem arrT_22 : arrT Tryz.prog 22 = none := by kernel_rfl
@[push_cast] theorem strT_22 : strT Tryz.prog 22 = false := by kernel_rfl
@[push_cast] theorem intT_22 : intT Tryz.prog 22 = none := by kernel_rfl
@[push_cast] theorem zeroT_22 : zeroT Tryz.prog 22 = some (.nilsl) := by kernel_rfl
@[push_cast] theorem szT_23 : szT Tryz.prog 23 = 1 := by kernel_rfl
@[push_cast] theorem byT_23 : byT Tryz.prog 23 = 24 := by kernel_rfl
@[push_cast] theorem aggT_23 : aggT Tryz.prog 23 = some false := by kernel_rfl
@[push_cast] theorem elT_23 : elT Tryz.prog 23 = some 55 := by kernel_rfl
@[push_cast] theorem arrT_23 : arrT Tryz.prog 23 = none := by kernel_rfl
@[push_cast] theorem strT_23 : strT Tryz.prog 23 = false := by kernel_rfl
@[push_cast] theorem intT_23 : intT Tryz.prog 23 = none := by kernel_rfl
@[push_cast] theorem zeroT_23 : zeroT Tryz.prog 23 = some (.nilsl) := by kernel_rfl
@[push_cast] theorem szT_25 : szT Tryz.prog 25 = 1 := by kernel_rfl
@[push_cast] theorem byT_25 : byT Tryz.prog 25 = 24 := by kernel_rfl
@[push_cast] theorem aggT_25 : aggT Tryz.prog 25 = some true := by kernel_rfl
@[push_cast] theorem elT_25 : elT Tryz.prog 25 = none := by kernel_rfl
@[push_cast] theorem arrT_25 : arrT Tryz.prog 25 = none := by kernel_rfl
@[push_cast] theorem strT_25 : strT Tryz.prog 25 = false := by kernel_rfl
@[push_cast] theorem intT_25 : intT Tryz.prog 25 = none := by kernel_rfl
@[push_cast] theorem zeroT_25 : zeroT Tryz.prog 25 = some (.agg [.nilsl]) := by kernel_rfl
@[push_cast] theorem offT_25_0 : offT Tryz.prog 25 0 = some (0, 23) := by kernel_rfl
@[push_cast] theorem placesT_25 : placesT Tryz.prog 25 = some fun i => [(0, 1)][i]? := by kernel_rfl
@[push_cast] theorem szT_26 : szT Tryz.prog 26 = 1 := by kernel_rfl
@[push_cast] theorem byT_26 : byT Tryz.prog 26 = 24 := by kernel_rfl
@[push_cast] theorem aggT_26 : aggT Tryz.prog 26 = some false := by kernel_rfl
@[push_cast] theorem elT_26 : elT Tryz.prog 26 = some 3 := by kernel_rfl
@[push_cast] theorem arrT_26 : arrT Tryz.prog 26 = none := by kernel_rfl
@[push_cast] theorem strT_26 : strT Tryz.prog 26 = false := by kernel_rfl
@[push_cast] theorem intT_26 : intT Tryz.prog 26 = none := by kernel_rfl
@[push_cast] theorem zeroT_26 : zeroT Tryz.prog 26 = some (.nilsl) := by kernel_rfl
@[push_cast] theorem szT_27 : szT Tryz.prog 27 = 1 := by kernel_rfl
@[push_cast] theorem byT_27 : byT Tryz.prog 27 = 24 := by kernel_rfl
@[push_cast] theorem aggT_27 : aggT Tryz.prog 27 = some false := by kernel_rfl
@[push_cast] theorem elT_27 : elT Tryz.prog 27 = some 26 := by kernel_rfl
@[push_cast] theorem arrT_27 : arrT Tryz.prog 27 = none := by kernel_rfl
@[push_cast] theorem strT_27 : strT Tryz.prog 27 = false := by kernel_rfl
@[push_cast] theorem intT_27 : intT Tryz.prog 27 = none := by kernel_rfl
@[push_cast] theorem zeroT_27 : zeroT Tryz.prog 27 = some (.nilsl) := by kernel_rfl
@[push_cast] theorem szT_29 : szT Tryz.prog 29 = 2 := by kernel_rfl
@[push_cast] theorem byT_29 : byT Tryz.prog 29 = 48 := by kernel_rfl
@[push_cast] theorem aggT_29 : aggT Tryz.prog 29 = some true := by kernel_rfl
@[push_cast] theorem elT_29 : elT Tryz.prog 29 = none := by kernel_rfl
@[push_cast] theorem arrT_29 : arrT Tryz.prog 29 = none := by kernel_rfl
@[push_cast] theorem strT_29 : strT Tryz.prog 29 = false := by kernel_rfl
@[push_cast] theorem intT_29 : intT Tryz.prog 29 = none := by kernel_rfl
@[push_cast] theorem zeroT_29 : zeroT Tryz.prog 29 = some (.agg [.nilsl, .nilsl]) := by kernel_rfl
@[push_cast] theorem offT_29_0 : offT Tryz.prog 29 0 = some (0, 26) := by kernel_rfl
@[push_cast] theorem offT_29_1 : offT Tryz.prog 29 1 = some (1, 27) := by kernel_rfl
@[push_cast] theorem placesT_29 : placesT Tryz.prog 29 = some fun i => [(0, 1), (1, 1)][i]? := by kernel_rfl
@[push_cast] theorem szT_40 : szT Tryz.prog 40 = 1 := by kernel_rfl
@[push_cast] theorem byT_40 : byT Tryz.prog 40 = 24 := by kernel_rfl
@[push_cast] theorem aggT_40 : aggT Tryz.prog 40 = some false := by kernel_rfl
@[push_cast] theorem elT_40 : elT Tryz.prog 40 = some 44 := by kernel_rfl
@[push_cast] theorem arrT_40 : arrT Tryz.prog 40 = none := by kernel_rfl
@[push_cast] theorem strT_40 : strT Tryz.prog 40 = false := by kernel_rfl
@[push_cast] theorem intT_40 : intT Tryz.prog 40 = none := by kernel_rfl
@[push_cast] theorem zeroT_40 : zeroT Tryz.prog 40 = some (.nilsl) := by kernel_rfl
@[push_cast] theorem szT_44 : szT Tryz.prog 44 = 3 := by kernel_rfl
@[push_cast] theorem byT_44 : byT Tryz.prog 44 = 24 := by kernel_rfl
@[push_cast] theorem aggT_44 : aggT Tryz.prog 44 = some true := by kernel_rfl
@[push_cast] theorem elT_44 : elT Tryz.prog 44 = none := by kernel_rfl
@[push_cast] theorem arrT_44 : arrT Tryz.prog 44 = none := by kernel_rfl
@[push_cast] theorem strT_44 : strT Tryz.prog 44 = false := by kernel_rfl
@[push_cast] theorem intT_44 : intT Tryz.prog 44 = none := by kernel_rfl
@[push_cast] theorem zeroT_44 : zeroT Tryz.prog 44 = some (.agg [.int .i64 0, .int .i64 0, .bool false]) := by kernel_rfl
@[push_cast] theorem offT_44_0 : offT Tryz.prog 44 0 = some (0, 3) := by kernel_rfl
@[push_cast] theorem offT_44_1 : offT Tryz.prog 44 1 = some (1, 3) := by kernel_rfl
@[push_cast] theorem offT_44_2 : offT Tryz.prog 44 2 = some (2, 4) := by kernel_rfl
@[push_cast] theorem placesT_44 : placesT Tryz.prog 44 = some fun i => [(0, 1), (1, 1), (2, 1)][i]? := by kernel_rfl
@[push_cast] theorem szT_52 : szT Tryz.prog 52 = 1 := by kernel_rfl
@[push_cast] theorem byT_52 : byT Tryz.prog 52 = 24 := by kernel_rfl
@[push_cast] theorem aggT_52 : aggT Tryz.prog 52 = some false := by kernel_rfl
@[push_cast] theorem elT_52 : elT Tryz.prog 52 = some 106 := by kernel_rfl
@[push_cast] theorem arrT_52 : arrT Tryz.prog 52 = none := by kernel_rfl
@[push_cast] theorem strT_52 : strT Tryz.prog 52 = false := by kernel_rfl
@[push_cast] theorem intT_52 : intT Tryz.prog 52 = none := by kernel_rfl
@[push_cast] theorem zeroT_52 : zeroT Tryz.prog 52 = some (.nilsl) := by kernel_rfl
@[push_cast] theorem szT_53 : szT Tryz.prog 53 = 1 := by kernel_rfl
@[push_cast] theorem byT_53 : byT Tryz.prog 53 = 24 := by kernel_rfl
@[push_cast] theorem aggT_53 : aggT Tryz.prog 53 = some false := by kernel_rfl
@[push_cast] theorem elT_53 : elT Tryz.prog 53 = some 106 := by kernel_rfl
@[push_cast] theorem arrT_53 : arrT Tryz.prog 53 = none := by kernel_rfl
@[push_cast] theorem strT_53 : strT Tryz.prog 53 = false := by kernel_rfl
@[push_cast] theorem intT_53 : intT Tryz.prog 53 = none := by kernel_rfl
@[push_cast] theorem zeroT_53 : zeroT Tryz.prog 53 = some (.nilsl) := by kernel_rfl
@[push_cast] theorem szT_55 : szT Tryz.prog 55 = 1 := by kernel_rfl
@[push_cast] theorem byT_55 : byT Tryz.prog 55 = 24 := by kernel_rfl
@[push_cast] theorem aggT_55 : aggT Tryz.prog 55 = some false := by kernel_rfl
@[push_cast] theorem elT_55 : elT Tryz.prog 55 = some 82 := by kernel_rfl
@[push_cast] theorem arrT_55 : arrT Tryz.prog 55 = none := by kernel_rfl
@[push_cast] theorem strT_55 : strT Tryz.prog 55 = false := by kernel_rfl
@[push_cast] theorem intT_55 : intT Tryz.prog 55 = none := by kernel_rfl
@[push_cast] theorem zeroT_55 : zeroT Tryz.prog 55 = some (.nilsl) := by kernel_rfl
@[push_cast] theorem szT_57 : szT Tryz.prog 57 = 3 := by kernel_rfl
@[push_cast] theorem byT_57 : byT Tryz.prog 57 = 72 := by kernel_rfl
@[push_cast] theorem aggT_57 : aggT Tryz.prog 57 = some true := by kernel_rfl
@[push_cast] theorem elT_57 : elT Tryz.prog 57 = none := by kernel_rfl
@[push_cast] theorem arrT_57 : arrT Tryz.prog 57 = none := by kernel_rfl
@[push_cast] theorem strT_57 : strT Tryz.prog 57 = false := by kernel_rfl
@[push_cast] theorem intT_57 : intT Tryz.prog 57 = none := by kernel_rfl
@[push_cast] theorem zeroT_57 : zeroT Tryz.prog 57 = some (.agg [.nilsl, .nilsl, .nilsl]) := by kernel_rfl
@[push_cast] theorem offT_57_0 : offT Tryz.prog 57 0 = some (0, 25) := by kernel_rfl
@[push_cast] theorem offT_57_1 : offT Tryz.prog 57 1 = some (1, 40) := by kernel_rfl
@[push_cast] theorem offT_57_2 : offT Tryz.prog 57 2 = some (2, 55) := by kernel_rfl
@[push_cast] theorem placesT_57 : placesT Tryz.prog 57 = some fun i => [(0, 1), (1, 1), (2, 1)][i]? := by kernel_rfl
@[push_cast] theorem szT_69 : szT Tryz.prog 69 = 1 := by kernel_rfl
@[push_cast] theorem byT_69 : byT Tryz.prog 69 = 24 := by kernel_rfl
@[push_cast] theorem aggT_69 : aggT Tryz.prog 69 = some false := by kernel_rfl
@[push_cast] theorem elT_69 : elT Tryz.prog 69 = some 29 := by kernel_rfl
@[push_cast] theorem arrT_69 : arrT Tryz.prog 69 = none := by kernel_rfl
@[push_cast] theorem strT_69 : strT Tryz.prog 69 = false := by kernel_rfl
@[push_cast] theorem intT_69 : intT Tryz.prog 69 = none := by kernel_rfl
@[push_cast] theorem zeroT_69 : zeroT Tryz.prog 69 = some (.nilsl) := by kernel_rfl
@[push_cast] theorem szT_72 : szT Tryz.prog 72 = 1 := by kernel_rfl
@[push_cast] theorem byT_72 : byT Tryz.prog 72 = 24 := by kernel_rfl
@[push_cast] theorem aggT_72 : aggT Tryz.prog 72 = some false := by kernel_rfl
@[push_cast] theorem elT_72 : elT Tryz.prog 72 = some 4 := by kernel_rfl
@[push_cast] theorem arrT_72 : arrT Tryz.prog 72 = none := by kernel_rfl
@[push_cast] theorem strT_72 : strT Tryz.prog 72 = false := by kernel_rfl
@[push_cast] theorem intT_72 : intT Tryz.prog 72 = none := by kernel_rfl
@[push_cast] theorem zeroT_72 : zeroT Tryz.prog 72 = some (.nilsl) := by kernel_rfl
@[push_cast] theorem szT_74 : szT Tryz.prog 74 = 6 := by kernel_rfl
@[push_cast] theorem byT_74 : byT Tryz.prog 74 = 144 := by kernel_rfl
@[push_cast] theorem aggT_74 : aggT Tryz.prog 74 = some true := by kernel_rfl
@[push_cast] theorem elT_74 : elT Tryz.prog 74 = none := by kernel_rfl
@[push_cast] theorem arrT_74 : arrT Tryz.prog 74 = none := by kernel_rfl
@[push_cast] theorem strT_74 : strT Tryz.prog 74 = false := by kernel_rfl
@[push_cast] theorem intT_74 : intT Tryz.prog 74 = none := by kernel_rfl
@[push_cast] theorem zeroT_74 : zeroT Tryz.prog 74 = some (.agg [.nilsl, .nilsl, .nilsl, .nilsl, .nilsl, .nilsl]) := by kernel_rfl
@[push_cast] theorem offT_74_0 : offT Tryz.prog 74 0 = some (0, 25) := by kernel_rfl
@[push_cast] theorem offT_74_1 : offT Tryz.prog 74 1 = some (1, 40) := by kernel_rfl
@[push_cast] theorem offT_74_2 : offT Tryz.prog 74 2 = some (2, 72) := by kernel_rfl
@[push_cast] theorem offT_74_3 : offT Tryz.prog 74 3 = some (3, 72) := by kernel_rfl
@[push_cast] theorem offT_74_4 : offT Tryz.prog 74 4 = some (4, 26) := by kernel_rfl
@[push_cast] theorem offT_74_5 : offT Tryz.prog 74 5 = some (5, 26) := by kernel_rfl
@[push_cast] theorem placesT_74 : placesT Tryz.prog 74 = some fun i => [(0, 1), (1, 1), (2, 1), (3, 1), (4, 1), (5, 1)][i]? := by kernel_rfl
@[push_cast] theorem szT_82 : szT Tryz.prog 82 = 3 := by kernel_rfl
@[push_cast] theorem byT_82 : byT Tryz.prog 82 = 24 := by kernel_rfl
@[push_cast] theorem aggT_82 : aggT Tryz.prog 82 = some true := by kernel_rfl
@[push_cast] theorem elT_82 : elT Tryz.prog 82 = none := by kernel_rfl
@[push_cast] theorem arrT_82 : arrT Tryz.prog 82 = none := by kernel_rfl
@[push_cast] theorem strT_82 : strT Tryz.prog 82 = false := by kernel_rfl
@[push_cast] theorem intT_82 : intT Tryz.prog 82 = none := by kernel_rfl
@[push_cast] theorem zeroT_82 : zeroT Tryz.prog 82 = some (.agg [.int .i64 0, .int .i64 0, .int .i64 0]) := by kernel_rfl
@[push_cast] theorem offT_82_0 : offT Tryz.prog 82 0 = some (0, 3) := by kernel_rfl
@[push_cast] theorem offT_82_1 : offT Tryz.prog 82 1 = some (1, 3) := by kernel_rfl
@[push_cast] theorem offT_82_2 : offT Tryz.prog 82 2 = some (2, 3) := by kernel_rfl
@[push_cast] theorem placesT_82 : placesT Tryz.prog 82 = some fun i => [(0, 1), (1, 1), (2, 1)][i]? := by kernel_rfl
@[push_cast] theorem szT_88 : szT Tryz.prog 88 = 2 := by kernel_rfl
@[push_cast] theorem byT_88 : byT Tryz.prog 88 = 32 := by kernel_rfl
@[push_cast] theorem aggT_88 : aggT Tryz.prog 88 = some true := by kernel_rfl
@[push_cast] theorem elT_88 : elT Tryz.prog 88 = none := by kernel_rfl
@[push_cast] theorem arrT_88 : arrT Tryz.prog 88 = none := by kernel_rfl
@[push_cast] theorem strT_88 : strT Tryz.prog 88 = false := by kernel_rfl
@[push_cast] theorem intT_88 : intT Tryz.prog 88 = none := by kernel_rfl
@[push_cast] theorem zeroT_88 : zeroT Tryz.prog 88 = some (.agg [.nilsl, .int .i64 0]) := by kernel_rfl
@[push_cast] theorem offT_88_0 : offT Tryz.prog 88 0 = some (0, 22) := by kernel_rfl
@[push_cast] theorem offT_88_1 : offT Tryz.prog 88 1 = some (1, 3) := by kernel_rfl
@[push_cast] theorem placesT_88 : placesT Tryz.prog 88 = some fun i => [(0, 1), (1, 1)][i]? := by kernel_rfl
@[push_cast] theorem szT_92 : szT Tryz.prog 92 = 1 := by kernel_rfl
@[push_cast] theorem byT_92 : byT Tryz.prog 92 = 24 := by kernel_rfl
@[push_cast] theorem aggT_92 : aggT Tryz.prog 92 = some false := by kernel_rfl
@[push_cast] theorem elT_92 : elT Tryz.prog 92 = some 115 := by kernel_rfl
@[push_cast] theorem arrT_92 : arrT Tryz.prog 92 = none := by kernel_rfl
@[push_cast] theorem strT_92 : strT Tryz.prog 92 = false := by kernel_rfl
@[push_cast] theorem intT_92 : intT Tryz.prog 92 = none := by kernel_rfl
@[push_cast] theorem zeroT_92 : zeroT Tryz.prog 92 = some (.nilsl) := by kernel_rfl
@[push_cast] theorem szT_98 : szT Tryz.prog 98 = 1 := by kernel_rfl
@[push_cast] theorem byT_98 : byT Tryz.prog 98 = 24 := by kernel_rfl
@[push_cast] theorem aggT_98 : aggT Tryz.prog 98 = some false := by kernel_rfl
@[push_cast] theorem elT_98 : elT Tryz.prog 98 = some 72 := by kernel_rfl
@[push_cast] theorem arrT_98 : arrT Tryz.prog 98 = none := by kernel_rfl
@[push_cast] theorem strT_98 : strT Tryz.prog 98 = false := by kernel_rfl
@[push_cast] theorem intT_98 : intT Tryz.prog 98 = none := by kernel_rfl
@[push_cast] theorem zeroT_98 : zeroT Tryz.prog 98 = some (.nilsl) := by kernel_rfl
@[push_cast] theorem szT_100 : szT Tryz.prog 100 = 1 := by kernel_rfl
@[push_cast] theorem byT_100 : byT Tryz.prog 100 = 24 := by kernel_rfl
@[push_cast] theorem aggT_100 : aggT Tryz.prog 100 = some true := by kernel_rfl
@[push_cast] theorem elT_100 : elT Tryz.prog 100 = none := by kernel_rfl
@[push_cast] theorem arrT_100 : arrT Tryz.prog 100 = none := by kernel_rfl
@[push_cast] theorem strT_100 : strT Tryz.prog 100 = false := by kernel_rfl
@[push_cast] theorem intT_100 : intT Tryz.prog 100 = none := by kernel_rfl
@[push_cast] theorem zeroT_100 : zeroT Tryz.prog 100 = some (.agg [.nilsl]) := by kernel_rfl
@[push_cast] theorem offT_100_0 : offT Tryz.prog 100 0 = some (0, 98) := by kernel_rfl
@[push_cast] theorem placesT_100 : placesT Tryz.prog 100 = some fun i => [(0, 1)][i]? := by kernel_rfl
@[push_cast] theorem szT_103 : szT Tryz.prog 103 = 1 := by kernel_rfl
@[push_cast] theorem byT_103 : byT Tryz.prog 103 = 24 := by kernel_rfl
@[push_cast] theorem aggT_103 : aggT Tryz.prog 103 = some false := by kernel_rfl
@[push_cast] theorem elT_103 : elT Tryz.prog 103 = some 27 := by kernel_rfl
@[push_cast] theorem arrT_103 : arrT Tryz.prog 103 = none := by kernel_rfl
@[push_cast] theorem strT_103 : strT Tryz.prog 103 = false := by kernel_rfl
@[push_cast] theorem intT_103 : intT Tryz.prog 103 = none := by kernel_rfl
@[push_cast] theorem zeroT_103 : zeroT Tryz.prog 103 = some (.nilsl) := by kernel_rfl
@[push_cast] theorem szT_106 : szT Tryz.prog 106 = 1 := by kernel_rfl
@[push_cast] theorem byT_106 : byT Tryz.prog 106 = 8 := by kernel_rfl
@[push_cast] theorem aggT_106 : aggT Tryz.prog 106 = some false := by kernel_rfl
@[push_cast] theorem elT_106 : elT Tryz.prog 106 = none := by kernel_rfl
@[push_cast] theorem arrT_106 : arrT Tryz.prog 106 = none := by kernel_rfl
@[push_cast] theorem strT_106 : strT Tryz.prog 106 = false := by kernel_rfl
@[push_cast] theorem intT_106 : intT Tryz.prog 106 = some .u64 := by kernel_rfl
@[push_cast] theorem zeroT_106 : zeroT Tryz.prog 106 = some (.int .u64 0) := by kernel_rfl
@[push_cast] theorem szT_114 : szT Tryz.prog 114 = 2 := by kernel_rfl
@[push_cast] theorem byT_114 : byT Tryz.prog 114 = 16 := by kernel_rfl
@[push_cast] theorem aggT_114 : aggT Tryz.prog 114 = some true := by kernel_rfl
@[push_cast] theorem elT_114 : elT Tryz.prog 114 = none := by kernel_rfl
@[push_cast] theorem arrT_114 : arrT Tryz.prog 114 = none := by kernel_rfl
@[push_cast] theorem strT_114 : strT Tryz.prog 114 = false := by kernel_rfl
@[push_cast] theorem intT_114 : intT Tryz.prog 114 = none := by kernel_rfl
@[push_cast] theorem zeroT_114 : zeroT Tryz.prog 114 = some (.agg [.int .i64 0, .int .i64 0]) := by kernel_rfl
@[push_cast] theorem offT_114_0 : offT Tryz.prog 114 0 = some (0, 3) := by kernel_rfl
@[push_cast] theorem offT_114_1 : offT Tryz.prog 114 1 = some (1, 3) := by kernel_rfl
@[push_cast] theorem placesT_114 : placesT Tryz.prog 114 = some fun i => [(0, 1), (1, 1)][i]? := by kernel_rfl
@[push_cast] theorem szT_115 : szT Tryz.prog 115 = 4 := by kernel_rfl
@[push_cast] theorem byT_115 : byT Tryz.prog 115 = 32 := by kernel_rfl
@[push_cast] theorem aggT_115 : aggT Tryz.prog 115 = some true := by kernel_rfl
@[push_cast] theorem elT_115 : elT Tryz.prog 115 = none := by kernel_rfl
@[push_cast] theorem arrT_115 : arrT Tryz.prog 115 = some (2, 114) := by kernel_rfl
@[push_cast] theorem strT_115 : strT Tryz.prog 115 = false := by kernel_rfl
@[push_cast] theorem intT_115 : intT Tryz.prog 115 = none := by kernel_rfl
@[push_cast] theorem zeroT_115 : zeroT Tryz.prog 115 = some (.agg [.int .i64 0, .int .i64 0, .int .i64 0, .int .i64 0]) := by kernel_rfl
@[push_cast] theorem placesT_115 : placesT Tryz.prog 115 = some fun i => some (i * 2, 2) := by kernel_rfl
@[push_cast] theorem szT_123 : szT Tryz.prog 123 = 64 := by kernel_rfl
@[push_cast] theorem byT_123 : byT Tryz.prog 123 = 64 := by kernel_rfl
@[push_cast] theorem aggT_123 : aggT Tryz.prog 123 = some true := by kernel_rfl
@[push_cast] theorem elT_123 : elT Tryz.prog 123 = none := by kernel_rfl
@[push_cast] theorem arrT_123 : arrT Tryz.prog 123 = some (64, 5) := by kernel_rfl
@[push_cast] theorem strT_123 : strT Tryz.prog 123 = false := by kernel_rfl
@[push_cast] theorem intT_123 : intT Tryz.prog 123 = none := by kernel_rfl
@[push_cast] theorem zeroT_123 : zeroT Tryz.prog 123 = some (.agg [.int .u8 0, .int .u8 0, .int .u8 0, .int .u8 0, .int .u8 0, .int .u8 0, .int .u8 0, .int .u8 0, .int .u8 0, .int .u8 0, .int .u8 0, .int .u8 0, .int .u8 0, .int .u8 0, .int .u8 0, .int .u8 0, .int .u8 0, .int .u8 0, .int .u8 0, .int .u8 0, .int .u8 0, .int .u8 0, .int .u8 0, .int .u8 0, .int .u8 0, .int .u8 0, .int .u8 0, .int .u8 0, .int .u8 0, .int .u8 0, .int .u8 0, .int .u8 0, .int .u8 0, .int .u8 0, .int .u8 0, .int .u8 0, .int .u8 0, .int .u8 0, .int .u8 0, .int .u8 0, .int .u8 0, .int .u8 0, .int .u8 0, .int .u8 0, .int .u8 0, .int .u8 0, .int .u8 0, .int .u8 0, .int .u8 0, .int .u8 0, .int .u8 0, .int .u8 0, .int .u8 0, .int .u8 0, .int .u8 0, .int .u8 0, .int .u8 0, .int .u8 0, .int .u8 0, .int .u8 0, .int .u8 0, .int .u8 0, .int .u8 0, .int .u8 0]) := by kernel_rfl
@[push_cast] theorem placesT_123 : placesT Tryz.prog 123 = some fun i => some (i * 1, 1) := by kernel_rfl
@[push_cast] theorem szT_124 : szT Tryz.prog 124 = 1 := by kernel_rfl
@[push_cast] theorem byT_124 : byT Tryz.prog 124 = 8 := by kernel_rfl
@[push_cast] theorem aggT_124 : aggT Tryz.prog 124 = some false := by kernel_rfl
@[push_cast] theorem elT_124 : elT Tryz.prog 124 = none := by kernel_rfl
@[push_cast] theorem arrT_124 : arrT Tryz.prog 124 = none := by kernel_rfl
@[push_cast] theorem strT_124 : strT Tryz.prog 124 = false := by kernel_rfl
@[push_cast] theorem intT_124 : intT Tryz.prog 124 = some .u64 := by kernel_rfl
@[push_cast] theorem zeroT_124 : zeroT Tryz.prog 124 = some (.int .u64 0) := by kernel_rfl
@[push_cast] theorem szT_147 : szT Tryz.prog 147 = 1 := by kernel_rfl
@[push_cast] theorem byT_147 : byT Tryz.prog 147 = 4 := by kernel_rfl
@[push_cast] theorem aggT_147 : aggT Tryz.prog 147 = some false := by kernel_rfl
@[push_cast] theorem elT_147 : elT Tryz.prog 147 = none := by kernel_rfl
@[push_cast] theorem arrT_147 : arrT Tryz.prog 147 = none := by kernel_rfl
@[push_cast] theorem strT_147 : strT Tryz.prog 147 = false := by kernel_rfl
@[push_cast] theorem intT_147 : intT Tryz.prog 147 = some .u32 := by kernel_rfl
@[push_cast] theorem zeroT_147 : zeroT Tryz.prog 147 = some (.int .u32 0) := by kernel_rfl
@[push_cast] theorem szT_148 : szT Tryz.prog 148 = 1 := by kernel_rfl
@[push_cast] theorem byT_148 : byT Tryz.prog 148 = 8 := by kernel_rfl
@[push_cast] theorem aggT_148 : aggT Tryz.prog 148 = some false := by kernel_rfl
@[push_cast] theorem elT_148 : elT Tryz.prog 148 = none := by kernel_rfl
@[push_cast] theorem arrT_148 : arrT Tryz.prog 148 = none := by kernel_rfl
@[push_cast] theorem strT_148 : strT Tryz.prog 148 = false := by kernel_rfl
@[push_cast] theorem intT_148 : intT Tryz.prog 148 = some .u64 := by kernel_rfl
@[push_cast] theorem zeroT_148 : zeroT Tryz.prog 148 = some (.int .u64 0) := by kernel_rfl
end Go.Proofs.YtfdbminedccccaaGreatDoor
