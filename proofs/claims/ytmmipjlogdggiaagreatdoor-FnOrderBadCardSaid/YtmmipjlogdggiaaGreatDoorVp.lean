/-
  What the program's types are.
-/
import Derived.Test.YtmmipjlogdggiaaGreatDoorVm
import Derived.Test.YtmmipjlogdggiaaGreatDoorProg
namespace Go.Proofs.YtmmipjlogdggiaaGreatDoor
open Go.RowKit

@[push_cast] theorem szT_3 : szT Tryz.prog 3 = 1 := by kernel_rfl
@[push_cast] theorem byT_3 : byT Tryz.prog 3 = 8 := by kernel_rfl
@[push_cast] theorem aggT_3 : aggT Tryz.prog 3 = some false := by kernel_rfl
@[push_cast] theorem elT_3 : elT Tryz.prog 3 = none := by kernel_rfl
@[push_cast] theorem arrT_3 : arrT Tryz.prog 3 = none := by kernel_rfl
@[push_cast] theorem strT_3 : strT Tryz.prog 3 = false := by kernel_rfl
@[push_cast] theorem intT_3 : intT Tryz.prog 3 = some .i64 := by kernel_rfl
@[push_cast] theorem zeroT_3 : zeroT Tryz.prog 3 = some (.int .i64 0) := by kernel_rfl
@[push_cast] theorem szT_4 : szT Tryz.prog 4 = 1 := by kernel_rfl
@[push_cast] theorem byT_4 : byT Tryz.prog 4 = 1 := by kernel_rfl
@[push_cast] theorem aggT_4 : aggT Tryz.prog 4 = some false := by kernel_rfl
@[push_cast] theorem elT_4 : elT Tryz.prog 4 = none := by kernel_rfl
@[push_cast] theorem arrT_4 : arrT Tryz.prog 4 = none := by kernel_rfl
@[push_cast] theorem strT_4 : strT Tryz.prog 4 = false := by kernel_rfl
@[push_cast] theorem intT_4 : intT Tryz.prog 4 = none := by kernel_rfl
@[push_cast] theorem boolT_4 : boolT Tryz.prog 4 = true := by kernel_rfl
@[push_cast] theorem zeroT_4 : zeroT Tryz.prog 4 = some (.bool false) := by kernel_rfl
@[push_cast] theorem szT_5 : szT Tryz.prog 5 = 1 := by kernel_rfl
@[push_cast] theorem byT_5 : byT Tryz.prog 5 = 1 := by kernel_rfl
@[push_cast] theorem aggT_5 : aggT Tryz.prog 5 = some false := by kernel_rfl
@[push_cast] theorem elT_5 : elT Tryz.prog 5 = none := by kernel_rfl
@[push_cast] theorem arrT_5 : arrT Tryz.prog 5 = none := by kernel_rfl
@[push_cast] theorem strT_5 : strT Tryz.prog 5 = false := by kernel_rfl
@[push_cast] theorem intT_5 : intT Tryz.prog 5 = some .u8 := by kernel_rfl
@[push_cast] theorem zeroT_5 : zeroT Tryz.prog 5 = some (.int .u8 0) := by kernel_rfl
@[push_cast] theorem szT_9 : szT Tryz.prog 9 = 1 := by kernel_rfl
@[push_cast] theorem byT_9 : byT Tryz.prog 9 = 16 := by kernel_rfl
@[push_cast] theorem aggT_9 : aggT Tryz.prog 9 = some false := by kernel_rfl
@[push_cast] theorem elT_9 : elT Tryz.prog 9 = none := by kernel_rfl
@[push_cast] theorem arrT_9 : arrT Tryz.prog 9 = none := by kernel_rfl
@[push_cast] theorem strT_9 : strT Tryz.prog 9 = true := by kernel_rfl
@[push_cast] theorem intT_9 : intT Tryz.prog 9 = none := by kernel_rfl
@[push_cast] theorem szT_22 : szT Tryz.prog 22 = 1 := by kernel_rfl
@[push_cast] theorem byT_22 : byT Tryz.prog 22 = 24 := by kernel_rfl
@[push_cast] theorem aggT_22 : aggT Tryz.prog 22 = some false := by kernel_rfl
@[push_cast] theorem elT_22 : elT Tryz.prog 22 = some 5 := by kernel_rfl
@[push_cast] theorem arrT_22 : arrT Tryz.prog 22 = none := by kernel_rfl
@[push_cast] theorem strT_22 : strT Tryz.prog 22 = false := by kernel_rfl
@[push_cast] theorem intT_22 : intT Tryz.prog 22 = none := by kernel_rfl
@[push_cast] theorem zeroT_22 : zeroT Tryz.prog 22 = some (.nilsl) := by kernel_rfl
@[push_cast] theorem szT_23 : szT Tryz.prog 23 = 1 := by kernel_rfl
@[push_cast] theorem byT_23 : byT Tryz.prog 23 = 24 := by kernel_rfl
@[push_cast] theorem aggT_23 : aggT Tryz.prog 23 = some false := by kernel_rfl
@[push_cast] theorem elT_23 : elT Tryz.prog 23 = some 40 := by kernel_rfl
@[push_cast] theorem arrT_23 : arrT Tryz.prog 23 = none := by kernel_rfl
@[push_cast] theorem strT_23 : strT Tryz.prog 23 = false := by kernel_rfl
@[push_cast] theorem intT_23 : intT Tryz.prog 23 = none := by kernel_rfl
@[push_cast] theorem zeroT_23 : zeroT Tryz.prog 23 = some (.nilsl) := by kernel_rfl
@[push_cast] theorem szT_25 : szT Tryz.prog 25 = 1 := by kernel_rfl
@[push_cast] theorem byT_25 : byT Tryz.prog 25 = 24 := by kernel_rfl
@[push_cast] theorem aggT_25 : aggT Tryz.prog 25 = some true := by kernel_rfl
@[push_cast] theorem elT_25 : elT Tryz.prog 25 = none := by kernel_rfl
@[push_cast] theorem arrT_25 : arrT Tryz.prog 25 = none := by kernel_rfl
@[push_cast] theorem strT_25 : strT Tryz.prog 25 = false := by kernel_rfl
@[push_cast] theorem intT_25 : intT Tryz.prog 25 = none := by kernel_rfl
@[push_cast] theorem zeroT_25 : zeroT Tryz.prog 25 = some (.agg [.nilsl]) := by kernel_rfl
@[push_cast] theorem offT_25_0 : offT Tryz.prog 25 0 = some (0, 23) := by kernel_rfl
@[push_cast] theorem placesT_25 : placesT Tryz.prog 25 = some fun i => [(0, 1)][i]? := by kernel_rfl
@[push_cast] theorem szT_28 : szT Tryz.prog 28 = 1 := by kernel_rfl
@[push_cast] theorem byT_28 : byT Tryz.prog 28 = 24 := by kernel_rfl
@[push_cast] theorem aggT_28 : aggT Tryz.prog 28 = some false := by kernel_rfl
@[push_cast] theorem elT_28 : elT Tryz.prog 28 = some 60 := by kernel_rfl
@[push_cast] theorem arrT_28 : arrT Tryz.prog 28 = none := by kernel_rfl
@[push_cast] theorem strT_28 : strT Tryz.prog 28 = false := by kernel_rfl
@[push_cast] theorem intT_28 : intT Tryz.prog 28 = none := by kernel_rfl
@[push_cast] theorem zeroT_28 : zeroT Tryz.prog 28 = some (.nilsl) := by kernel_rfl
@[push_cast] theorem szT_31 : szT Tryz.prog 31 = 1 := by kernel_rfl
@[push_cast] theorem byT_31 : byT Tryz.prog 31 = 24 := by kernel_rfl
@[push_cast] theorem aggT_31 : aggT Tryz.prog 31 = some false := by kernel_rfl
@[push_cast] theorem elT_31 : elT Tryz.prog 31 = some 54 := by kernel_rfl
@[push_cast] theorem arrT_31 : arrT Tryz.prog 31 = none := by kernel_rfl
@[push_cast] theorem strT_31 : strT Tryz.prog 31 = false := by kernel_rfl
@[push_cast] theorem intT_31 : intT Tryz.prog 31 = none := by kernel_rfl
@[push_cast] theorem zeroT_31 : zeroT Tryz.prog 31 = some (.nilsl) := by kernel_rfl
@[push_cast] theorem szT_40 : szT Tryz.prog 40 = 1 := by kernel_rfl
@[push_cast] theorem byT_40 : byT Tryz.prog 40 = 24 := by kernel_rfl
@[push_cast] theorem aggT_40 : aggT Tryz.prog 40 = some false := by kernel_rfl
@[push_cast] theorem elT_40 : elT Tryz.prog 40 = some 43 := by kernel_rfl
@[push_cast] theorem arrT_40 : arrT Tryz.prog 40 = none := by kernel_rfl
@[push_cast] theorem strT_40 : strT Tryz.prog 40 = false := by kernel_rfl
@[push_cast] theorem intT_40 : intT Tryz.prog 40 = none := by kernel_rfl
@[push_cast] theorem zeroT_40 : zeroT Tryz.prog 40 = some (.nilsl) := by kernel_rfl
@[push_cast] theorem szT_43 : szT Tryz.prog 43 = 3 := by kernel_rfl
@[push_cast] theorem byT_43 : byT Tryz.prog 43 = 24 := by kernel_rfl
@[push_cast] theorem aggT_43 : aggT Tryz.prog 43 = some true := by kernel_rfl
@[push_cast] theorem elT_43 : elT Tryz.prog 43 = none := by kernel_rfl
@[push_cast] theorem arrT_43 : arrT Tryz.prog 43 = none := by kernel_rfl
@[push_cast] theorem strT_43 : strT Tryz.prog 43 = false := by kernel_rfl
@[push_cast] theorem intT_43 : intT Tryz.prog 43 = none := by kernel_rfl
@[push_cast] theorem zeroT_43 : zeroT Tryz.prog 43 = some (.agg [.int .i64 0, .int .i64 0, .int .i64 0]) := by kernel_rfl
@[push_cast] theorem offT_43_0 : offT Tryz.prog 43 0 = some (0, 3) := by kernel_rfl
@[push_cast] theorem offT_43_1 : offT Tryz.prog 43 1 = some (1, 3) := by kernel_rfl
@[push_cast] theorem offT_43_2 : offT Tryz.prog 43 2 = some (2, 3) := by kernel_rfl
@[push_cast] theorem placesT_43 : placesT Tryz.prog 43 = some fun i => [(0, 1), (1, 1), (2, 1)][i]? := by kernel_rfl
@[push_cast] theorem szT_46 : szT Tryz.prog 46 = 1 := by kernel_rfl
@[push_cast] theorem byT_46 : byT Tryz.prog 46 = 24 := by kernel_rfl
@[push_cast] theorem aggT_46 : aggT Tryz.prog 46 = some false := by kernel_rfl
@[push_cast] theorem elT_46 : elT Tryz.prog 46 = some 73 := by kernel_rfl
@[push_cast] theorem arrT_46 : arrT Tryz.prog 46 = none := by kernel_rfl
@[push_cast] theorem strT_46 : strT Tryz.prog 46 = false := by kernel_rfl
@[push_cast] theorem intT_46 : intT Tryz.prog 46 = none := by kernel_rfl
@[push_cast] theorem zeroT_46 : zeroT Tryz.prog 46 = some (.nilsl) := by kernel_rfl
@[push_cast] theorem szT_48 : szT Tryz.prog 48 = 3 := by kernel_rfl
@[push_cast] theorem byT_48 : byT Tryz.prog 48 = 72 := by kernel_rfl
@[push_cast] theorem aggT_48 : aggT Tryz.prog 48 = some true := by kernel_rfl
@[push_cast] theorem elT_48 : elT Tryz.prog 48 = none := by kernel_rfl
@[push_cast] theorem arrT_48 : arrT Tryz.prog 48 = none := by kernel_rfl
@[push_cast] theorem strT_48 : strT Tryz.prog 48 = false := by kernel_rfl
@[push_cast] theorem intT_48 : intT Tryz.prog 48 = none := by kernel_rfl
@[push_cast] theorem zeroT_48 : zeroT Tryz.prog 48 = some (.agg [.nilsl, .nilsl, .nilsl]) := by kernel_rfl
@[push_cast] theorem offT_48_0 : offT Tryz.prog 48 0 = some (0, 25) := by kernel_rfl
@[push_cast] theorem offT_48_1 : offT Tryz.prog 48 1 = some (1, 46) := by kernel_rfl
@[push_cast] theorem offT_48_2 : offT Tryz.prog 48 2 = some (2, 40) := by kernel_rfl
@[push_cast] theorem placesT_48 : placesT Tryz.prog 48 = some fun i => [(0, 1), (1, 1), (2, 1)][i]? := by kernel_rfl
@[push_cast] theorem szT_51 : szT Tryz.prog 51 = 1 := by kernel_rfl
@[push_cast] theorem byT_51 : byT Tryz.prog 51 = 24 := by kernel_rfl
@[push_cast] theorem aggT_51 : aggT Tryz.prog 51 = some false := by kernel_rfl
@[push_cast] theorem elT_51 : elT Tryz.prog 51 = some 3 := by kernel_rfl
@[push_cast] theorem arrT_51 : arrT Tryz.prog 51 = none := by kernel_rfl
@[push_cast] theorem strT_51 : strT Tryz.prog 51 = false := by kernel_rfl
@[push_cast] theorem intT_51 : intT Tryz.prog 51 = none := by kernel_rfl
@[push_cast] theorem zeroT_51 : zeroT Tryz.prog 51 = some (.nilsl) := by kernel_rfl
@[push_cast] theorem szT_52 : szT Tryz.prog 52 = 1 := by kernel_rfl
@[push_cast] theorem byT_52 : byT Tryz.prog 52 = 24 := by kernel_rfl
@[push_cast] theorem aggT_52 : aggT Tryz.prog 52 = some false := by kernel_rfl
@[push_cast] theorem elT_52 : elT Tryz.prog 52 = some 51 := by kernel_rfl
@[push_cast] theorem arrT_52 : arrT Tryz.prog 52 = none := by kernel_rfl
@[push_cast] theorem strT_52 : strT Tryz.prog 52 = false := by kernel_rfl
@[push_cast] theorem intT_52 : intT Tryz.prog 52 = none := by kernel_rfl
@[push_cast] theorem zeroT_52 : zeroT Tryz.prog 52 = some (.nilsl) := by kernel_rfl
@[push_cast] theorem szT_54 : szT Tryz.prog 54 = 2 := by kernel_rfl
@[push_cast] theorem byT_54 : byT Tryz.prog 54 = 48 := by kernel_rfl
@[push_cast] theorem aggT_54 : aggT Tryz.prog 54 = some true := by kernel_rfl
@[push_cast] theorem elT_54 : elT Tryz.prog 54 = none := by kernel_rfl
@[push_cast] theorem arrT_54 : arrT Tryz.prog 54 = none := by kernel_rfl
@[push_cast] theorem strT_54 : strT Tryz.prog 54 = false := by kernel_rfl
@[push_cast] theorem intT_54 : intT Tryz.prog 54 = none := by kernel_rfl
@[push_cast] theorem zeroT_54 : zeroT Tryz.prog 54 = some (.agg [.nilsl, .nilsl]) := by kernel_rfl
@[push_cast] theorem offT_54_0 : offT Tryz.prog 54 0 = some (0, 51) := by kernel_rfl
@[push_cast] theorem offT_54_1 : offT Tryz.prog 54 1 = some (1, 52) := by kernel_rfl
@[push_cast] theorem placesT_54 : placesT Tryz.prog 54 = some fun i => [(0, 1), (1, 1)][i]? := by kernel_rfl
@[push_cast] theorem szT_56 : szT Tryz.prog 56 = 1 := by kernel_rfl
@[push_cast] theorem byT_56 : byT Tryz.prog 56 = 24 := by kernel_rfl
@[push_cast] theorem aggT_56 : aggT Tryz.prog 56 = some false := by kernel_rfl
@[push_cast] theorem elT_56 : elT Tryz.prog 56 = some 118 := by kernel_rfl
@[push_cast] theorem arrT_56 : arrT Tryz.prog 56 = none := by kernel_rfl
@[push_cast] theorem strT_56 : strT Tryz.prog 56 = false := by kernel_rfl
@[push_cast] theorem intT_56 : intT Tryz.prog 56 = none := by kernel_rfl
@[push_cast] theorem zeroT_56 : zeroT Tryz.prog 56 = some (.nilsl) := by kernel_rfl
@[push_cast] theorem szT_60 : szT Tryz.prog 60 = 2 := by kernel_rfl
@[push_cast] theorem byT_60 : byT Tryz.prog 60 = 48 := by kernel_rfl
@[push_cast] theorem aggT_60 : aggT Tryz.prog 60 = some true := by kernel_rfl
@[push_cast] theorem elT_60 : elT Tryz.prog 60 = none := by kernel_rfl
@[push_cast] theorem arrT_60 : arrT Tryz.prog 60 = none := by kernel_rfl
@[push_cast] theorem strT_60 : strT Tryz.prog 60 = false := by kernel_rfl
@[push_cast] theorem intT_60 : intT Tryz.prog 60 = none := by kernel_rfl
@[push_cast] theorem zeroT_60 : zeroT Tryz.prog 60 = some (.agg [.nilsl, .nilsl]) := by kernel_rfl
@[push_cast] theorem offT_60_0 : offT Tryz.prog 60 0 = some (0, 51) := by kernel_rfl
@[push_cast] theorem offT_60_1 : offT Tryz.prog 60 1 = some (1, 51) := by kernel_rfl
@[push_cast] theorem placesT_60 : placesT Tryz.prog 60 = some fun i => [(0, 1), (1, 1)][i]? := by kernel_rfl
@[push_cast] theorem szT_65 : szT Tryz.prog 65 = 2 := by kernel_rfl
@[push_cast] theorem byT_65 : byT Tryz.prog 65 = 32 := by kernel_rfl
@[push_cast] theorem aggT_65 : aggT Tryz.prog 65 = some true := by kernel_rfl
@[push_cast] theorem elT_65 : elT Tryz.prog 65 = none := by kernel_rfl
@[push_cast] theorem arrT_65 : arrT Tryz.prog 65 = none := by kernel_rfl
@[push_cast] theorem strT_65 : strT Tryz.prog 65 = false := by kernel_rfl
@[push_cast] theorem intT_65 : intT Tryz.prog 65 = none := by kernel_rfl
@[push_cast] theorem zeroT_65 : zeroT Tryz.prog 65 = some (.agg [.nilsl, .int .i64 0]) := by kernel_rfl
@[push_cast] theorem offT_65_0 : offT Tryz.prog 65 0 = some (0, 22) := by kernel_rfl
@[push_cast] theorem offT_65_1 : offT Tryz.prog 65 1 = some (1, 3) := by kernel_rfl
@[push_cast] theorem placesT_65 : placesT Tryz.prog 65 = some fun i => [(0, 1), (1, 1)][i]? := by kernel_rfl
@[push_cast] theorem szT_73 : szT Tryz.prog 73 = 3 := by kernel_rfl
@[push_cast] theorem byT_73 : byT Tryz.prog 73 = 24 := by kernel_rfl
@[push_cast] theorem aggT_73 : aggT Tryz.prog 73 = some true := by kernel_rfl
@[push_cast] theorem elT_73 : elT Tryz.prog 73 = none := by kernel_rfl
@[push_cast] theorem arrT_73 : arrT Tryz.prog 73 = none := by kernel_rfl
@[push_cast] theorem strT_73 : strT Tryz.prog 73 = false := by kernel_rfl
@[push_cast] theorem intT_73 : intT Tryz.prog 73 = none := by kernel_rfl
@[push_cast] theorem zeroT_73 : zeroT Tryz.prog 73 = some (.agg [.int .i64 0, .int .i64 0, .bool false]) := by kernel_rfl
@[push_cast] theorem offT_73_0 : offT Tryz.prog 73 0 = some (0, 3) := by kernel_rfl
@[push_cast] theorem offT_73_1 : offT Tryz.prog 73 1 = some (1, 3) := by kernel_rfl
@[push_cast] theorem offT_73_2 : offT Tryz.prog 73 2 = some (2, 4) := by kernel_rfl
@[push_cast] theorem placesT_73 : placesT Tryz.prog 73 = some fun i => [(0, 1), (1, 1), (2, 1)][i]? := by kernel_rfl
@[push_cast] theorem szT_74 : szT Tryz.prog 74 = 1 := by kernel_rfl
@[push_cast] theorem byT_74 : byT Tryz.prog 74 = 24 := by kernel_rfl
@[push_cast] theorem aggT_74 : aggT Tryz.prog 74 = some false := by kernel_rfl
@[push_cast] theorem elT_74 : elT Tryz.prog 74 = some 52 := by kernel_rfl
@[push_cast] theorem arrT_74 : arrT Tryz.prog 74 = none := by kernel_rfl
@[push_cast] theorem strT_74 : strT Tryz.prog 74 = false := by kernel_rfl
@[push_cast] theorem intT_74 : intT Tryz.prog 74 = none := by kernel_rfl
@[push_cast] theorem zeroT_74 : zeroT Tryz.prog 74 = some (.nilsl) := by kernel_rfl
@[push_cast] theorem szT_86 : szT Tryz.prog 86 = 1 := by kernel_rfl
@[push_cast] theorem byT_86 : byT Tryz.prog 86 = 24 := by kernel_rfl
@[push_cast] theorem aggT_86 : aggT Tryz.prog 86 = some false := by kernel_rfl
@[push_cast] theorem elT_86 : elT Tryz.prog 86 = some 123 := by kernel_rfl
@[push_cast] theorem arrT_86 : arrT Tryz.prog 86 = none := by kernel_rfl
@[push_cast] theorem strT_86 : strT Tryz.prog 86 = false := by kernel_rfl
@[push_cast] theorem intT_86 : intT Tryz.prog 86 = none := by kernel_rfl
@[push_cast] theorem zeroT_86 : zeroT Tryz.prog 86 = some (.nilsl) := by kernel_rfl
@[push_cast] theorem szT_99 : szT Tryz.prog 99 = 3 := by kernel_rfl
@[push_cast] theorem byT_99 : byT Tryz.prog 99 = 24 := by kernel_rfl
@[push_cast] theorem aggT_99 : aggT Tryz.prog 99 = some true := by kernel_rfl
@[push_cast] theorem elT_99 : elT Tryz.prog 99 = none := by kernel_rfl
@[push_cast] theorem arrT_99 : arrT Tryz.prog 99 = some (3, 3) := by kernel_rfl
@[push_cast] theorem strT_99 : strT Tryz.prog 99 = false := by kernel_rfl
@[push_cast] theorem intT_99 : intT Tryz.prog 99 = none := by kernel_rfl
@[push_cast] theorem zeroT_99 : zeroT Tryz.prog 99 = some (.agg [.int .i64 0, .int .i64 0, .int .i64 0]) := by kernel_rfl
@[push_cast] theorem placesT_99 : placesT Tryz.prog 99 = some fun i => some (i * 1, 1) := by kernel_rfl
@[push_cast] theorem szT_101 : szT Tryz.prog 101 = 5 := by kernel_rfl
@[push_cast] theorem byT_101 : byT Tryz.prog 101 = 56 := by kernel_rfl
@[push_cast] theorem aggT_101 : aggT Tryz.prog 101 = some true := by kernel_rfl
@[push_cast] theorem elT_101 : elT Tryz.prog 101 = none := by kernel_rfl
@[push_cast] theorem arrT_101 : arrT Tryz.prog 101 = none := by kernel_rfl
@[push_cast] theorem strT_101 : strT Tryz.prog 101 = false := by kernel_rfl
@[push_cast] theorem intT_101 : intT Tryz.prog 101 = none := by kernel_rfl
@[push_cast] theorem zeroT_101 : zeroT Tryz.prog 101 = some (.agg [.nilsl, .bool false, .int .i64 0, .int .i64 0, .int .i64 0]) := by kernel_rfl
@[push_cast] theorem offT_101_0 : offT Tryz.prog 101 0 = some (0, 25) := by kernel_rfl
@[push_cast] theorem offT_101_1 : offT Tryz.prog 101 1 = some (1, 4) := by kernel_rfl
@[push_cast] theorem offT_101_2 : offT Tryz.prog 101 2 = some (2, 99) := by kernel_rfl
@[push_cast] theorem placesT_101 : placesT Tryz.prog 101 = some fun i => [(0, 1), (1, 1), (2, 3)][i]? := by kernel_rfl
@[push_cast] theorem szT_102 : szT Tryz.prog 102 = 3 := by kernel_rfl
@[push_cast] theorem byT_102 : byT Tryz.prog 102 = 48 := by kernel_rfl
@[push_cast] theorem aggT_102 : aggT Tryz.prog 102 = some true := by kernel_rfl
@[push_cast] theorem elT_102 : elT Tryz.prog 102 = none := by kernel_rfl
@[push_cast] theorem arrT_102 : arrT Tryz.prog 102 = some (3, 9) := by kernel_rfl
@[push_cast] theorem strT_102 : strT Tryz.prog 102 = false := by kernel_rfl
@[push_cast] theorem intT_102 : intT Tryz.prog 102 = none := by kernel_rfl
@[push_cast] theorem placesT_102 : placesT Tryz.prog 102 = some fun i => some (i * 1, 1) := by kernel_rfl
@[push_cast] theorem szT_103 : szT Tryz.prog 103 = 6 := by kernel_rfl
@[push_cast] theorem byT_103 : byT Tryz.prog 103 = 48 := by kernel_rfl
@[push_cast] theorem aggT_103 : aggT Tryz.prog 103 = some true := by kernel_rfl
@[push_cast] theorem elT_103 : elT Tryz.prog 103 = none := by kernel_rfl
@[push_cast] theorem arrT_103 : arrT Tryz.prog 103 = some (6, 3) := by kernel_rfl
@[push_cast] theorem strT_103 : strT Tryz.prog 103 = false := by kernel_rfl
@[push_cast] theorem intT_103 : intT Tryz.prog 103 = none := by kernel_rfl
@[push_cast] theorem zeroT_103 : zeroT Tryz.prog 103 = some (.agg [.int .i64 0, .int .i64 0, .int .i64 0, .int .i64 0, .int .i64 0, .int .i64 0]) := by kernel_rfl
@[push_cast] theorem placesT_103 : placesT Tryz.prog 103 = some fun i => some (i * 1, 1) := by kernel_rfl
@[push_cast] theorem szT_105 : szT Tryz.prog 105 = 22 := by kernel_rfl
@[push_cast] theorem byT_105 : byT Tryz.prog 105 = 200 := by kernel_rfl
@[push_cast] theorem aggT_105 : aggT Tryz.prog 105 = some true := by kernel_rfl
@[push_cast] theorem elT_105 : elT Tryz.prog 105 = none := by kernel_rfl
@[push_cast] theorem arrT_105 : arrT Tryz.prog 105 = none := by kernel_rfl
@[push_cast] theorem strT_105 : strT Tryz.prog 105 = false := by kernel_rfl
@[push_cast] theorem intT_105 : intT Tryz.prog 105 = none := by kernel_rfl
@[push_cast] theorem offT_105_0 : offT Tryz.prog 105 0 = some (0, 99) := by kernel_rfl
@[push_cast] theorem offT_105_1 : offT Tryz.prog 105 1 = some (3, 99) := by kernel_rfl
@[push_cast] theorem offT_105_2 : offT Tryz.prog 105 2 = some (6, 3) := by kernel_rfl
@[push_cast] theorem offT_105_3 : offT Tryz.prog 105 3 = some (7, 99) := by kernel_rfl
@[push_cast] theorem offT_105_4 : offT Tryz.prog 105 4 = some (10, 99) := by kernel_rfl
@[push_cast] theorem offT_105_5 : offT Tryz.prog 105 5 = some (13, 102) := by kernel_rfl
@[push_cast] theorem offT_105_6 : offT Tryz.prog 105 6 = some (16, 103) := by kernel_rfl
@[push_cast] theorem placesT_105 : placesT Tryz.prog 105 = some fun i => [(0, 3), (3, 3), (6, 1), (7, 3), (10, 3), (13, 3), (16, 6)][i]? := by kernel_rfl
@[push_cast] theorem szT_109 : szT Tryz.prog 109 = 1 := by kernel_rfl
@[push_cast] theorem byT_109 : byT Tryz.prog 109 = 24 := by kernel_rfl
@[push_cast] theorem aggT_109 : aggT Tryz.prog 109 = some false := by kernel_rfl
@[push_cast] theorem elT_109 : elT Tryz.prog 109 = some 105 := by kernel_rfl
@[push_cast] theorem arrT_109 : arrT Tryz.prog 109 = none := by kernel_rfl
@[push_cast] theorem strT_109 : strT Tryz.prog 109 = false := by kernel_rfl
@[push_cast] theorem intT_109 : intT Tryz.prog 109 = none := by kernel_rfl
@[push_cast] theorem zeroT_109 : zeroT Tryz.prog 109 = some (.nilsl) := by kernel_rfl
@[push_cast] theorem szT_118 : szT Tryz.prog 118 = 1 := by kernel_rfl
@[push_cast] theorem byT_118 : byT Tryz.prog 118 = 8 := by kernel_rfl
@[push_cast] theorem aggT_118 : aggT Tryz.prog 118 = some false := by kernel_rfl
@[push_cast] theorem elT_118 : elT Tryz.prog 118 = none := by kernel_rfl
@[push_cast] theorem arrT_118 : arrT Tryz.prog 118 = none := by kernel_rfl
@[push_cast] theorem strT_118 : strT Tryz.prog 118 = false := by kernel_rfl
@[push_cast] theorem intT_118 : intT Tryz.prog 118 = some .u64 := by kernel_rfl
@[push_cast] theorem zeroT_118 : zeroT Tryz.prog 118 = some (.int .u64 0) := by kernel_rfl
@[push_cast] theorem szT_122 : szT Tryz.prog 122 = 2 := by kernel_rfl
@[push_cast] theorem byT_122 : byT Tryz.prog 122 = 16 := by kernel_rfl
@[push_cast] theorem aggT_122 : aggT Tryz.prog 122 = some true := by kernel_rfl
@[push_cast] theorem elT_122 : elT Tryz.prog 122 = none := by kernel_rfl
@[push_cast] theorem arrT_122 : arrT Tryz.prog 122 = none := by kernel_rfl
@[push_cast] theorem strT_122 : strT Tryz.prog 122 = false := by kernel_rfl
@[push_cast] theorem intT_122 : intT Tryz.prog 122 = none := by kernel_rfl
@[push_cast] theorem zeroT_122 : zeroT Tryz.prog 122 = some (.agg [.int .i64 0, .int .i64 0]) := by kernel_rfl
@[push_cast] theorem offT_122_0 : offT Tryz.prog 122 0 = some (0, 3) := by kernel_rfl
@[push_cast] theorem offT_122_1 : offT Tryz.prog 122 1 = some (1, 3) := by kernel_rfl
@[push_cast] theorem placesT_122 : placesT Tryz.prog 122 = some fun i => [(0, 1), (1, 1)][i]? := by kernel_rfl
@[push_cast] theorem szT_123 : szT Tryz.prog 123 = 4 := by kernel_rfl
@[push_cast] theorem byT_123 : byT Tryz.prog 123 = 32 := by kernel_rfl
@[push_cast] theorem aggT_123 : aggT Tryz.prog 123 = some true := by kernel_rfl
@[push_cast] theorem elT_123 : elT Tryz.prog 123 = none := by kernel_rfl
@[push_cast] theorem arrT_123 : arrT Tryz.prog 123 = some (2, 122) := by kernel_rfl
@[push_cast] theorem strT_123 : strT Tryz.prog 123 = false := by kernel_rfl
@[push_cast] theorem intT_123 : intT Tryz.prog 123 = none := by kernel_rfl
@[push_cast] theorem zeroT_123 : zeroT Tryz.prog 123 = some (.agg [.int .i64 0, .int .i64 0, .int .i64 0, .int .i64 0]) := by kernel_rfl
@[push_cast] theorem placesT_123 : placesT Tryz.prog 123 = some fun i => some (i * 2, 2) := by kernel_rfl
@[push_cast] theorem szT_139 : szT Tryz.prog 139 = 64 := by kernel_rfl
@[push_cast] theorem byT_139 : byT Tryz.prog 139 = 64 := by kernel_rfl
@[push_cast] theorem aggT_139 : aggT Tryz.prog 139 = some true := by kernel_rfl
@[push_cast] theorem elT_139 : elT Tryz.prog 139 = none := by kernel_rfl
@[push_cast] theorem arrT_139 : arrT Tryz.prog 139 = some (64, 5) := by kernel_rfl
@[push_cast] theorem strT_139 : strT Tryz.prog 139 = false := by kernel_rfl
@[push_cast] theorem intT_139 : intT Tryz.prog 139 = none := by kernel_rfl
@[push_cast] theorem zeroT_139 : zeroT Tryz.prog 139 = some (.agg [.int .u8 0, .int .u8 0, .int .u8 0, .int .u8 0, .int .u8 0, .int .u8 0, .int .u8 0, .int .u8 0, .int .u8 0, .int .u8 0, .int .u8 0, .int .u8 0, .int .u8 0, .int .u8 0, .int .u8 0, .int .u8 0, .int .u8 0, .int .u8 0, .int .u8 0, .int .u8 0, .int .u8 0, .int .u8 0, .int .u8 0, .int .u8 0, .int .u8 0, .int .u8 0, .int .u8 0, .int .u8 0, .int .u8 0, .int .u8 0, .int .u8 0, .int .u8 0, .int .u8 0, .int .u8 0, .int .u8 0, .int .u8 0, .int .u8 0, .int .u8 0, .int .u8 0, .int .u8 0, .int .u8 0, .int .u8 0, .int .u8 0, .int .u8 0, .int .u8 0, .int .u8 0, .int .u8 0, .int .u8 0, .int .u8 0, .int .u8 0, .int .u8 0, .int .u8 0, .int .u8 0, .int .u8 0, .int .u8 0, .int .u8 0, .int .u8 0, .int .u8 0, .int .u8 0, .int .u8 0, .int .u8 0, .int .u8 0, .int .u8 0, .int .u8 0]) := by kernel_rfl
@[push_cast] theorem placesT_139 : placesT Tryz.prog 139 = some fun i => some (i * 1, 1) := by kernel_rfl
@[push_cast] theorem szT_140 : szT Tryz.prog 140 = 1 := by kernel_rfl
@[push_cast] theorem byT_140 : byT Tryz.prog 140 = 8 := by kernel_rfl
@[push_cast] theorem aggT_140 : aggT Tryz.prog 140 = some false := by kernel_rfl
@[push_cast] theorem elT_140 : elT Tryz.prog 140 = none := by kernel_rfl
@[push_cast] theorem arrT_140 : arrT Tryz.prog 140 = none := by kernel_rfl
@[push_cast] theorem strT_140 : strT Tryz.prog 140 = false := by kernel_rfl
@[push_cast] theorem intT_140 : intT Tryz.prog 140 = some .u64 := by kernel_rfl
@[push_cast] theorem zeroT_140 : zeroT Tryz.prog 140 = some (.int .u64 0) := by kernel_rfl
@[push_cast] theorem szT_155 : szT Tryz.prog 155 = 1 := by kernel_rfl
@[push_cast] theorem byT_155 : byT Tryz.prog 155 = 4 := by kernel_rfl
@[push_cast] theorem aggT_155 : aggT Tryz.prog 155 = some false := by kernel_rfl
@[push_cast] theorem elT_155 : elT Tryz.prog 155 = none := by kernel_rfl
@[push_cast] theorem arrT_155 : arrT Tryz.prog 155 = none := by kernel_rfl
@[push_cast] theorem strT_155 : strT Tryz.prog 155 = false := by kernel_rfl
@[push_cast] theorem intT_155 : intT Tryz.prog 155 = some .u32 := by kernel_rfl
@[push_cast] theorem zeroT_155 : zeroT Tryz.prog 155 = some (.int .u32 0) := by kernel_rfl
@[push_cast] theorem szT_158 : szT Tryz.prog 158 = 1 := by kernel_rfl
@[push_cast] theorem byT_158 : byT Tryz.prog 158 = 8 := by kernel_rfl
@[push_cast] theorem aggT_158 : aggT Tryz.prog 158 = some false := by kernel_rfl
@[push_cast] theorem elT_158 : elT Tryz.prog 158 = none := by kernel_rfl
@[push_cast] theorem arrT_158 : arrT Tryz.prog 158 = none := by kernel_rfl
@[push_cast] theorem strT_158 : strT Tryz.prog 158 = false := by kernel_rfl
@[push_cast] theorem intT_158 : intT Tryz.prog 158 = some .u64 := by kernel_rfl
@[push_cast] theorem zeroT_158 : zeroT Tryz.prog 158 = some (.int .u64 0) := by kernel_rfl
end Go.Proofs.YtmmipjlogdggiaaGreatDoor
