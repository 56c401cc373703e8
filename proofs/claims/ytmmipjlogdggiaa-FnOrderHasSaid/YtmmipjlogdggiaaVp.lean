/-
  What the program's types are.
-/
import Derived.Test.YtmmipjlogdggiaaVm
import Derived.Test.YtmmipjlogdggiaaProg
namespace Go.Proofs.Ytmmipjlogdggiaa
open Go.RowKit

@[push_cast] theorem szT_3 : szT Try.prog 3 = 1 := by kernel_rfl
@[push_cast] theorem byT_3 : byT Try.prog 3 = 8 := by kernel_rfl
@[push_cast] theorem aggT_3 : aggT Try.prog 3 = some false := by kernel_rfl
@[push_cast] theorem elT_3 : elT Try.prog 3 = none := by kernel_rfl
@[push_cast] theorem arrT_3 : arrT Try.prog 3 = none := by kernel_rfl
@[push_cast] theorem strT_3 : strT Try.prog 3 = false := by kernel_rfl
@[push_cast] theorem intT_3 : intT Try.prog 3 = some .i64 := by kernel_rfl
@[push_cast] theorem zeroT_3 : zeroT Try.prog 3 = some (.int .i64 0) := by kernel_rfl
@[push_cast] theorem szT_4 : szT Try.prog 4 = 1 := by kernel_rfl
@[push_cast] theorem byT_4 : byT Try.prog 4 = 1 := by kernel_rfl
@[push_cast] theorem aggT_4 : aggT Try.prog 4 = some false := by kernel_rfl
@[push_cast] theorem elT_4 : elT Try.prog 4 = none := by kernel_rfl
@[push_cast] theorem arrT_4 : arrT Try.prog 4 = none := by kernel_rfl
@[push_cast] theorem strT_4 : strT Try.prog 4 = false := by kernel_rfl
@[push_cast] theorem intT_4 : intT Try.prog 4 = none := by kernel_rfl
@[push_cast] theorem boolT_4 : boolT Try.prog 4 = true := by kernel_rfl
@[push_cast] theorem zeroT_4 : zeroT Try.prog 4 = some (.bool false) := by kernel_rfl
@[push_cast] theorem szT_5 : szT Try.prog 5 = 1 := by kernel_rfl
@[push_cast] theorem byT_5 : byT Try.prog 5 = 1 := by kernel_rfl
@[push_cast] theorem aggT_5 : aggT Try.prog 5 = some false := by kernel_rfl
@[push_cast] theorem elT_5 : elT Try.prog 5 = none := by kernel_rfl
@[push_cast] theorem arrT_5 : arrT Try.prog 5 = none := by kernel_rfl
@[push_cast] theorem strT_5 : strT Try.prog 5 = false := by kernel_rfl
@[push_cast] theorem intT_5 : intT Try.prog 5 = some .u8 := by kernel_rfl
@[push_cast] theorem zeroT_5 : zeroT Try.prog 5 = some (.int .u8 0) := by kernel_rfl
@[push_cast] theorem szT_9 : szT Try.prog 9 = 1 := by kernel_rfl
@[push_cast] theorem byT_9 : byT Try.prog 9 = 16 := by kernel_rfl
@[push_cast] theorem aggT_9 : aggT Try.prog 9 = some false := by kernel_rfl
@[push_cast] theorem elT_9 : elT Try.prog 9 = none := by kernel_rfl
@[push_cast] theorem arrT_9 : arrT Try.prog 9 = none := by kernel_rfl
@[push_cast] theorem strT_9 : strT Try.prog 9 = true := by kernel_rfl
@[push_cast] theorem intT_9 : intT Try.prog 9 = none := by kernel_rfl
@[push_cast] theorem szT_22 : szT Try.prog 22 = 1 := by kernel_rfl
@[push_cast] theorem byT_22 : byT Try.prog 22 = 24 := by kernel_rfl
@[push_cast] theorem aggT_22 : aggT Try.prog 22 = some false := by kernel_rfl
@[push_cast] theorem elT_22 : elT Try.prog 22 = some 5 := by kernel_rfl
@[push_cast] theorem arrT_22 : arrT Try.prog 22 = none := by kernel_rfl
@[push_cast] theorem strT_22 : strT Try.prog 22 = false := by kernel_rfl
@[push_cast] theorem intT_22 : intT Try.prog 22 = none := by kernel_rfl
@[push_cast] theorem zeroT_22 : zeroT Try.prog 22 = some (.nilsl) := by kernel_rfl
@[push_cast] theorem szT_23 : szT Try.prog 23 = 1 := by kernel_rfl
@[push_cast] theorem byT_23 : byT Try.prog 23 = 24 := by kernel_rfl
@[push_cast] theorem aggT_23 : aggT Try.prog 23 = some false := by kernel_rfl
@[push_cast] theorem elT_23 : elT Try.prog 23 = some 45 := by kernel_rfl
@[push_cast] theorem arrT_23 : arrT Try.prog 23 = none := by kernel_rfl
@[push_cast] theorem strT_23 : strT Try.prog 23 = false := by kernel_rfl
@[push_cast] theorem intT_23 : intT Try.prog 23 = none := by kernel_rfl
@[push_cast] theorem zeroT_23 : zeroT Try.prog 23 = some (.nilsl) := by kernel_rfl
@[push_cast] theorem szT_25 : szT Try.prog 25 = 1 := by kernel_rfl
@[push_cast] theorem byT_25 : byT Try.prog 25 = 24 := by kernel_rfl
@[push_cast] theorem aggT_25 : aggT Try.prog 25 = some true := by kernel_rfl
@[push_cast] theorem elT_25 : elT Try.prog 25 = none := by kernel_rfl
@[push_cast] theorem arrT_25 : arrT Try.prog 25 = none := by kernel_rfl
@[push_cast] theorem strT_25 : strT Try.prog 25 = false := by kernel_rfl
@[push_cast] theorem intT_25 : intT Try.prog 25 = none := by kernel_rfl
@[push_cast] theorem zeroT_25 : zeroT Try.prog 25 = some (.agg [.nilsl]) := by kernel_rfl
@[push_cast] theorem offT_25_0 : offT Try.prog 25 0 = some (0, 23) := by kernel_rfl
@[push_cast] theorem placesT_25 : placesT Try.prog 25 = some fun i => [(0, 1)][i]? := by kernel_rfl
@[push_cast] theorem szT_26 : szT Try.prog 26 = 1 := by kernel_rfl
@[push_cast] theorem byT_26 : byT Try.prog 26 = 24 := by kernel_rfl
@[push_cast] theorem aggT_26 : aggT Try.prog 26 = some false := by kernel_rfl
@[push_cast] theorem elT_26 : elT Try.prog 26 = some 3 := by kernel_rfl
@[push_cast] theorem arrT_26 : arrT Try.prog 26 = none := by kernel_rfl
@[push_cast] theorem strT_26 : strT Try.prog 26 = false := by kernel_rfl
@[push_cast] theorem intT_26 : intT Try.prog 26 = none := by kernel_rfl
@[push_cast] theorem zeroT_26 : zeroT Try.prog 26 = some (.nilsl) := by kernel_rfl
@[push_cast] theorem szT_27 : szT Try.prog 27 = 1 := by kernel_rfl
@[push_cast] theorem byT_27 : byT Try.prog 27 = 24 := by kernel_rfl
@[push_cast] theorem aggT_27 : aggT Try.prog 27 = some false := by kernel_rfl
@[push_cast] theorem elT_27 : elT Try.prog 27 = some 26 := by kernel_rfl
@[push_cast] theorem arrT_27 : arrT Try.prog 27 = none := by kernel_rfl
@[push_cast] theorem strT_27 : strT Try.prog 27 = false := by kernel_rfl
@[push_cast] theorem intT_27 : intT Try.prog 27 = none := by kernel_rfl
@[push_cast] theorem zeroT_27 : zeroT Try.prog 27 = some (.nilsl) := by kernel_rfl
@[push_cast] theorem szT_29 : szT Try.prog 29 = 2 := by kernel_rfl
@[push_cast] theorem byT_29 : byT Try.prog 29 = 48 := by kernel_rfl
@[push_cast] theorem aggT_29 : aggT Try.prog 29 = some true := by kernel_rfl
@[push_cast] theorem elT_29 : elT Try.prog 29 = none := by kernel_rfl
@[push_cast] theorem arrT_29 : arrT Try.prog 29 = none := by kernel_rfl
@[push_cast] theorem strT_29 : strT Try.prog 29 = false := by kernel_rfl
@[push_cast] theorem intT_29 : intT Try.prog 29 = none := by kernel_rfl
@[push_cast] theorem zeroT_29 : zeroT Try.prog 29 = some (.agg [.nilsl, .nilsl]) := by kernel_rfl
@[push_cast] theorem offT_29_0 : offT Try.prog 29 0 = some (0, 26) := by kernel_rfl
@[push_cast] theorem offT_29_1 : offT Try.prog 29 1 = some (1, 27) := by kernel_rfl
@[push_cast] theorem placesT_29 : placesT Try.prog 29 = some fun i => [(0, 1), (1, 1)][i]? := by kernel_rfl
@[push_cast] theorem szT_33 : szT Try.prog 33 = 1 := by kernel_rfl
@[push_cast] theorem byT_33 : byT Try.prog 33 = 24 := by kernel_rfl
@[push_cast] theorem aggT_33 : aggT Try.prog 33 = some false := by kernel_rfl
@[push_cast] theorem elT_33 : elT Try.prog 33 = some 29 := by kernel_rfl
@[push_cast] theorem arrT_33 : arrT Try.prog 33 = none := by kernel_rfl
@[push_cast] theorem strT_33 : strT Try.prog 33 = false := by kernel_rfl
@[push_cast] theorem intT_33 : intT Try.prog 33 = none := by kernel_rfl
@[push_cast] theorem zeroT_33 : zeroT Try.prog 33 = some (.nilsl) := by kernel_rfl
@[push_cast] theorem szT_44 : szT Try.prog 44 = 1 := by kernel_rfl
@[push_cast] theorem byT_44 : byT Try.prog 44 = 24 := by kernel_rfl
@[push_cast] theorem aggT_44 : aggT Try.prog 44 = some false := by kernel_rfl
@[push_cast] theorem elT_44 : elT Try.prog 44 = some 73 := by kernel_rfl
@[push_cast] theorem arrT_44 : arrT Try.prog 44 = none := by kernel_rfl
@[push_cast] theorem strT_44 : strT Try.prog 44 = false := by kernel_rfl
@[push_cast] theorem intT_44 : intT Try.prog 44 = none := by kernel_rfl
@[push_cast] theorem zeroT_44 : zeroT Try.prog 44 = some (.nilsl) := by kernel_rfl
@[push_cast] theorem szT_45 : szT Try.prog 45 = 1 := by kernel_rfl
@[push_cast] theorem byT_45 : byT Try.prog 45 = 24 := by kernel_rfl
@[push_cast] theorem aggT_45 : aggT Try.prog 45 = some false := by kernel_rfl
@[push_cast] theorem elT_45 : elT Try.prog 45 = some 70 := by kernel_rfl
@[push_cast] theorem arrT_45 : arrT Try.prog 45 = none := by kernel_rfl
@[push_cast] theorem strT_45 : strT Try.prog 45 = false := by kernel_rfl
@[push_cast] theorem intT_45 : intT Try.prog 45 = none := by kernel_rfl
@[push_cast] theorem zeroT_45 : zeroT Try.prog 45 = some (.nilsl) := by kernel_rfl
@[push_cast] theorem szT_47 : szT Try.prog 47 = 3 := by kernel_rfl
@[push_cast] theorem byT_47 : byT Try.prog 47 = 72 := by kernel_rfl
@[push_cast] theorem aggT_47 : aggT Try.prog 47 = some true := by kernel_rfl
@[push_cast] theorem elT_47 : elT Try.prog 47 = none := by kernel_rfl
@[push_cast] theorem arrT_47 : arrT Try.prog 47 = none := by kernel_rfl
@[push_cast] theorem strT_47 : strT Try.prog 47 = false := by kernel_rfl
@[push_cast] theorem intT_47 : intT Try.prog 47 = none := by kernel_rfl
@[push_cast] theorem zeroT_47 : zeroT Try.prog 47 = some (.agg [.nilsl, .nilsl, .nilsl]) := by kernel_rfl
@[push_cast] theorem offT_47_0 : offT Try.prog 47 0 = some (0, 25) := by kernel_rfl
@[push_cast] theorem offT_47_1 : offT Try.prog 47 1 = some (1, 44) := by kernel_rfl
@[push_cast] theorem offT_47_2 : offT Try.prog 47 2 = some (2, 45) := by kernel_rfl
@[push_cast] theorem placesT_47 : placesT Try.prog 47 = some fun i => [(0, 1), (1, 1), (2, 1)][i]? := by kernel_rfl
@[push_cast] theorem szT_61 : szT Try.prog 61 = 1 := by kernel_rfl
@[push_cast] theorem byT_61 : byT Try.prog 61 = 24 := by kernel_rfl
@[push_cast] theorem aggT_61 : aggT Try.prog 61 = some false := by kernel_rfl
@[push_cast] theorem elT_61 : elT Try.prog 61 = some 4 := by kernel_rfl
@[push_cast] theorem arrT_61 : arrT Try.prog 61 = none := by kernel_rfl
@[push_cast] theorem strT_61 : strT Try.prog 61 = false := by kernel_rfl
@[push_cast] theorem intT_61 : intT Try.prog 61 = none := by kernel_rfl
@[push_cast] theorem zeroT_61 : zeroT Try.prog 61 = some (.nilsl) := by kernel_rfl
@[push_cast] theorem szT_63 : szT Try.prog 63 = 6 := by kernel_rfl
@[push_cast] theorem byT_63 : byT Try.prog 63 = 144 := by kernel_rfl
@[push_cast] theorem aggT_63 : aggT Try.prog 63 = some true := by kernel_rfl
@[push_cast] theorem elT_63 : elT Try.prog 63 = none := by kernel_rfl
@[push_cast] theorem arrT_63 : arrT Try.prog 63 = none := by kernel_rfl
@[push_cast] theorem strT_63 : strT Try.prog 63 = false := by kernel_rfl
@[push_cast] theorem intT_63 : intT Try.prog 63 = none := by kernel_rfl
@[push_cast] theorem zeroT_63 : zeroT Try.prog 63 = some (.agg [.nilsl, .nilsl, .nilsl, .nilsl, .nilsl, .nilsl]) := by kernel_rfl
@[push_cast] theorem offT_63_0 : offT Try.prog 63 0 = some (0, 25) := by kernel_rfl
@[push_cast] theorem offT_63_1 : offT Try.prog 63 1 = some (1, 44) := by kernel_rfl
@[push_cast] theorem offT_63_2 : offT Try.prog 63 2 = some (2, 61) := by kernel_rfl
@[push_cast] theorem offT_63_3 : offT Try.prog 63 3 = some (3, 61) := by kernel_rfl
@[push_cast] theorem offT_63_4 : offT Try.prog 63 4 = some (4, 26) := by kernel_rfl
@[push_cast] theorem offT_63_5 : offT Try.prog 63 5 = some (5, 26) := by kernel_rfl
@[push_cast] theorem placesT_63 : placesT Try.prog 63 = some fun i => [(0, 1), (1, 1), (2, 1), (3, 1), (4, 1), (5, 1)][i]? := by kernel_rfl
@[push_cast] theorem szT_67 : szT Try.prog 67 = 2 := by kernel_rfl
@[push_cast] theorem byT_67 : byT Try.prog 67 = 32 := by kernel_rfl
@[push_cast] theorem aggT_67 : aggT Try.prog 67 = some true := by kernel_rfl
@[push_cast] theorem elT_67 : elT Try.prog 67 = none := by kernel_rfl
@[push_cast] theorem arrT_67 : arrT Try.prog 67 = none := by kernel_rfl
@[push_cast] theorem strT_67 : strT Try.prog 67 = false := by kernel_rfl
@[push_cast] theorem intT_67 : intT Try.prog 67 = none := by kernel_rfl
@[push_cast] theorem zeroT_67 : zeroT Try.prog 67 = some (.agg [.nilsl, .int .i64 0]) := by kernel_rfl
@[push_cast] theorem offT_67_0 : offT Try.prog 67 0 = some (0, 22) := by kernel_rfl
@[push_cast] theorem offT_67_1 : offT Try.prog 67 1 = some (1, 3) := by kernel_rfl
@[push_cast] theorem placesT_67 : placesT Try.prog 67 = some fun i => [(0, 1), (1, 1)][i]? := by kernel_rfl
@[push_cast] theorem szT_70 : szT Try.prog 70 = 3 := by kernel_rfl
@[push_cast] theorem byT_70 : byT Try.prog 70 = 24 := by kernel_rfl
@[push_cast] theorem aggT_70 : aggT Try.prog 70 = some true := by kernel_rfl
@[push_cast] theorem elT_70 : elT Try.prog 70 = none := by kernel_rfl
@[push_cast] theorem arrT_70 : arrT Try.prog 70 = none := by kernel_rfl
@[push_cast] theorem strT_70 : strT Try.prog 70 = false := by kernel_rfl
@[push_cast] theorem intT_70 : intT Try.prog 70 = none := by kernel_rfl
@[push_cast] theorem zeroT_70 : zeroT Try.prog 70 = some (.agg [.int .i64 0, .int .i64 0, .int .i64 0]) := by kernel_rfl
@[push_cast] theorem offT_70_0 : offT Try.prog 70 0 = some (0, 3) := by kernel_rfl
@[push_cast] theorem offT_70_1 : offT Try.prog 70 1 = some (1, 3) := by kernel_rfl
@[push_cast] theorem offT_70_2 : offT Try.prog 70 2 = some (2, 3) := by kernel_rfl
@[push_cast] theorem placesT_70 : placesT Try.prog 70 = some fun i => [(0, 1), (1, 1), (2, 1)][i]? := by kernel_rfl
@[push_cast] theorem szT_73 : szT Try.prog 73 = 3 := by kernel_rfl
@[push_cast] theorem byT_73 : byT Try.prog 73 = 24 := by kernel_rfl
@[push_cast] theorem aggT_73 : aggT Try.prog 73 = some true := by kernel_rfl
@[push_cast] theorem elT_73 : elT Try.prog 73 = none := by kernel_rfl
@[push_cast] theorem arrT_73 : arrT Try.prog 73 = none := by kernel_rfl
@[push_cast] theorem strT_73 : strT Try.prog 73 = false := by kernel_rfl
@[push_cast] theorem intT_73 : intT Try.prog 73 = none := by kernel_rfl
@[push_cast] theorem zeroT_73 : zeroT Try.prog 73 = some (.agg [.int .i64 0, .int .i64 0, .bool false]) := by kernel_rfl
@[push_cast] theorem offT_73_0 : offT Try.prog 73 0 = some (0, 3) := by kernel_rfl
@[push_cast] theorem offT_73_1 : offT Try.prog 73 1 = some (1, 3) := by kernel_rfl
@[push_cast] theorem offT_73_2 : offT Try.prog 73 2 = some (2, 4) := by kernel_rfl
@[push_cast] theorem placesT_73 : placesT Try.prog 73 = some fun i => [(0, 1), (1, 1), (2, 1)][i]? := by kernel_rfl
@[push_cast] theorem szT_81 : szT Try.prog 81 = 1 := by kernel_rfl
@[push_cast] theorem byT_81 : byT Try.prog 81 = 24 := by kernel_rfl
@[push_cast] theorem aggT_81 : aggT Try.prog 81 = some false := by kernel_rfl
@[push_cast] theorem elT_81 : elT Try.prog 81 = some 27 := by kernel_rfl
@[push_cast] theorem arrT_81 : arrT Try.prog 81 = none := by kernel_rfl
@[push_cast] theorem strT_81 : strT Try.prog 81 = false := by kernel_rfl
@[push_cast] theorem intT_81 : intT Try.prog 81 = none := by kernel_rfl
@[push_cast] theorem zeroT_81 : zeroT Try.prog 81 = some (.nilsl) := by kernel_rfl
@[push_cast] theorem szT_112 : szT Try.prog 112 = 1 := by kernel_rfl
@[push_cast] theorem byT_112 : byT Try.prog 112 = 8 := by kernel_rfl
@[push_cast] theorem aggT_112 : aggT Try.prog 112 = some false := by kernel_rfl
@[push_cast] theorem elT_112 : elT Try.prog 112 = none := by kernel_rfl
@[push_cast] theorem arrT_112 : arrT Try.prog 112 = none := by kernel_rfl
@[push_cast] theorem strT_112 : strT Try.prog 112 = false := by kernel_rfl
@[push_cast] theorem intT_112 : intT Try.prog 112 = some .u64 := by kernel_rfl
@[push_cast] theorem zeroT_112 : zeroT Try.prog 112 = some (.int .u64 0) := by kernel_rfl
@[push_cast] theorem szT_121 : szT Try.prog 121 = 1 := by kernel_rfl
@[push_cast] theorem byT_121 : byT Try.prog 121 = 4 := by kernel_rfl
@[push_cast] theorem aggT_121 : aggT Try.prog 121 = some false := by kernel_rfl
@[push_cast] theorem elT_121 : elT Try.prog 121 = none := by kernel_rfl
@[push_cast] theorem arrT_121 : arrT Try.prog 121 = none := by kernel_rfl
@[push_cast] theorem strT_121 : strT Try.prog 121 = false := by kernel_rfl
@[push_cast] theorem intT_121 : intT Try.prog 121 = some .u32 := by kernel_rfl
@[push_cast] theorem zeroT_121 : zeroT Try.prog 121 = some (.int .u32 0) := by kernel_rfl
@[push_cast] theorem szT_123 : szT Try.prog 123 = 1 := by kernel_rfl
@[push_cast] theorem byT_123 : byT Try.prog 123 = 8 := by kernel_rfl
@[push_cast] theorem aggT_123 : aggT Try.prog 123 = some false := by kernel_rfl
@[push_cast] theorem elT_123 : elT Try.prog 123 = none := by kernel_rfl
@[push_cast] theorem arrT_123 : arrT Try.prog 123 = none := by kernel_rfl
@[push_cast] theorem strT_123 : strT Try.prog 123 = false := by kernel_rfl
@[push_cast] theorem intT_123 : intT Try.prog 123 = some .u64 := by kernel_rfl
@[push_cast] theorem zeroT_123 : zeroT Try.prog 123 = some (.int .u64 0) := by kernel_rfl
@[push_cast] theorem szT_124 : szT Try.prog 124 = 1 := by kernel_rfl
@[push_cast] theorem byT_124 : byT Try.prog 124 = 8 := by kernel_rfl
@[push_cast] theorem aggT_124 : aggT Try.prog 124 = some false := by kernel_rfl
@[push_cast] theorem elT_124 : elT Try.prog 124 = none := by kernel_rfl
@[push_cast] theorem arrT_124 : arrT Try.prog 124 = none := by kernel_rfl
@[push_cast] theorem strT_124 : strT Try.prog 124 = false := by kernel_rfl
@[push_cast] theorem intT_124 : intT Try.prog 124 = some .u64 := by kernel_rfl
@[push_cast] theorem zeroT_124 : zeroT Try.prog 124 = some (.int .u64 0) := by kernel_rfl
end Go.Proofs.Ytmmipjlogdggiaa
