/-
  WHAT THE TYPES OF THE PROGRAM ARE, and its functions' names, bodies and slots: closed facts. Written by a program of the author (facts.py).
-/
import Derived.Test.YtmompmackgknbaaDoorAb21
import Derived.Test.YtmompmackgknbaaDoorProg
set_option maxRecDepth 100000
namespace Go.Ab
open Go Go.Proofs

@[go_sem] theorem aggT_114 : aggT Tryd.prog 114 = some true := by kernel_rfl
@[go_sem] theorem aggT_127 : aggT Tryd.prog 127 = some true := by kernel_rfl
@[go_sem] theorem aggT_133 : aggT Tryd.prog 133 = some false := by kernel_rfl
@[go_sem] theorem aggT_134 : aggT Tryd.prog 134 = some false := by kernel_rfl
@[go_sem] theorem aggT_22 : aggT Tryd.prog 22 = some false := by kernel_rfl
@[go_sem] theorem aggT_24 : aggT Tryd.prog 24 = some true := by kernel_rfl
@[go_sem] theorem aggT_27 : aggT Tryd.prog 27 = some false := by kernel_rfl
@[go_sem] theorem aggT_29 : aggT Tryd.prog 29 = some true := by kernel_rfl
@[go_sem] theorem aggT_3 : aggT Tryd.prog 3 = some false := by kernel_rfl
@[go_sem] theorem aggT_36 : aggT Tryd.prog 36 = some false := by kernel_rfl
@[go_sem] theorem aggT_39 : aggT Tryd.prog 39 = some true := by kernel_rfl
@[go_sem] theorem aggT_4 : aggT Tryd.prog 4 = some false := by kernel_rfl
@[go_sem] theorem aggT_43 : aggT Tryd.prog 43 = some false := by kernel_rfl
@[go_sem] theorem aggT_5 : aggT Tryd.prog 5 = some false := by kernel_rfl
@[go_sem] theorem aggT_68 : aggT Tryd.prog 68 = some true := by kernel_rfl
@[go_sem] theorem aggT_71 : aggT Tryd.prog 71 = some true := by kernel_rfl
@[go_sem] theorem aggT_9 : aggT Tryd.prog 9 = some false := by kernel_rfl
@[go_sem] theorem arrT_127 : arrT Tryd.prog 127 = some (256, 4, 1) := by kernel_rfl
@[go_sem] theorem arrT_186 : arrT Tryd.prog 186 = some (32, 5, 1) := by kernel_rfl
@[go_sem] theorem arrT_187 : arrT Tryd.prog 187 = some (64, 5, 1) := by kernel_rfl
@[go_sem] theorem bldT_111 : bldT Tryd.prog 111 = some [(0, 1), (1, 1)] := by kernel_rfl
@[go_sem] theorem bldT_114 : bldT Tryd.prog 114 = some [(0, 1), (1, 4)] := by kernel_rfl
@[go_sem] theorem bldT_24 : bldT Tryd.prog 24 = some [(0, 1), (1, 1), (2, 1), (3, 1)] := by kernel_rfl
@[go_sem] theorem bldT_29 : bldT Tryd.prog 29 = some [(0, 1), (1, 1)] := by kernel_rfl
@[go_sem] theorem bldT_39 : bldT Tryd.prog 39 = some [(0, 1), (1, 1)] := by kernel_rfl
@[go_sem] theorem bldT_68 : bldT Tryd.prog 68 = some [(0, 1), (1, 4)] := by kernel_rfl
@[go_sem] theorem bldT_71 : bldT Tryd.prog 71 = some [(0, 1), (1, 4)] := by kernel_rfl
@[go_sem] theorem bldT_93 : bldT Tryd.prog 93 = some [] := by kernel_rfl
@[go_sem] theorem conT_93 : conT Tryd.prog 93 = true := by kernel_rfl
@[go_sem] theorem elmT_112 : elmT Tryd.prog 112 = some (22, 1, 24) := by kernel_rfl
@[go_sem] theorem elmT_127 : elmT Tryd.prog 127 = none := by kernel_rfl
@[go_sem] theorem elmT_134 : elmT Tryd.prog 134 = some (5, 1, 1) := by kernel_rfl
@[go_sem] theorem elmT_186 : elmT Tryd.prog 186 = none := by kernel_rfl
@[go_sem] theorem elmT_187 : elmT Tryd.prog 187 = none := by kernel_rfl
@[go_sem] theorem elmT_22 : elmT Tryd.prog 22 = some (24, 4, 56) := by kernel_rfl
@[go_sem] theorem elmT_27 : elmT Tryd.prog 27 = some (68, 5, 64) := by kernel_rfl
@[go_sem] theorem elmT_36 : elmT Tryd.prog 36 = some (71, 5, 64) := by kernel_rfl
@[go_sem] theorem elmT_43 : elmT Tryd.prog 43 = some (29, 2, 32) := by kernel_rfl
@[go_sem] theorem elmT_46 : elmT Tryd.prog 46 = some (39, 2, 32) := by kernel_rfl
@[go_sem] theorem elmT_59 : elmT Tryd.prog 59 = some (3, 1, 8) := by kernel_rfl
@[go_sem] theorem elmT_9 : elmT Tryd.prog 9 = none := by kernel_rfl
@[go_sem] theorem fldT_111_0 : fldT Tryd.prog 111 0 = some (0, 1, false) := by kernel_rfl
@[go_sem] theorem fldT_111_1 : fldT Tryd.prog 111 1 = some (1, 1, false) := by kernel_rfl
@[go_sem] theorem fldT_114_0 : fldT Tryd.prog 114 0 = some (0, 1, false) := by kernel_rfl
@[go_sem] theorem fldT_114_1 : fldT Tryd.prog 114 1 = some (1, 4, true) := by kernel_rfl
@[go_sem] theorem fldT_136_0 : fldT Tryd.prog 136 0 = some (0, 1, false) := by kernel_rfl
@[go_sem] theorem fldT_136_1 : fldT Tryd.prog 136 1 = some (1, 1, false) := by kernel_rfl
@[go_sem] theorem fldT_24_0 : fldT Tryd.prog 24 0 = some (0, 1, false) := by kernel_rfl
@[go_sem] theorem fldT_24_1 : fldT Tryd.prog 24 1 = some (1, 1, false) := by kernel_rfl
@[go_sem] theorem fldT_24_2 : fldT Tryd.prog 24 2 = some (2, 1, false) := by kernel_rfl
@[go_sem] theorem fldT_24_3 : fldT Tryd.prog 24 3 = some (3, 1, false) := by kernel_rfl
@[go_sem] theorem fldT_29_0 : fldT Tryd.prog 29 0 = some (0, 1, false) := by kernel_rfl
@[go_sem] theorem fldT_29_1 : fldT Tryd.prog 29 1 = some (1, 1, false) := by kernel_rfl
@[go_sem] theorem fldT_39_0 : fldT Tryd.prog 39 0 = some (0, 1, false) := by kernel_rfl
@[go_sem] theorem fldT_39_1 : fldT Tryd.prog 39 1 = some (1, 1, false) := by kernel_rfl
@[go_sem] theorem fldT_68_0 : fldT Tryd.prog 68 0 = some (0, 1, false) := by kernel_rfl
@[go_sem] theorem fldT_68_1 : fldT Tryd.prog 68 1 = some (1, 4, true) := by kernel_rfl
@[go_sem] theorem fldT_71_0 : fldT Tryd.prog 71 0 = some (0, 1, false) := by kernel_rfl
@[go_sem] theorem fldT_71_1 : fldT Tryd.prog 71 1 = some (1, 4, true) := by kernel_rfl
@[go_sem] theorem intT_101 : intT Tryd.prog 101 = some .u64 := by kernel_rfl
@[go_sem] theorem intT_133 : intT Tryd.prog 133 = none := by kernel_rfl
@[go_sem] theorem intT_151 : intT Tryd.prog 151 = none := by kernel_rfl
@[go_sem] theorem intT_182 : intT Tryd.prog 182 = some .u32 := by kernel_rfl
@[go_sem] theorem intT_21 : intT Tryd.prog 21 = some .i32 := by kernel_rfl
@[go_sem] theorem intT_3 : intT Tryd.prog 3 = some .i64 := by kernel_rfl
@[go_sem] theorem intT_5 : intT Tryd.prog 5 = some .u8 := by kernel_rfl
@[go_sem] theorem intT_9 : intT Tryd.prog 9 = none := by kernel_rfl
@[go_sem] theorem isBoolT_101 : isBoolT Tryd.prog 101 = false := by kernel_rfl
@[go_sem] theorem isBoolT_133 : isBoolT Tryd.prog 133 = false := by kernel_rfl
@[go_sem] theorem isBoolT_140 : isBoolT Tryd.prog 140 = false := by kernel_rfl
@[go_sem] theorem isBoolT_182 : isBoolT Tryd.prog 182 = false := by kernel_rfl
@[go_sem] theorem isBoolT_20 : isBoolT Tryd.prog 20 = false := by kernel_rfl
@[go_sem] theorem isBoolT_21 : isBoolT Tryd.prog 21 = false := by kernel_rfl
@[go_sem] theorem isBoolT_22 : isBoolT Tryd.prog 22 = false := by kernel_rfl
@[go_sem] theorem isBoolT_3 : isBoolT Tryd.prog 3 = false := by kernel_rfl
@[go_sem] theorem isBoolT_30 : isBoolT Tryd.prog 30 = false := by kernel_rfl
@[go_sem] theorem isBoolT_4 : isBoolT Tryd.prog 4 = true := by kernel_rfl
@[go_sem] theorem isBoolT_5 : isBoolT Tryd.prog 5 = false := by kernel_rfl
@[go_sem] theorem isBoolT_9 : isBoolT Tryd.prog 9 = false := by kernel_rfl
@[go_sem] theorem isIfcT_140 : isIfcT Tryd.prog 140 = true := by kernel_rfl
@[go_sem] theorem isIfcT_20 : isIfcT Tryd.prog 20 = true := by kernel_rfl
@[go_sem] theorem slcT_101 : slcT Tryd.prog 101 = false := by kernel_rfl
@[go_sem] theorem slcT_108 : slcT Tryd.prog 108 = false := by kernel_rfl
@[go_sem] theorem slcT_112 : slcT Tryd.prog 112 = true := by kernel_rfl
@[go_sem] theorem slcT_133 : slcT Tryd.prog 133 = false := by kernel_rfl
@[go_sem] theorem slcT_134 : slcT Tryd.prog 134 = true := by kernel_rfl
@[go_sem] theorem slcT_151 : slcT Tryd.prog 151 = false := by kernel_rfl
@[go_sem] theorem slcT_182 : slcT Tryd.prog 182 = false := by kernel_rfl
@[go_sem] theorem slcT_21 : slcT Tryd.prog 21 = false := by kernel_rfl
@[go_sem] theorem slcT_22 : slcT Tryd.prog 22 = true := by kernel_rfl
@[go_sem] theorem slcT_27 : slcT Tryd.prog 27 = true := by kernel_rfl
@[go_sem] theorem slcT_3 : slcT Tryd.prog 3 = false := by kernel_rfl
@[go_sem] theorem slcT_36 : slcT Tryd.prog 36 = true := by kernel_rfl
@[go_sem] theorem slcT_43 : slcT Tryd.prog 43 = true := by kernel_rfl
@[go_sem] theorem slcT_46 : slcT Tryd.prog 46 = true := by kernel_rfl
@[go_sem] theorem slcT_5 : slcT Tryd.prog 5 = false := by kernel_rfl
@[go_sem] theorem slcT_59 : slcT Tryd.prog 59 = true := by kernel_rfl
@[go_sem] theorem slcT_9 : slcT Tryd.prog 9 = false := by kernel_rfl
@[go_sem] theorem strT_101 : strT Tryd.prog 101 = false := by kernel_rfl
@[go_sem] theorem strT_108 : strT Tryd.prog 108 = false := by kernel_rfl
@[go_sem] theorem strT_112 : strT Tryd.prog 112 = false := by kernel_rfl
@[go_sem] theorem strT_133 : strT Tryd.prog 133 = false := by kernel_rfl
@[go_sem] theorem strT_134 : strT Tryd.prog 134 = false := by kernel_rfl
@[go_sem] theorem strT_151 : strT Tryd.prog 151 = false := by kernel_rfl
@[go_sem] theorem strT_182 : strT Tryd.prog 182 = false := by kernel_rfl
@[go_sem] theorem strT_21 : strT Tryd.prog 21 = false := by kernel_rfl
@[go_sem] theorem strT_22 : strT Tryd.prog 22 = false := by kernel_rfl
@[go_sem] theorem strT_27 : strT Tryd.prog 27 = false := by kernel_rfl
@[go_sem] theorem strT_3 : strT Tryd.prog 3 = false := by kernel_rfl
@[go_sem] theorem strT_36 : strT Tryd.prog 36 = false := by kernel_rfl
@[go_sem] theorem strT_43 : strT Tryd.prog 43 = false := by kernel_rfl
@[go_sem] theorem strT_46 : strT Tryd.prog 46 = false := by kernel_rfl
@[go_sem] theorem strT_5 : strT Tryd.prog 5 = false := by kernel_rfl
@[go_sem] theorem strT_59 : strT Tryd.prog 59 = false := by kernel_rfl
@[go_sem] theorem strT_9 : strT Tryd.prog 9 = true := by kernel_rfl
@[go_sem] theorem szT_114 : szT Tryd.prog 114 = some 5 := by kernel_rfl
@[go_sem] theorem szT_127 : szT Tryd.prog 127 = some 256 := by kernel_rfl
@[go_sem] theorem szT_133 : szT Tryd.prog 133 = some 1 := by kernel_rfl
@[go_sem] theorem szT_134 : szT Tryd.prog 134 = some 1 := by kernel_rfl
@[go_sem] theorem szT_22 : szT Tryd.prog 22 = some 1 := by kernel_rfl
@[go_sem] theorem szT_24 : szT Tryd.prog 24 = some 4 := by kernel_rfl
@[go_sem] theorem szT_27 : szT Tryd.prog 27 = some 1 := by kernel_rfl
@[go_sem] theorem szT_29 : szT Tryd.prog 29 = some 2 := by kernel_rfl
@[go_sem] theorem szT_3 : szT Tryd.prog 3 = some 1 := by kernel_rfl
@[go_sem] theorem szT_36 : szT Tryd.prog 36 = some 1 := by kernel_rfl
@[go_sem] theorem szT_39 : szT Tryd.prog 39 = some 2 := by kernel_rfl
@[go_sem] theorem szT_4 : szT Tryd.prog 4 = some 1 := by kernel_rfl
@[go_sem] theorem szT_43 : szT Tryd.prog 43 = some 1 := by kernel_rfl
@[go_sem] theorem szT_5 : szT Tryd.prog 5 = some 1 := by kernel_rfl
@[go_sem] theorem szT_68 : szT Tryd.prog 68 = some 5 := by kernel_rfl
@[go_sem] theorem szT_71 : szT Tryd.prog 71 = some 5 := by kernel_rfl
@[go_sem] theorem szT_9 : szT Tryd.prog 9 = some 1 := by kernel_rfl
@[go_sem] theorem szT_93 : szT Tryd.prog 93 = some 0 := by kernel_rfl
@[go_sem] theorem undT_101 : undT Tryd.prog 101 = true := by kernel_rfl
@[go_sem] theorem undT_108 : undT Tryd.prog 108 = true := by kernel_rfl
@[go_sem] theorem undT_133 : undT Tryd.prog 133 = true := by kernel_rfl
@[go_sem] theorem undT_151 : undT Tryd.prog 151 = true := by kernel_rfl
@[go_sem] theorem undT_21 : undT Tryd.prog 21 = true := by kernel_rfl
@[go_sem] theorem undT_3 : undT Tryd.prog 3 = true := by kernel_rfl
@[go_sem] theorem undT_5 : undT Tryd.prog 5 = true := by kernel_rfl
@[go_sem] theorem und_133 : Tryd.prog.underlying 133 = some (.pointer 136) := by kernel_rfl
@[go_sem] theorem und_22 : Tryd.prog.underlying 22 = some (.slice 24) := by kernel_rfl
@[go_sem] theorem zeroV_93 : assertA.zeroV Tryd.prog 93 = some (.agg []) := by kernel_rfl
@[go_sem] theorem zero_111 : zeroCells Tryd.prog 111 = some [.str [], .int .i64 0] := by kernel_rfl
@[go_sem] theorem zero_114 : zeroCells Tryd.prog 114 = some [.int .u8 0, .int .i64 0, .int .i64 0, .str [], .base (.slice none 0 0)] := by kernel_rfl
@[go_sem] theorem zero_127 : zeroCells Tryd.prog 127 = some (List.replicate 256 (.bool false)) := by kernel_rfl
@[go_sem] theorem zero_136 : zeroCells Tryd.prog 136 = some [.base (.pointer none), .base (.slice none 0 0)] := by kernel_rfl
@[go_sem] theorem zero_22 : zeroCells Tryd.prog 22 = some [.base (.slice none 0 0)] := by kernel_rfl
@[go_sem] theorem zero_24 : zeroCells Tryd.prog 24 = some [.int .i64 0, .int .i64 0, .str [], .base (.slice none 0 0)] := by kernel_rfl
@[go_sem] theorem zero_29 : zeroCells Tryd.prog 29 = some [.int .i64 0, .base (.slice none 0 0)] := by kernel_rfl
@[go_sem] theorem zero_3 : zeroCells Tryd.prog 3 = some [.int .i64 0] := by kernel_rfl
@[go_sem] theorem zero_39 : zeroCells Tryd.prog 39 = some [.int .i64 0, .base (.slice none 0 0)] := by kernel_rfl
@[go_sem] theorem zero_4 : zeroCells Tryd.prog 4 = some [.bool false] := by kernel_rfl
@[go_sem] theorem zero_43 : zeroCells Tryd.prog 43 = some [.base (.slice none 0 0)] := by kernel_rfl
@[go_sem] theorem zero_5 : zeroCells Tryd.prog 5 = some [.int .u8 0] := by kernel_rfl
@[go_sem] theorem zero_68 : zeroCells Tryd.prog 68 = some [.int .i64 0, .int .i64 0, .int .i64 0, .str [], .base (.slice none 0 0)] := by kernel_rfl
@[go_sem] theorem zero_71 : zeroCells Tryd.prog 71 = some [.int .i64 0, .int .i64 0, .int .i64 0, .str [], .base (.slice none 0 0)] := by kernel_rfl
@[go_sem] theorem zero_9 : zeroCells Tryd.prog 9 = some [.str []] := by kernel_rfl
@[go_sem] theorem zero_93 : zeroCells Tryd.prog 93 = some [] := by kernel_rfl
theorem mixed : Tryd.prog.follows .mixedOrders = true := by kernel_rfl
end Go.Ab
